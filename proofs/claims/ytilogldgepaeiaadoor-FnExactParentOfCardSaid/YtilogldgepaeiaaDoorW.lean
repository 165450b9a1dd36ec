/- The walks, by program (wip/tools). -/
import Derived.Test.YtilogldgepaeiaaDoorProg
import Derived.Test.YtilogldgepaeiaaDoorWB
set_option linter.unusedVariables false
set_option maxRecDepth 10000
namespace Go.Proofs.YtilogldgepaeiaaDoor
open Go.UL Go.RowKit
/-! laws.FnExactLayerOK -/
theorem law_LayerOK.walk {w : World} {a0 : List Rec} (gv : GV 0 w) {v_a0 : Value} (f_a0 : Rd 5 encRec w v_a0 a0) {r : Bool} (H : law_LayerOK.sh a0 = some r) :
    Calls Tryd.prog 11 #[v_a0] w (Rt (RP w (.bool r))) := by
  unfold law_LayerOK.sh at H
  refine calls_of_W Tryd.func11 rfl (Nat.le_of_ble_eq_true rfl) Tryd.ntmps11 rfl ?_
  refine W_seq <| W_reg <| L_op (.plain rfl) rfl (ltb rfl) (X_assign (v := (.bool false)) rfl) <| L_nil <| thn_n <| W_seq <| W_reg <| L_op (.plain rfl) rfl (ltb rfl) (X_assign (v := (.int .i64 1048576)) rfl) <| L_nil <| thn_n <| W_seq <| W_reg <| L_op (.plain rfl) rfl (ltb rfl) (X_move (v := v_a0) rfl) <| L_op (.plain rfl) rfl (ltb rfl) (X_move (v := (.int .i64 1048576)) rfl) ?_
  obtain ⟨c1, H⟩ := bif_some H
  obtain ⟨c2, H⟩ := bif_some H
  obtain ⟨c3, H⟩ := bif_some H
  obtain ⟨c4, H⟩ := bif_some H
  refine L_callP (.plain rfl) rfl (ltb rfl) rfl Tryd.call33 (laws_szRecordS.calls (w := w) (a0 := a0) (a1 := 1048576) f_a0 (of_decide_eq_true c1) (of_decide_eq_true c2) (of_decide_eq_true c3) (of_decide_eq_true c4)) rfl <| fun w5 e6 => L_op (.plain rfl) rfl (ltb rfl) (X_assign (v := (.int .i64 (szRecS a0 1048576))) rfl) <| L_nil <| thn_n <| W_seq <| W_seq <| W_reg <| L_op (.plain rfl) rfl (ltb rfl) (X_move (v := (.int .i64 (szRecS a0 1048576))) rfl) <| L_op (.plain rfl) rfl (ltb rfl) (X_lss rfl rfl) <| L_nil <| thn_n ?_
  rcases bif_two H with ⟨q7, H⟩ | ⟨q7, H⟩
  · refine W_true (congrArg Value.bool q7) <| W_seq <| W_reg <| L_op (.plain rfl) rfl (ltb rfl) (X_assign (v := (.bool true)) rfl) <| L_nil <| thn_n <| W_ret <| thn_r <| fin_r ?_
    obtain rfl := Option.some.inj H
    exact fin1 rfl e6
  · refine W_false (congrArg Value.bool q7) <| W_skip <| thn_n <| W_seq <| W_reg <| L_op (.plain rfl) rfl (ltb rfl) (X_move (v := v_a0) rfl) ?_
    obtain ⟨c8, H⟩ := bif_some H
    refine L_callO (.plain rfl) rfl (ltb rfl) rfl Tryd.call35 (laws_toRecordS.calls (w := w5) (a0 := a0) (Rd.ext f_a0 e6) (of_decide_eq_true c8)) rfl <| fun v11 w9 e10 o12 => ?_
    obtain ⟨c13, H⟩ := bif_some H
    obtain ⟨c14, H⟩ := bif_some H
    refine L_callP (.plain rfl) rfl (ltb rfl) rfl Tryd.call38 (spec_LayerOK.calls (w := w9) (a0 := a0) (Own.rd o12) (of_decide_eq_true c13) (of_decide_eq_true c14)) rfl <| fun w15 e16 => L_op (.plain rfl) rfl (ltb rfl) (X_assign (v := (.bool (decide ((layerFaultL a0).2 = 0)))) rfl) <| L_nil <| thn_n <| W_seq <| W_reg <| L_op (.plain rfl) rfl (ltb rfl) (X_move (v := v_a0) rfl) ?_
    obtain ⟨c17, H⟩ := bif_some H
    refine L_callO (.plain rfl) rfl (ltb rfl) rfl Tryd.call35 (laws_toRecordS.calls (w := w15) (a0 := a0) (Rd.ext f_a0 (Ext.trans (Ext.trans e6 e10) e16)) (of_decide_eq_true c17)) rfl <| fun v20 w18 e19 o21 => L_op (.plain rfl) rfl (ltb rfl) (X_assign (v := v20) rfl) <| L_nil <| thn_n <| W_seq <| W_reg <| L_op (.plain rfl) rfl (ltb rfl) (X_move (v := v20) rfl) ?_
    obtain ⟨c22, H⟩ := bif_some H
    obtain ⟨c23, H⟩ := bif_some H
    refine L_callP (.plain rfl) rfl (ltb rfl) rfl Tryd.call39 (impl_LayerOK.calls (w := w18) (a0 := a0) (GV.ext gv (Ext.trans (Ext.trans (Ext.trans e6 e10) e16) e19)) (Own.rd o21) (of_decide_eq_true c22) (of_decide_eq_true c23)) rfl <| fun w24 e25 => L_op (.plain rfl) rfl (ltb rfl) (X_assign (v := (.bool (decide ((layerFaultL a0).2 = 0)))) rfl) <| L_nil <| thn_n <| W_seq <| W_seq <| W_reg <| L_op (.plain rfl) rfl (ltb rfl) (X_move (v := (.bool (decide ((layerFaultL a0).2 = 0)))) rfl) <| L_op (.plain rfl) rfl (ltb rfl) (X_move (v := (.bool (decide ((layerFaultL a0).2 = 0)))) rfl) <| L_op (.plain rfl) rfl (ltb rfl) (X_bne Tryd.underlying4 rfl rfl) <| L_nil <| thn_n ?_
    rcases bif_two H with ⟨q26, H⟩ | ⟨q26, H⟩
    · refine W_true (congrArg Value.bool q26) <| W_seq <| W_reg <| L_op (.plain rfl) rfl (ltb rfl) (X_assign (v := (.bool false)) rfl) <| L_nil <| thn_n <| W_ret <| thn_r <| fin_r ?_
      obtain rfl := Option.some.inj H
      exact fin1 rfl (Ext.trans (Ext.trans (Ext.trans (Ext.trans e6 e10) e16) e19) e25)
    · refine W_false (congrArg Value.bool q26) <| W_skip <| thn_n <| W_seq <| W_seq <| W_reg <| L_op (.plain rfl) rfl (ltb rfl) (X_move (v := v20) rfl) <| L_op (.plain rfl) rfl (ltb rfl) (X_move (v := v_a0) rfl) ?_
      obtain ⟨c27, H⟩ := bif_some H
      refine L_callO (.plain rfl) rfl (ltb rfl) rfl Tryd.call35 (laws_toRecordS.calls (w := w24) (a0 := a0) (Rd.ext f_a0 (Ext.trans (Ext.trans (Ext.trans (Ext.trans e6 e10) e16) e19) e25)) (of_decide_eq_true c27)) rfl <| fun v30 w28 e29 o31 => ?_
      obtain ⟨c32, H⟩ := bif_some H
      refine L_callP (.plain rfl) rfl (ltb rfl) rfl Tryd.call37 (laws_eqRecordS.calls (w := w28) (a0 := a0) (a1 := a0) (Own.rd (Own.ext o21 (Ext.trans e25 e29))) (Own.rd o31) (of_decide_eq_true c32)) rfl <| fun w33 e34 => L_op (.plain rfl) rfl (ltb rfl) (X_not rfl) <| L_nil <| thn_n ?_
      rcases bif_two H with ⟨q35, H⟩ | ⟨q35, H⟩
      · refine W_true (congrArg Value.bool q35) <| W_seq <| W_reg <| L_op (.plain rfl) rfl (ltb rfl) (X_assign (v := (.bool false)) rfl) <| L_nil <| thn_n <| W_ret <| thn_r <| fin_r ?_
        obtain rfl := Option.some.inj H
        exact fin1 rfl (Ext.trans (Ext.trans (Ext.trans (Ext.trans (Ext.trans (Ext.trans e6 e10) e16) e19) e25) e29) e34)
      · refine W_false (congrArg Value.bool q35) <| W_skip <| thn_n <| W_seq <| W_reg <| L_op (.plain rfl) rfl (ltb rfl) (X_assign (v := (.bool true)) rfl) <| L_nil <| thn_n <| W_ret <| fin_r ?_
        obtain rfl := Option.some.inj H
        exact fin1 rfl (Ext.trans (Ext.trans (Ext.trans (Ext.trans (Ext.trans (Ext.trans e6 e10) e16) e19) e25) e29) e34)
theorem law_LayerOK.calls {w : World} {a0 : List Rec} (gv : GV 0 w) {v_a0 : Value} (f_a0 : Rd 5 encRec w v_a0 a0) (h0 : ∀ x ∈ a0, okRec x) (h1 : a0.length ≤ 9223372036854775807) :
    Calls Tryd.prog 11 #[v_a0] w (Rt (RP w (.bool true))) := law_LayerOK.walk gv f_a0 (law_LayerOK.eq a0 h0 h1)
/-! spec.SizeOf -/
theorem spec_SizeOf.walk {k : Nat} {w : World} {a0 : List Rec} {v_a0 : Value} (f_a0 : Rd 5 encRec w v_a0 a0) {r : Int × Int} (H : spec_SizeOf.sh k a0 = some r) :
    Calls Tryd.prog 40 #[v_a0] w (Rt (RP w (.tuple #[.int .i64 r.1, .int .i64 r.2]))) := by
  unfold spec_SizeOf.sh at H
  refine calls_of_W Tryd.func40 rfl (Nat.le_of_ble_eq_true rfl) Tryd.ntmps40 rfl ?_
  refine W_seq <| W_reg <| L_op (.plain rfl) rfl (ltb rfl) (X_assign (v := (.int .i64 0)) rfl) <| L_op (.plain rfl) rfl (ltb rfl) (X_assign (v := (.int .i64 0)) rfl) <| L_nil <| thn_n <| W_seq <| W_seq <| W_reg <| L_op (.plain rfl) rfl (ltb rfl) (X_move (v := v_a0) rfl) <| L_op (.plain rfl) rfl (ltb rfl) (X_lenR Tryd.underlying48 rfl f_a0) <| L_op (.plain rfl) rfl (ltb rfl) (X_gtr rfl rfl) <| L_nil <| thn_n ?_
  rcases bif_two H with ⟨q1, H⟩ | ⟨q1, H⟩
  · refine W_true (congrArg Value.bool q1) <| W_seq <| W_reg <| L_op (.plain rfl) rfl (ltb rfl) (X_assign (v := (.int .i64 0)) rfl) <| L_op (.plain rfl) rfl (ltb rfl) (X_assign (v := (.int .i64 2)) rfl) <| L_nil <| thn_n <| W_ret <| thn_r <| fin_r ?_
    obtain rfl := Option.some.inj H
    exact fin2 rfl rfl (Ext.refl w)
  · refine W_false (congrArg Value.bool q1) <| W_skip <| thn_n <| W_seq <| W_seq <| W_reg <| L_op (.plain rfl) rfl (ltb rfl) (X_move (v := v_a0) rfl) ?_
    obtain ⟨c2, H⟩ := bif_some H
    obtain ⟨c3, H⟩ := bif_some H
    refine L_callP (.plain rfl) rfl (ltb rfl) rfl Tryd.call68 (spec_l03OK.calls (w := w) (a0 := a0) f_a0 (of_decide_eq_true c2) (of_decide_eq_true c3)) rfl <| fun w4 e5 => L_op (.plain rfl) rfl (ltb rfl) (X_not rfl) <| L_nil <| thn_n ?_
    rcases bif_two H with ⟨q6, H⟩ | ⟨q6, H⟩
    · refine W_true (congrArg Value.bool q6) <| W_seq <| W_reg <| L_op (.plain rfl) rfl (ltb rfl) (X_assign (v := (.int .i64 0)) rfl) <| L_op (.plain rfl) rfl (ltb rfl) (X_assign (v := (.int .i64 1)) rfl) <| L_nil <| thn_n <| W_ret <| thn_r <| fin_r ?_
      obtain rfl := Option.some.inj H
      exact fin2 rfl rfl e5
    · refine W_false (congrArg Value.bool q6) <| W_skip <| thn_n <| W_seq <| W_reg <| L_op (.plain rfl) rfl (ltb rfl) (X_assign (v := (.int .i64 0)) rfl) <| L_nil <| thn_n <| W_seq <| W_seq <| W_reg <| L_op (.plain rfl) rfl (ltb rfl) (X_assign (v := (.int .i64 0)) rfl) <| L_nil <| thn_n ?_
      obtain ⟨z9, L10, C11⟩ := bind_some H
      clear H
      refine  W_cutQ (fun s0 s9 w9 => ∃ (x4_12 : Int), Kp [(4, 6), (12, 34)] s0 s9 ∧ s9 4 = .int .i64 x4_12 ∧ Ext w4 w9 ∧ z9 = .inr x4_12) ?_ ?_
      · refine W_block <| W_loopI (fun s0 kk s9 w9 => ∃ (x4_7 : Int) (x5_8 : Int), Kp [(4, 6), (12, 34)] s0 s9 ∧ s9 4 = .int .i64 x4_7 ∧ s9 5 = .int .i64 x5_8 ∧ Ext w4 w9 ∧ loopF (spec_SizeOf.b1 a0) kk (x4_7, x5_8) = some z9) k ⟨0, 0, (Kp.refl _ _), rfl, rfl, (Ext.refl w4), L10⟩ ?_
        rintro k17 s18 w19 ⟨x4_7, x5_8, K20, h23, h24, e21, L22⟩
        cases k17 with
        | zero => exact absurd L22 (by simp [loopF])
        | succ k17 =>
          obtain ⟨t25, H, S26⟩ := loopF_succ L22
          clear L22
          unfold spec_SizeOf.b1 at H
          refine W_seq <| W_seq <| W_reg <| L_op (.plain rfl) rfl (ltb rfl) (X_move (v := (.int .i64 x5_8)) h24) <| L_op (.plain rfl) rfl (ltb rfl) (X_move (v := v_a0) (K20 0 rfl)) <| L_op (.plain rfl) rfl (ltb rfl) (X_lenR Tryd.underlying48 rfl (Rd.ext f_a0 (Ext.trans e5 e21))) <| L_op (.plain rfl) rfl (ltb rfl) (X_lss rfl rfl) <| L_nil <| thn_n ?_
          rcases bif_two H with ⟨q27, H⟩ | ⟨q27, H⟩
          · refine W_true (congrArg Value.bool q27) <| W_skip <| thn_n <| W_seq <| W_block ?_
            obtain ⟨c28, H⟩ := bif_some H
            obtain ⟨c31, H⟩ := bif_some H
            refine W_drawM [LEq (.int .i64 x4_7), LEq v_a0, LEq (.int .i64 x5_8), LAt0 (encRec (gt a0 x5_8)), LAt 1 (encRec (gt a0 x5_8)), LEq (S ((gt a0 x5_8).path)), LEq (.int .i64 (((gt a0 x5_8).path).length : Int)), LEq (.int .i64 (IntKind.wrap .i64 (4 + (((gt a0 x5_8).path).length : Int)))), LEq v_a0, LEq (.int .i64 x5_8), LAt0 (encRec (gt a0 x5_8)), LAt 2 (encRec (gt a0 x5_8)), LEq (S ((gt a0 x5_8).body)), LEq (.int .i64 (((gt a0 x5_8).body).length : Int)), LEq (.int .i64 (IntKind.wrap .i64 ((IntKind.wrap .i64 (4 + (((gt a0 x5_8).path).length : Int))) + (((gt a0 x5_8).body).length : Int)))), LEq (.int .i64 (IntKind.wrap .i64 (x4_7 + (IntKind.wrap .i64 ((IntKind.wrap .i64 (4 + (((gt a0 x5_8).path).length : Int))) + (((gt a0 x5_8).body).length : Int)))))), LEq (.int .i64 (IntKind.wrap .i64 (x4_7 + (IntKind.wrap .i64 ((IntKind.wrap .i64 (4 + (((gt a0 x5_8).path).length : Int))) + (((gt a0 x5_8).body).length : Int))))))] (by kernel_rfl) (by kernel_rfl) ⟨LEq.mono, LEq.mono, LEq.mono, LAt0.mono, LAt.mono, LEq.mono, LEq.mono, LEq.mono, LEq.mono, LEq.mono, LAt0.mono, LAt.mono, LEq.mono, LEq.mono, LEq.mono, LEq.mono, LEq.mono, trivial⟩ ⟨?_, ?_, ?_, ?_, ?_, ?_, ?_, ?_, ?_, ?_, ?_, ?_, ?_, ?_, ?_, ?_, ?_, trivial⟩ ?_
            · intro s34 w35 e36 hf37 hd38 hu39
              exact L_op (.plain rfl) rfl (ltb rfl) (X_move (v := (.int .i64 x4_7)) ((hu39 16 rfl).trans h23)) <| L_nil <| stepEnd rfl rfl (Ext.refl w35) rfl
            · intro s40 w41 e42 hf43 hd44 hu45
              exact L_op (.plain rfl) rfl (ltb rfl) (X_move (v := v_a0) ((hf43 0 rfl).trans (K20 0 rfl))) <| L_nil <| stepEnd rfl rfl (Ext.refl w41) rfl
            · intro s46 w47 e48 hf49 hd50 hu51
              exact L_op (.plain rfl) rfl (ltb rfl) (X_move (v := (.int .i64 x5_8)) ((hf49 5 rfl).trans h24)) <| L_nil <| stepEnd rfl rfl (Ext.refl w47) rfl
            · intro s52 w53 e54 hf55 hd56 hu57
              have d58 : s52 19 = v_a0 := (hd56 1 rfl)
              have d59 : s52 20 = (.int .i64 x5_8) := (hd56 2 rfl)
              have c60 := c31
              exact L_idx (.plain rfl) rfl (ltb rfl) rfl Tryd.underlying48 Tryd.sizeOf23 d58 (Rd.ext f_a0 (Ext.trans (Ext.trans e5 e21) e54)) d59 c60 <| fun p61 h62 => L_nil <| stepEnd rfl rfl (Ext.refl w53) ⟨_, rfl, h62⟩
            · intro s63 w64 e65 hf66 hd67 hu68
              obtain ⟨p69, h70, h71⟩ := (hd67 3 rfl)
              exact L_op (.plain rfl) rfl (ltb rfl) (X_fieldAddr Tryd.underlying23 rfl Tryd.sizeOf9 rfl h70) <| L_nil <| stepEnd rfl rfl (Ext.refl w64) ⟨_, rfl, h71⟩
            · intro s72 w73 e74 hf75 hd76 hu77
              obtain ⟨p78, h79, h80⟩ := (hd76 4 rfl)
              exact L_op (.plain rfl) rfl (ltb rfl) (X_loadF Tryd.isAgg9 (j := 1) h80 h79 rfl) <| L_nil <| stepEnd rfl rfl (Ext.refl w73) rfl
            · intro s81 w82 e83 hf84 hd85 hu86
              have d87 : s81 23 = (S ((gt a0 x5_8).path)) := (hd85 5 rfl)
              exact L_op (.plain rfl) rfl (ltb rfl) (X_lenS Tryd.underlying9 d87) <| L_nil <| stepEnd rfl rfl (Ext.refl w82) rfl
            · intro s88 w89 e90 hf91 hd92 hu93
              have d94 : s88 24 = (.int .i64 (((gt a0 x5_8).path).length : Int)) := (hd92 6 rfl)
              exact L_op (.plain rfl) rfl (ltb rfl) (X_add rfl d94) <| L_nil <| stepEnd rfl rfl (Ext.refl w89) rfl
            · intro s95 w96 e97 hf98 hd99 hu100
              exact L_op (.plain rfl) rfl (ltb rfl) (X_move (v := v_a0) ((hf98 0 rfl).trans (K20 0 rfl))) <| L_nil <| stepEnd rfl rfl (Ext.refl w96) rfl
            · intro s101 w102 e103 hf104 hd105 hu106
              exact L_op (.plain rfl) rfl (ltb rfl) (X_move (v := (.int .i64 x5_8)) ((hf104 5 rfl).trans h24)) <| L_nil <| stepEnd rfl rfl (Ext.refl w102) rfl
            · intro s107 w108 e109 hf110 hd111 hu112
              have d113 : s107 26 = v_a0 := (hd111 8 rfl)
              have d114 : s107 27 = (.int .i64 x5_8) := (hd111 9 rfl)
              have c115 := c31
              exact L_idx (.plain rfl) rfl (ltb rfl) rfl Tryd.underlying48 Tryd.sizeOf23 d113 (Rd.ext f_a0 (Ext.trans (Ext.trans e5 e21) e109)) d114 c115 <| fun p116 h117 => L_nil <| stepEnd rfl rfl (Ext.refl w108) ⟨_, rfl, h117⟩
            · intro s118 w119 e120 hf121 hd122 hu123
              obtain ⟨p124, h125, h126⟩ := (hd122 10 rfl)
              exact L_op (.plain rfl) rfl (ltb rfl) (X_fieldAddr Tryd.underlying23 rfl Tryd.sizeOf9 rfl h125) <| L_nil <| stepEnd rfl rfl (Ext.refl w119) ⟨_, rfl, h126⟩
            · intro s127 w128 e129 hf130 hd131 hu132
              obtain ⟨p133, h134, h135⟩ := (hd131 11 rfl)
              exact L_op (.plain rfl) rfl (ltb rfl) (X_loadF Tryd.isAgg9 (j := 2) h135 h134 rfl) <| L_nil <| stepEnd rfl rfl (Ext.refl w128) rfl
            · intro s136 w137 e138 hf139 hd140 hu141
              have d142 : s136 30 = (S ((gt a0 x5_8).body)) := (hd140 12 rfl)
              exact L_op (.plain rfl) rfl (ltb rfl) (X_lenS Tryd.underlying9 d142) <| L_nil <| stepEnd rfl rfl (Ext.refl w137) rfl
            · intro s143 w144 e145 hf146 hd147 hu148
              have d149 : s143 25 = (.int .i64 (IntKind.wrap .i64 (4 + (((gt a0 x5_8).path).length : Int)))) := (hd147 7 rfl)
              have d150 : s143 31 = (.int .i64 (((gt a0 x5_8).body).length : Int)) := (hd147 13 rfl)
              exact L_op (.plain rfl) rfl (ltb rfl) (X_add d149 d150) <| L_nil <| stepEnd rfl rfl (Ext.refl w144) rfl
            · intro s151 w152 e153 hf154 hd155 hu156
              have d157 : s151 18 = (.int .i64 x4_7) := (hd155 0 rfl)
              have d158 : s151 32 = (.int .i64 (IntKind.wrap .i64 ((IntKind.wrap .i64 (4 + (((gt a0 x5_8).path).length : Int))) + (((gt a0 x5_8).body).length : Int)))) := (hd155 14 rfl)
              exact L_op (.plain rfl) rfl (ltb rfl) (X_add d157 d158) <| L_nil <| stepEnd rfl rfl (Ext.refl w152) rfl
            · intro s159 w160 e161 hf162 hd163 hu164
              have d165 : s159 33 = (.int .i64 (IntKind.wrap .i64 (x4_7 + (IntKind.wrap .i64 ((IntKind.wrap .i64 (4 + (((gt a0 x5_8).path).length : Int))) + (((gt a0 x5_8).body).length : Int)))))) := (hd163 15 rfl)
              exact L_op (.plain rfl) rfl (ltb rfl) (X_assign d165) <| L_nil <| stepEnd rfl rfl (Ext.refl w160) rfl
            intro s166 w167 e168 hf169 ha170
            have K171 := Kp.ofD (kp := [(4, 5), (18, 34)]) rfl hf169
            have d172 : s166 4 = (.int .i64 (IntKind.wrap .i64 (x4_7 + (IntKind.wrap .i64 ((IntKind.wrap .i64 (4 + (((gt a0 x5_8).path).length : Int))) + (((gt a0 x5_8).body).length : Int)))))) := ha170 16 rfl
            clear ha170 hf169
            refine blk_n <| thn_n <| W_reg <| L_op (.plain rfl) rfl (ltb rfl) (X_move (v := (.int .i64 x5_8)) ((K171 5 rfl).trans h24)) <| L_op (.plain rfl) rfl (ltb rfl) (X_add rfl rfl) <| L_op (.plain rfl) rfl (ltb rfl) (X_assign (v := (.int .i64 (IntKind.wrap .i64 (x5_8 + 1)))) rfl) <| L_nil <| thn_n ?_
            obtain rfl := Option.some.inj H
            exact ⟨_, Nat.lt_succ_self _, IntKind.wrap .i64 (x4_7 + (IntKind.wrap .i64 ((IntKind.wrap .i64 (4 + (((gt a0 x5_8).path).length : Int))) + (((gt a0 x5_8).body).length : Int)))), IntKind.wrap .i64 (x5_8 + 1), (Kp.upd (Kp.upd (Kp.upd (Kp.cut (Kp.upd (Kp.upd (Kp.upd (Kp.upd K20 rfl) rfl) rfl) rfl) K171 rfl) rfl) rfl) rfl), d172, rfl, (Ext.trans e21 e168), S26⟩
          · refine W_false (congrArg Value.bool q27) <| W_exit <| thn_x <| thn_x <| blk_x <| thn_n ?_
            obtain rfl := Option.some.inj H
            obtain rfl := Option.some.inj S26
            exact ⟨x4_7, (Kp.upd (Kp.upd (Kp.upd (Kp.upd K20 rfl) rfl) rfl) rfl), h23, e21, rfl⟩
      · rintro s14 w13 ⟨x4_12, K15, h173, e16, y174⟩
        rw [y174] at C11
        have H := C11
        replace H : _ = some _ := H
        refine thn_n <| W_seq <| W_reg <| L_op (.plain rfl) rfl (ltb rfl) (X_move (v := (.int .i64 x4_12)) h173) <| L_op (.plain rfl) rfl (ltb rfl) (X_assign (v := (.int .i64 x4_12)) rfl) <| L_op (.plain rfl) rfl (ltb rfl) (X_assign (v := (.int .i64 0)) rfl) <| L_nil <| thn_n <| W_ret <| fin_r ?_
        obtain rfl := Option.some.inj H
        exact fin2 rfl rfl (Ext.trans e5 e16)
theorem spec_SizeOf.calls {w : World} {a0 : List Rec} {v_a0 : Value} (f_a0 : Rd 5 encRec w v_a0 a0) (h0 : a0.length ≤ 1048576) (h1 : ∀ x ∈ a0, x.path.length ≤ 1048576) (h2 : ∀ x ∈ a0, x.body.length ≤ 1048576) :
    Calls Tryd.prog 40 #[v_a0] w (Rt (RP w (.tuple #[.int .i64 ((sizeOfL a0).1), .int .i64 ((sizeOfL a0).2)]))) := by
  obtain ⟨k, h⟩ := spec_SizeOf.eq a0 h0 h1 h2
  exact spec_SizeOf.walk f_a0 h
/-! impl.SizeOf -/
theorem impl_SizeOf.walk {k : Nat} {w : World} {a0 : List Rec} (gv : GV 0 w) {v_a0 : Value} (f_a0 : Rd 5 encRec w v_a0 a0) {r : Int × Int} (H : impl_SizeOf.sh k a0 = some r) :
    Calls Tryd.prog 41 #[v_a0] w (Rt (RP w (.tuple #[.int .i64 r.1, .int .i64 r.2]))) := by
  unfold impl_SizeOf.sh at H
  refine calls_of_W Tryd.func41 rfl (Nat.le_of_ble_eq_true rfl) Tryd.ntmps41 rfl ?_
  refine W_seq <| W_reg <| L_op (.plain rfl) rfl (ltb rfl) (X_assign (v := (.int .i64 0)) rfl) <| L_op (.plain rfl) rfl (ltb rfl) (X_assign (v := (.int .i64 0)) rfl) <| L_nil <| thn_n <| W_seq <| W_seq <| W_reg <| L_op (.plain rfl) rfl (ltb rfl) (X_move (v := v_a0) rfl) <| L_callP (.plain rfl) rfl (ltb rfl) rfl Tryd.call66 (impl_isLongListR.calls (w := w) (a0 := a0) f_a0) rfl <| fun w1 e2 => L_op (.plain rfl) rfl (ltb rfl) (X_mkiface Tryd.underlying4 rfl rfl) <| L_op (.plain rfl) rfl (ltb rfl) (X_mkiface Tryd.underlying3 rfl rfl) <| L_op (.plain rfl) rfl (ltb rfl) (X_move (v := v_a0) rfl) ?_
  obtain ⟨c3, H⟩ := bif_some H
  obtain ⟨c4, H⟩ := bif_some H
  refine L_callP (.plain rfl) rfl (ltb rfl) rfl Tryd.call39 (impl_LayerOK.calls (w := w1) (a0 := a0) (GV.ext gv e2) (Rd.ext f_a0 e2) (of_decide_eq_true c3) (of_decide_eq_true c4)) rfl <| fun w5 e6 => L_op (.plain rfl) rfl (ltb rfl) (X_not rfl) <| L_op (.plain rfl) rfl (ltb rfl) (X_mkiface Tryd.underlying4 rfl rfl) <| L_op (.plain rfl) rfl (ltb rfl) (X_mkiface Tryd.underlying3 rfl rfl) <| L_lit (.plain rfl) rfl (ltb rfl) rfl Tryd.underlying74 Tryd.sizeOf20 Tryd.zeroValue20 rfl rfl rfl (vs := [(.iface 4 (.bool (decide (4096 < a0.length)))), (.iface 3 (.int .i64 2)), (.iface 4 (.bool (!(decide ((layerFaultL a0).2 = 0))))), (.iface 3 (.int .i64 1))]) rfl (lit_all rfl) <| fun b7 w8 z9 z10 e11 k12 => ?_
  obtain ⟨c13, H⟩ := bif_some H
  obtain ⟨z16, x17, H⟩ := bind_some H
  replace x17 := Option.some.inj x17
  refine L_callP (.plain rfl) rfl (ltb rfl) rfl Tryd.call50 (impl_first.calls (w := w8) (a0 := ([.inl (decide (4096 < a0.length)), .inr 2, .inl (!(decide ((layerFaultL a0).2 = 0))), .inr 1] : List (Bool ⊕ Int))) (Own.rd (Own.new (xs := [.inl (decide (4096 < a0.length)), .inr 2, .inl (!(decide ((layerFaultL a0).2 = 0))), .inr 1]) (sz := 1) (enc := (encAny 4 3)) (base := w5.heap.size) k12 (Nat.le_of_eq z9) rfl (fun _ _ => by first | rfl | exact encAny_len _ _ _) (Nat.le_of_ble_eq_true rfl))) (of_decide_eq_true c13)) rfl <| fun w14 e15 => L_op (.plain rfl) rfl (ltb rfl) (X_assign (v := (.int .i64 z16)) (congrArg (Value.int .i64) x17)) <| L_nil <| thn_n <| W_seq <| W_reg <| L_op (.plain rfl) rfl (ltb rfl) (X_move (v := (.int .i64 z16)) rfl) <| L_op (.plain rfl) rfl (ltb rfl) (X_neq rfl rfl) <| L_nil <| thn_n ?_
  rcases bif_two H with ⟨q18, H⟩ | ⟨q18, H⟩
  · refine W_true (congrArg Value.bool q18) <| W_seq <| W_reg <| L_op (.plain rfl) rfl (ltb rfl) (X_move (v := (.int .i64 z16)) rfl) <| L_op (.plain rfl) rfl (ltb rfl) (X_assign (v := (.int .i64 0)) rfl) <| L_op (.plain rfl) rfl (ltb rfl) (X_assign (v := (.int .i64 z16)) rfl) <| L_nil <| thn_n <| W_ret <| thn_r <| fin_r ?_
    obtain rfl := Option.some.inj H
    exact fin2 rfl rfl (Ext.trans (Ext.trans (Ext.trans e2 e6) e11) e15)
  · refine W_false (congrArg Value.bool q18) <| W_skip <| thn_n <| W_seq <| W_reg <| L_op (.plain rfl) rfl (ltb rfl) (X_assign (v := (.int .i64 0)) rfl) <| L_nil <| thn_n <| W_seq <| W_seq <| W_reg <| L_op (.plain rfl) rfl (ltb rfl) (X_move (v := v_a0) rfl) <| L_op (.plain rfl) rfl (ltb rfl) (X_lenR Tryd.underlying48 rfl (Rd.ext f_a0 (Ext.trans (Ext.trans (Ext.trans e2 e6) e11) e15))) <| L_op (.plain rfl) rfl (ltb rfl) (X_move (v := (.int .i64 0)) rfl) <| L_nil <| thn_n ?_
    obtain ⟨z21, L22, C23⟩ := bind_some H
    clear H
    refine  W_cutQ (fun s0 s9 w9 => ∃ (x5_24 : Int), Kp [(5, 6), (7, 8), (24, 39)] s0 s9 ∧ s9 5 = .int .i64 x5_24 ∧ Ext w14 w9 ∧ z21 = .inr x5_24) ?_ ?_
    · refine W_block <| W_loopI (fun s0 kk s9 w9 => ∃ (x5_19 : Int) (x24_20 : Int), Kp [(5, 6), (7, 8), (24, 39)] s0 s9 ∧ s9 5 = .int .i64 x5_19 ∧ s9 24 = .int .i64 x24_20 ∧ Ext w14 w9 ∧ loopF (impl_SizeOf.b1 a0) kk (x5_19, x24_20) = some z21) k ⟨0, 0, (Kp.refl _ _), rfl, rfl, (Ext.refl w14), L22⟩ ?_
      rintro k29 s30 w31 ⟨x5_19, x24_20, K32, h35, h36, e33, L34⟩
      cases k29 with
      | zero => exact absurd L34 (by simp [loopF])
      | succ k29 =>
        obtain ⟨t37, H, S38⟩ := loopF_succ L34
        clear L34
        unfold impl_SizeOf.b1 at H
        refine W_seq <| W_reg <| L_op (.plain rfl) rfl (ltb rfl) (X_lss h36 (K32 23 rfl)) <| L_nil <| thn_n <| W_seq ?_
        rcases bif_two H with ⟨q39, H⟩ | ⟨q39, H⟩
        · refine W_true (congrArg Value.bool q39) <| W_skip <| thn_n <| W_seq <| W_block <| W_seq <| W_reg ?_
          obtain ⟨c40, H⟩ := bif_some H
          refine L_idx (.plain rfl) rfl (ltb rfl) rfl Tryd.underlying48 Tryd.sizeOf23 (K32 22 rfl) (Rd.ext f_a0 (Ext.trans (Ext.trans (Ext.trans (Ext.trans e2 e6) e11) e15) e33)) h36 c40 <| fun p41 h42 => L_op (.plain rfl) rfl (ltb rfl) (X_loadS Tryd.isAgg23 Tryd.sizeOf23 rfl rfl h42) <| L_alloc (.plain rfl) rfl (ltb rfl) rfl Tryd.zeroValue23 <| fun b43 w44 z45 z46 e47 k48 => L_storeA (.plain rfl) rfl rfl Tryd.sizeOf23 rfl rfl rfl rfl rfl k48 <| fun w49 h50 k51 => L_nil <| thn_n <| W_reg <| L_op (.plain rfl) rfl (ltb rfl) (X_move (v := (.int .i64 x5_19)) h35) <| L_op (.plain rfl) rfl (ltb rfl) (X_fieldAddr Tryd.underlying23 rfl Tryd.sizeOf9 rfl rfl) <| L_op (.plain rfl) rfl (ltb rfl) (X_loadB Tryd.isAgg9 k51 rfl rfl) <| L_op (.plain rfl) rfl (ltb rfl) (X_lenS Tryd.underlying9 rfl) <| L_op (.plain rfl) rfl (ltb rfl) (X_fieldAddr Tryd.underlying23 rfl Tryd.sizeOf9 rfl rfl) <| L_op (.plain rfl) rfl (ltb rfl) (X_loadB Tryd.isAgg9 k51 rfl rfl) <| L_op (.plain rfl) rfl (ltb rfl) (X_lenS Tryd.underlying9 rfl) <| L_op (.plain rfl) rfl (ltb rfl) (X_add rfl rfl) <| L_op (.plain rfl) rfl (ltb rfl) (X_add rfl rfl) <| L_op (.plain rfl) rfl (ltb rfl) (X_add rfl rfl) <| L_op (.plain rfl) rfl (ltb rfl) (X_assign rfl) <| L_nil <| blk_n <| thn_n <| W_reg <| L_op (.plain rfl) rfl (ltb rfl) (X_add h36 rfl) <| L_op (.plain rfl) rfl (ltb rfl) (X_move (v := (.int .i64 (IntKind.wrap .i64 (x24_20 + 1)))) rfl) <| L_nil <| thn_n ?_
          obtain rfl := Option.some.inj H
          exact ⟨_, Nat.lt_succ_self _, IntKind.wrap .i64 (x5_19 + (IntKind.wrap .i64 ((IntKind.wrap .i64 ((((gt a0 x24_20).path).length : Int) + (((gt a0 x24_20).body).length : Int))) + 4))), IntKind.wrap .i64 (x24_20 + 1), (Kp.upd (Kp.upd (Kp.upd (Kp.upd (Kp.upd (Kp.upd (Kp.upd (Kp.upd (Kp.upd (Kp.upd (Kp.upd (Kp.upd (Kp.upd (Kp.upd (Kp.upd (Kp.upd (Kp.upd K32 rfl) rfl) rfl) rfl) rfl) rfl) rfl) rfl) rfl) rfl) rfl) rfl) rfl) rfl) rfl) rfl) rfl), rfl, rfl, (Ext.trans e33 (Below.trans e47 (Wr.below h50 (Nat.le_of_eq z45)))), S38⟩
        · refine W_false (congrArg Value.bool q39) <| W_exit <| thn_x <| thn_x <| blk_x <| thn_n ?_
          obtain rfl := Option.some.inj H
          obtain rfl := Option.some.inj S38
          exact ⟨x5_19, (Kp.upd K32 rfl), h35, e33, rfl⟩
    · rintro s26 w25 ⟨x5_24, K27, h52, e28, y53⟩
      rw [y53] at C23
      have H := C23
      replace H : _ = some _ := H
      refine thn_n <| W_seq <| W_reg <| L_op (.plain rfl) rfl (ltb rfl) (X_move (v := (.int .i64 x5_24)) h52) <| L_op (.plain rfl) rfl (ltb rfl) (X_assign (v := (.int .i64 x5_24)) rfl) <| L_op (.plain rfl) rfl (ltb rfl) (X_assign (v := (.int .i64 0)) rfl) <| L_nil <| thn_n <| W_ret <| fin_r ?_
      obtain rfl := Option.some.inj H
      exact fin2 rfl rfl (Ext.trans (Ext.trans (Ext.trans (Ext.trans e2 e6) e11) e15) e28)
theorem impl_SizeOf.calls {w : World} {a0 : List Rec} (gv : GV 0 w) {v_a0 : Value} (f_a0 : Rd 5 encRec w v_a0 a0) (h0 : a0.length ≤ 1048576) (h1 : ∀ x ∈ a0, x.path.length ≤ 1048576) (h2 : ∀ x ∈ a0, x.body.length ≤ 1048576) :
    Calls Tryd.prog 41 #[v_a0] w (Rt (RP w (.tuple #[.int .i64 ((sizeOfL a0).1), .int .i64 ((sizeOfL a0).2)]))) := by
  obtain ⟨k, h⟩ := impl_SizeOf.eq a0 h0 h1 h2
  exact impl_SizeOf.walk gv f_a0 h
/-! laws.FnExactSizeOf -/
theorem law_SizeOf.walk {w : World} {a0 : List Rec} (gv : GV 0 w) {v_a0 : Value} (f_a0 : Rd 5 encRec w v_a0 a0) {r : Bool} (H : law_SizeOf.sh a0 = some r) :
    Calls Tryd.prog 12 #[v_a0] w (Rt (RP w (.bool r))) := by
  unfold law_SizeOf.sh at H
  refine calls_of_W Tryd.func12 rfl (Nat.le_of_ble_eq_true rfl) Tryd.ntmps12 rfl ?_
  refine W_seq <| W_reg <| L_op (.plain rfl) rfl (ltb rfl) (X_assign (v := (.bool false)) rfl) <| L_nil <| thn_n <| W_seq <| W_reg <| L_op (.plain rfl) rfl (ltb rfl) (X_assign (v := (.int .i64 1048576)) rfl) <| L_nil <| thn_n <| W_seq <| W_reg <| L_op (.plain rfl) rfl (ltb rfl) (X_move (v := v_a0) rfl) <| L_op (.plain rfl) rfl (ltb rfl) (X_move (v := (.int .i64 1048576)) rfl) ?_
  obtain ⟨c1, H⟩ := bif_some H
  obtain ⟨c2, H⟩ := bif_some H
  obtain ⟨c3, H⟩ := bif_some H
  obtain ⟨c4, H⟩ := bif_some H
  refine L_callP (.plain rfl) rfl (ltb rfl) rfl Tryd.call33 (laws_szRecordS.calls (w := w) (a0 := a0) (a1 := 1048576) f_a0 (of_decide_eq_true c1) (of_decide_eq_true c2) (of_decide_eq_true c3) (of_decide_eq_true c4)) rfl <| fun w5 e6 => L_op (.plain rfl) rfl (ltb rfl) (X_assign (v := (.int .i64 (szRecS a0 1048576))) rfl) <| L_nil <| thn_n <| W_seq <| W_seq <| W_reg <| L_op (.plain rfl) rfl (ltb rfl) (X_move (v := (.int .i64 (szRecS a0 1048576))) rfl) <| L_op (.plain rfl) rfl (ltb rfl) (X_lss rfl rfl) <| L_nil <| thn_n ?_
  rcases bif_two H with ⟨q7, H⟩ | ⟨q7, H⟩
  · refine W_true (congrArg Value.bool q7) <| W_seq <| W_reg <| L_op (.plain rfl) rfl (ltb rfl) (X_assign (v := (.bool true)) rfl) <| L_nil <| thn_n <| W_ret <| thn_r <| fin_r ?_
    obtain rfl := Option.some.inj H
    exact fin1 rfl e6
  · refine W_false (congrArg Value.bool q7) <| W_skip <| thn_n <| W_seq <| W_reg <| L_op (.plain rfl) rfl (ltb rfl) (X_move (v := v_a0) rfl) ?_
    obtain ⟨c8, H⟩ := bif_some H
    refine L_callO (.plain rfl) rfl (ltb rfl) rfl Tryd.call35 (laws_toRecordS.calls (w := w5) (a0 := a0) (Rd.ext f_a0 e6) (of_decide_eq_true c8)) rfl <| fun v11 w9 e10 o12 => ?_
    obtain ⟨c13, H⟩ := bif_some H
    obtain ⟨c14, H⟩ := bif_some H
    obtain ⟨c15, H⟩ := bif_some H
    refine L_callP (.plain rfl) rfl (ltb rfl) rfl Tryd.call40 (spec_SizeOf.calls (w := w9) (a0 := a0) (Own.rd o12) (of_decide_eq_true c13) (of_decide_eq_true c14) (of_decide_eq_true c15)) rfl <| fun w16 e17 => L_op (.plain rfl) rfl (ltb rfl) (X_move rfl) <| L_op (.plain rfl) rfl (ltb rfl) (X_extract (v := (.int .i64 ((sizeOfL a0).1))) rfl rfl) <| L_op (.plain rfl) rfl (ltb rfl) (X_extract (v := (.int .i64 ((sizeOfL a0).2))) rfl rfl) <| L_op (.plain rfl) rfl (ltb rfl) (X_assign (v := (.int .i64 ((sizeOfL a0).1))) rfl) <| L_op (.plain rfl) rfl (ltb rfl) (X_assign (v := (.int .i64 ((sizeOfL a0).2))) rfl) <| L_nil <| thn_n <| W_seq <| W_reg <| L_op (.plain rfl) rfl (ltb rfl) (X_move (v := v_a0) rfl) ?_
    obtain ⟨c18, H⟩ := bif_some H
    refine L_callO (.plain rfl) rfl (ltb rfl) rfl Tryd.call35 (laws_toRecordS.calls (w := w16) (a0 := a0) (Rd.ext f_a0 (Ext.trans (Ext.trans e6 e10) e17)) (of_decide_eq_true c18)) rfl <| fun v21 w19 e20 o22 => L_op (.plain rfl) rfl (ltb rfl) (X_assign (v := v21) rfl) <| L_nil <| thn_n <| W_seq <| W_reg <| L_op (.plain rfl) rfl (ltb rfl) (X_move (v := v21) rfl) ?_
    obtain ⟨c23, H⟩ := bif_some H
    obtain ⟨c24, H⟩ := bif_some H
    obtain ⟨c25, H⟩ := bif_some H
    refine L_callP (.plain rfl) rfl (ltb rfl) rfl Tryd.call41 (impl_SizeOf.calls (w := w19) (a0 := a0) (GV.ext gv (Ext.trans (Ext.trans (Ext.trans e6 e10) e17) e20)) (Own.rd o22) (of_decide_eq_true c23) (of_decide_eq_true c24) (of_decide_eq_true c25)) rfl <| fun w26 e27 => L_op (.plain rfl) rfl (ltb rfl) (X_move rfl) <| L_op (.plain rfl) rfl (ltb rfl) (X_extract (v := (.int .i64 ((sizeOfL a0).1))) rfl rfl) <| L_op (.plain rfl) rfl (ltb rfl) (X_extract (v := (.int .i64 ((sizeOfL a0).2))) rfl rfl) <| L_op (.plain rfl) rfl (ltb rfl) (X_assign (v := (.int .i64 ((sizeOfL a0).1))) rfl) <| L_op (.plain rfl) rfl (ltb rfl) (X_assign (v := (.int .i64 ((sizeOfL a0).2))) rfl) <| L_nil <| thn_n <| W_seq <| W_seq <| W_reg <| L_op (.plain rfl) rfl (ltb rfl) (X_move (v := (.int .i64 ((sizeOfL a0).1))) rfl) <| L_op (.plain rfl) rfl (ltb rfl) (X_move (v := (.int .i64 ((sizeOfL a0).1))) rfl) <| L_op (.plain rfl) rfl (ltb rfl) (X_neq rfl rfl) <| L_op (.plain rfl) rfl (ltb rfl) (X_move (v := (.bool (!decide (((sizeOfL a0).1) = ((sizeOfL a0).1))))) rfl) <| L_grp 4 [(31, 35)] 34 (.bool ((!decide (((sizeOfL a0).1) = ((sizeOfL a0).1))) || (!decide (((sizeOfL a0).2) = ((sizeOfL a0).2))))) ?_ ?_
    · rcases bool_two (!decide (((sizeOfL a0).1) = ((sizeOfL a0).1))) with b27_ | b27_
      · exact L_skip rfl rfl (ltb rfl) (congrArg Value.bool b27_) rfl rfl (ltb rfl) <| L_skip rfl rfl (ltb rfl) (congrArg Value.bool b27_) rfl rfl (ltb rfl) <| L_skip rfl rfl (ltb rfl) (congrArg Value.bool b27_) rfl rfl (ltb rfl) <| L_op (.plain rfl) rfl (ltb rfl) (X_pick (b := true) (v := (.bool true)) (congrArg Value.bool b27_) rfl) <| L_nil <| thn_n ⟨(Kp.upd (Kp.upd (Kp.upd (Kp.upd (Kp.refl _ _) rfl) rfl) rfl) rfl), (or_t b27_), (Ext.refl w26)⟩
      · exact L_op (.guard 3 false 30 rfl rfl (ltb rfl) (congrArg Value.bool b27_)) rfl (ltb rfl) (X_move (v := (.int .i64 ((sizeOfL a0).2))) rfl) <| L_op (.guard 3 false 30 rfl rfl (ltb rfl) (congrArg Value.bool b27_)) rfl (ltb rfl) (X_move (v := (.int .i64 ((sizeOfL a0).2))) rfl) <| L_op (.guard 3 false 30 rfl rfl (ltb rfl) (congrArg Value.bool b27_)) rfl (ltb rfl) (X_neq rfl rfl) <| L_op (.plain rfl) rfl (ltb rfl) (X_pick (b := false) (v := (.bool (!decide (((sizeOfL a0).2) = ((sizeOfL a0).2))))) (congrArg Value.bool b27_) rfl) <| L_nil <| thn_n ⟨(Kp.upd (Kp.upd (Kp.upd (Kp.upd (Kp.refl _ _) rfl) rfl) rfl) rfl), (or_f b27_), (Ext.refl w26)⟩
    intro s33 w29 K30 h31 e32
    refine L_nil <| thn_n ?_
    rcases bif_two H with ⟨q34, H⟩ | ⟨q34, H⟩
    · refine W_true (h31.trans (congrArg Value.bool q34)) <| W_seq <| W_reg <| L_op (.plain rfl) rfl (ltb rfl) (X_assign (v := (.bool false)) rfl) <| L_nil <| thn_n <| W_ret <| thn_r <| fin_r ?_
      obtain rfl := Option.some.inj H
      exact fin1 rfl (Ext.trans (Ext.trans (Ext.trans (Ext.trans (Ext.trans e6 e10) e17) e20) e27) e32)
    · refine W_false (h31.trans (congrArg Value.bool q34)) <| W_skip <| thn_n <| W_seq <| W_seq <| W_reg <| L_op (.plain rfl) rfl (ltb rfl) (X_move (v := v21) (K30 6 rfl)) <| L_op (.plain rfl) rfl (ltb rfl) (X_move (v := v_a0) (K30 0 rfl)) ?_
      obtain ⟨c35, H⟩ := bif_some H
      refine L_callO (.plain rfl) rfl (ltb rfl) rfl Tryd.call35 (laws_toRecordS.calls (w := w29) (a0 := a0) (Rd.ext f_a0 (Ext.trans (Ext.trans (Ext.trans (Ext.trans (Ext.trans e6 e10) e17) e20) e27) e32)) (of_decide_eq_true c35)) rfl <| fun v38 w36 e37 o39 => ?_
      obtain ⟨c40, H⟩ := bif_some H
      refine L_callP (.plain rfl) rfl (ltb rfl) rfl Tryd.call37 (laws_eqRecordS.calls (w := w36) (a0 := a0) (a1 := a0) (Own.rd (Own.ext o22 (Ext.trans (Ext.trans e27 e32) e37))) (Own.rd o39) (of_decide_eq_true c40)) rfl <| fun w41 e42 => L_op (.plain rfl) rfl (ltb rfl) (X_not rfl) <| L_nil <| thn_n ?_
      rcases bif_two H with ⟨q43, H⟩ | ⟨q43, H⟩
      · refine W_true (congrArg Value.bool q43) <| W_seq <| W_reg <| L_op (.plain rfl) rfl (ltb rfl) (X_assign (v := (.bool false)) rfl) <| L_nil <| thn_n <| W_ret <| thn_r <| fin_r ?_
        obtain rfl := Option.some.inj H
        exact fin1 rfl (Ext.trans (Ext.trans (Ext.trans (Ext.trans (Ext.trans (Ext.trans (Ext.trans e6 e10) e17) e20) e27) e32) e37) e42)
      · refine W_false (congrArg Value.bool q43) <| W_skip <| thn_n <| W_seq <| W_reg <| L_op (.plain rfl) rfl (ltb rfl) (X_assign (v := (.bool true)) rfl) <| L_nil <| thn_n <| W_ret <| fin_r ?_
        obtain rfl := Option.some.inj H
        exact fin1 rfl (Ext.trans (Ext.trans (Ext.trans (Ext.trans (Ext.trans (Ext.trans (Ext.trans e6 e10) e17) e20) e27) e32) e37) e42)
theorem law_SizeOf.calls {w : World} {a0 : List Rec} (gv : GV 0 w) {v_a0 : Value} (f_a0 : Rd 5 encRec w v_a0 a0) (h0 : ∀ x ∈ a0, okRec x) (h1 : a0.length ≤ 9223372036854775807) :
    Calls Tryd.prog 12 #[v_a0] w (Rt (RP w (.bool true))) := law_SizeOf.walk gv f_a0 (law_SizeOf.eq a0 h0 h1)
/-! spec.FindRecord -/
theorem spec_FindRecord.walk {w : World} {a0 : List Rec} {a1 : List UInt8} {v_a0 : Value} (f_a0 : Rd 5 encRec w v_a0 a0) {r : Rec × Int} (H : spec_FindRecord.sh a0 a1 = some r) :
    Calls Tryd.prog 42 #[v_a0, S a1] w (Rt (RP w (.tuple #[.agg (encRec r.1).toArray, .int .i64 r.2]))) := by
  unfold spec_FindRecord.sh at H
  refine calls_of_WG Tryd.func42 rfl (Nat.le_of_ble_eq_true rfl) Tryd.ntmps42 ?_
  refine W_seq <| W_reg <| L_alloc (.plain rfl) rfl (ltb rfl) rfl Tryd.zeroValue23 <| fun b1 w2 z3 z4 e5 k6 => L_op (.plain rfl) rfl (ltb rfl) (X_assign (v := (.int .i64 0)) rfl) <| L_nil <| thn_n <| W_seq <| W_seq <| W_reg <| L_op (.plain rfl) rfl (ltb rfl) (X_move (v := v_a0) rfl) <| L_op (.plain rfl) rfl (ltb rfl) (X_lenR Tryd.underlying48 rfl (Rd.ext f_a0 e5)) <| L_op (.plain rfl) rfl (ltb rfl) (X_gtr rfl rfl) <| L_op (.plain rfl) rfl (ltb rfl) (X_move (v := (.bool (decide (4096 < (a0.length : Int))))) rfl) <| L_grp 4 [(11, 15)] 14 (.bool ((decide (4096 < (a0.length : Int))) || (decide (65536 < (a1.length : Int))))) ?_ ?_
  · rcases bool_two (decide (4096 < (a0.length : Int))) with b6_ | b6_
    · exact L_skip rfl rfl (ltb rfl) (congrArg Value.bool b6_) rfl rfl (ltb rfl) <| L_skip rfl rfl (ltb rfl) (congrArg Value.bool b6_) rfl rfl (ltb rfl) <| L_skip rfl rfl (ltb rfl) (congrArg Value.bool b6_) rfl rfl (ltb rfl) <| L_op (.plain rfl) rfl (ltb rfl) (X_pick (b := true) (v := (.bool true)) (congrArg Value.bool b6_) rfl) <| L_nil <| thn_n ⟨(Kp.upd (Kp.upd (Kp.upd (Kp.upd (Kp.refl _ _) rfl) rfl) rfl) rfl), (or_t b6_), (Ext.refl w2)⟩
    · exact L_op (.guard 3 false 10 rfl rfl (ltb rfl) (congrArg Value.bool b6_)) rfl (ltb rfl) (X_move (v := (S a1)) rfl) <| L_op (.guard 3 false 10 rfl rfl (ltb rfl) (congrArg Value.bool b6_)) rfl (ltb rfl) (X_lenS Tryd.underlying9 rfl) <| L_op (.guard 3 false 10 rfl rfl (ltb rfl) (congrArg Value.bool b6_)) rfl (ltb rfl) (X_gtr rfl rfl) <| L_op (.plain rfl) rfl (ltb rfl) (X_pick (b := false) (v := (.bool (decide (65536 < (a1.length : Int))))) (congrArg Value.bool b6_) rfl) <| L_nil <| thn_n ⟨(Kp.upd (Kp.upd (Kp.upd (Kp.upd (Kp.refl _ _) rfl) rfl) rfl) rfl), (or_f b6_), (Ext.refl w2)⟩
  intro s12 w8 K9 h10 e11
  refine L_nil <| thn_n ?_
  rcases bif_two H with ⟨q13, H⟩ | ⟨q13, H⟩
  · refine W_true (h10.trans (congrArg Value.bool q13)) <| W_seq <| W_reg <| L_op (.plain rfl) rfl (ltb rfl) (X_build1 (vs := []) (pl := #[(0, 1), (1, 1), (2, 1), (3, 1), (4, 1)]) Tryd.underlying23 Tryd.zeroValue23 rfl (fun _ => by kernel_rfl) rfl rfl rfl) <| L_storeA (.plain rfl) rfl rfl Tryd.sizeOf23 (K9 4 rfl) rfl rfl rfl rfl (Blk.ext k6 e11) <| fun w14 h15 k16 => L_op (.plain rfl) rfl (ltb rfl) (X_assign (v := (.int .i64 2)) rfl) <| L_nil <| thn_n <| W_ret <| thn_r <| finG_r ?_
    obtain rfl := Option.some.inj H
    exact finC2 rfl (K9 4 rfl) k16 Tryd.isAgg23 Tryd.sizeOf23 rfl rfl (Below.trans (Ext.trans e5 e11) (Wr.below h15 (Nat.le_of_eq z3)))
  · refine W_false (h10.trans (congrArg Value.bool q13)) <| W_skip <| thn_n <| W_seq <| W_seq <| W_reg <| L_op (.plain rfl) rfl (ltb rfl) (X_move (v := v_a0) (K9 0 rfl)) ?_
    obtain ⟨c17, H⟩ := bif_some H
    obtain ⟨c18, H⟩ := bif_some H
    refine L_callP (.plain rfl) rfl (ltb rfl) rfl Tryd.call68 (spec_l03OK.calls (w := w8) (a0 := a0) (Rd.ext f_a0 (Ext.trans e5 e11)) (of_decide_eq_true c17) (of_decide_eq_true c18)) rfl <| fun w19 e20 => L_op (.plain rfl) rfl (ltb rfl) (X_not rfl) <| L_nil <| thn_n ?_
    rcases bif_two H with ⟨q21, H⟩ | ⟨q21, H⟩
    · refine W_true (congrArg Value.bool q21) <| W_seq <| W_reg <| L_op (.plain rfl) rfl (ltb rfl) (X_build1 (vs := []) (pl := #[(0, 1), (1, 1), (2, 1), (3, 1), (4, 1)]) Tryd.underlying23 Tryd.zeroValue23 rfl (fun _ => by kernel_rfl) rfl rfl rfl) <| L_storeA (.plain rfl) rfl rfl Tryd.sizeOf23 (K9 4 rfl) rfl rfl rfl rfl (Blk.ext k6 (Ext.trans e11 e20)) <| fun w22 h23 k24 => L_op (.plain rfl) rfl (ltb rfl) (X_assign (v := (.int .i64 1)) rfl) <| L_nil <| thn_n <| W_ret <| thn_r <| finG_r ?_
      obtain rfl := Option.some.inj H
      exact finC2 rfl (K9 4 rfl) k24 Tryd.isAgg23 Tryd.sizeOf23 rfl rfl (Below.trans (Ext.trans (Ext.trans e5 e11) e20) (Wr.below h23 (Nat.le_of_eq z3)))
    · refine W_false (congrArg Value.bool q21) <| W_skip <| thn_n <| W_seq <| W_reg <| L_op (.plain rfl) rfl (ltb rfl) (X_move (v := v_a0) (K9 0 rfl)) <| L_op (.plain rfl) rfl (ltb rfl) (X_move (v := (S a1)) (K9 1 rfl)) ?_
      obtain ⟨c25, H⟩ := bif_some H
      refine L_callP (.plain rfl) rfl (ltb rfl) rfl Tryd.call69 (spec_l03At.calls (w := w19) (a0 := a0) (a1 := a1) (Rd.ext f_a0 (Ext.trans (Ext.trans e5 e11) e20)) (of_decide_eq_true c25)) rfl <| fun w26 e27 => L_op (.plain rfl) rfl (ltb rfl) (X_assign (v := (.int .i64 (findR a0 a1))) rfl) <| L_nil <| thn_n <| W_seq <| W_seq <| W_reg <| L_op (.plain rfl) rfl (ltb rfl) (X_move (v := (.int .i64 (findR a0 a1))) rfl) <| L_op (.plain rfl) rfl (ltb rfl) (X_lss rfl rfl) <| L_nil <| thn_n ?_
      rcases bif_two H with ⟨q28, H⟩ | ⟨q28, H⟩
      · refine W_true (congrArg Value.bool q28) <| W_seq <| W_reg <| L_op (.plain rfl) rfl (ltb rfl) (X_build1 (vs := []) (pl := #[(0, 1), (1, 1), (2, 1), (3, 1), (4, 1)]) Tryd.underlying23 Tryd.zeroValue23 rfl (fun _ => by kernel_rfl) rfl rfl rfl) <| L_storeA (.plain rfl) rfl rfl Tryd.sizeOf23 (K9 4 rfl) rfl rfl rfl rfl (Blk.ext k6 (Ext.trans (Ext.trans e11 e20) e27)) <| fun w29 h30 k31 => L_op (.plain rfl) rfl (ltb rfl) (X_assign (v := (.int .i64 5)) rfl) <| L_nil <| thn_n <| W_ret <| thn_r <| finG_r ?_
        obtain rfl := Option.some.inj H
        exact finC2 rfl (K9 4 rfl) k31 Tryd.isAgg23 Tryd.sizeOf23 rfl rfl (Below.trans (Ext.trans (Ext.trans (Ext.trans e5 e11) e20) e27) (Wr.below h30 (Nat.le_of_eq z3)))
      · refine W_false (congrArg Value.bool q28) <| W_skip <| thn_n <| W_seq <| W_reg <| L_op (.plain rfl) rfl (ltb rfl) (X_move (v := v_a0) (K9 0 rfl)) <| L_op (.plain rfl) rfl (ltb rfl) (X_move (v := (.int .i64 (findR a0 a1))) rfl) ?_
        obtain ⟨c32, H⟩ := bif_some H
        refine L_idx (.plain rfl) rfl (ltb rfl) rfl Tryd.underlying48 Tryd.sizeOf23 rfl (Rd.ext f_a0 (Ext.trans (Ext.trans (Ext.trans e5 e11) e20) e27)) rfl c32 <| fun p33 h34 => L_op (.plain rfl) rfl (ltb rfl) (X_loadS Tryd.isAgg23 Tryd.sizeOf23 rfl rfl h34) <| L_storeA (.plain rfl) rfl rfl Tryd.sizeOf23 (K9 4 rfl) rfl rfl rfl rfl (Blk.ext k6 (Ext.trans (Ext.trans e11 e20) e27)) <| fun w35 h36 k37 => L_op (.plain rfl) rfl (ltb rfl) (X_assign (v := (.int .i64 0)) rfl) <| L_nil <| thn_n <| W_ret <| finG_r ?_
        obtain rfl := Option.some.inj H
        exact finC2 rfl (K9 4 rfl) k37 Tryd.isAgg23 Tryd.sizeOf23 rfl rfl (Below.trans (Ext.trans (Ext.trans (Ext.trans e5 e11) e20) e27) (Wr.below h36 (Nat.le_of_eq z3)))
theorem spec_FindRecord.calls {w : World} {a0 : List Rec} {a1 : List UInt8} {v_a0 : Value} (f_a0 : Rd 5 encRec w v_a0 a0) (h0 : a0.length ≤ 1048576) (h1 : ∀ x ∈ a0, x.path.length ≤ 1048576) :
    Calls Tryd.prog 42 #[v_a0, S a1] w (Rt (RP w (.tuple #[.agg (encRec ((findRec a0 a1).1)).toArray, .int .i64 ((findRec a0 a1).2)]))) := spec_FindRecord.walk f_a0 (spec_FindRecord.eq a0 a1 h0 h1)
/-! impl.FindRecord -/
theorem impl_FindRecord.walk {w : World} {a0 : List Rec} {a1 : List UInt8} (gv : GV 0 w) {v_a0 : Value} (f_a0 : Rd 5 encRec w v_a0 a0) {r : Rec × Int} (H : impl_FindRecord.sh a0 a1 = some r) :
    Calls Tryd.prog 43 #[v_a0, S a1] w (Rt (RP w (.tuple #[.agg (encRec r.1).toArray, .int .i64 r.2]))) := by
  unfold impl_FindRecord.sh at H
  refine calls_of_WG Tryd.func43 rfl (Nat.le_of_ble_eq_true rfl) Tryd.ntmps43 ?_
  refine W_seq <| W_reg <| L_alloc (.plain rfl) rfl (ltb rfl) rfl Tryd.zeroValue23 <| fun b1 w2 z3 z4 e5 k6 => L_op (.plain rfl) rfl (ltb rfl) (X_assign (v := (.int .i64 0)) rfl) <| L_nil <| thn_n <| W_seq <| W_reg <| L_op (.plain rfl) rfl (ltb rfl) (X_move (v := v_a0) rfl) <| L_op (.plain rfl) rfl (ltb rfl) (X_move (v := (S a1)) rfl) ?_
  obtain ⟨c7, H⟩ := bif_some H
  refine L_callP (.plain rfl) rfl (ltb rfl) rfl Tryd.call70 (impl_find.calls (w := w2) (a0 := a0) (a1 := a1) (Rd.ext f_a0 e5) (of_decide_eq_true c7)) rfl <| fun w8 e9 => L_op (.plain rfl) rfl (ltb rfl) (X_assign (v := (.int .i64 (findR a0 a1))) rfl) <| L_nil <| thn_n <| W_seq <| W_seq <| W_reg <| L_op (.plain rfl) rfl (ltb rfl) (X_move (v := (S a1)) rfl) <| L_lit (.plain rfl) rfl (ltb rfl) rfl Tryd.underlying77 Tryd.sizeOf9 Tryd.zeroValue9 rfl rfl rfl (vs := [(S a1)]) rfl (lit_all rfl) <| fun b10 w11 z12 z13 e14 k15 => ?_
  obtain ⟨c16, H⟩ := bif_some H
  refine L_callP (.plain rfl) rfl (ltb rfl) rfl Tryd.call51 (impl_isLong.calls (w := w11) (a0 := ([a1] : List (List UInt8))) (Own.rd (Own.new (xs := [a1]) (sz := 1) (enc := encS) (base := w8.heap.size) k15 (Nat.le_of_eq z12) rfl (fun _ _ => by rfl) (Nat.le_of_ble_eq_true rfl))) (of_decide_eq_true c16)) rfl <| fun w17 e18 => L_op (.plain rfl) rfl (ltb rfl) (X_move rfl) <| L_grp 3 [(15, 18)] 17 (.bool ((([a1] : List (List UInt8)).any fun t => decide (65536 < t.length)) || (decide (4096 < a0.length)))) ?_ ?_
  · rcases bool_two (([a1] : List (List UInt8)).any fun t => decide (65536 < t.length)) with b18_ | b18_
    · exact L_skip rfl rfl (ltb rfl) (congrArg Value.bool b18_) rfl rfl (ltb rfl) <| L_skip rfl rfl (ltb rfl) (congrArg Value.bool b18_) rfl rfl (ltb rfl) <| L_op (.plain rfl) rfl (ltb rfl) (X_pick (b := true) (v := (.bool true)) (congrArg Value.bool b18_) rfl) <| L_nil <| thn_n ⟨(Kp.upd (Kp.upd (Kp.upd (Kp.refl _ _) rfl) rfl) rfl), (or_t b18_), (Ext.refl w17)⟩
    · exact L_op (.guard 3 false 14 rfl rfl (ltb rfl) (congrArg Value.bool b18_)) rfl (ltb rfl) (X_move (v := v_a0) rfl) <| L_callP (.guard 3 false 14 rfl rfl (ltb rfl) (congrArg Value.bool b18_)) rfl (ltb rfl) rfl Tryd.call66 (impl_isLongListR.calls (w := w17) (a0 := a0) (Rd.ext f_a0 (Ext.trans (Ext.trans (Ext.trans e5 e9) e14) e18))) rfl <| fun w20 e21 => L_op (.plain rfl) rfl (ltb rfl) (X_pick (b := false) (v := (.bool (decide (4096 < a0.length)))) (congrArg Value.bool b18_) rfl) <| L_nil <| thn_n ⟨(Kp.upd (Kp.upd (Kp.upd (Kp.refl _ _) rfl) rfl) rfl), (or_f b18_), e21⟩
  intro s24 w20 K21 h22 e23
  refine L_op (.plain rfl) rfl (ltb rfl) (X_mkiface Tryd.underlying4 rfl h22) <| L_op (.plain rfl) rfl (ltb rfl) (X_mkiface Tryd.underlying3 rfl rfl) <| L_op (.plain rfl) rfl (ltb rfl) (X_move (v := v_a0) (K21 0 rfl)) ?_
  obtain ⟨c25, H⟩ := bif_some H
  obtain ⟨c26, H⟩ := bif_some H
  refine L_callP (.plain rfl) rfl (ltb rfl) rfl Tryd.call39 (impl_LayerOK.calls (w := w20) (a0 := a0) (GV.ext gv (Ext.trans (Ext.trans (Ext.trans (Ext.trans e5 e9) e14) e18) e23)) (Rd.ext f_a0 (Ext.trans (Ext.trans (Ext.trans (Ext.trans e5 e9) e14) e18) e23)) (of_decide_eq_true c25) (of_decide_eq_true c26)) rfl <| fun w27 e28 => L_op (.plain rfl) rfl (ltb rfl) (X_not rfl) <| L_op (.plain rfl) rfl (ltb rfl) (X_mkiface Tryd.underlying4 rfl rfl) <| L_op (.plain rfl) rfl (ltb rfl) (X_mkiface Tryd.underlying3 rfl rfl) <| L_op (.plain rfl) rfl (ltb rfl) (X_move (v := (.int .i64 (findR a0 a1))) (K21 6 rfl)) <| L_op (.plain rfl) rfl (ltb rfl) (X_lss rfl rfl) <| L_op (.plain rfl) rfl (ltb rfl) (X_mkiface Tryd.underlying4 rfl rfl) <| L_op (.plain rfl) rfl (ltb rfl) (X_mkiface Tryd.underlying3 rfl rfl) <| L_lit (.plain rfl) rfl (ltb rfl) rfl Tryd.underlying74 Tryd.sizeOf20 Tryd.zeroValue20 rfl rfl rfl (vs := [(.iface 4 (.bool ((([a1] : List (List UInt8)).any fun t => decide (65536 < t.length)) || (decide (4096 < a0.length))))), (.iface 3 (.int .i64 2)), (.iface 4 (.bool (!(decide ((layerFaultL a0).2 = 0))))), (.iface 3 (.int .i64 1)), (.iface 4 (.bool (decide ((findR a0 a1) < 0)))), (.iface 3 (.int .i64 5))]) rfl (lit_all rfl) <| fun b29 w30 z31 z32 e33 k34 => ?_
  obtain ⟨c35, H⟩ := bif_some H
  obtain ⟨z38, x39, H⟩ := bind_some H
  replace x39 := Option.some.inj x39
  refine L_callP (.plain rfl) rfl (ltb rfl) rfl Tryd.call50 (impl_first.calls (w := w30) (a0 := ([.inl ((([a1] : List (List UInt8)).any fun t => decide (65536 < t.length)) || (decide (4096 < a0.length))), .inr 2, .inl (!(decide ((layerFaultL a0).2 = 0))), .inr 1, .inl (decide ((findR a0 a1) < 0)), .inr 5] : List (Bool ⊕ Int))) (Own.rd (Own.new (xs := [.inl ((([a1] : List (List UInt8)).any fun t => decide (65536 < t.length)) || (decide (4096 < a0.length))), .inr 2, .inl (!(decide ((layerFaultL a0).2 = 0))), .inr 1, .inl (decide ((findR a0 a1) < 0)), .inr 5]) (sz := 1) (enc := (encAny 4 3)) (base := w27.heap.size) k34 (Nat.le_of_eq z31) rfl (fun _ _ => by first | rfl | exact encAny_len _ _ _) (Nat.le_of_ble_eq_true rfl))) (of_decide_eq_true c35)) rfl <| fun w36 e37 => L_op (.plain rfl) rfl (ltb rfl) (X_assign (v := (.int .i64 z38)) (congrArg (Value.int .i64) x39)) <| L_nil <| thn_n <| W_seq <| W_reg <| L_op (.plain rfl) rfl (ltb rfl) (X_move (v := (.int .i64 z38)) rfl) <| L_op (.plain rfl) rfl (ltb rfl) (X_neq rfl rfl) <| L_nil <| thn_n ?_
  rcases bif_two H with ⟨q40, H⟩ | ⟨q40, H⟩
  · refine W_true (congrArg Value.bool q40) <| W_seq <| W_reg <| L_op (.plain rfl) rfl (ltb rfl) (X_build1 (vs := []) (pl := #[(0, 1), (1, 1), (2, 1), (3, 1), (4, 1)]) Tryd.underlying23 Tryd.zeroValue23 rfl (fun _ => by kernel_rfl) rfl rfl rfl) <| L_op (.plain rfl) rfl (ltb rfl) (X_move (v := (.int .i64 z38)) rfl) <| L_storeA (.plain rfl) rfl rfl Tryd.sizeOf23 (K21 4 rfl) rfl rfl rfl rfl (Blk.ext k6 (Ext.trans (Ext.trans (Ext.trans (Ext.trans (Ext.trans (Ext.trans e9 e14) e18) e23) e28) e33) e37)) <| fun w41 h42 k43 => L_op (.plain rfl) rfl (ltb rfl) (X_assign (v := (.int .i64 z38)) rfl) <| L_nil <| thn_n <| W_ret <| thn_r <| finG_r ?_
    obtain rfl := Option.some.inj H
    exact finC2 rfl (K21 4 rfl) k43 Tryd.isAgg23 Tryd.sizeOf23 rfl rfl (Below.trans (Ext.trans (Ext.trans (Ext.trans (Ext.trans (Ext.trans (Ext.trans (Ext.trans e5 e9) e14) e18) e23) e28) e33) e37) (Wr.below h42 (Nat.le_of_eq z3)))
  · refine W_false (congrArg Value.bool q40) <| W_skip <| thn_n <| W_seq <| W_reg <| L_op (.plain rfl) rfl (ltb rfl) (X_move (v := v_a0) (K21 0 rfl)) <| L_op (.plain rfl) rfl (ltb rfl) (X_move (v := (.int .i64 (findR a0 a1))) (K21 6 rfl)) ?_
    obtain ⟨c44, H⟩ := bif_some H
    refine L_idx (.plain rfl) rfl (ltb rfl) rfl Tryd.underlying48 Tryd.sizeOf23 rfl (Rd.ext f_a0 (Ext.trans (Ext.trans (Ext.trans (Ext.trans (Ext.trans (Ext.trans (Ext.trans e5 e9) e14) e18) e23) e28) e33) e37)) rfl c44 <| fun p45 h46 => L_op (.plain rfl) rfl (ltb rfl) (X_loadS Tryd.isAgg23 Tryd.sizeOf23 rfl rfl h46) <| L_storeA (.plain rfl) rfl rfl Tryd.sizeOf23 (K21 4 rfl) rfl rfl rfl rfl (Blk.ext k6 (Ext.trans (Ext.trans (Ext.trans (Ext.trans (Ext.trans (Ext.trans e9 e14) e18) e23) e28) e33) e37)) <| fun w47 h48 k49 => L_op (.plain rfl) rfl (ltb rfl) (X_assign (v := (.int .i64 0)) rfl) <| L_nil <| thn_n <| W_ret <| finG_r ?_
    obtain rfl := Option.some.inj H
    exact finC2 rfl (K21 4 rfl) k49 Tryd.isAgg23 Tryd.sizeOf23 rfl rfl (Below.trans (Ext.trans (Ext.trans (Ext.trans (Ext.trans (Ext.trans (Ext.trans (Ext.trans e5 e9) e14) e18) e23) e28) e33) e37) (Wr.below h48 (Nat.le_of_eq z3)))
theorem impl_FindRecord.calls {w : World} {a0 : List Rec} {a1 : List UInt8} (gv : GV 0 w) {v_a0 : Value} (f_a0 : Rd 5 encRec w v_a0 a0) (h0 : a0.length ≤ 1048576) (h1 : ∀ x ∈ a0, x.path.length ≤ 1048576) :
    Calls Tryd.prog 43 #[v_a0, S a1] w (Rt (RP w (.tuple #[.agg (encRec ((findRec a0 a1).1)).toArray, .int .i64 ((findRec a0 a1).2)]))) := impl_FindRecord.walk gv f_a0 (impl_FindRecord.eq a0 a1 h0 h1)
/-! laws.FnExactFindRecord -/
theorem law_FindRecord.walk {w : World} {a0 : List Rec} {a1 : List UInt8} (gv : GV 0 w) {v_a0 : Value} (f_a0 : Rd 5 encRec w v_a0 a0) {r : Bool} (H : law_FindRecord.sh a0 a1 = some r) :
    Calls Tryd.prog 13 #[v_a0, S a1] w (Rt (RP w (.bool r))) := by
  unfold law_FindRecord.sh at H
  refine calls_of_W Tryd.func13 rfl (Nat.le_of_ble_eq_true rfl) Tryd.ntmps13 rfl ?_
  refine W_seq <| W_reg <| L_op (.plain rfl) rfl (ltb rfl) (X_assign (v := (.bool false)) rfl) <| L_nil <| thn_n <| W_seq <| W_seq <| W_reg <| L_op (.plain rfl) rfl (ltb rfl) (X_move (v := (S a1)) rfl) <| L_op (.plain rfl) rfl (ltb rfl) (X_lenS Tryd.underlying9 rfl) <| L_op (.plain rfl) rfl (ltb rfl) (X_gtr rfl rfl) <| L_nil <| thn_n ?_
  rcases bif_two H with ⟨q1, H⟩ | ⟨q1, H⟩
  · refine W_true (congrArg Value.bool q1) <| W_seq <| W_reg <| L_op (.plain rfl) rfl (ltb rfl) (X_assign (v := (.bool true)) rfl) <| L_nil <| thn_n <| W_ret <| thn_r <| fin_r ?_
    obtain rfl := Option.some.inj H
    exact fin1 rfl (Ext.refl w)
  · refine W_false (congrArg Value.bool q1) <| W_skip <| thn_n <| W_seq <| W_reg <| L_op (.plain rfl) rfl (ltb rfl) (X_assign (v := (.int .i64 1048576)) rfl) <| L_nil <| thn_n <| W_seq <| W_reg <| L_op (.plain rfl) rfl (ltb rfl) (X_move (v := v_a0) rfl) <| L_op (.plain rfl) rfl (ltb rfl) (X_move (v := (.int .i64 1048576)) rfl) ?_
    obtain ⟨c2, H⟩ := bif_some H
    obtain ⟨c3, H⟩ := bif_some H
    obtain ⟨c4, H⟩ := bif_some H
    obtain ⟨c5, H⟩ := bif_some H
    refine L_callP (.plain rfl) rfl (ltb rfl) rfl Tryd.call33 (laws_szRecordS.calls (w := w) (a0 := a0) (a1 := 1048576) f_a0 (of_decide_eq_true c2) (of_decide_eq_true c3) (of_decide_eq_true c4) (of_decide_eq_true c5)) rfl <| fun w6 e7 => L_op (.plain rfl) rfl (ltb rfl) (X_assign (v := (.int .i64 (szRecS a0 1048576))) rfl) <| L_nil <| thn_n <| W_seq <| W_seq <| W_reg <| L_op (.plain rfl) rfl (ltb rfl) (X_move (v := (.int .i64 (szRecS a0 1048576))) rfl) <| L_op (.plain rfl) rfl (ltb rfl) (X_lss rfl rfl) <| L_nil <| thn_n ?_
    rcases bif_two H with ⟨q8, H⟩ | ⟨q8, H⟩
    · refine W_true (congrArg Value.bool q8) <| W_seq <| W_reg <| L_op (.plain rfl) rfl (ltb rfl) (X_assign (v := (.bool true)) rfl) <| L_nil <| thn_n <| W_ret <| thn_r <| fin_r ?_
      obtain rfl := Option.some.inj H
      exact fin1 rfl e7
    · refine W_false (congrArg Value.bool q8) <| W_skip <| thn_n <| W_seq <| W_reg <| L_op (.plain rfl) rfl (ltb rfl) (X_move (v := v_a0) rfl) ?_
      obtain ⟨c9, H⟩ := bif_some H
      refine L_callO (.plain rfl) rfl (ltb rfl) rfl Tryd.call35 (laws_toRecordS.calls (w := w6) (a0 := a0) (Rd.ext f_a0 e7) (of_decide_eq_true c9)) rfl <| fun v12 w10 e11 o13 => L_op (.plain rfl) rfl (ltb rfl) (X_move (v := (S a1)) rfl) ?_
      obtain ⟨c14, H⟩ := bif_some H
      obtain ⟨c15, H⟩ := bif_some H
      refine L_callP (.plain rfl) rfl (ltb rfl) rfl Tryd.call42 (spec_FindRecord.calls (w := w10) (a0 := a0) (a1 := a1) (Own.rd o13) (of_decide_eq_true c14) (of_decide_eq_true c15)) rfl <| fun w16 e17 => L_op (.plain rfl) rfl (ltb rfl) (X_move rfl) <| L_op (.plain rfl) rfl (ltb rfl) (X_extract (v := (.agg (encRec ((findRec a0 a1).1)).toArray)) rfl rfl) <| L_op (.plain rfl) rfl (ltb rfl) (X_extract (v := (.int .i64 ((findRec a0 a1).2))) rfl rfl) <| L_alloc (.plain rfl) rfl (ltb rfl) rfl Tryd.zeroValue23 <| fun b18 w19 z20 z21 e22 k23 => L_storeA (.plain rfl) rfl rfl Tryd.sizeOf23 rfl rfl rfl rfl rfl k23 <| fun w24 h25 k26 => L_op (.plain rfl) rfl (ltb rfl) (X_assign (v := (.int .i64 ((findRec a0 a1).2))) rfl) <| L_nil <| thn_n <| W_seq <| W_reg <| L_op (.plain rfl) rfl (ltb rfl) (X_move (v := v_a0) rfl) ?_
      obtain ⟨c27, H⟩ := bif_some H
      refine L_callO (.plain rfl) rfl (ltb rfl) rfl Tryd.call35 (laws_toRecordS.calls (w := w24) (a0 := a0) (Rd.ext f_a0 (Ext.trans (Ext.trans (Ext.trans e7 e11) e17) (Below.trans e22 (Wr.below h25 (Nat.le_of_eq z20))))) (of_decide_eq_true c27)) rfl <| fun v30 w28 e29 o31 => L_op (.plain rfl) rfl (ltb rfl) (X_assign (v := v30) rfl) <| L_nil <| thn_n <| W_seq <| W_reg <| L_op (.plain rfl) rfl (ltb rfl) (X_move (v := v30) rfl) <| L_op (.plain rfl) rfl (ltb rfl) (X_move (v := (S a1)) rfl) ?_
      obtain ⟨c32, H⟩ := bif_some H
      obtain ⟨c33, H⟩ := bif_some H
      refine L_callP (.plain rfl) rfl (ltb rfl) rfl Tryd.call43 (impl_FindRecord.calls (w := w28) (a0 := a0) (a1 := a1) (GV.ext gv (Ext.trans (Ext.trans (Ext.trans (Ext.trans e7 e11) e17) (Below.trans e22 (Wr.below h25 (Nat.le_of_eq z20)))) e29)) (Own.rd o31) (of_decide_eq_true c32) (of_decide_eq_true c33)) rfl <| fun w34 e35 => L_op (.plain rfl) rfl (ltb rfl) (X_move rfl) <| L_op (.plain rfl) rfl (ltb rfl) (X_extract (v := (.agg (encRec ((findRec a0 a1).1)).toArray)) rfl rfl) <| L_op (.plain rfl) rfl (ltb rfl) (X_extract (v := (.int .i64 ((findRec a0 a1).2))) rfl rfl) <| L_alloc (.plain rfl) rfl (ltb rfl) rfl Tryd.zeroValue23 <| fun b36 w37 z38 z39 e40 k41 => L_storeA (.plain rfl) rfl rfl Tryd.sizeOf23 rfl rfl rfl rfl rfl k41 <| fun w42 h43 k44 => L_op (.plain rfl) rfl (ltb rfl) (X_assign (v := (.int .i64 ((findRec a0 a1).2))) rfl) <| L_nil <| thn_n <| W_seq <| W_seq <| W_reg <| L_op (.plain rfl) rfl (ltb rfl) (X_loadS Tryd.isAgg23 Tryd.sizeOf23 rfl rfl (Blk.at0 k44)) <| L_op (.plain rfl) rfl (ltb rfl) (X_loadS Tryd.isAgg23 Tryd.sizeOf23 rfl rfl (Blk.at0 (Blk.ext k26 (Ext.trans (Ext.trans e29 e35) (Below.trans e40 (Wr.below h43 (Nat.le_of_eq z38))))))) <| L_callP (.plain rfl) rfl (ltb rfl) rfl Tryd.call17 (laws_eqRecord.calls (w := w42) (a0 := ((findRec a0 a1).1)) (a1 := ((findRec a0 a1).1))) rfl <| fun w45 e46 => L_op (.plain rfl) rfl (ltb rfl) (X_not rfl) <| L_op (.plain rfl) rfl (ltb rfl) (X_move (v := (.bool (!(decide (((findRec a0 a1).1) = ((findRec a0 a1).1)))))) rfl) <| L_grp 4 [(39, 43)] 42 (.bool ((!(decide (((findRec a0 a1).1) = ((findRec a0 a1).1)))) || (!decide (((findRec a0 a1).2) = ((findRec a0 a1).2))))) ?_ ?_
      · rcases bool_two (!(decide (((findRec a0 a1).1) = ((findRec a0 a1).1)))) with b46_ | b46_
        · exact L_skip rfl rfl (ltb rfl) (congrArg Value.bool b46_) rfl rfl (ltb rfl) <| L_skip rfl rfl (ltb rfl) (congrArg Value.bool b46_) rfl rfl (ltb rfl) <| L_skip rfl rfl (ltb rfl) (congrArg Value.bool b46_) rfl rfl (ltb rfl) <| L_op (.plain rfl) rfl (ltb rfl) (X_pick (b := true) (v := (.bool true)) (congrArg Value.bool b46_) rfl) <| L_nil <| thn_n ⟨(Kp.upd (Kp.upd (Kp.upd (Kp.upd (Kp.refl _ _) rfl) rfl) rfl) rfl), (or_t b46_), (Ext.refl w45)⟩
        · exact L_op (.guard 4 false 38 rfl rfl (ltb rfl) (congrArg Value.bool b46_)) rfl (ltb rfl) (X_move (v := (.int .i64 ((findRec a0 a1).2))) rfl) <| L_op (.guard 4 false 38 rfl rfl (ltb rfl) (congrArg Value.bool b46_)) rfl (ltb rfl) (X_move (v := (.int .i64 ((findRec a0 a1).2))) rfl) <| L_op (.guard 4 false 38 rfl rfl (ltb rfl) (congrArg Value.bool b46_)) rfl (ltb rfl) (X_neq rfl rfl) <| L_op (.plain rfl) rfl (ltb rfl) (X_pick (b := false) (v := (.bool (!decide (((findRec a0 a1).2) = ((findRec a0 a1).2))))) (congrArg Value.bool b46_) rfl) <| L_nil <| thn_n ⟨(Kp.upd (Kp.upd (Kp.upd (Kp.upd (Kp.refl _ _) rfl) rfl) rfl) rfl), (or_f b46_), (Ext.refl w45)⟩
      intro s52 w48 K49 h50 e51
      refine L_nil <| thn_n ?_
      rcases bif_two H with ⟨q53, H⟩ | ⟨q53, H⟩
      · refine W_true (h50.trans (congrArg Value.bool q53)) <| W_seq <| W_reg <| L_op (.plain rfl) rfl (ltb rfl) (X_assign (v := (.bool false)) rfl) <| L_nil <| thn_n <| W_ret <| thn_r <| fin_r ?_
        obtain rfl := Option.some.inj H
        exact fin1 rfl (Ext.trans (Ext.trans (Ext.trans (Ext.trans (Ext.trans (Ext.trans (Ext.trans (Ext.trans e7 e11) e17) (Below.trans e22 (Wr.below h25 (Nat.le_of_eq z20)))) e29) e35) (Below.trans e40 (Wr.below h43 (Nat.le_of_eq z38)))) e46) e51)
      · refine W_false (h50.trans (congrArg Value.bool q53)) <| W_skip <| thn_n <| W_seq <| W_seq <| W_reg <| L_op (.plain rfl) rfl (ltb rfl) (X_move (v := v30) (K49 8 rfl)) <| L_op (.plain rfl) rfl (ltb rfl) (X_move (v := v_a0) (K49 0 rfl)) ?_
        obtain ⟨c54, H⟩ := bif_some H
        refine L_callO (.plain rfl) rfl (ltb rfl) rfl Tryd.call35 (laws_toRecordS.calls (w := w48) (a0 := a0) (Rd.ext f_a0 (Ext.trans (Ext.trans (Ext.trans (Ext.trans (Ext.trans (Ext.trans (Ext.trans (Ext.trans e7 e11) e17) (Below.trans e22 (Wr.below h25 (Nat.le_of_eq z20)))) e29) e35) (Below.trans e40 (Wr.below h43 (Nat.le_of_eq z38)))) e46) e51)) (of_decide_eq_true c54)) rfl <| fun v57 w55 e56 o58 => ?_
        obtain ⟨c59, H⟩ := bif_some H
        refine L_callP (.plain rfl) rfl (ltb rfl) rfl Tryd.call37 (laws_eqRecordS.calls (w := w55) (a0 := a0) (a1 := a0) (Own.rd (Own.ext o31 (Ext.trans (Ext.trans (Ext.trans (Ext.trans e35 (Below.trans e40 (Wr.below h43 (Nat.le_of_eq z38)))) e46) e51) e56))) (Own.rd o58) (of_decide_eq_true c59)) rfl <| fun w60 e61 => L_op (.plain rfl) rfl (ltb rfl) (X_not rfl) <| L_nil <| thn_n ?_
        rcases bif_two H with ⟨q62, H⟩ | ⟨q62, H⟩
        · refine W_true (congrArg Value.bool q62) <| W_seq <| W_reg <| L_op (.plain rfl) rfl (ltb rfl) (X_assign (v := (.bool false)) rfl) <| L_nil <| thn_n <| W_ret <| thn_r <| fin_r ?_
          obtain rfl := Option.some.inj H
          exact fin1 rfl (Ext.trans (Ext.trans (Ext.trans (Ext.trans (Ext.trans (Ext.trans (Ext.trans (Ext.trans (Ext.trans (Ext.trans e7 e11) e17) (Below.trans e22 (Wr.below h25 (Nat.le_of_eq z20)))) e29) e35) (Below.trans e40 (Wr.below h43 (Nat.le_of_eq z38)))) e46) e51) e56) e61)
        · refine W_false (congrArg Value.bool q62) <| W_skip <| thn_n <| W_seq <| W_reg <| L_op (.plain rfl) rfl (ltb rfl) (X_assign (v := (.bool true)) rfl) <| L_nil <| thn_n <| W_ret <| fin_r ?_
          obtain rfl := Option.some.inj H
          exact fin1 rfl (Ext.trans (Ext.trans (Ext.trans (Ext.trans (Ext.trans (Ext.trans (Ext.trans (Ext.trans (Ext.trans (Ext.trans e7 e11) e17) (Below.trans e22 (Wr.below h25 (Nat.le_of_eq z20)))) e29) e35) (Below.trans e40 (Wr.below h43 (Nat.le_of_eq z38)))) e46) e51) e56) e61)
theorem law_FindRecord.calls {w : World} {a0 : List Rec} {a1 : List UInt8} (gv : GV 0 w) {v_a0 : Value} (f_a0 : Rd 5 encRec w v_a0 a0) (h0 : ∀ x ∈ a0, okRec x) (h1 : a0.length ≤ 9223372036854775807) :
    Calls Tryd.prog 13 #[v_a0, S a1] w (Rt (RP w (.bool true))) := law_FindRecord.walk gv f_a0 (law_FindRecord.eq a0 a1 h0 h1)
/-! spec.l03Same -/
theorem spec_l03Same.walk {k : Nat} {w : World} {a0 : List Rec} {a1 : List Rec} {v_a0 : Value} (f_a0 : Rd 5 encRec w v_a0 a0) {v_a1 : Value} (f_a1 : Rd 5 encRec w v_a1 a1) {r : Bool} (H : spec_l03Same.sh k a0 a1 = some r) :
    Calls Tryd.prog 71 #[v_a0, v_a1] w (Rt (RP w (.bool r))) := by
  unfold spec_l03Same.sh at H
  refine calls_of_W Tryd.func71 rfl (Nat.le_of_ble_eq_true rfl) Tryd.ntmps71 rfl ?_
  refine W_seq <| W_reg <| L_op (.plain rfl) rfl (ltb rfl) (X_assign (v := (.bool false)) rfl) <| L_nil <| thn_n <| W_seq <| W_seq <| W_reg <| L_op (.plain rfl) rfl (ltb rfl) (X_move (v := v_a0) rfl) <| L_op (.plain rfl) rfl (ltb rfl) (X_lenR Tryd.underlying48 rfl f_a0) <| L_op (.plain rfl) rfl (ltb rfl) (X_move (v := v_a1) rfl) <| L_op (.plain rfl) rfl (ltb rfl) (X_lenR Tryd.underlying48 rfl f_a1) <| L_op (.plain rfl) rfl (ltb rfl) (X_neq rfl rfl) <| L_nil <| thn_n ?_
  rcases bif_two H with ⟨q1, H⟩ | ⟨q1, H⟩
  · refine W_true (congrArg Value.bool q1) <| W_seq <| W_reg <| L_op (.plain rfl) rfl (ltb rfl) (X_assign (v := (.bool false)) rfl) <| L_nil <| thn_n <| W_ret <| thn_r <| fin_r ?_
    obtain rfl := Option.some.inj H
    exact fin1 rfl (Ext.refl w)
  · refine W_false (congrArg Value.bool q1) <| W_skip <| thn_n <| W_seq <| W_seq <| W_reg <| L_op (.plain rfl) rfl (ltb rfl) (X_assign (v := (.int .i64 0)) rfl) <| L_nil <| thn_n ?_
    obtain ⟨z3, L4, C5⟩ := bind_some H
    clear H
    refine  W_cutQ (fun s0 s9 w9 => Kp [(4, 6), (11, 26)] s0 s9 ∧ Ext w w9 ∧ z3 = .inr ()) ?_ ?_
    · refine W_block <| W_loopI (fun s0 kk s9 w9 => ∃ (x5_2 : Int), Kp [(4, 6), (11, 26)] s0 s9 ∧ s9 5 = .int .i64 x5_2 ∧ Ext w w9 ∧ loopF (spec_l03Same.b1 a0 a1) kk x5_2 = some z3) k ⟨0, (Kp.refl _ _), rfl, (Ext.refl w), L4⟩ ?_
      rintro k10 s11 w12 ⟨x5_2, K13, h16, e14, L15⟩
      cases k10 with
      | zero => exact absurd L15 (by simp [loopF])
      | succ k10 =>
        obtain ⟨t17, H, S18⟩ := loopF_succ L15
        clear L15
        unfold spec_l03Same.b1 at H
        refine W_seq <| W_seq <| W_reg <| L_op (.plain rfl) rfl (ltb rfl) (X_move (v := (.int .i64 x5_2)) h16) <| L_op (.plain rfl) rfl (ltb rfl) (X_move (v := v_a0) (K13 0 rfl)) <| L_op (.plain rfl) rfl (ltb rfl) (X_lenR Tryd.underlying48 rfl (Rd.ext f_a0 e14)) <| L_op (.plain rfl) rfl (ltb rfl) (X_lss rfl rfl) <| L_nil <| thn_n ?_
        rcases bif_two H with ⟨q19, H⟩ | ⟨q19, H⟩
        · refine W_true (congrArg Value.bool q19) <| W_skip <| thn_n <| W_seq <| W_block <| W_seq ?_
          obtain ⟨c20, H⟩ := bif_some H
          obtain ⟨c23, H⟩ := bif_some H
          refine W_drawM [LEq v_a0, LEq (.int .i64 x5_2), LAt0 (encRec (gt a0 x5_2)), LEq (.agg (encRec (gt a0 x5_2)).toArray), LEq v_a1, LEq (.int .i64 x5_2), LAt0 (encRec (gt a1 x5_2)), LEq (.agg (encRec (gt a1 x5_2)).toArray), LEq (.bool (!decide ((gt a0 x5_2) = (gt a1 x5_2))))] (by kernel_rfl) (by kernel_rfl) ⟨LEq.mono, LEq.mono, LAt0.mono, LEq.mono, LEq.mono, LEq.mono, LAt0.mono, LEq.mono, LEq.mono, trivial⟩ ⟨?_, ?_, ?_, ?_, ?_, ?_, ?_, ?_, ?_, trivial⟩ ?_
          · intro s26 w27 e28 hf29 hd30 hu31
            exact L_op (.plain rfl) rfl (ltb rfl) (X_move (v := v_a0) ((hf29 0 rfl).trans (K13 0 rfl))) <| L_nil <| stepEnd rfl rfl (Ext.refl w27) rfl
          · intro s32 w33 e34 hf35 hd36 hu37
            exact L_op (.plain rfl) rfl (ltb rfl) (X_move (v := (.int .i64 x5_2)) ((hf35 5 rfl).trans h16)) <| L_nil <| stepEnd rfl rfl (Ext.refl w33) rfl
          · intro s38 w39 e40 hf41 hd42 hu43
            have d44 : s38 17 = v_a0 := (hd42 0 rfl)
            have d45 : s38 18 = (.int .i64 x5_2) := (hd42 1 rfl)
            have c46 := c20
            exact L_idx (.plain rfl) rfl (ltb rfl) rfl Tryd.underlying48 Tryd.sizeOf23 d44 (Rd.ext f_a0 (Ext.trans e14 e40)) d45 c46 <| fun p47 h48 => L_nil <| stepEnd rfl rfl (Ext.refl w39) ⟨_, rfl, h48⟩
          · intro s49 w50 e51 hf52 hd53 hu54
            obtain ⟨p55, h56, h57⟩ := (hd53 2 rfl)
            exact L_op (.plain rfl) rfl (ltb rfl) (X_loadS Tryd.isAgg23 Tryd.sizeOf23 rfl h56 h57) <| L_nil <| stepEnd rfl rfl (Ext.refl w50) rfl
          · intro s58 w59 e60 hf61 hd62 hu63
            exact L_op (.plain rfl) rfl (ltb rfl) (X_move (v := v_a1) ((hf61 1 rfl).trans (K13 1 rfl))) <| L_nil <| stepEnd rfl rfl (Ext.refl w59) rfl
          · intro s64 w65 e66 hf67 hd68 hu69
            exact L_op (.plain rfl) rfl (ltb rfl) (X_move (v := (.int .i64 x5_2)) ((hf67 5 rfl).trans h16)) <| L_nil <| stepEnd rfl rfl (Ext.refl w65) rfl
          · intro s70 w71 e72 hf73 hd74 hu75
            have d76 : s70 21 = v_a1 := (hd74 4 rfl)
            have d77 : s70 22 = (.int .i64 x5_2) := (hd74 5 rfl)
            have c78 := c23
            exact L_idx (.plain rfl) rfl (ltb rfl) rfl Tryd.underlying48 Tryd.sizeOf23 d76 (Rd.ext f_a1 (Ext.trans e14 e72)) d77 c78 <| fun p79 h80 => L_nil <| stepEnd rfl rfl (Ext.refl w71) ⟨_, rfl, h80⟩
          · intro s81 w82 e83 hf84 hd85 hu86
            obtain ⟨p87, h88, h89⟩ := (hd85 6 rfl)
            exact L_op (.plain rfl) rfl (ltb rfl) (X_loadS Tryd.isAgg23 Tryd.sizeOf23 rfl h88 h89) <| L_nil <| stepEnd rfl rfl (Ext.refl w82) rfl
          · intro s90 w91 e92 hf93 hd94 hu95
            have d96 : s90 20 = (.agg (encRec (gt a0 x5_2)).toArray) := (hd94 3 rfl)
            have d97 : s90 24 = (.agg (encRec (gt a1 x5_2)).toArray) := (hd94 7 rfl)
            exact L_op (.plain rfl) rfl (ltb rfl) (X_neA Eqg.t23 (Eqs.t23 (gt a0 x5_2) (gt a1 x5_2)) d96 d97) <| L_nil <| stepEnd rfl rfl (Ext.refl w91) rfl
          intro s98 w99 e100 hf101 ha102
          have K103 := Kp.ofD (kp := [(17, 26)]) rfl hf101
          have d104 : s98 25 = (.bool (!decide ((gt a0 x5_2) = (gt a1 x5_2)))) := ha102 8 rfl
          clear ha102 hf101
          refine thn_n ?_
          rcases bif_two H with ⟨q105, H⟩ | ⟨q105, H⟩
          · refine W_true (d104.trans (congrArg Value.bool q105)) <| W_seq <| W_reg <| L_op (.plain rfl) rfl (ltb rfl) (X_assign (v := (.bool false)) rfl) <| L_nil <| thn_n <| W_ret <| blk_r <| thn_r <| thn_r <| blk_r <| thn_r <| thn_r <| fin_r ?_
            obtain rfl := Option.some.inj H
            obtain rfl := Option.some.inj S18
            have H := C5
            obtain rfl := Option.some.inj H
            exact fin1 rfl (Ext.trans e14 e100)
          · refine W_false (d104.trans (congrArg Value.bool q105)) <| W_skip <| blk_n <| thn_n <| W_reg <| L_op (.plain rfl) rfl (ltb rfl) (X_move (v := (.int .i64 x5_2)) ((K103 5 rfl).trans h16)) <| L_op (.plain rfl) rfl (ltb rfl) (X_add rfl rfl) <| L_op (.plain rfl) rfl (ltb rfl) (X_assign (v := (.int .i64 (IntKind.wrap .i64 (x5_2 + 1)))) rfl) <| L_nil <| thn_n ?_
            obtain rfl := Option.some.inj H
            exact ⟨_, Nat.lt_succ_self _, IntKind.wrap .i64 (x5_2 + 1), (Kp.upd (Kp.upd (Kp.upd (Kp.cut (Kp.upd (Kp.upd (Kp.upd (Kp.upd K13 rfl) rfl) rfl) rfl) K103 rfl) rfl) rfl) rfl), rfl, (Ext.trans e14 e100), S18⟩
        · refine W_false (congrArg Value.bool q19) <| W_exit <| thn_x <| thn_x <| blk_x <| thn_n ?_
          obtain rfl := Option.some.inj H
          obtain rfl := Option.some.inj S18
          exact ⟨(Kp.upd (Kp.upd (Kp.upd (Kp.upd K13 rfl) rfl) rfl) rfl), e14, rfl⟩
    · rintro s7 w6 ⟨K8, e9, y106⟩
      rw [y106] at C5
      have H := C5
      replace H : _ = some _ := H
      refine thn_n <| W_seq <| W_reg <| L_op (.plain rfl) rfl (ltb rfl) (X_assign (v := (.bool true)) rfl) <| L_nil <| thn_n <| W_ret <| fin_r ?_
      obtain rfl := Option.some.inj H
      exact fin1 rfl e9
theorem spec_l03Same.calls {w : World} {a0 : List Rec} {a1 : List Rec} {v_a0 : Value} (f_a0 : Rd 5 encRec w v_a0 a0) {v_a1 : Value} (f_a1 : Rd 5 encRec w v_a1 a1) (h0 : a0.length ≤ 1048576) :
    Calls Tryd.prog 71 #[v_a0, v_a1] w (Rt (RP w (.bool (decide (a0 = a1))))) := by
  obtain ⟨k, h⟩ := spec_l03Same.eq a0 a1 h0
  exact spec_l03Same.walk f_a0 f_a1 h
/-! spec.SameLayer -/
theorem spec_SameLayer.walk {w : World} {a0 : List Rec} {a1 : List Rec} {v_a0 : Value} (f_a0 : Rd 5 encRec w v_a0 a0) {v_a1 : Value} (f_a1 : Rd 5 encRec w v_a1 a1) {r : Bool} (H : spec_SameLayer.sh a0 a1 = some r) :
    Calls Tryd.prog 44 #[v_a0, v_a1] w (Rt (RP w (.bool r))) := by
  unfold spec_SameLayer.sh at H
  refine calls_of_W Tryd.func44 rfl (Nat.le_of_ble_eq_true rfl) Tryd.ntmps44 rfl ?_
  refine W_seq <| W_reg <| L_op (.plain rfl) rfl (ltb rfl) (X_assign (v := (.bool false)) rfl) <| L_nil <| thn_n <| W_seq <| W_seq <| W_reg <| L_op (.plain rfl) rfl (ltb rfl) (X_move (v := v_a0) rfl) <| L_op (.plain rfl) rfl (ltb rfl) (X_lenR Tryd.underlying48 rfl f_a0) <| L_op (.plain rfl) rfl (ltb rfl) (X_gtr rfl rfl) <| L_op (.plain rfl) rfl (ltb rfl) (X_move (v := (.bool (decide (4096 < (a0.length : Int))))) rfl) <| L_grp 4 [(9, 13)] 12 (.bool ((decide (4096 < (a0.length : Int))) || (decide (4096 < (a1.length : Int))))) ?_ ?_
  · rcases bool_two (decide (4096 < (a0.length : Int))) with b0_ | b0_
    · exact L_skip rfl rfl (ltb rfl) (congrArg Value.bool b0_) rfl rfl (ltb rfl) <| L_skip rfl rfl (ltb rfl) (congrArg Value.bool b0_) rfl rfl (ltb rfl) <| L_skip rfl rfl (ltb rfl) (congrArg Value.bool b0_) rfl rfl (ltb rfl) <| L_op (.plain rfl) rfl (ltb rfl) (X_pick (b := true) (v := (.bool true)) (congrArg Value.bool b0_) rfl) <| L_nil <| thn_n ⟨(Kp.upd (Kp.upd (Kp.upd (Kp.upd (Kp.refl _ _) rfl) rfl) rfl) rfl), (or_t b0_), (Ext.refl w)⟩
    · exact L_op (.guard 3 false 8 rfl rfl (ltb rfl) (congrArg Value.bool b0_)) rfl (ltb rfl) (X_move (v := v_a1) rfl) <| L_op (.guard 3 false 8 rfl rfl (ltb rfl) (congrArg Value.bool b0_)) rfl (ltb rfl) (X_lenR Tryd.underlying48 rfl f_a1) <| L_op (.guard 3 false 8 rfl rfl (ltb rfl) (congrArg Value.bool b0_)) rfl (ltb rfl) (X_gtr rfl rfl) <| L_op (.plain rfl) rfl (ltb rfl) (X_pick (b := false) (v := (.bool (decide (4096 < (a1.length : Int))))) (congrArg Value.bool b0_) rfl) <| L_nil <| thn_n ⟨(Kp.upd (Kp.upd (Kp.upd (Kp.upd (Kp.refl _ _) rfl) rfl) rfl) rfl), (or_f b0_), (Ext.refl w)⟩
  intro s6 w2 K3 h4 e5
  refine L_nil <| thn_n ?_
  rcases bif_two H with ⟨q7, H⟩ | ⟨q7, H⟩
  · refine W_true (h4.trans (congrArg Value.bool q7)) <| W_seq <| W_reg <| L_op (.plain rfl) rfl (ltb rfl) (X_assign (v := (.bool false)) rfl) <| L_nil <| thn_n <| W_ret <| thn_r <| fin_r ?_
    obtain rfl := Option.some.inj H
    exact fin1 rfl e5
  · refine W_false (h4.trans (congrArg Value.bool q7)) <| W_skip <| thn_n <| W_seq <| W_reg <| L_op (.plain rfl) rfl (ltb rfl) (X_move (v := v_a0) (K3 0 rfl)) ?_
    obtain ⟨c8, H⟩ := bif_some H
    obtain ⟨c9, H⟩ := bif_some H
    refine L_callP (.plain rfl) rfl (ltb rfl) rfl Tryd.call68 (spec_l03OK.calls (w := w2) (a0 := a0) (Rd.ext f_a0 e5) (of_decide_eq_true c8) (of_decide_eq_true c9)) rfl <| fun w10 e11 => L_op (.plain rfl) rfl (ltb rfl) (X_move (v := (.bool (decide ((layerFault a0).2 = 0)))) rfl) ?_
    obtain ⟨z13, x14, H⟩ := bind_some H
    refine L_grpE 3 [(16, 19)] 18 (fun q => q = z13) ?_ ?_
    · rcases bif_two x14 with ⟨b11_, H⟩ | ⟨b11_, H⟩
      · refine L_op (.guard 2 true 15 rfl rfl (ltb rfl) (congrArg Value.bool b11_)) rfl (ltb rfl) (X_move (v := v_a1) (K3 1 rfl)) ?_
        obtain ⟨c13, H⟩ := bif_some H
        obtain ⟨c14, H⟩ := bif_some H
        refine L_callP (.guard 2 true 15 rfl rfl (ltb rfl) (congrArg Value.bool b11_)) rfl (ltb rfl) rfl Tryd.call68 (spec_l03OK.calls (w := w10) (a0 := a1) (Rd.ext f_a1 (Ext.trans e5 e11)) (of_decide_eq_true c13) (of_decide_eq_true c14)) rfl <| fun w15 e16 => L_op (.plain rfl) rfl (ltb rfl) (X_pick (b := true) (v := (.bool (decide ((layerFault a1).2 = 0)))) (congrArg Value.bool b11_) rfl) ?_
        obtain rfl := Option.some.inj H
        exact L_nil <| thn_n ⟨(Kp.upd (Kp.upd (Kp.upd (Kp.refl _ _) rfl) rfl) rfl), ⟨_, rfl, rfl⟩, e16⟩
      · refine L_skip rfl rfl (ltb rfl) (congrArg Value.bool b11_) rfl rfl (ltb rfl) <| L_skip rfl rfl (ltb rfl) (congrArg Value.bool b11_) rfl rfl (ltb rfl) <| L_op (.plain rfl) rfl (ltb rfl) (X_pick (b := false) (v := (.bool false)) (congrArg Value.bool b11_) rfl) ?_
        obtain rfl := Option.some.inj H
        exact L_nil <| thn_n ⟨(Kp.upd (Kp.upd (Kp.upd (Kp.refl _ _) rfl) rfl) rfl), ⟨_, rfl, rfl⟩, (Ext.refl w10)⟩
    intro s19 w15 z20 K16 hq h17 e18
    rw [hq] at h17; clear hq
    refine L_op (.plain rfl) rfl (ltb rfl) (X_move (v := (.bool z13)) h17) ?_
    obtain ⟨z22, x23, H⟩ := bind_some H
    refine L_grpE 4 [(20, 24)] 23 (fun q => q = z22) ?_ ?_
    · rcases bif_two x23 with ⟨b20_, H⟩ | ⟨b20_, H⟩
      · refine L_op (.guard 6 true 19 rfl rfl (ltb rfl) (congrArg Value.bool b20_)) rfl (ltb rfl) (X_move (v := v_a0) ((K16 0 rfl).trans (K3 0 rfl))) <| L_op (.guard 6 true 19 rfl rfl (ltb rfl) (congrArg Value.bool b20_)) rfl (ltb rfl) (X_move (v := v_a1) ((K16 1 rfl).trans (K3 1 rfl))) ?_
        obtain ⟨c22, H⟩ := bif_some H
        refine L_callP (.guard 6 true 19 rfl rfl (ltb rfl) (congrArg Value.bool b20_)) rfl (ltb rfl) rfl Tryd.call71 (spec_l03Same.calls (w := w15) (a0 := a0) (a1 := a1) (Rd.ext f_a0 (Ext.trans (Ext.trans e5 e11) e18)) (Rd.ext f_a1 (Ext.trans (Ext.trans e5 e11) e18)) (of_decide_eq_true c22)) rfl <| fun w23 e24 => L_op (.plain rfl) rfl (ltb rfl) (X_pick (b := true) (v := (.bool (decide (a0 = a1)))) (congrArg Value.bool b20_) rfl) ?_
        obtain rfl := Option.some.inj H
        exact L_nil <| thn_n ⟨(Kp.upd (Kp.upd (Kp.upd (Kp.upd (Kp.refl _ _) rfl) rfl) rfl) rfl), ⟨_, rfl, rfl⟩, e24⟩
      · refine L_skip rfl rfl (ltb rfl) (congrArg Value.bool b20_) rfl rfl (ltb rfl) <| L_skip rfl rfl (ltb rfl) (congrArg Value.bool b20_) rfl rfl (ltb rfl) <| L_skip rfl rfl (ltb rfl) (congrArg Value.bool b20_) rfl rfl (ltb rfl) <| L_op (.plain rfl) rfl (ltb rfl) (X_pick (b := false) (v := (.bool false)) (congrArg Value.bool b20_) rfl) ?_
        obtain rfl := Option.some.inj H
        exact L_nil <| thn_n ⟨(Kp.upd (Kp.upd (Kp.upd (Kp.upd (Kp.refl _ _) rfl) rfl) rfl) rfl), ⟨_, rfl, rfl⟩, (Ext.refl w15)⟩
    intro s28 w24 z29 K25 hq h26 e27
    rw [hq] at h26; clear hq
    refine L_op (.plain rfl) rfl (ltb rfl) (X_assign (v := (.bool z22)) h26) <| L_nil <| thn_n <| W_ret <| fin_r ?_
    obtain rfl := Option.some.inj H
    exact fin1 rfl (Ext.trans (Ext.trans (Ext.trans e5 e11) e18) e27)
theorem spec_SameLayer.calls {w : World} {a0 : List Rec} {a1 : List Rec} {v_a0 : Value} (f_a0 : Rd 5 encRec w v_a0 a0) {v_a1 : Value} (f_a1 : Rd 5 encRec w v_a1 a1) (h0 : a0.length ≤ 1048576) (h1 : a1.length ≤ 1048576) (h2 : ∀ x ∈ a0, x.path.length ≤ 1048576) (h3 : ∀ x ∈ a1, x.path.length ≤ 1048576) :
    Calls Tryd.prog 44 #[v_a0, v_a1] w (Rt (RP w (.bool (sameLayer a0 a1)))) := spec_SameLayer.walk f_a0 f_a1 (spec_SameLayer.eq a0 a1 h0 h1 h2 h3)
/-! slices.Equal(()impl.Record,impl.Record) -/
theorem slices_EqualR.walk {k : Nat} {w : World} {a0 : List Rec} {a1 : List Rec} {v_a0 : Value} (f_a0 : Rd 5 encRec w v_a0 a0) {v_a1 : Value} (f_a1 : Rd 5 encRec w v_a1 a1) {r : Bool} (H : slices_EqualR.sh k a0 a1 = some r) :
    Calls Tryd.prog 72 #[v_a0, v_a1] w (Rt (RP w (.bool r))) := by
  unfold slices_EqualR.sh at H
  refine calls_of_W Tryd.func72 rfl (Nat.le_of_ble_eq_true rfl) Tryd.ntmps72 rfl ?_
  refine W_seq <| W_reg <| L_op (.plain rfl) rfl (ltb rfl) (X_assign (v := (.bool false)) rfl) <| L_nil <| thn_n <| W_seq <| W_seq <| W_reg <| L_op (.plain rfl) rfl (ltb rfl) (X_move (v := v_a0) rfl) <| L_op (.plain rfl) rfl (ltb rfl) (X_lenR Tryd.underlying48 rfl f_a0) <| L_op (.plain rfl) rfl (ltb rfl) (X_move (v := v_a1) rfl) <| L_op (.plain rfl) rfl (ltb rfl) (X_lenR Tryd.underlying48 rfl f_a1) <| L_op (.plain rfl) rfl (ltb rfl) (X_neq rfl rfl) <| L_nil <| thn_n ?_
  rcases bif_two H with ⟨q1, H⟩ | ⟨q1, H⟩
  · refine W_true (congrArg Value.bool q1) <| W_seq <| W_reg <| L_op (.plain rfl) rfl (ltb rfl) (X_assign (v := (.bool false)) rfl) <| L_nil <| thn_n <| W_ret <| thn_r <| fin_r ?_
    obtain rfl := Option.some.inj H
    exact fin1 rfl (Ext.refl w)
  · refine W_false (congrArg Value.bool q1) <| W_skip <| thn_n <| W_seq <| W_seq <| W_reg <| L_op (.plain rfl) rfl (ltb rfl) (X_move (v := v_a0) rfl) <| L_op (.plain rfl) rfl (ltb rfl) (X_lenR Tryd.underlying48 rfl f_a0) <| L_op (.plain rfl) rfl (ltb rfl) (X_move (v := (.int .i64 0)) rfl) <| L_nil <| thn_n ?_
    obtain ⟨z3, L4, C5⟩ := bind_some H
    clear H
    refine  W_cutQ (fun s0 s9 w9 => Kp [(4, 6), (13, 26)] s0 s9 ∧ Ext w w9 ∧ z3 = .inr ()) ?_ ?_
    · refine W_block <| W_loopI (fun s0 kk s9 w9 => ∃ (x13_2 : Int), Kp [(4, 6), (13, 26)] s0 s9 ∧ s9 13 = .int .i64 x13_2 ∧ Ext w w9 ∧ loopF (slices_EqualR.b1 a0 a1) kk x13_2 = some z3) k ⟨0, (Kp.refl _ _), rfl, (Ext.refl w), L4⟩ ?_
      rintro k10 s11 w12 ⟨x13_2, K13, h16, e14, L15⟩
      cases k10 with
      | zero => exact absurd L15 (by simp [loopF])
      | succ k10 =>
        obtain ⟨t17, H, S18⟩ := loopF_succ L15
        clear L15
        unfold slices_EqualR.b1 at H
        refine W_seq <| W_reg <| L_op (.plain rfl) rfl (ltb rfl) (X_lss h16 (K13 12 rfl)) <| L_nil <| thn_n <| W_seq ?_
        rcases bif_two H with ⟨q19, H⟩ | ⟨q19, H⟩
        · refine W_true (congrArg Value.bool q19) <| W_skip <| thn_n <| W_seq <| W_block <| W_seq <| W_reg <| L_op (.plain rfl) rfl (ltb rfl) (X_move (v := (.int .i64 x13_2)) h16) <| L_op (.plain rfl) rfl (ltb rfl) (X_assign (v := (.int .i64 x13_2)) rfl) <| L_nil <| thn_n <| W_seq ?_
          obtain ⟨c20, H⟩ := bif_some H
          obtain ⟨c23, H⟩ := bif_some H
          refine W_drawM [LEq v_a0, LEq (.int .i64 x13_2), LAt0 (encRec (gt a0 x13_2)), LEq (.agg (encRec (gt a0 x13_2)).toArray), LEq v_a1, LEq (.int .i64 x13_2), LAt0 (encRec (gt a1 x13_2)), LEq (.agg (encRec (gt a1 x13_2)).toArray), LEq (.bool (!decide ((gt a0 x13_2) = (gt a1 x13_2))))] (by kernel_rfl) (by kernel_rfl) ⟨LEq.mono, LEq.mono, LAt0.mono, LEq.mono, LEq.mono, LEq.mono, LAt0.mono, LEq.mono, LEq.mono, trivial⟩ ⟨?_, ?_, ?_, ?_, ?_, ?_, ?_, ?_, ?_, trivial⟩ ?_
          · intro s26 w27 e28 hf29 hd30 hu31
            exact L_op (.plain rfl) rfl (ltb rfl) (X_move (v := v_a0) ((hf29 0 rfl).trans (K13 0 rfl))) <| L_nil <| stepEnd rfl rfl (Ext.refl w27) rfl
          · intro s32 w33 e34 hf35 hd36 hu37
            exact L_op (.plain rfl) rfl (ltb rfl) (X_move (v := (.int .i64 x13_2)) (hf35 5 rfl)) <| L_nil <| stepEnd rfl rfl (Ext.refl w33) rfl
          · intro s38 w39 e40 hf41 hd42 hu43
            have d44 : s38 16 = v_a0 := (hd42 0 rfl)
            have d45 : s38 17 = (.int .i64 x13_2) := (hd42 1 rfl)
            have c46 := c20
            exact L_idx (.plain rfl) rfl (ltb rfl) rfl Tryd.underlying48 Tryd.sizeOf23 d44 (Rd.ext f_a0 (Ext.trans e14 e40)) d45 c46 <| fun p47 h48 => L_nil <| stepEnd rfl rfl (Ext.refl w39) ⟨_, rfl, h48⟩
          · intro s49 w50 e51 hf52 hd53 hu54
            obtain ⟨p55, h56, h57⟩ := (hd53 2 rfl)
            exact L_op (.plain rfl) rfl (ltb rfl) (X_loadS Tryd.isAgg23 Tryd.sizeOf23 rfl h56 h57) <| L_nil <| stepEnd rfl rfl (Ext.refl w50) rfl
          · intro s58 w59 e60 hf61 hd62 hu63
            exact L_op (.plain rfl) rfl (ltb rfl) (X_move (v := v_a1) ((hf61 1 rfl).trans (K13 1 rfl))) <| L_nil <| stepEnd rfl rfl (Ext.refl w59) rfl
          · intro s64 w65 e66 hf67 hd68 hu69
            exact L_op (.plain rfl) rfl (ltb rfl) (X_move (v := (.int .i64 x13_2)) (hf67 5 rfl)) <| L_nil <| stepEnd rfl rfl (Ext.refl w65) rfl
          · intro s70 w71 e72 hf73 hd74 hu75
            have d76 : s70 20 = v_a1 := (hd74 4 rfl)
            have d77 : s70 21 = (.int .i64 x13_2) := (hd74 5 rfl)
            have c78 := c23
            exact L_idx (.plain rfl) rfl (ltb rfl) rfl Tryd.underlying48 Tryd.sizeOf23 d76 (Rd.ext f_a1 (Ext.trans e14 e72)) d77 c78 <| fun p79 h80 => L_nil <| stepEnd rfl rfl (Ext.refl w71) ⟨_, rfl, h80⟩
          · intro s81 w82 e83 hf84 hd85 hu86
            obtain ⟨p87, h88, h89⟩ := (hd85 6 rfl)
            exact L_op (.plain rfl) rfl (ltb rfl) (X_loadS Tryd.isAgg23 Tryd.sizeOf23 rfl h88 h89) <| L_nil <| stepEnd rfl rfl (Ext.refl w82) rfl
          · intro s90 w91 e92 hf93 hd94 hu95
            have d96 : s90 19 = (.agg (encRec (gt a0 x13_2)).toArray) := (hd94 3 rfl)
            have d97 : s90 23 = (.agg (encRec (gt a1 x13_2)).toArray) := (hd94 7 rfl)
            exact L_op (.plain rfl) rfl (ltb rfl) (X_neA Eqg.t23 (Eqs.t23 (gt a0 x13_2) (gt a1 x13_2)) d96 d97) <| L_nil <| stepEnd rfl rfl (Ext.refl w91) rfl
          intro s98 w99 e100 hf101 ha102
          have K103 := Kp.ofD (kp := [(16, 25)]) rfl hf101
          have d104 : s98 24 = (.bool (!decide ((gt a0 x13_2) = (gt a1 x13_2)))) := ha102 8 rfl
          clear ha102 hf101
          refine thn_n ?_
          rcases bif_two H with ⟨q105, H⟩ | ⟨q105, H⟩
          · refine W_true (d104.trans (congrArg Value.bool q105)) <| W_seq <| W_reg <| L_op (.plain rfl) rfl (ltb rfl) (X_assign (v := (.bool false)) rfl) <| L_nil <| thn_n <| W_ret <| blk_r <| thn_r <| thn_r <| blk_r <| thn_r <| thn_r <| fin_r ?_
            obtain rfl := Option.some.inj H
            obtain rfl := Option.some.inj S18
            have H := C5
            obtain rfl := Option.some.inj H
            exact fin1 rfl (Ext.trans e14 e100)
          · refine W_false (d104.trans (congrArg Value.bool q105)) <| W_skip <| blk_n <| thn_n <| W_reg <| L_op (.plain rfl) rfl (ltb rfl) (X_add ((K103 13 rfl).trans h16) rfl) <| L_op (.plain rfl) rfl (ltb rfl) (X_move (v := (.int .i64 (IntKind.wrap .i64 (x13_2 + 1)))) rfl) <| L_nil <| thn_n ?_
            obtain rfl := Option.some.inj H
            exact ⟨_, Nat.lt_succ_self _, IntKind.wrap .i64 (x13_2 + 1), (Kp.upd (Kp.upd (Kp.cut (Kp.upd (Kp.upd (Kp.upd K13 rfl) rfl) rfl) K103 rfl) rfl) rfl), rfl, (Ext.trans e14 e100), S18⟩
        · refine W_false (congrArg Value.bool q19) <| W_exit <| thn_x <| thn_x <| blk_x <| thn_n ?_
          obtain rfl := Option.some.inj H
          obtain rfl := Option.some.inj S18
          exact ⟨(Kp.upd K13 rfl), e14, rfl⟩
    · rintro s7 w6 ⟨K8, e9, y106⟩
      rw [y106] at C5
      have H := C5
      replace H : _ = some _ := H
      refine thn_n <| W_seq <| W_reg <| L_op (.plain rfl) rfl (ltb rfl) (X_assign (v := (.bool true)) rfl) <| L_nil <| thn_n <| W_ret <| fin_r ?_
      obtain rfl := Option.some.inj H
      exact fin1 rfl e9
theorem slices_EqualR.calls {w : World} {a0 : List Rec} {a1 : List Rec} {v_a0 : Value} (f_a0 : Rd 5 encRec w v_a0 a0) {v_a1 : Value} (f_a1 : Rd 5 encRec w v_a1 a1) (h0 : a0.length ≤ 1048576) :
    Calls Tryd.prog 72 #[v_a0, v_a1] w (Rt (RP w (.bool (decide (a0 = a1))))) := by
  obtain ⟨k, h⟩ := slices_EqualR.eq a0 a1 h0
  exact slices_EqualR.walk f_a0 f_a1 h
/-! impl.SameLayer -/
theorem impl_SameLayer.walk {w : World} {a0 : List Rec} {a1 : List Rec} (gv : GV 0 w) {v_a0 : Value} (f_a0 : Rd 5 encRec w v_a0 a0) {v_a1 : Value} (f_a1 : Rd 5 encRec w v_a1 a1) {r : Bool} (H : impl_SameLayer.sh a0 a1 = some r) :
    Calls Tryd.prog 45 #[v_a0, v_a1] w (Rt (RP w (.bool r))) := by
  unfold impl_SameLayer.sh at H
  refine calls_of_W Tryd.func45 rfl (Nat.le_of_ble_eq_true rfl) Tryd.ntmps45 rfl ?_
  refine W_seq <| W_reg <| L_op (.plain rfl) rfl (ltb rfl) (X_assign (v := (.bool false)) rfl) <| L_nil <| thn_n <| W_seq <| W_reg <| L_op (.plain rfl) rfl (ltb rfl) (X_move (v := v_a0) rfl) ?_
  obtain ⟨c1, H⟩ := bif_some H
  obtain ⟨c2, H⟩ := bif_some H
  refine L_callP (.plain rfl) rfl (ltb rfl) rfl Tryd.call39 (impl_LayerOK.calls (w := w) (a0 := a0) gv f_a0 (of_decide_eq_true c1) (of_decide_eq_true c2)) rfl <| fun w3 e4 => L_op (.plain rfl) rfl (ltb rfl) (X_move (v := (.bool (decide ((layerFaultL a0).2 = 0)))) rfl) ?_
  obtain ⟨z6, x7, H⟩ := bind_some H
  refine L_grpE 3 [(8, 11)] 10 (fun q => q = z6) ?_ ?_
  · rcases bif_two x7 with ⟨b4_, H⟩ | ⟨b4_, H⟩
    · refine L_op (.guard 2 true 7 rfl rfl (ltb rfl) (congrArg Value.bool b4_)) rfl (ltb rfl) (X_move (v := v_a1) rfl) ?_
      obtain ⟨c6, H⟩ := bif_some H
      obtain ⟨c7, H⟩ := bif_some H
      refine L_callP (.guard 2 true 7 rfl rfl (ltb rfl) (congrArg Value.bool b4_)) rfl (ltb rfl) rfl Tryd.call39 (impl_LayerOK.calls (w := w3) (a0 := a1) (GV.ext gv e4) (Rd.ext f_a1 e4) (of_decide_eq_true c6) (of_decide_eq_true c7)) rfl <| fun w8 e9 => L_op (.plain rfl) rfl (ltb rfl) (X_pick (b := true) (v := (.bool (decide ((layerFaultL a1).2 = 0)))) (congrArg Value.bool b4_) rfl) ?_
      obtain rfl := Option.some.inj H
      exact L_nil <| thn_n ⟨(Kp.upd (Kp.upd (Kp.upd (Kp.refl _ _) rfl) rfl) rfl), ⟨_, rfl, rfl⟩, e9⟩
    · refine L_skip rfl rfl (ltb rfl) (congrArg Value.bool b4_) rfl rfl (ltb rfl) <| L_skip rfl rfl (ltb rfl) (congrArg Value.bool b4_) rfl rfl (ltb rfl) <| L_op (.plain rfl) rfl (ltb rfl) (X_pick (b := false) (v := (.bool false)) (congrArg Value.bool b4_) rfl) ?_
      obtain rfl := Option.some.inj H
      exact L_nil <| thn_n ⟨(Kp.upd (Kp.upd (Kp.upd (Kp.refl _ _) rfl) rfl) rfl), ⟨_, rfl, rfl⟩, (Ext.refl w3)⟩
  intro s12 w8 z13 K9 hq h10 e11
  rw [hq] at h10; clear hq
  refine L_op (.plain rfl) rfl (ltb rfl) (X_move (v := (.bool z6)) h10) ?_
  obtain ⟨z15, x16, H⟩ := bind_some H
  refine L_grpE 4 [(12, 16)] 15 (fun q => q = z15) ?_ ?_
  · rcases bif_two x16 with ⟨b13_, H⟩ | ⟨b13_, H⟩
    · refine L_op (.guard 6 true 11 rfl rfl (ltb rfl) (congrArg Value.bool b13_)) rfl (ltb rfl) (X_move (v := v_a0) (K9 0 rfl)) <| L_op (.guard 6 true 11 rfl rfl (ltb rfl) (congrArg Value.bool b13_)) rfl (ltb rfl) (X_move (v := v_a1) (K9 1 rfl)) ?_
      obtain ⟨c15, H⟩ := bif_some H
      refine L_callP (.guard 6 true 11 rfl rfl (ltb rfl) (congrArg Value.bool b13_)) rfl (ltb rfl) rfl Tryd.call72 (slices_EqualR.calls (w := w8) (a0 := a0) (a1 := a1) (Rd.ext f_a0 (Ext.trans e4 e11)) (Rd.ext f_a1 (Ext.trans e4 e11)) (of_decide_eq_true c15)) rfl <| fun w16 e17 => L_op (.plain rfl) rfl (ltb rfl) (X_pick (b := true) (v := (.bool (decide (a0 = a1)))) (congrArg Value.bool b13_) rfl) ?_
      obtain rfl := Option.some.inj H
      exact L_nil <| thn_n ⟨(Kp.upd (Kp.upd (Kp.upd (Kp.upd (Kp.refl _ _) rfl) rfl) rfl) rfl), ⟨_, rfl, rfl⟩, e17⟩
    · refine L_skip rfl rfl (ltb rfl) (congrArg Value.bool b13_) rfl rfl (ltb rfl) <| L_skip rfl rfl (ltb rfl) (congrArg Value.bool b13_) rfl rfl (ltb rfl) <| L_skip rfl rfl (ltb rfl) (congrArg Value.bool b13_) rfl rfl (ltb rfl) <| L_op (.plain rfl) rfl (ltb rfl) (X_pick (b := false) (v := (.bool false)) (congrArg Value.bool b13_) rfl) ?_
      obtain rfl := Option.some.inj H
      exact L_nil <| thn_n ⟨(Kp.upd (Kp.upd (Kp.upd (Kp.upd (Kp.refl _ _) rfl) rfl) rfl) rfl), ⟨_, rfl, rfl⟩, (Ext.refl w8)⟩
  intro s21 w17 z22 K18 hq h19 e20
  rw [hq] at h19; clear hq
  refine L_op (.plain rfl) rfl (ltb rfl) (X_assign (v := (.bool z15)) h19) <| L_nil <| thn_n <| W_ret <| fin_r ?_
  obtain rfl := Option.some.inj H
  exact fin1 rfl (Ext.trans (Ext.trans e4 e11) e20)
theorem impl_SameLayer.calls {w : World} {a0 : List Rec} {a1 : List Rec} (gv : GV 0 w) {v_a0 : Value} (f_a0 : Rd 5 encRec w v_a0 a0) {v_a1 : Value} (f_a1 : Rd 5 encRec w v_a1 a1) (h0 : a0.length ≤ 1048576) (h1 : a1.length ≤ 1048576) (h2 : ∀ x ∈ a0, x.path.length ≤ 1048576) (h3 : ∀ x ∈ a1, x.path.length ≤ 1048576) :
    Calls Tryd.prog 45 #[v_a0, v_a1] w (Rt (RP w (.bool (sameLayer a0 a1)))) := impl_SameLayer.walk gv f_a0 f_a1 (impl_SameLayer.eq a0 a1 h0 h1 h2 h3)
/-! laws.FnExactSameLayer -/
theorem law_SameLayer.walk {w : World} {a0 : List Rec} {a1 : List Rec} (gv : GV 0 w) {v_a0 : Value} (f_a0 : Rd 5 encRec w v_a0 a0) {v_a1 : Value} (f_a1 : Rd 5 encRec w v_a1 a1) {r : Bool} (H : law_SameLayer.sh a0 a1 = some r) :
    Calls Tryd.prog 14 #[v_a0, v_a1] w (Rt (RP w (.bool r))) := by
  unfold law_SameLayer.sh at H
  refine calls_of_W Tryd.func14 rfl (Nat.le_of_ble_eq_true rfl) Tryd.ntmps14 rfl ?_
  refine W_seq <| W_reg <| L_op (.plain rfl) rfl (ltb rfl) (X_assign (v := (.bool false)) rfl) <| L_nil <| thn_n <| W_seq <| W_reg <| L_op (.plain rfl) rfl (ltb rfl) (X_assign (v := (.int .i64 1048576)) rfl) <| L_nil <| thn_n <| W_seq <| W_reg <| L_op (.plain rfl) rfl (ltb rfl) (X_move (v := v_a0) rfl) <| L_op (.plain rfl) rfl (ltb rfl) (X_move (v := (.int .i64 1048576)) rfl) ?_
  obtain ⟨c1, H⟩ := bif_some H
  obtain ⟨c2, H⟩ := bif_some H
  obtain ⟨c3, H⟩ := bif_some H
  obtain ⟨c4, H⟩ := bif_some H
  refine L_callP (.plain rfl) rfl (ltb rfl) rfl Tryd.call33 (laws_szRecordS.calls (w := w) (a0 := a0) (a1 := 1048576) f_a0 (of_decide_eq_true c1) (of_decide_eq_true c2) (of_decide_eq_true c3) (of_decide_eq_true c4)) rfl <| fun w5 e6 => L_op (.plain rfl) rfl (ltb rfl) (X_assign (v := (.int .i64 (szRecS a0 1048576))) rfl) <| L_nil <| thn_n <| W_seq <| W_seq <| W_reg <| L_op (.plain rfl) rfl (ltb rfl) (X_move (v := (.int .i64 (szRecS a0 1048576))) rfl) <| L_op (.plain rfl) rfl (ltb rfl) (X_lss rfl rfl) <| L_nil <| thn_n ?_
  rcases bif_two H with ⟨q7, H⟩ | ⟨q7, H⟩
  · refine W_true (congrArg Value.bool q7) <| W_seq <| W_reg <| L_op (.plain rfl) rfl (ltb rfl) (X_assign (v := (.bool true)) rfl) <| L_nil <| thn_n <| W_ret <| thn_r <| fin_r ?_
    obtain rfl := Option.some.inj H
    exact fin1 rfl e6
  · refine W_false (congrArg Value.bool q7) <| W_skip <| thn_n <| W_seq <| W_reg <| L_op (.plain rfl) rfl (ltb rfl) (X_move (v := v_a1) rfl) <| L_op (.plain rfl) rfl (ltb rfl) (X_move (v := (.int .i64 (szRecS a0 1048576))) rfl) ?_
    obtain ⟨c8, H⟩ := bif_some H
    obtain ⟨c9, H⟩ := bif_some H
    obtain ⟨c10, H⟩ := bif_some H
    obtain ⟨c11, H⟩ := bif_some H
    refine L_callP (.plain rfl) rfl (ltb rfl) rfl Tryd.call33 (laws_szRecordS.calls (w := w5) (a0 := a1) (a1 := (szRecS a0 1048576)) (Rd.ext f_a1 e6) (of_decide_eq_true c8) (of_decide_eq_true c9) (of_decide_eq_true c10) (of_decide_eq_true c11)) rfl <| fun w12 e13 => L_op (.plain rfl) rfl (ltb rfl) (X_assign (v := (.int .i64 (szRecS a1 (szRecS a0 1048576)))) rfl) <| L_nil <| thn_n <| W_seq <| W_seq <| W_reg <| L_op (.plain rfl) rfl (ltb rfl) (X_move (v := (.int .i64 (szRecS a1 (szRecS a0 1048576)))) rfl) <| L_op (.plain rfl) rfl (ltb rfl) (X_lss rfl rfl) <| L_nil <| thn_n ?_
    rcases bif_two H with ⟨q14, H⟩ | ⟨q14, H⟩
    · refine W_true (congrArg Value.bool q14) <| W_seq <| W_reg <| L_op (.plain rfl) rfl (ltb rfl) (X_assign (v := (.bool true)) rfl) <| L_nil <| thn_n <| W_ret <| thn_r <| fin_r ?_
      obtain rfl := Option.some.inj H
      exact fin1 rfl (Ext.trans e6 e13)
    · refine W_false (congrArg Value.bool q14) <| W_skip <| thn_n <| W_seq <| W_reg <| L_op (.plain rfl) rfl (ltb rfl) (X_move (v := v_a0) rfl) ?_
      obtain ⟨c15, H⟩ := bif_some H
      refine L_callO (.plain rfl) rfl (ltb rfl) rfl Tryd.call35 (laws_toRecordS.calls (w := w12) (a0 := a0) (Rd.ext f_a0 (Ext.trans e6 e13)) (of_decide_eq_true c15)) rfl <| fun v18 w16 e17 o19 => L_op (.plain rfl) rfl (ltb rfl) (X_move (v := v_a1) rfl) ?_
      obtain ⟨c20, H⟩ := bif_some H
      refine L_callO (.plain rfl) rfl (ltb rfl) rfl Tryd.call35 (laws_toRecordS.calls (w := w16) (a0 := a1) (Rd.ext f_a1 (Ext.trans (Ext.trans e6 e13) e17)) (of_decide_eq_true c20)) rfl <| fun v23 w21 e22 o24 => ?_
      obtain ⟨c25, H⟩ := bif_some H
      obtain ⟨c26, H⟩ := bif_some H
      obtain ⟨c27, H⟩ := bif_some H
      obtain ⟨c28, H⟩ := bif_some H
      refine L_callP (.plain rfl) rfl (ltb rfl) rfl Tryd.call44 (spec_SameLayer.calls (w := w21) (a0 := a0) (a1 := a1) (Own.rd (Own.ext o19 e22)) (Own.rd o24) (of_decide_eq_true c25) (of_decide_eq_true c26) (of_decide_eq_true c27) (of_decide_eq_true c28)) rfl <| fun w29 e30 => L_op (.plain rfl) rfl (ltb rfl) (X_assign (v := (.bool (sameLayer a0 a1))) rfl) <| L_nil <| thn_n <| W_seq <| W_reg <| L_op (.plain rfl) rfl (ltb rfl) (X_move (v := v_a0) rfl) ?_
      obtain ⟨c31, H⟩ := bif_some H
      refine L_callO (.plain rfl) rfl (ltb rfl) rfl Tryd.call35 (laws_toRecordS.calls (w := w29) (a0 := a0) (Rd.ext f_a0 (Ext.trans (Ext.trans (Ext.trans (Ext.trans e6 e13) e17) e22) e30)) (of_decide_eq_true c31)) rfl <| fun v34 w32 e33 o35 => L_op (.plain rfl) rfl (ltb rfl) (X_assign (v := v34) rfl) <| L_nil <| thn_n <| W_seq <| W_reg <| L_op (.plain rfl) rfl (ltb rfl) (X_move (v := v_a1) rfl) ?_
      obtain ⟨c36, H⟩ := bif_some H
      refine L_callO (.plain rfl) rfl (ltb rfl) rfl Tryd.call35 (laws_toRecordS.calls (w := w32) (a0 := a1) (Rd.ext f_a1 (Ext.trans (Ext.trans (Ext.trans (Ext.trans (Ext.trans e6 e13) e17) e22) e30) e33)) (of_decide_eq_true c36)) rfl <| fun v39 w37 e38 o40 => L_op (.plain rfl) rfl (ltb rfl) (X_assign (v := v39) rfl) <| L_nil <| thn_n <| W_seq <| W_reg <| L_op (.plain rfl) rfl (ltb rfl) (X_move (v := v34) rfl) <| L_op (.plain rfl) rfl (ltb rfl) (X_move (v := v39) rfl) ?_
      obtain ⟨c41, H⟩ := bif_some H
      obtain ⟨c42, H⟩ := bif_some H
      obtain ⟨c43, H⟩ := bif_some H
      obtain ⟨c44, H⟩ := bif_some H
      refine L_callP (.plain rfl) rfl (ltb rfl) rfl Tryd.call45 (impl_SameLayer.calls (w := w37) (a0 := a0) (a1 := a1) (GV.ext gv (Ext.trans (Ext.trans (Ext.trans (Ext.trans (Ext.trans (Ext.trans e6 e13) e17) e22) e30) e33) e38)) (Own.rd (Own.ext o35 e38)) (Own.rd o40) (of_decide_eq_true c41) (of_decide_eq_true c42) (of_decide_eq_true c43) (of_decide_eq_true c44)) rfl <| fun w45 e46 => L_op (.plain rfl) rfl (ltb rfl) (X_assign (v := (.bool (sameLayer a0 a1))) rfl) <| L_nil <| thn_n <| W_seq <| W_seq <| W_reg <| L_op (.plain rfl) rfl (ltb rfl) (X_move (v := (.bool (sameLayer a0 a1))) rfl) <| L_op (.plain rfl) rfl (ltb rfl) (X_move (v := (.bool (sameLayer a0 a1))) rfl) <| L_op (.plain rfl) rfl (ltb rfl) (X_bne Tryd.underlying4 rfl rfl) <| L_nil <| thn_n ?_
      rcases bif_two H with ⟨q47, H⟩ | ⟨q47, H⟩
      · refine W_true (congrArg Value.bool q47) <| W_seq <| W_reg <| L_op (.plain rfl) rfl (ltb rfl) (X_assign (v := (.bool false)) rfl) <| L_nil <| thn_n <| W_ret <| thn_r <| fin_r ?_
        obtain rfl := Option.some.inj H
        exact fin1 rfl (Ext.trans (Ext.trans (Ext.trans (Ext.trans (Ext.trans (Ext.trans (Ext.trans e6 e13) e17) e22) e30) e33) e38) e46)
      · refine W_false (congrArg Value.bool q47) <| W_skip <| thn_n <| W_seq <| W_seq <| W_reg <| L_op (.plain rfl) rfl (ltb rfl) (X_move (v := v34) rfl) <| L_op (.plain rfl) rfl (ltb rfl) (X_move (v := v_a0) rfl) ?_
        obtain ⟨c48, H⟩ := bif_some H
        refine L_callO (.plain rfl) rfl (ltb rfl) rfl Tryd.call35 (laws_toRecordS.calls (w := w45) (a0 := a0) (Rd.ext f_a0 (Ext.trans (Ext.trans (Ext.trans (Ext.trans (Ext.trans (Ext.trans (Ext.trans e6 e13) e17) e22) e30) e33) e38) e46)) (of_decide_eq_true c48)) rfl <| fun v51 w49 e50 o52 => ?_
        obtain ⟨c53, H⟩ := bif_some H
        refine L_callP (.plain rfl) rfl (ltb rfl) rfl Tryd.call37 (laws_eqRecordS.calls (w := w49) (a0 := a0) (a1 := a0) (Own.rd (Own.ext o35 (Ext.trans (Ext.trans e38 e46) e50))) (Own.rd o52) (of_decide_eq_true c53)) rfl <| fun w54 e55 => L_op (.plain rfl) rfl (ltb rfl) (X_not rfl) <| L_nil <| thn_n ?_
        rcases bif_two H with ⟨q56, H⟩ | ⟨q56, H⟩
        · refine W_true (congrArg Value.bool q56) <| W_seq <| W_reg <| L_op (.plain rfl) rfl (ltb rfl) (X_assign (v := (.bool false)) rfl) <| L_nil <| thn_n <| W_ret <| thn_r <| fin_r ?_
          obtain rfl := Option.some.inj H
          exact fin1 rfl (Ext.trans (Ext.trans (Ext.trans (Ext.trans (Ext.trans (Ext.trans (Ext.trans (Ext.trans (Ext.trans e6 e13) e17) e22) e30) e33) e38) e46) e50) e55)
        · refine W_false (congrArg Value.bool q56) <| W_skip <| thn_n <| W_seq <| W_seq <| W_reg <| L_op (.plain rfl) rfl (ltb rfl) (X_move (v := v39) rfl) <| L_op (.plain rfl) rfl (ltb rfl) (X_move (v := v_a1) rfl) ?_
          obtain ⟨c57, H⟩ := bif_some H
          refine L_callO (.plain rfl) rfl (ltb rfl) rfl Tryd.call35 (laws_toRecordS.calls (w := w54) (a0 := a1) (Rd.ext f_a1 (Ext.trans (Ext.trans (Ext.trans (Ext.trans (Ext.trans (Ext.trans (Ext.trans (Ext.trans (Ext.trans e6 e13) e17) e22) e30) e33) e38) e46) e50) e55)) (of_decide_eq_true c57)) rfl <| fun v60 w58 e59 o61 => ?_
          obtain ⟨c62, H⟩ := bif_some H
          refine L_callP (.plain rfl) rfl (ltb rfl) rfl Tryd.call37 (laws_eqRecordS.calls (w := w58) (a0 := a1) (a1 := a1) (Own.rd (Own.ext o40 (Ext.trans (Ext.trans (Ext.trans e46 e50) e55) e59))) (Own.rd o61) (of_decide_eq_true c62)) rfl <| fun w63 e64 => L_op (.plain rfl) rfl (ltb rfl) (X_not rfl) <| L_nil <| thn_n ?_
          rcases bif_two H with ⟨q65, H⟩ | ⟨q65, H⟩
          · refine W_true (congrArg Value.bool q65) <| W_seq <| W_reg <| L_op (.plain rfl) rfl (ltb rfl) (X_assign (v := (.bool false)) rfl) <| L_nil <| thn_n <| W_ret <| thn_r <| fin_r ?_
            obtain rfl := Option.some.inj H
            exact fin1 rfl (Ext.trans (Ext.trans (Ext.trans (Ext.trans (Ext.trans (Ext.trans (Ext.trans (Ext.trans (Ext.trans (Ext.trans (Ext.trans e6 e13) e17) e22) e30) e33) e38) e46) e50) e55) e59) e64)
          · refine W_false (congrArg Value.bool q65) <| W_skip <| thn_n <| W_seq <| W_reg <| L_op (.plain rfl) rfl (ltb rfl) (X_assign (v := (.bool true)) rfl) <| L_nil <| thn_n <| W_ret <| fin_r ?_
            obtain rfl := Option.some.inj H
            exact fin1 rfl (Ext.trans (Ext.trans (Ext.trans (Ext.trans (Ext.trans (Ext.trans (Ext.trans (Ext.trans (Ext.trans (Ext.trans (Ext.trans e6 e13) e17) e22) e30) e33) e38) e46) e50) e55) e59) e64)
theorem law_SameLayer.calls {w : World} {a0 : List Rec} {a1 : List Rec} (gv : GV 0 w) {v_a0 : Value} (f_a0 : Rd 5 encRec w v_a0 a0) {v_a1 : Value} (f_a1 : Rd 5 encRec w v_a1 a1) (h0 : ∀ x ∈ a0, okRec x) (h1 : a0.length ≤ 9223372036854775807) (h2 : ∀ x ∈ a1, okRec x) (h3 : a1.length ≤ 9223372036854775807) :
    Calls Tryd.prog 14 #[v_a0, v_a1] w (Rt (RP w (.bool true))) := law_SameLayer.walk gv f_a0 f_a1 (law_SameLayer.eq a0 a1 h0 h1 h2 h3)
end Go.Proofs.YtilogldgepaeiaaDoor
