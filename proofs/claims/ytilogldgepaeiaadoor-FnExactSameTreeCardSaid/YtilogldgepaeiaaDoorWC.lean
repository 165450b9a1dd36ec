/- The walks, by program (wip/tools). -/
import Derived.Test.YtilogldgepaeiaaDoorProg
import Derived.Test.YtilogldgepaeiaaDoorWB
set_option linter.unusedVariables false
set_option maxRecDepth 10000
namespace Go.Proofs.YtilogldgepaeiaaDoor
open Go.UL Go.RowKit
/-! laws.FnExactLayerOK -/
theorem law_LayerOK.walk {w : World} {a0 : List Rec} (gv : GV 0 w) {v_a0 : Value} (f_a0 : Rd 5 encRec w v_a0 a0) {r : Bool} (H : law_LayerOK.sh a0 = some r) :
    Calls Tryd.prog 11 #[v_a0] w (Rt (RP w (.bool r))) := by
  unfold law_LayerOK.sh at H
  refine calls_of_W Tryd.func11 rfl (Nat.le_of_ble_eq_true rfl) Tryd.ntmps11 rfl ?_
  refine W_seq <| W_reg <| L_op (.plain rfl) rfl (ltb rfl) (X_assign (v := (.bool false)) rfl) <| L_nil <| thn_n <| W_seq <| W_reg <| L_op (.plain rfl) rfl (ltb rfl) (X_assign (v := (.int .i64 1048576)) rfl) <| L_nil <| thn_n <| W_seq <| W_reg <| L_op (.plain rfl) rfl (ltb rfl) (X_move (v := v_a0) rfl) <| L_op (.plain rfl) rfl (ltb rfl) (X_move (v := (.int .i64 1048576)) rfl) ?_
  obtain ⟨c1, H⟩ := bif_some H
  obtain ⟨c2, H⟩ := bif_some H
  obtain ⟨c3, H⟩ := bif_some H
  obtain ⟨c4, H⟩ := bif_some H
  refine L_callP (.plain rfl) rfl (ltb rfl) rfl Tryd.call33 (laws_szRecordS.calls (w := w) (a0 := a0) (a1 := 1048576) f_a0 (of_decide_eq_true c1) (of_decide_eq_true c2) (of_decide_eq_true c3) (of_decide_eq_true c4)) rfl <| fun w5 e6 => L_op (.plain rfl) rfl (ltb rfl) (X_assign (v := (.int .i64 (szRecS a0 1048576))) rfl) <| L_nil <| thn_n <| W_seq <| W_seq <| W_reg <| L_op (.plain rfl) rfl (ltb rfl) (X_move (v := (.int .i64 (szRecS a0 1048576))) rfl) <| L_op (.plain rfl) rfl (ltb rfl) (X_lss rfl rfl) <| L_nil <| thn_n ?_
  rcases bif_two H with ⟨q7, H⟩ | ⟨q7, H⟩
  · refine W_true (congrArg Value.bool q7) <| W_seq <| W_reg <| L_op (.plain rfl) rfl (ltb rfl) (X_assign (v := (.bool true)) rfl) <| L_nil <| thn_n <| W_ret <| thn_r <| fin_r ?_
    obtain rfl := Option.some.inj H
    exact fin1 rfl e6
  · refine W_false (congrArg Value.bool q7) <| W_skip <| thn_n <| W_seq <| W_reg <| L_op (.plain rfl) rfl (ltb rfl) (X_move (v := v_a0) rfl) ?_
    obtain ⟨c8, H⟩ := bif_some H
    refine L_callO (.plain rfl) rfl (ltb rfl) rfl Tryd.call35 (laws_toRecordS.calls (w := w5) (a0 := a0) (Rd.ext f_a0 e6) (of_decide_eq_true c8)) rfl <| fun v11 w9 e10 o12 => ?_
    obtain ⟨c13, H⟩ := bif_some H
    obtain ⟨c14, H⟩ := bif_some H
    refine L_callP (.plain rfl) rfl (ltb rfl) rfl Tryd.call38 (spec_LayerOK.calls (w := w9) (a0 := a0) (Own.rd o12) (of_decide_eq_true c13) (of_decide_eq_true c14)) rfl <| fun w15 e16 => L_op (.plain rfl) rfl (ltb rfl) (X_assign (v := (.bool (decide ((layerFaultL a0).2 = 0)))) rfl) <| L_nil <| thn_n <| W_seq <| W_reg <| L_op (.plain rfl) rfl (ltb rfl) (X_move (v := v_a0) rfl) ?_
    obtain ⟨c17, H⟩ := bif_some H
    refine L_callO (.plain rfl) rfl (ltb rfl) rfl Tryd.call35 (laws_toRecordS.calls (w := w15) (a0 := a0) (Rd.ext f_a0 (Ext.trans (Ext.trans e6 e10) e16)) (of_decide_eq_true c17)) rfl <| fun v20 w18 e19 o21 => L_op (.plain rfl) rfl (ltb rfl) (X_assign (v := v20) rfl) <| L_nil <| thn_n <| W_seq <| W_reg <| L_op (.plain rfl) rfl (ltb rfl) (X_move (v := v20) rfl) ?_
    obtain ⟨c22, H⟩ := bif_some H
    obtain ⟨c23, H⟩ := bif_some H
    refine L_callP (.plain rfl) rfl (ltb rfl) rfl Tryd.call39 (impl_LayerOK.calls (w := w18) (a0 := a0) (GV.ext gv (Ext.trans (Ext.trans (Ext.trans e6 e10) e16) e19)) (Own.rd o21) (of_decide_eq_true c22) (of_decide_eq_true c23)) rfl <| fun w24 e25 => L_op (.plain rfl) rfl (ltb rfl) (X_assign (v := (.bool (decide ((layerFaultL a0).2 = 0)))) rfl) <| L_nil <| thn_n <| W_seq <| W_seq <| W_reg <| L_op (.plain rfl) rfl (ltb rfl) (X_move (v := (.bool (decide ((layerFaultL a0).2 = 0)))) rfl) <| L_op (.plain rfl) rfl (ltb rfl) (X_move (v := (.bool (decide ((layerFaultL a0).2 = 0)))) rfl) <| L_op (.plain rfl) rfl (ltb rfl) (X_bne Tryd.underlying4 rfl rfl) <| L_nil <| thn_n ?_
    rcases bif_two H with ⟨q26, H⟩ | ⟨q26, H⟩
    · refine W_true (congrArg Value.bool q26) <| W_seq <| W_reg <| L_op (.plain rfl) rfl (ltb rfl) (X_assign (v := (.bool false)) rfl) <| L_nil <| thn_n <| W_ret <| thn_r <| fin_r ?_
      obtain rfl := Option.some.inj H
      exact fin1 rfl (Ext.trans (Ext.trans (Ext.trans (Ext.trans e6 e10) e16) e19) e25)
    · refine W_false (congrArg Value.bool q26) <| W_skip <| thn_n <| W_seq <| W_seq <| W_reg <| L_op (.plain rfl) rfl (ltb rfl) (X_move (v := v20) rfl) <| L_op (.plain rfl) rfl (ltb rfl) (X_move (v := v_a0) rfl) ?_
      obtain ⟨c27, H⟩ := bif_some H
      refine L_callO (.plain rfl) rfl (ltb rfl) rfl Tryd.call35 (laws_toRecordS.calls (w := w24) (a0 := a0) (Rd.ext f_a0 (Ext.trans (Ext.trans (Ext.trans (Ext.trans e6 e10) e16) e19) e25)) (of_decide_eq_true c27)) rfl <| fun v30 w28 e29 o31 => ?_
      obtain ⟨c32, H⟩ := bif_some H
      refine L_callP (.plain rfl) rfl (ltb rfl) rfl Tryd.call37 (laws_eqRecordS.calls (w := w28) (a0 := a0) (a1 := a0) (Own.rd (Own.ext o21 (Ext.trans e25 e29))) (Own.rd o31) (of_decide_eq_true c32)) rfl <| fun w33 e34 => L_op (.plain rfl) rfl (ltb rfl) (X_not rfl) <| L_nil <| thn_n ?_
      rcases bif_two H with ⟨q35, H⟩ | ⟨q35, H⟩
      · refine W_true (congrArg Value.bool q35) <| W_seq <| W_reg <| L_op (.plain rfl) rfl (ltb rfl) (X_assign (v := (.bool false)) rfl) <| L_nil <| thn_n <| W_ret <| thn_r <| fin_r ?_
        obtain rfl := Option.some.inj H
        exact fin1 rfl (Ext.trans (Ext.trans (Ext.trans (Ext.trans (Ext.trans (Ext.trans e6 e10) e16) e19) e25) e29) e34)
      · refine W_false (congrArg Value.bool q35) <| W_skip <| thn_n <| W_seq <| W_reg <| L_op (.plain rfl) rfl (ltb rfl) (X_assign (v := (.bool true)) rfl) <| L_nil <| thn_n <| W_ret <| fin_r ?_
        obtain rfl := Option.some.inj H
        exact fin1 rfl (Ext.trans (Ext.trans (Ext.trans (Ext.trans (Ext.trans (Ext.trans e6 e10) e16) e19) e25) e29) e34)
theorem law_LayerOK.calls {w : World} {a0 : List Rec} (gv : GV 0 w) {v_a0 : Value} (f_a0 : Rd 5 encRec w v_a0 a0) (h0 : ∀ x ∈ a0, okRec x) (h1 : a0.length ≤ 9223372036854775807) :
    Calls Tryd.prog 11 #[v_a0] w (Rt (RP w (.bool true))) := law_LayerOK.walk gv f_a0 (law_LayerOK.eq a0 h0 h1)
/-! spec.SizeOf -/
theorem spec_SizeOf.walk {k : Nat} {w : World} {a0 : List Rec} {v_a0 : Value} (f_a0 : Rd 5 encRec w v_a0 a0) {r : Int × Int} (H : spec_SizeOf.sh k a0 = some r) :
    Calls Tryd.prog 40 #[v_a0] w (Rt (RP w (.tuple #[.int .i64 r.1, .int .i64 r.2]))) := by
  unfold spec_SizeOf.sh at H
  refine calls_of_W Tryd.func40 rfl (Nat.le_of_ble_eq_true rfl) Tryd.ntmps40 rfl ?_
  refine W_seq <| W_reg <| L_op (.plain rfl) rfl (ltb rfl) (X_assign (v := (.int .i64 0)) rfl) <| L_op (.plain rfl) rfl (ltb rfl) (X_assign (v := (.int .i64 0)) rfl) <| L_nil <| thn_n <| W_seq <| W_seq <| W_reg <| L_op (.plain rfl) rfl (ltb rfl) (X_move (v := v_a0) rfl) <| L_op (.plain rfl) rfl (ltb rfl) (X_lenR Tryd.underlying48 rfl f_a0) <| L_op (.plain rfl) rfl (ltb rfl) (X_gtr rfl rfl) <| L_nil <| thn_n ?_
  rcases bif_two H with ⟨q1, H⟩ | ⟨q1, H⟩
  · refine W_true (congrArg Value.bool q1) <| W_seq <| W_reg <| L_op (.plain rfl) rfl (ltb rfl) (X_assign (v := (.int .i64 0)) rfl) <| L_op (.plain rfl) rfl (ltb rfl) (X_assign (v := (.int .i64 2)) rfl) <| L_nil <| thn_n <| W_ret <| thn_r <| fin_r ?_
    obtain rfl := Option.some.inj H
    exact fin2 rfl rfl (Ext.refl w)
  · refine W_false (congrArg Value.bool q1) <| W_skip <| thn_n <| W_seq <| W_seq <| W_reg <| L_op (.plain rfl) rfl (ltb rfl) (X_move (v := v_a0) rfl) ?_
    obtain ⟨c2, H⟩ := bif_some H
    obtain ⟨c3, H⟩ := bif_some H
    refine L_callP (.plain rfl) rfl (ltb rfl) rfl Tryd.call68 (spec_l03OK.calls (w := w) (a0 := a0) f_a0 (of_decide_eq_true c2) (of_decide_eq_true c3)) rfl <| fun w4 e5 => L_op (.plain rfl) rfl (ltb rfl) (X_not rfl) <| L_nil <| thn_n ?_
    rcases bif_two H with ⟨q6, H⟩ | ⟨q6, H⟩
    · refine W_true (congrArg Value.bool q6) <| W_seq <| W_reg <| L_op (.plain rfl) rfl (ltb rfl) (X_assign (v := (.int .i64 0)) rfl) <| L_op (.plain rfl) rfl (ltb rfl) (X_assign (v := (.int .i64 1)) rfl) <| L_nil <| thn_n <| W_ret <| thn_r <| fin_r ?_
      obtain rfl := Option.some.inj H
      exact fin2 rfl rfl e5
    · refine W_false (congrArg Value.bool q6) <| W_skip <| thn_n <| W_seq <| W_reg <| L_op (.plain rfl) rfl (ltb rfl) (X_assign (v := (.int .i64 0)) rfl) <| L_nil <| thn_n <| W_seq <| W_seq <| W_reg <| L_op (.plain rfl) rfl (ltb rfl) (X_assign (v := (.int .i64 0)) rfl) <| L_nil <| thn_n ?_
      obtain ⟨z9, L10, C11⟩ := bind_some H
      clear H
      refine  W_cutQ (fun s0 s9 w9 => ∃ (x4_12 : Int), Kp [(4, 6), (12, 34)] s0 s9 ∧ s9 4 = .int .i64 x4_12 ∧ Ext w4 w9 ∧ z9 = .inr x4_12) ?_ ?_
      · refine W_block <| W_loopI (fun s0 kk s9 w9 => ∃ (x4_7 : Int) (x5_8 : Int), Kp [(4, 6), (12, 34)] s0 s9 ∧ s9 4 = .int .i64 x4_7 ∧ s9 5 = .int .i64 x5_8 ∧ Ext w4 w9 ∧ loopF (spec_SizeOf.b1 a0) kk (x4_7, x5_8) = some z9) k ⟨0, 0, (Kp.refl _ _), rfl, rfl, (Ext.refl w4), L10⟩ ?_
        rintro k17 s18 w19 ⟨x4_7, x5_8, K20, h23, h24, e21, L22⟩
        cases k17 with
        | zero => exact absurd L22 (by simp [loopF])
        | succ k17 =>
          obtain ⟨t25, H, S26⟩ := loopF_succ L22
          clear L22
          unfold spec_SizeOf.b1 at H
          refine W_seq <| W_seq <| W_reg <| L_op (.plain rfl) rfl (ltb rfl) (X_move (v := (.int .i64 x5_8)) h24) <| L_op (.plain rfl) rfl (ltb rfl) (X_move (v := v_a0) (K20 0 rfl)) <| L_op (.plain rfl) rfl (ltb rfl) (X_lenR Tryd.underlying48 rfl (Rd.ext f_a0 (Ext.trans e5 e21))) <| L_op (.plain rfl) rfl (ltb rfl) (X_lss rfl rfl) <| L_nil <| thn_n ?_
          rcases bif_two H with ⟨q27, H⟩ | ⟨q27, H⟩
          · refine W_true (congrArg Value.bool q27) <| W_skip <| thn_n <| W_seq <| W_block ?_
            obtain ⟨c28, H⟩ := bif_some H
            obtain ⟨c31, H⟩ := bif_some H
            refine W_drawM [LEq (.int .i64 x4_7), LEq v_a0, LEq (.int .i64 x5_8), LAt0 (encRec (gt a0 x5_8)), LAt 1 (encRec (gt a0 x5_8)), LEq (S ((gt a0 x5_8).path)), LEq (.int .i64 (((gt a0 x5_8).path).length : Int)), LEq (.int .i64 (IntKind.wrap .i64 (4 + (((gt a0 x5_8).path).length : Int)))), LEq v_a0, LEq (.int .i64 x5_8), LAt0 (encRec (gt a0 x5_8)), LAt 2 (encRec (gt a0 x5_8)), LEq (S ((gt a0 x5_8).body)), LEq (.int .i64 (((gt a0 x5_8).body).length : Int)), LEq (.int .i64 (IntKind.wrap .i64 ((IntKind.wrap .i64 (4 + (((gt a0 x5_8).path).length : Int))) + (((gt a0 x5_8).body).length : Int)))), LEq (.int .i64 (IntKind.wrap .i64 (x4_7 + (IntKind.wrap .i64 ((IntKind.wrap .i64 (4 + (((gt a0 x5_8).path).length : Int))) + (((gt a0 x5_8).body).length : Int)))))), LEq (.int .i64 (IntKind.wrap .i64 (x4_7 + (IntKind.wrap .i64 ((IntKind.wrap .i64 (4 + (((gt a0 x5_8).path).length : Int))) + (((gt a0 x5_8).body).length : Int))))))] (by kernel_rfl) (by kernel_rfl) ⟨LEq.mono, LEq.mono, LEq.mono, LAt0.mono, LAt.mono, LEq.mono, LEq.mono, LEq.mono, LEq.mono, LEq.mono, LAt0.mono, LAt.mono, LEq.mono, LEq.mono, LEq.mono, LEq.mono, LEq.mono, trivial⟩ ⟨?_, ?_, ?_, ?_, ?_, ?_, ?_, ?_, ?_, ?_, ?_, ?_, ?_, ?_, ?_, ?_, ?_, trivial⟩ ?_
            · intro s34 w35 e36 hf37 hd38 hu39
              exact L_op (.plain rfl) rfl (ltb rfl) (X_move (v := (.int .i64 x4_7)) ((hu39 16 rfl).trans h23)) <| L_nil <| stepEnd rfl rfl (Ext.refl w35) rfl
            · intro s40 w41 e42 hf43 hd44 hu45
              exact L_op (.plain rfl) rfl (ltb rfl) (X_move (v := v_a0) ((hf43 0 rfl).trans (K20 0 rfl))) <| L_nil <| stepEnd rfl rfl (Ext.refl w41) rfl
            · intro s46 w47 e48 hf49 hd50 hu51
              exact L_op (.plain rfl) rfl (ltb rfl) (X_move (v := (.int .i64 x5_8)) ((hf49 5 rfl).trans h24)) <| L_nil <| stepEnd rfl rfl (Ext.refl w47) rfl
            · intro s52 w53 e54 hf55 hd56 hu57
              have d58 : s52 19 = v_a0 := (hd56 1 rfl)
              have d59 : s52 20 = (.int .i64 x5_8) := (hd56 2 rfl)
              have c60 := c31
              exact L_idx (.plain rfl) rfl (ltb rfl) rfl Tryd.underlying48 Tryd.sizeOf23 d58 (Rd.ext f_a0 (Ext.trans (Ext.trans e5 e21) e54)) d59 c60 <| fun p61 h62 => L_nil <| stepEnd rfl rfl (Ext.refl w53) ⟨_, rfl, h62⟩
            · intro s63 w64 e65 hf66 hd67 hu68
              obtain ⟨p69, h70, h71⟩ := (hd67 3 rfl)
              exact L_op (.plain rfl) rfl (ltb rfl) (X_fieldAddr Tryd.underlying23 rfl Tryd.sizeOf9 rfl h70) <| L_nil <| stepEnd rfl rfl (Ext.refl w64) ⟨_, rfl, h71⟩
            · intro s72 w73 e74 hf75 hd76 hu77
              obtain ⟨p78, h79, h80⟩ := (hd76 4 rfl)
              exact L_op (.plain rfl) rfl (ltb rfl) (X_loadF Tryd.isAgg9 (j := 1) h80 h79 rfl) <| L_nil <| stepEnd rfl rfl (Ext.refl w73) rfl
            · intro s81 w82 e83 hf84 hd85 hu86
              have d87 : s81 23 = (S ((gt a0 x5_8).path)) := (hd85 5 rfl)
              exact L_op (.plain rfl) rfl (ltb rfl) (X_lenS Tryd.underlying9 d87) <| L_nil <| stepEnd rfl rfl (Ext.refl w82) rfl
            · intro s88 w89 e90 hf91 hd92 hu93
              have d94 : s88 24 = (.int .i64 (((gt a0 x5_8).path).length : Int)) := (hd92 6 rfl)
              exact L_op (.plain rfl) rfl (ltb rfl) (X_add rfl d94) <| L_nil <| stepEnd rfl rfl (Ext.refl w89) rfl
            · intro s95 w96 e97 hf98 hd99 hu100
              exact L_op (.plain rfl) rfl (ltb rfl) (X_move (v := v_a0) ((hf98 0 rfl).trans (K20 0 rfl))) <| L_nil <| stepEnd rfl rfl (Ext.refl w96) rfl
            · intro s101 w102 e103 hf104 hd105 hu106
              exact L_op (.plain rfl) rfl (ltb rfl) (X_move (v := (.int .i64 x5_8)) ((hf104 5 rfl).trans h24)) <| L_nil <| stepEnd rfl rfl (Ext.refl w102) rfl
            · intro s107 w108 e109 hf110 hd111 hu112
              have d113 : s107 26 = v_a0 := (hd111 8 rfl)
              have d114 : s107 27 = (.int .i64 x5_8) := (hd111 9 rfl)
              have c115 := c31
              exact L_idx (.plain rfl) rfl (ltb rfl) rfl Tryd.underlying48 Tryd.sizeOf23 d113 (Rd.ext f_a0 (Ext.trans (Ext.trans e5 e21) e109)) d114 c115 <| fun p116 h117 => L_nil <| stepEnd rfl rfl (Ext.refl w108) ⟨_, rfl, h117⟩
            · intro s118 w119 e120 hf121 hd122 hu123
              obtain ⟨p124, h125, h126⟩ := (hd122 10 rfl)
              exact L_op (.plain rfl) rfl (ltb rfl) (X_fieldAddr Tryd.underlying23 rfl Tryd.sizeOf9 rfl h125) <| L_nil <| stepEnd rfl rfl (Ext.refl w119) ⟨_, rfl, h126⟩
            · intro s127 w128 e129 hf130 hd131 hu132
              obtain ⟨p133, h134, h135⟩ := (hd131 11 rfl)
              exact L_op (.plain rfl) rfl (ltb rfl) (X_loadF Tryd.isAgg9 (j := 2) h135 h134 rfl) <| L_nil <| stepEnd rfl rfl (Ext.refl w128) rfl
            · intro s136 w137 e138 hf139 hd140 hu141
              have d142 : s136 30 = (S ((gt a0 x5_8).body)) := (hd140 12 rfl)
              exact L_op (.plain rfl) rfl (ltb rfl) (X_lenS Tryd.underlying9 d142) <| L_nil <| stepEnd rfl rfl (Ext.refl w137) rfl
            · intro s143 w144 e145 hf146 hd147 hu148
              have d149 : s143 25 = (.int .i64 (IntKind.wrap .i64 (4 + (((gt a0 x5_8).path).length : Int)))) := (hd147 7 rfl)
              have d150 : s143 31 = (.int .i64 (((gt a0 x5_8).body).length : Int)) := (hd147 13 rfl)
              exact L_op (.plain rfl) rfl (ltb rfl) (X_add d149 d150) <| L_nil <| stepEnd rfl rfl (Ext.refl w144) rfl
            · intro s151 w152 e153 hf154 hd155 hu156
              have d157 : s151 18 = (.int .i64 x4_7) := (hd155 0 rfl)
              have d158 : s151 32 = (.int .i64 (IntKind.wrap .i64 ((IntKind.wrap .i64 (4 + (((gt a0 x5_8).path).length : Int))) + (((gt a0 x5_8).body).length : Int)))) := (hd155 14 rfl)
              exact L_op (.plain rfl) rfl (ltb rfl) (X_add d157 d158) <| L_nil <| stepEnd rfl rfl (Ext.refl w152) rfl
            · intro s159 w160 e161 hf162 hd163 hu164
              have d165 : s159 33 = (.int .i64 (IntKind.wrap .i64 (x4_7 + (IntKind.wrap .i64 ((IntKind.wrap .i64 (4 + (((gt a0 x5_8).path).length : Int))) + (((gt a0 x5_8).body).length : Int)))))) := (hd163 15 rfl)
              exact L_op (.plain rfl) rfl (ltb rfl) (X_assign d165) <| L_nil <| stepEnd rfl rfl (Ext.refl w160) rfl
            intro s166 w167 e168 hf169 ha170
            have K171 := Kp.ofD (kp := [(4, 5), (18, 34)]) rfl hf169
            have d172 : s166 4 = (.int .i64 (IntKind.wrap .i64 (x4_7 + (IntKind.wrap .i64 ((IntKind.wrap .i64 (4 + (((gt a0 x5_8).path).length : Int))) + (((gt a0 x5_8).body).length : Int)))))) := ha170 16 rfl
            clear ha170 hf169
            refine blk_n <| thn_n <| W_reg <| L_op (.plain rfl) rfl (ltb rfl) (X_move (v := (.int .i64 x5_8)) ((K171 5 rfl).trans h24)) <| L_op (.plain rfl) rfl (ltb rfl) (X_add rfl rfl) <| L_op (.plain rfl) rfl (ltb rfl) (X_assign (v := (.int .i64 (IntKind.wrap .i64 (x5_8 + 1)))) rfl) <| L_nil <| thn_n ?_
            obtain rfl := Option.some.inj H
            exact ⟨_, Nat.lt_succ_self _, IntKind.wrap .i64 (x4_7 + (IntKind.wrap .i64 ((IntKind.wrap .i64 (4 + (((gt a0 x5_8).path).length : Int))) + (((gt a0 x5_8).body).length : Int)))), IntKind.wrap .i64 (x5_8 + 1), (Kp.upd (Kp.upd (Kp.upd (Kp.cut (Kp.upd (Kp.upd (Kp.upd (Kp.upd K20 rfl) rfl) rfl) rfl) K171 rfl) rfl) rfl) rfl), d172, rfl, (Ext.trans e21 e168), S26⟩
          · refine W_false (congrArg Value.bool q27) <| W_exit <| thn_x <| thn_x <| blk_x <| thn_n ?_
            obtain rfl := Option.some.inj H
            obtain rfl := Option.some.inj S26
            exact ⟨x4_7, (Kp.upd (Kp.upd (Kp.upd (Kp.upd K20 rfl) rfl) rfl) rfl), h23, e21, rfl⟩
      · rintro s14 w13 ⟨x4_12, K15, h173, e16, y174⟩
        rw [y174] at C11
        have H := C11
        replace H : _ = some _ := H
        refine thn_n <| W_seq <| W_reg <| L_op (.plain rfl) rfl (ltb rfl) (X_move (v := (.int .i64 x4_12)) h173) <| L_op (.plain rfl) rfl (ltb rfl) (X_assign (v := (.int .i64 x4_12)) rfl) <| L_op (.plain rfl) rfl (ltb rfl) (X_assign (v := (.int .i64 0)) rfl) <| L_nil <| thn_n <| W_ret <| fin_r ?_
        obtain rfl := Option.some.inj H
        exact fin2 rfl rfl (Ext.trans e5 e16)
theorem spec_SizeOf.calls {w : World} {a0 : List Rec} {v_a0 : Value} (f_a0 : Rd 5 encRec w v_a0 a0) (h0 : a0.length ≤ 1048576) (h1 : ∀ x ∈ a0, x.path.length ≤ 1048576) (h2 : ∀ x ∈ a0, x.body.length ≤ 1048576) :
    Calls Tryd.prog 40 #[v_a0] w (Rt (RP w (.tuple #[.int .i64 ((sizeOfL a0).1), .int .i64 ((sizeOfL a0).2)]))) := by
  obtain ⟨k, h⟩ := spec_SizeOf.eq a0 h0 h1 h2
  exact spec_SizeOf.walk f_a0 h
/-! impl.SizeOf -/
theorem impl_SizeOf.walk {k : Nat} {w : World} {a0 : List Rec} (gv : GV 0 w) {v_a0 : Value} (f_a0 : Rd 5 encRec w v_a0 a0) {r : Int × Int} (H : impl_SizeOf.sh k a0 = some r) :
    Calls Tryd.prog 41 #[v_a0] w (Rt (RP w (.tuple #[.int .i64 r.1, .int .i64 r.2]))) := by
  unfold impl_SizeOf.sh at H
  refine calls_of_W Tryd.func41 rfl (Nat.le_of_ble_eq_true rfl) Tryd.ntmps41 rfl ?_
  refine W_seq <| W_reg <| L_op (.plain rfl) rfl (ltb rfl) (X_assign (v := (.int .i64 0)) rfl) <| L_op (.plain rfl) rfl (ltb rfl) (X_assign (v := (.int .i64 0)) rfl) <| L_nil <| thn_n <| W_seq <| W_seq <| W_reg <| L_op (.plain rfl) rfl (ltb rfl) (X_move (v := v_a0) rfl) <| L_callP (.plain rfl) rfl (ltb rfl) rfl Tryd.call66 (impl_isLongListR.calls (w := w) (a0 := a0) f_a0) rfl <| fun w1 e2 => L_op (.plain rfl) rfl (ltb rfl) (X_mkiface Tryd.underlying4 rfl rfl) <| L_op (.plain rfl) rfl (ltb rfl) (X_mkiface Tryd.underlying3 rfl rfl) <| L_op (.plain rfl) rfl (ltb rfl) (X_move (v := v_a0) rfl) ?_
  obtain ⟨c3, H⟩ := bif_some H
  obtain ⟨c4, H⟩ := bif_some H
  refine L_callP (.plain rfl) rfl (ltb rfl) rfl Tryd.call39 (impl_LayerOK.calls (w := w1) (a0 := a0) (GV.ext gv e2) (Rd.ext f_a0 e2) (of_decide_eq_true c3) (of_decide_eq_true c4)) rfl <| fun w5 e6 => L_op (.plain rfl) rfl (ltb rfl) (X_not rfl) <| L_op (.plain rfl) rfl (ltb rfl) (X_mkiface Tryd.underlying4 rfl rfl) <| L_op (.plain rfl) rfl (ltb rfl) (X_mkiface Tryd.underlying3 rfl rfl) <| L_lit (.plain rfl) rfl (ltb rfl) rfl Tryd.underlying74 Tryd.sizeOf20 Tryd.zeroValue20 rfl rfl rfl (vs := [(.iface 4 (.bool (decide (4096 < a0.length)))), (.iface 3 (.int .i64 2)), (.iface 4 (.bool (!(decide ((layerFaultL a0).2 = 0))))), (.iface 3 (.int .i64 1))]) rfl (lit_all rfl) <| fun b7 w8 z9 z10 e11 k12 => ?_
  obtain ⟨c13, H⟩ := bif_some H
  obtain ⟨z16, x17, H⟩ := bind_some H
  replace x17 := Option.some.inj x17
  refine L_callP (.plain rfl) rfl (ltb rfl) rfl Tryd.call50 (impl_first.calls (w := w8) (a0 := ([.inl (decide (4096 < a0.length)), .inr 2, .inl (!(decide ((layerFaultL a0).2 = 0))), .inr 1] : List (Bool ⊕ Int))) (Own.rd (Own.new (xs := [.inl (decide (4096 < a0.length)), .inr 2, .inl (!(decide ((layerFaultL a0).2 = 0))), .inr 1]) (sz := 1) (enc := (encAny 4 3)) (base := w5.heap.size) k12 (Nat.le_of_eq z9) rfl (fun _ _ => by first | rfl | exact encAny_len _ _ _) (Nat.le_of_ble_eq_true rfl))) (of_decide_eq_true c13)) rfl <| fun w14 e15 => L_op (.plain rfl) rfl (ltb rfl) (X_assign (v := (.int .i64 z16)) (congrArg (Value.int .i64) x17)) <| L_nil <| thn_n <| W_seq <| W_reg <| L_op (.plain rfl) rfl (ltb rfl) (X_move (v := (.int .i64 z16)) rfl) <| L_op (.plain rfl) rfl (ltb rfl) (X_neq rfl rfl) <| L_nil <| thn_n ?_
  rcases bif_two H with ⟨q18, H⟩ | ⟨q18, H⟩
  · refine W_true (congrArg Value.bool q18) <| W_seq <| W_reg <| L_op (.plain rfl) rfl (ltb rfl) (X_move (v := (.int .i64 z16)) rfl) <| L_op (.plain rfl) rfl (ltb rfl) (X_assign (v := (.int .i64 0)) rfl) <| L_op (.plain rfl) rfl (ltb rfl) (X_assign (v := (.int .i64 z16)) rfl) <| L_nil <| thn_n <| W_ret <| thn_r <| fin_r ?_
    obtain rfl := Option.some.inj H
    exact fin2 rfl rfl (Ext.trans (Ext.trans (Ext.trans e2 e6) e11) e15)
  · refine W_false (congrArg Value.bool q18) <| W_skip <| thn_n <| W_seq <| W_reg <| L_op (.plain rfl) rfl (ltb rfl) (X_assign (v := (.int .i64 0)) rfl) <| L_nil <| thn_n <| W_seq <| W_seq <| W_reg <| L_op (.plain rfl) rfl (ltb rfl) (X_move (v := v_a0) rfl) <| L_op (.plain rfl) rfl (ltb rfl) (X_lenR Tryd.underlying48 rfl (Rd.ext f_a0 (Ext.trans (Ext.trans (Ext.trans e2 e6) e11) e15))) <| L_op (.plain rfl) rfl (ltb rfl) (X_move (v := (.int .i64 0)) rfl) <| L_nil <| thn_n ?_
    obtain ⟨z21, L22, C23⟩ := bind_some H
    clear H
    refine  W_cutQ (fun s0 s9 w9 => ∃ (x5_24 : Int), Kp [(5, 6), (7, 8), (24, 39)] s0 s9 ∧ s9 5 = .int .i64 x5_24 ∧ Ext w14 w9 ∧ z21 = .inr x5_24) ?_ ?_
    · refine W_block <| W_loopI (fun s0 kk s9 w9 => ∃ (x5_19 : Int) (x24_20 : Int), Kp [(5, 6), (7, 8), (24, 39)] s0 s9 ∧ s9 5 = .int .i64 x5_19 ∧ s9 24 = .int .i64 x24_20 ∧ Ext w14 w9 ∧ loopF (impl_SizeOf.b1 a0) kk (x5_19, x24_20) = some z21) k ⟨0, 0, (Kp.refl _ _), rfl, rfl, (Ext.refl w14), L22⟩ ?_
      rintro k29 s30 w31 ⟨x5_19, x24_20, K32, h35, h36, e33, L34⟩
      cases k29 with
      | zero => exact absurd L34 (by simp [loopF])
      | succ k29 =>
        obtain ⟨t37, H, S38⟩ := loopF_succ L34
        clear L34
        unfold impl_SizeOf.b1 at H
        refine W_seq <| W_reg <| L_op (.plain rfl) rfl (ltb rfl) (X_lss h36 (K32 23 rfl)) <| L_nil <| thn_n <| W_seq ?_
        rcases bif_two H with ⟨q39, H⟩ | ⟨q39, H⟩
        · refine W_true (congrArg Value.bool q39) <| W_skip <| thn_n <| W_seq <| W_block <| W_seq <| W_reg ?_
          obtain ⟨c40, H⟩ := bif_some H
          refine L_idx (.plain rfl) rfl (ltb rfl) rfl Tryd.underlying48 Tryd.sizeOf23 (K32 22 rfl) (Rd.ext f_a0 (Ext.trans (Ext.trans (Ext.trans (Ext.trans e2 e6) e11) e15) e33)) h36 c40 <| fun p41 h42 => L_op (.plain rfl) rfl (ltb rfl) (X_loadS Tryd.isAgg23 Tryd.sizeOf23 rfl rfl h42) <| L_alloc (.plain rfl) rfl (ltb rfl) rfl Tryd.zeroValue23 <| fun b43 w44 z45 z46 e47 k48 => L_storeA (.plain rfl) rfl rfl Tryd.sizeOf23 rfl rfl rfl rfl rfl k48 <| fun w49 h50 k51 => L_nil <| thn_n <| W_reg <| L_op (.plain rfl) rfl (ltb rfl) (X_move (v := (.int .i64 x5_19)) h35) <| L_op (.plain rfl) rfl (ltb rfl) (X_fieldAddr Tryd.underlying23 rfl Tryd.sizeOf9 rfl rfl) <| L_op (.plain rfl) rfl (ltb rfl) (X_loadB Tryd.isAgg9 k51 rfl rfl) <| L_op (.plain rfl) rfl (ltb rfl) (X_lenS Tryd.underlying9 rfl) <| L_op (.plain rfl) rfl (ltb rfl) (X_fieldAddr Tryd.underlying23 rfl Tryd.sizeOf9 rfl rfl) <| L_op (.plain rfl) rfl (ltb rfl) (X_loadB Tryd.isAgg9 k51 rfl rfl) <| L_op (.plain rfl) rfl (ltb rfl) (X_lenS Tryd.underlying9 rfl) <| L_op (.plain rfl) rfl (ltb rfl) (X_add rfl rfl) <| L_op (.plain rfl) rfl (ltb rfl) (X_add rfl rfl) <| L_op (.plain rfl) rfl (ltb rfl) (X_add rfl rfl) <| L_op (.plain rfl) rfl (ltb rfl) (X_assign rfl) <| L_nil <| blk_n <| thn_n <| W_reg <| L_op (.plain rfl) rfl (ltb rfl) (X_add h36 rfl) <| L_op (.plain rfl) rfl (ltb rfl) (X_move (v := (.int .i64 (IntKind.wrap .i64 (x24_20 + 1)))) rfl) <| L_nil <| thn_n ?_
          obtain rfl := Option.some.inj H
          exact ⟨_, Nat.lt_succ_self _, IntKind.wrap .i64 (x5_19 + (IntKind.wrap .i64 ((IntKind.wrap .i64 ((((gt a0 x24_20).path).length : Int) + (((gt a0 x24_20).body).length : Int))) + 4))), IntKind.wrap .i64 (x24_20 + 1), (Kp.upd (Kp.upd (Kp.upd (Kp.upd (Kp.upd (Kp.upd (Kp.upd (Kp.upd (Kp.upd (Kp.upd (Kp.upd (Kp.upd (Kp.upd (Kp.upd (Kp.upd (Kp.upd (Kp.upd K32 rfl) rfl) rfl) rfl) rfl) rfl) rfl) rfl) rfl) rfl) rfl) rfl) rfl) rfl) rfl) rfl) rfl), rfl, rfl, (Ext.trans e33 (Below.trans e47 (Wr.below h50 (Nat.le_of_eq z45)))), S38⟩
        · refine W_false (congrArg Value.bool q39) <| W_exit <| thn_x <| thn_x <| blk_x <| thn_n ?_
          obtain rfl := Option.some.inj H
          obtain rfl := Option.some.inj S38
          exact ⟨x5_19, (Kp.upd K32 rfl), h35, e33, rfl⟩
    · rintro s26 w25 ⟨x5_24, K27, h52, e28, y53⟩
      rw [y53] at C23
      have H := C23
      replace H : _ = some _ := H
      refine thn_n <| W_seq <| W_reg <| L_op (.plain rfl) rfl (ltb rfl) (X_move (v := (.int .i64 x5_24)) h52) <| L_op (.plain rfl) rfl (ltb rfl) (X_assign (v := (.int .i64 x5_24)) rfl) <| L_op (.plain rfl) rfl (ltb rfl) (X_assign (v := (.int .i64 0)) rfl) <| L_nil <| thn_n <| W_ret <| fin_r ?_
      obtain rfl := Option.some.inj H
      exact fin2 rfl rfl (Ext.trans (Ext.trans (Ext.trans (Ext.trans e2 e6) e11) e15) e28)
theorem impl_SizeOf.calls {w : World} {a0 : List Rec} (gv : GV 0 w) {v_a0 : Value} (f_a0 : Rd 5 encRec w v_a0 a0) (h0 : a0.length ≤ 1048576) (h1 : ∀ x ∈ a0, x.path.length ≤ 1048576) (h2 : ∀ x ∈ a0, x.body.length ≤ 1048576) :
    Calls Tryd.prog 41 #[v_a0] w (Rt (RP w (.tuple #[.int .i64 ((sizeOfL a0).1), .int .i64 ((sizeOfL a0).2)]))) := by
  obtain ⟨k, h⟩ := impl_SizeOf.eq a0 h0 h1 h2
  exact impl_SizeOf.walk gv f_a0 h
/-! laws.FnExactSizeOf -/
theorem law_SizeOf.walk {w : World} {a0 : List Rec} (gv : GV 0 w) {v_a0 : Value} (f_a0 : Rd 5 encRec w v_a0 a0) {r : Bool} (H : law_SizeOf.sh a0 = some r) :
    Calls Tryd.prog 12 #[v_a0] w (Rt (RP w (.bool r))) := by
  unfold law_SizeOf.sh at H
  refine calls_of_W Tryd.func12 rfl (Nat.le_of_ble_eq_true rfl) Tryd.ntmps12 rfl ?_
  refine W_seq <| W_reg <| L_op (.plain rfl) rfl (ltb rfl) (X_assign (v := (.bool false)) rfl) <| L_nil <| thn_n <| W_seq <| W_reg <| L_op (.plain rfl) rfl (ltb rfl) (X_assign (v := (.int .i64 1048576)) rfl) <| L_nil <| thn_n <| W_seq <| W_reg <| L_op (.plain rfl) rfl (ltb rfl) (X_move (v := v_a0) rfl) <| L_op (.plain rfl) rfl (ltb rfl) (X_move (v := (.int .i64 1048576)) rfl) ?_
  obtain ⟨c1, H⟩ := bif_some H
  obtain ⟨c2, H⟩ := bif_some H
  obtain ⟨c3, H⟩ := bif_some H
  obtain ⟨c4, H⟩ := bif_some H
  refine L_callP (.plain rfl) rfl (ltb rfl) rfl Tryd.call33 (laws_szRecordS.calls (w := w) (a0 := a0) (a1 := 1048576) f_a0 (of_decide_eq_true c1) (of_decide_eq_true c2) (of_decide_eq_true c3) (of_decide_eq_true c4)) rfl <| fun w5 e6 => L_op (.plain rfl) rfl (ltb rfl) (X_assign (v := (.int .i64 (szRecS a0 1048576))) rfl) <| L_nil <| thn_n <| W_seq <| W_seq <| W_reg <| L_op (.plain rfl) rfl (ltb rfl) (X_move (v := (.int .i64 (szRecS a0 1048576))) rfl) <| L_op (.plain rfl) rfl (ltb rfl) (X_lss rfl rfl) <| L_nil <| thn_n ?_
  rcases bif_two H with ⟨q7, H⟩ | ⟨q7, H⟩
  · refine W_true (congrArg Value.bool q7) <| W_seq <| W_reg <| L_op (.plain rfl) rfl (ltb rfl) (X_assign (v := (.bool true)) rfl) <| L_nil <| thn_n <| W_ret <| thn_r <| fin_r ?_
    obtain rfl := Option.some.inj H
    exact fin1 rfl e6
  · refine W_false (congrArg Value.bool q7) <| W_skip <| thn_n <| W_seq <| W_reg <| L_op (.plain rfl) rfl (ltb rfl) (X_move (v := v_a0) rfl) ?_
    obtain ⟨c8, H⟩ := bif_some H
    refine L_callO (.plain rfl) rfl (ltb rfl) rfl Tryd.call35 (laws_toRecordS.calls (w := w5) (a0 := a0) (Rd.ext f_a0 e6) (of_decide_eq_true c8)) rfl <| fun v11 w9 e10 o12 => ?_
    obtain ⟨c13, H⟩ := bif_some H
    obtain ⟨c14, H⟩ := bif_some H
    obtain ⟨c15, H⟩ := bif_some H
    refine L_callP (.plain rfl) rfl (ltb rfl) rfl Tryd.call40 (spec_SizeOf.calls (w := w9) (a0 := a0) (Own.rd o12) (of_decide_eq_true c13) (of_decide_eq_true c14) (of_decide_eq_true c15)) rfl <| fun w16 e17 => L_op (.plain rfl) rfl (ltb rfl) (X_move rfl) <| L_op (.plain rfl) rfl (ltb rfl) (X_extract (v := (.int .i64 ((sizeOfL a0).1))) rfl rfl) <| L_op (.plain rfl) rfl (ltb rfl) (X_extract (v := (.int .i64 ((sizeOfL a0).2))) rfl rfl) <| L_op (.plain rfl) rfl (ltb rfl) (X_assign (v := (.int .i64 ((sizeOfL a0).1))) rfl) <| L_op (.plain rfl) rfl (ltb rfl) (X_assign (v := (.int .i64 ((sizeOfL a0).2))) rfl) <| L_nil <| thn_n <| W_seq <| W_reg <| L_op (.plain rfl) rfl (ltb rfl) (X_move (v := v_a0) rfl) ?_
    obtain ⟨c18, H⟩ := bif_some H
    refine L_callO (.plain rfl) rfl (ltb rfl) rfl Tryd.call35 (laws_toRecordS.calls (w := w16) (a0 := a0) (Rd.ext f_a0 (Ext.trans (Ext.trans e6 e10) e17)) (of_decide_eq_true c18)) rfl <| fun v21 w19 e20 o22 => L_op (.plain rfl) rfl (ltb rfl) (X_assign (v := v21) rfl) <| L_nil <| thn_n <| W_seq <| W_reg <| L_op (.plain rfl) rfl (ltb rfl) (X_move (v := v21) rfl) ?_
    obtain ⟨c23, H⟩ := bif_some H
    obtain ⟨c24, H⟩ := bif_some H
    obtain ⟨c25, H⟩ := bif_some H
    refine L_callP (.plain rfl) rfl (ltb rfl) rfl Tryd.call41 (impl_SizeOf.calls (w := w19) (a0 := a0) (GV.ext gv (Ext.trans (Ext.trans (Ext.trans e6 e10) e17) e20)) (Own.rd o22) (of_decide_eq_true c23) (of_decide_eq_true c24) (of_decide_eq_true c25)) rfl <| fun w26 e27 => L_op (.plain rfl) rfl (ltb rfl) (X_move rfl) <| L_op (.plain rfl) rfl (ltb rfl) (X_extract (v := (.int .i64 ((sizeOfL a0).1))) rfl rfl) <| L_op (.plain rfl) rfl (ltb rfl) (X_extract (v := (.int .i64 ((sizeOfL a0).2))) rfl rfl) <| L_op (.plain rfl) rfl (ltb rfl) (X_assign (v := (.int .i64 ((sizeOfL a0).1))) rfl) <| L_op (.plain rfl) rfl (ltb rfl) (X_assign (v := (.int .i64 ((sizeOfL a0).2))) rfl) <| L_nil <| thn_n <| W_seq <| W_seq <| W_reg <| L_op (.plain rfl) rfl (ltb rfl) (X_move (v := (.int .i64 ((sizeOfL a0).1))) rfl) <| L_op (.plain rfl) rfl (ltb rfl) (X_move (v := (.int .i64 ((sizeOfL a0).1))) rfl) <| L_op (.plain rfl) rfl (ltb rfl) (X_neq rfl rfl) <| L_op (.plain rfl) rfl (ltb rfl) (X_move (v := (.bool (!decide (((sizeOfL a0).1) = ((sizeOfL a0).1))))) rfl) <| L_grp 4 [(31, 35)] 34 (.bool ((!decide (((sizeOfL a0).1) = ((sizeOfL a0).1))) || (!decide (((sizeOfL a0).2) = ((sizeOfL a0).2))))) ?_ ?_
    · rcases bool_two (!decide (((sizeOfL a0).1) = ((sizeOfL a0).1))) with b27_ | b27_
      · exact L_skip rfl rfl (ltb rfl) (congrArg Value.bool b27_) rfl rfl (ltb rfl) <| L_skip rfl rfl (ltb rfl) (congrArg Value.bool b27_) rfl rfl (ltb rfl) <| L_skip rfl rfl (ltb rfl) (congrArg Value.bool b27_) rfl rfl (ltb rfl) <| L_op (.plain rfl) rfl (ltb rfl) (X_pick (b := true) (v := (.bool true)) (congrArg Value.bool b27_) rfl) <| L_nil <| thn_n ⟨(Kp.upd (Kp.upd (Kp.upd (Kp.upd (Kp.refl _ _) rfl) rfl) rfl) rfl), (or_t b27_), (Ext.refl w26)⟩
      · exact L_op (.guard 3 false 30 rfl rfl (ltb rfl) (congrArg Value.bool b27_)) rfl (ltb rfl) (X_move (v := (.int .i64 ((sizeOfL a0).2))) rfl) <| L_op (.guard 3 false 30 rfl rfl (ltb rfl) (congrArg Value.bool b27_)) rfl (ltb rfl) (X_move (v := (.int .i64 ((sizeOfL a0).2))) rfl) <| L_op (.guard 3 false 30 rfl rfl (ltb rfl) (congrArg Value.bool b27_)) rfl (ltb rfl) (X_neq rfl rfl) <| L_op (.plain rfl) rfl (ltb rfl) (X_pick (b := false) (v := (.bool (!decide (((sizeOfL a0).2) = ((sizeOfL a0).2))))) (congrArg Value.bool b27_) rfl) <| L_nil <| thn_n ⟨(Kp.upd (Kp.upd (Kp.upd (Kp.upd (Kp.refl _ _) rfl) rfl) rfl) rfl), (or_f b27_), (Ext.refl w26)⟩
    intro s33 w29 K30 h31 e32
    refine L_nil <| thn_n ?_
    rcases bif_two H with ⟨q34, H⟩ | ⟨q34, H⟩
    · refine W_true (h31.trans (congrArg Value.bool q34)) <| W_seq <| W_reg <| L_op (.plain rfl) rfl (ltb rfl) (X_assign (v := (.bool false)) rfl) <| L_nil <| thn_n <| W_ret <| thn_r <| fin_r ?_
      obtain rfl := Option.some.inj H
      exact fin1 rfl (Ext.trans (Ext.trans (Ext.trans (Ext.trans (Ext.trans e6 e10) e17) e20) e27) e32)
    · refine W_false (h31.trans (congrArg Value.bool q34)) <| W_skip <| thn_n <| W_seq <| W_seq <| W_reg <| L_op (.plain rfl) rfl (ltb rfl) (X_move (v := v21) (K30 6 rfl)) <| L_op (.plain rfl) rfl (ltb rfl) (X_move (v := v_a0) (K30 0 rfl)) ?_
      obtain ⟨c35, H⟩ := bif_some H
      refine L_callO (.plain rfl) rfl (ltb rfl) rfl Tryd.call35 (laws_toRecordS.calls (w := w29) (a0 := a0) (Rd.ext f_a0 (Ext.trans (Ext.trans (Ext.trans (Ext.trans (Ext.trans e6 e10) e17) e20) e27) e32)) (of_decide_eq_true c35)) rfl <| fun v38 w36 e37 o39 => ?_
      obtain ⟨c40, H⟩ := bif_some H
      refine L_callP (.plain rfl) rfl (ltb rfl) rfl Tryd.call37 (laws_eqRecordS.calls (w := w36) (a0 := a0) (a1 := a0) (Own.rd (Own.ext o22 (Ext.trans (Ext.trans e27 e32) e37))) (Own.rd o39) (of_decide_eq_true c40)) rfl <| fun w41 e42 => L_op (.plain rfl) rfl (ltb rfl) (X_not rfl) <| L_nil <| thn_n ?_
      rcases bif_two H with ⟨q43, H⟩ | ⟨q43, H⟩
      · refine W_true (congrArg Value.bool q43) <| W_seq <| W_reg <| L_op (.plain rfl) rfl (ltb rfl) (X_assign (v := (.bool false)) rfl) <| L_nil <| thn_n <| W_ret <| thn_r <| fin_r ?_
        obtain rfl := Option.some.inj H
        exact fin1 rfl (Ext.trans (Ext.trans (Ext.trans (Ext.trans (Ext.trans (Ext.trans (Ext.trans e6 e10) e17) e20) e27) e32) e37) e42)
      · refine W_false (congrArg Value.bool q43) <| W_skip <| thn_n <| W_seq <| W_reg <| L_op (.plain rfl) rfl (ltb rfl) (X_assign (v := (.bool true)) rfl) <| L_nil <| thn_n <| W_ret <| fin_r ?_
        obtain rfl := Option.some.inj H
        exact fin1 rfl (Ext.trans (Ext.trans (Ext.trans (Ext.trans (Ext.trans (Ext.trans (Ext.trans e6 e10) e17) e20) e27) e32) e37) e42)
theorem law_SizeOf.calls {w : World} {a0 : List Rec} (gv : GV 0 w) {v_a0 : Value} (f_a0 : Rd 5 encRec w v_a0 a0) (h0 : ∀ x ∈ a0, okRec x) (h1 : a0.length ≤ 9223372036854775807) :
    Calls Tryd.prog 12 #[v_a0] w (Rt (RP w (.bool true))) := law_SizeOf.walk gv f_a0 (law_SizeOf.eq a0 h0 h1)
/-! spec.FindRecord -/
theorem spec_FindRecord.walk {w : World} {a0 : List Rec} {a1 : List UInt8} {v_a0 : Value} (f_a0 : Rd 5 encRec w v_a0 a0) {r : Rec × Int} (H : spec_FindRecord.sh a0 a1 = some r) :
    Calls Tryd.prog 42 #[v_a0, S a1] w (Rt (RP w (.tuple #[.agg (encRec r.1).toArray, .int .i64 r.2]))) := by
  unfold spec_FindRecord.sh at H
  refine calls_of_WG Tryd.func42 rfl (Nat.le_of_ble_eq_true rfl) Tryd.ntmps42 ?_
  refine W_seq <| W_reg <| L_alloc (.plain rfl) rfl (ltb rfl) rfl Tryd.zeroValue23 <| fun b1 w2 z3 z4 e5 k6 => L_op (.plain rfl) rfl (ltb rfl) (X_assign (v := (.int .i64 0)) rfl) <| L_nil <| thn_n <| W_seq <| W_seq <| W_reg <| L_op (.plain rfl) rfl (ltb rfl) (X_move (v := v_a0) rfl) <| L_op (.plain rfl) rfl (ltb rfl) (X_lenR Tryd.underlying48 rfl (Rd.ext f_a0 e5)) <| L_op (.plain rfl) rfl (ltb rfl) (X_gtr rfl rfl) <| L_op (.plain rfl) rfl (ltb rfl) (X_move (v := (.bool (decide (4096 < (a0.length : Int))))) rfl) <| L_grp 4 [(11, 15)] 14 (.bool ((decide (4096 < (a0.length : Int))) || (decide (65536 < (a1.length : Int))))) ?_ ?_
  · rcases bool_two (decide (4096 < (a0.length : Int))) with b6_ | b6_
    · exact L_skip rfl rfl (ltb rfl) (congrArg Value.bool b6_) rfl rfl (ltb rfl) <| L_skip rfl rfl (ltb rfl) (congrArg Value.bool b6_) rfl rfl (ltb rfl) <| L_skip rfl rfl (ltb rfl) (congrArg Value.bool b6_) rfl rfl (ltb rfl) <| L_op (.plain rfl) rfl (ltb rfl) (X_pick (b := true) (v := (.bool true)) (congrArg Value.bool b6_) rfl) <| L_nil <| thn_n ⟨(Kp.upd (Kp.upd (Kp.upd (Kp.upd (Kp.refl _ _) rfl) rfl) rfl) rfl), (or_t b6_), (Ext.refl w2)⟩
    · exact L_op (.guard 3 false 10 rfl rfl (ltb rfl) (congrArg Value.bool b6_)) rfl (ltb rfl) (X_move (v := (S a1)) rfl) <| L_op (.guard 3 false 10 rfl rfl (ltb rfl) (congrArg Value.bool b6_)) rfl (ltb rfl) (X_lenS Tryd.underlying9 rfl) <| L_op (.guard 3 false 10 rfl rfl (ltb rfl) (congrArg Value.bool b6_)) rfl (ltb rfl) (X_gtr rfl rfl) <| L_op (.plain rfl) rfl (ltb rfl) (X_pick (b := false) (v := (.bool (decide (65536 < (a1.length : Int))))) (congrArg Value.bool b6_) rfl) <| L_nil <| thn_n ⟨(Kp.upd (Kp.upd (Kp.upd (Kp.upd (Kp.refl _ _) rfl) rfl) rfl) rfl), (or_f b6_), (Ext.refl w2)⟩
  intro s12 w8 K9 h10 e11
  refine L_nil <| thn_n ?_
  rcases bif_two H with ⟨q13, H⟩ | ⟨q13, H⟩
  · refine W_true (h10.trans (congrArg Value.bool q13)) <| W_seq <| W_reg <| L_op (.plain rfl) rfl (ltb rfl) (X_build1 (vs := []) (pl := #[(0, 1), (1, 1), (2, 1), (3, 1), (4, 1)]) Tryd.underlying23 Tryd.zeroValue23 rfl (fun _ => by kernel_rfl) rfl rfl rfl) <| L_storeA (.plain rfl) rfl rfl Tryd.sizeOf23 (K9 4 rfl) rfl rfl rfl rfl (Blk.ext k6 e11) <| fun w14 h15 k16 => L_op (.plain rfl) rfl (ltb rfl) (X_assign (v := (.int .i64 2)) rfl) <| L_nil <| thn_n <| W_ret <| thn_r <| finG_r ?_
    obtain rfl := Option.some.inj H
    exact finC2 rfl (K9 4 rfl) k16 Tryd.isAgg23 Tryd.sizeOf23 rfl rfl (Below.trans (Ext.trans e5 e11) (Wr.below h15 (Nat.le_of_eq z3)))
  · refine W_false (h10.trans (congrArg Value.bool q13)) <| W_skip <| thn_n <| W_seq <| W_seq <| W_reg <| L_op (.plain rfl) rfl (ltb rfl) (X_move (v := v_a0) (K9 0 rfl)) ?_
    obtain ⟨c17, H⟩ := bif_some H
    obtain ⟨c18, H⟩ := bif_some H
    refine L_callP (.plain rfl) rfl (ltb rfl) rfl Tryd.call68 (spec_l03OK.calls (w := w8) (a0 := a0) (Rd.ext f_a0 (Ext.trans e5 e11)) (of_decide_eq_true c17) (of_decide_eq_true c18)) rfl <| fun w19 e20 => L_op (.plain rfl) rfl (ltb rfl) (X_not rfl) <| L_nil <| thn_n ?_
    rcases bif_two H with ⟨q21, H⟩ | ⟨q21, H⟩
    · refine W_true (congrArg Value.bool q21) <| W_seq <| W_reg <| L_op (.plain rfl) rfl (ltb rfl) (X_build1 (vs := []) (pl := #[(0, 1), (1, 1), (2, 1), (3, 1), (4, 1)]) Tryd.underlying23 Tryd.zeroValue23 rfl (fun _ => by kernel_rfl) rfl rfl rfl) <| L_storeA (.plain rfl) rfl rfl Tryd.sizeOf23 (K9 4 rfl) rfl rfl rfl rfl (Blk.ext k6 (Ext.trans e11 e20)) <| fun w22 h23 k24 => L_op (.plain rfl) rfl (ltb rfl) (X_assign (v := (.int .i64 1)) rfl) <| L_nil <| thn_n <| W_ret <| thn_r <| finG_r ?_
      obtain rfl := Option.some.inj H
      exact finC2 rfl (K9 4 rfl) k24 Tryd.isAgg23 Tryd.sizeOf23 rfl rfl (Below.trans (Ext.trans (Ext.trans e5 e11) e20) (Wr.below h23 (Nat.le_of_eq z3)))
    · refine W_false (congrArg Value.bool q21) <| W_skip <| thn_n <| W_seq <| W_reg <| L_op (.plain rfl) rfl (ltb rfl) (X_move (v := v_a0) (K9 0 rfl)) <| L_op (.plain rfl) rfl (ltb rfl) (X_move (v := (S a1)) (K9 1 rfl)) ?_
      obtain ⟨c25, H⟩ := bif_some H
      refine L_callP (.plain rfl) rfl (ltb rfl) rfl Tryd.call69 (spec_l03At.calls (w := w19) (a0 := a0) (a1 := a1) (Rd.ext f_a0 (Ext.trans (Ext.trans e5 e11) e20)) (of_decide_eq_true c25)) rfl <| fun w26 e27 => L_op (.plain rfl) rfl (ltb rfl) (X_assign (v := (.int .i64 (findR a0 a1))) rfl) <| L_nil <| thn_n <| W_seq <| W_seq <| W_reg <| L_op (.plain rfl) rfl (ltb rfl) (X_move (v := (.int .i64 (findR a0 a1))) rfl) <| L_op (.plain rfl) rfl (ltb rfl) (X_lss rfl rfl) <| L_nil <| thn_n ?_
      rcases bif_two H with ⟨q28, H⟩ | ⟨q28, H⟩
      · refine W_true (congrArg Value.bool q28) <| W_seq <| W_reg <| L_op (.plain rfl) rfl (ltb rfl) (X_build1 (vs := []) (pl := #[(0, 1), (1, 1), (2, 1), (3, 1), (4, 1)]) Tryd.underlying23 Tryd.zeroValue23 rfl (fun _ => by kernel_rfl) rfl rfl rfl) <| L_storeA (.plain rfl) rfl rfl Tryd.sizeOf23 (K9 4 rfl) rfl rfl rfl rfl (Blk.ext k6 (Ext.trans (Ext.trans e11 e20) e27)) <| fun w29 h30 k31 => L_op (.plain rfl) rfl (ltb rfl) (X_assign (v := (.int .i64 5)) rfl) <| L_nil <| thn_n <| W_ret <| thn_r <| finG_r ?_
        obtain rfl := Option.some.inj H
        exact finC2 rfl (K9 4 rfl) k31 Tryd.isAgg23 Tryd.sizeOf23 rfl rfl (Below.trans (Ext.trans (Ext.trans (Ext.trans e5 e11) e20) e27) (Wr.below h30 (Nat.le_of_eq z3)))
      · refine W_false (congrArg Value.bool q28) <| W_skip <| thn_n <| W_seq <| W_reg <| L_op (.plain rfl) rfl (ltb rfl) (X_move (v := v_a0) (K9 0 rfl)) <| L_op (.plain rfl) rfl (ltb rfl) (X_move (v := (.int .i64 (findR a0 a1))) rfl) ?_
        obtain ⟨c32, H⟩ := bif_some H
        refine L_idx (.plain rfl) rfl (ltb rfl) rfl Tryd.underlying48 Tryd.sizeOf23 rfl (Rd.ext f_a0 (Ext.trans (Ext.trans (Ext.trans e5 e11) e20) e27)) rfl c32 <| fun p33 h34 => L_op (.plain rfl) rfl (ltb rfl) (X_loadS Tryd.isAgg23 Tryd.sizeOf23 rfl rfl h34) <| L_storeA (.plain rfl) rfl rfl Tryd.sizeOf23 (K9 4 rfl) rfl rfl rfl rfl (Blk.ext k6 (Ext.trans (Ext.trans e11 e20) e27)) <| fun w35 h36 k37 => L_op (.plain rfl) rfl (ltb rfl) (X_assign (v := (.int .i64 0)) rfl) <| L_nil <| thn_n <| W_ret <| finG_r ?_
        obtain rfl := Option.some.inj H
        exact finC2 rfl (K9 4 rfl) k37 Tryd.isAgg23 Tryd.sizeOf23 rfl rfl (Below.trans (Ext.trans (Ext.trans (Ext.trans e5 e11) e20) e27) (Wr.below h36 (Nat.le_of_eq z3)))
theorem spec_FindRecord.calls {w : World} {a0 : List Rec} {a1 : List UInt8} {v_a0 : Value} (f_a0 : Rd 5 encRec w v_a0 a0) (h0 : a0.length ≤ 1048576) (h1 : ∀ x ∈ a0, x.path.length ≤ 1048576) :
    Calls Tryd.prog 42 #[v_a0, S a1] w (Rt (RP w (.tuple #[.agg (encRec ((findRec a0 a1).1)).toArray, .int .i64 ((findRec a0 a1).2)]))) := spec_FindRecord.walk f_a0 (spec_FindRecord.eq a0 a1 h0 h1)
/-! impl.FindRecord -/
theorem impl_FindRecord.walk {w : World} {a0 : List Rec} {a1 : List UInt8} (gv : GV 0 w) {v_a0 : Value} (f_a0 : Rd 5 encRec w v_a0 a0) {r : Rec × Int} (H : impl_FindRecord.sh a0 a1 = some r) :
    Calls Tryd.prog 43 #[v_a0, S a1] w (Rt (RP w (.tuple #[.agg (encRec r.1).toArray, .int .i64 r.2]))) := by
  unfold impl_FindRecord.sh at H
  refine calls_of_WG Tryd.func43 rfl (Nat.le_of_ble_eq_true rfl) Tryd.ntmps43 ?_
  refine W_seq <| W_reg <| L_alloc (.plain rfl) rfl (ltb rfl) rfl Tryd.zeroValue23 <| fun b1 w2 z3 z4 e5 k6 => L_op (.plain rfl) rfl (ltb rfl) (X_assign (v := (.int .i64 0)) rfl) <| L_nil <| thn_n <| W_seq <| W_reg <| L_op (.plain rfl) rfl (ltb rfl) (X_move (v := v_a0) rfl) <| L_op (.plain rfl) rfl (ltb rfl) (X_move (v := (S a1)) rfl) ?_
  obtain ⟨c7, H⟩ := bif_some H
  refine L_callP (.plain rfl) rfl (ltb rfl) rfl Tryd.call70 (impl_find.calls (w := w2) (a0 := a0) (a1 := a1) (Rd.ext f_a0 e5) (of_decide_eq_true c7)) rfl <| fun w8 e9 => L_op (.plain rfl) rfl (ltb rfl) (X_assign (v := (.int .i64 (findR a0 a1))) rfl) <| L_nil <| thn_n <| W_seq <| W_seq <| W_reg <| L_op (.plain rfl) rfl (ltb rfl) (X_move (v := (S a1)) rfl) <| L_lit (.plain rfl) rfl (ltb rfl) rfl Tryd.underlying77 Tryd.sizeOf9 Tryd.zeroValue9 rfl rfl rfl (vs := [(S a1)]) rfl (lit_all rfl) <| fun b10 w11 z12 z13 e14 k15 => ?_
  obtain ⟨c16, H⟩ := bif_some H
  refine L_callP (.plain rfl) rfl (ltb rfl) rfl Tryd.call51 (impl_isLong.calls (w := w11) (a0 := ([a1] : List (List UInt8))) (Own.rd (Own.new (xs := [a1]) (sz := 1) (enc := encS) (base := w8.heap.size) k15 (Nat.le_of_eq z12) rfl (fun _ _ => by rfl) (Nat.le_of_ble_eq_true rfl))) (of_decide_eq_true c16)) rfl <| fun w17 e18 => L_op (.plain rfl) rfl (ltb rfl) (X_move rfl) <| L_grp 3 [(15, 18)] 17 (.bool ((([a1] : List (List UInt8)).any fun t => decide (65536 < t.length)) || (decide (4096 < a0.length)))) ?_ ?_
  · rcases bool_two (([a1] : List (List UInt8)).any fun t => decide (65536 < t.length)) with b18_ | b18_
    · exact L_skip rfl rfl (ltb rfl) (congrArg Value.bool b18_) rfl rfl (ltb rfl) <| L_skip rfl rfl (ltb rfl) (congrArg Value.bool b18_) rfl rfl (ltb rfl) <| L_op (.plain rfl) rfl (ltb rfl) (X_pick (b := true) (v := (.bool true)) (congrArg Value.bool b18_) rfl) <| L_nil <| thn_n ⟨(Kp.upd (Kp.upd (Kp.upd (Kp.refl _ _) rfl) rfl) rfl), (or_t b18_), (Ext.refl w17)⟩
    · exact L_op (.guard 3 false 14 rfl rfl (ltb rfl) (congrArg Value.bool b18_)) rfl (ltb rfl) (X_move (v := v_a0) rfl) <| L_callP (.guard 3 false 14 rfl rfl (ltb rfl) (congrArg Value.bool b18_)) rfl (ltb rfl) rfl Tryd.call66 (impl_isLongListR.calls (w := w17) (a0 := a0) (Rd.ext f_a0 (Ext.trans (Ext.trans (Ext.trans e5 e9) e14) e18))) rfl <| fun w20 e21 => L_op (.plain rfl) rfl (ltb rfl) (X_pick (b := false) (v := (.bool (decide (4096 < a0.length)))) (congrArg Value.bool b18_) rfl) <| L_nil <| thn_n ⟨(Kp.upd (Kp.upd (Kp.upd (Kp.refl _ _) rfl) rfl) rfl), (or_f b18_), e21⟩
  intro s24 w20 K21 h22 e23
  refine L_op (.plain rfl) rfl (ltb rfl) (X_mkiface Tryd.underlying4 rfl h22) <| L_op (.plain rfl) rfl (ltb rfl) (X_mkiface Tryd.underlying3 rfl rfl) <| L_op (.plain rfl) rfl (ltb rfl) (X_move (v := v_a0) (K21 0 rfl)) ?_
  obtain ⟨c25, H⟩ := bif_some H
  obtain ⟨c26, H⟩ := bif_some H
  refine L_callP (.plain rfl) rfl (ltb rfl) rfl Tryd.call39 (impl_LayerOK.calls (w := w20) (a0 := a0) (GV.ext gv (Ext.trans (Ext.trans (Ext.trans (Ext.trans e5 e9) e14) e18) e23)) (Rd.ext f_a0 (Ext.trans (Ext.trans (Ext.trans (Ext.trans e5 e9) e14) e18) e23)) (of_decide_eq_true c25) (of_decide_eq_true c26)) rfl <| fun w27 e28 => L_op (.plain rfl) rfl (ltb rfl) (X_not rfl) <| L_op (.plain rfl) rfl (ltb rfl) (X_mkiface Tryd.underlying4 rfl rfl) <| L_op (.plain rfl) rfl (ltb rfl) (X_mkiface Tryd.underlying3 rfl rfl) <| L_op (.plain rfl) rfl (ltb rfl) (X_move (v := (.int .i64 (findR a0 a1))) (K21 6 rfl)) <| L_op (.plain rfl) rfl (ltb rfl) (X_lss rfl rfl) <| L_op (.plain rfl) rfl (ltb rfl) (X_mkiface Tryd.underlying4 rfl rfl) <| L_op (.plain rfl) rfl (ltb rfl) (X_mkiface Tryd.underlying3 rfl rfl) <| L_lit (.plain rfl) rfl (ltb rfl) rfl Tryd.underlying74 Tryd.sizeOf20 Tryd.zeroValue20 rfl rfl rfl (vs := [(.iface 4 (.bool ((([a1] : List (List UInt8)).any fun t => decide (65536 < t.length)) || (decide (4096 < a0.length))))), (.iface 3 (.int .i64 2)), (.iface 4 (.bool (!(decide ((layerFaultL a0).2 = 0))))), (.iface 3 (.int .i64 1)), (.iface 4 (.bool (decide ((findR a0 a1) < 0)))), (.iface 3 (.int .i64 5))]) rfl (lit_all rfl) <| fun b29 w30 z31 z32 e33 k34 => ?_
  obtain ⟨c35, H⟩ := bif_some H
  obtain ⟨z38, x39, H⟩ := bind_some H
  replace x39 := Option.some.inj x39
  refine L_callP (.plain rfl) rfl (ltb rfl) rfl Tryd.call50 (impl_first.calls (w := w30) (a0 := ([.inl ((([a1] : List (List UInt8)).any fun t => decide (65536 < t.length)) || (decide (4096 < a0.length))), .inr 2, .inl (!(decide ((layerFaultL a0).2 = 0))), .inr 1, .inl (decide ((findR a0 a1) < 0)), .inr 5] : List (Bool ⊕ Int))) (Own.rd (Own.new (xs := [.inl ((([a1] : List (List UInt8)).any fun t => decide (65536 < t.length)) || (decide (4096 < a0.length))), .inr 2, .inl (!(decide ((layerFaultL a0).2 = 0))), .inr 1, .inl (decide ((findR a0 a1) < 0)), .inr 5]) (sz := 1) (enc := (encAny 4 3)) (base := w27.heap.size) k34 (Nat.le_of_eq z31) rfl (fun _ _ => by first | rfl | exact encAny_len _ _ _) (Nat.le_of_ble_eq_true rfl))) (of_decide_eq_true c35)) rfl <| fun w36 e37 => L_op (.plain rfl) rfl (ltb rfl) (X_assign (v := (.int .i64 z38)) (congrArg (Value.int .i64) x39)) <| L_nil <| thn_n <| W_seq <| W_reg <| L_op (.plain rfl) rfl (ltb rfl) (X_move (v := (.int .i64 z38)) rfl) <| L_op (.plain rfl) rfl (ltb rfl) (X_neq rfl rfl) <| L_nil <| thn_n ?_
  rcases bif_two H with ⟨q40, H⟩ | ⟨q40, H⟩
  · refine W_true (congrArg Value.bool q40) <| W_seq <| W_reg <| L_op (.plain rfl) rfl (ltb rfl) (X_build1 (vs := []) (pl := #[(0, 1), (1, 1), (2, 1), (3, 1), (4, 1)]) Tryd.underlying23 Tryd.zeroValue23 rfl (fun _ => by kernel_rfl) rfl rfl rfl) <| L_op (.plain rfl) rfl (ltb rfl) (X_move (v := (.int .i64 z38)) rfl) <| L_storeA (.plain rfl) rfl rfl Tryd.sizeOf23 (K21 4 rfl) rfl rfl rfl rfl (Blk.ext k6 (Ext.trans (Ext.trans (Ext.trans (Ext.trans (Ext.trans (Ext.trans e9 e14) e18) e23) e28) e33) e37)) <| fun w41 h42 k43 => L_op (.plain rfl) rfl (ltb rfl) (X_assign (v := (.int .i64 z38)) rfl) <| L_nil <| thn_n <| W_ret <| thn_r <| finG_r ?_
    obtain rfl := Option.some.inj H
    exact finC2 rfl (K21 4 rfl) k43 Tryd.isAgg23 Tryd.sizeOf23 rfl rfl (Below.trans (Ext.trans (Ext.trans (Ext.trans (Ext.trans (Ext.trans (Ext.trans (Ext.trans e5 e9) e14) e18) e23) e28) e33) e37) (Wr.below h42 (Nat.le_of_eq z3)))
  · refine W_false (congrArg Value.bool q40) <| W_skip <| thn_n <| W_seq <| W_reg <| L_op (.plain rfl) rfl (ltb rfl) (X_move (v := v_a0) (K21 0 rfl)) <| L_op (.plain rfl) rfl (ltb rfl) (X_move (v := (.int .i64 (findR a0 a1))) (K21 6 rfl)) ?_
    obtain ⟨c44, H⟩ := bif_some H
    refine L_idx (.plain rfl) rfl (ltb rfl) rfl Tryd.underlying48 Tryd.sizeOf23 rfl (Rd.ext f_a0 (Ext.trans (Ext.trans (Ext.trans (Ext.trans (Ext.trans (Ext.trans (Ext.trans e5 e9) e14) e18) e23) e28) e33) e37)) rfl c44 <| fun p45 h46 => L_op (.plain rfl) rfl (ltb rfl) (X_loadS Tryd.isAgg23 Tryd.sizeOf23 rfl rfl h46) <| L_storeA (.plain rfl) rfl rfl Tryd.sizeOf23 (K21 4 rfl) rfl rfl rfl rfl (Blk.ext k6 (Ext.trans (Ext.trans (Ext.trans (Ext.trans (Ext.trans (Ext.trans e9 e14) e18) e23) e28) e33) e37)) <| fun w47 h48 k49 => L_op (.plain rfl) rfl (ltb rfl) (X_assign (v := (.int .i64 0)) rfl) <| L_nil <| thn_n <| W_ret <| finG_r ?_
    obtain rfl := Option.some.inj H
    exact finC2 rfl (K21 4 rfl) k49 Tryd.isAgg23 Tryd.sizeOf23 rfl rfl (Below.trans (Ext.trans (Ext.trans (Ext.trans (Ext.trans (Ext.trans (Ext.trans (Ext.trans e5 e9) e14) e18) e23) e28) e33) e37) (Wr.below h48 (Nat.le_of_eq z3)))
theorem impl_FindRecord.calls {w : World} {a0 : List Rec} {a1 : List UInt8} (gv : GV 0 w) {v_a0 : Value} (f_a0 : Rd 5 encRec w v_a0 a0) (h0 : a0.length ≤ 1048576) (h1 : ∀ x ∈ a0, x.path.length ≤ 1048576) :
    Calls Tryd.prog 43 #[v_a0, S a1] w (Rt (RP w (.tuple #[.agg (encRec ((findRec a0 a1).1)).toArray, .int .i64 ((findRec a0 a1).2)]))) := impl_FindRecord.walk gv f_a0 (impl_FindRecord.eq a0 a1 h0 h1)
/-! laws.FnExactFindRecord -/
theorem law_FindRecord.walk {w : World} {a0 : List Rec} {a1 : List UInt8} (gv : GV 0 w) {v_a0 : Value} (f_a0 : Rd 5 encRec w v_a0 a0) {r : Bool} (H : law_FindRecord.sh a0 a1 = some r) :
    Calls Tryd.prog 13 #[v_a0, S a1] w (Rt (RP w (.bool r))) := by
  unfold law_FindRecord.sh at H
  refine calls_of_W Tryd.func13 rfl (Nat.le_of_ble_eq_true rfl) Tryd.ntmps13 rfl ?_
  refine W_seq <| W_reg <| L_op (.plain rfl) rfl (ltb rfl) (X_assign (v := (.bool false)) rfl) <| L_nil <| thn_n <| W_seq <| W_seq <| W_reg <| L_op (.plain rfl) rfl (ltb rfl) (X_move (v := (S a1)) rfl) <| L_op (.plain rfl) rfl (ltb rfl) (X_lenS Tryd.underlying9 rfl) <| L_op (.plain rfl) rfl (ltb rfl) (X_gtr rfl rfl) <| L_nil <| thn_n ?_
  rcases bif_two H with ⟨q1, H⟩ | ⟨q1, H⟩
  · refine W_true (congrArg Value.bool q1) <| W_seq <| W_reg <| L_op (.plain rfl) rfl (ltb rfl) (X_assign (v := (.bool true)) rfl) <| L_nil <| thn_n <| W_ret <| thn_r <| fin_r ?_
    obtain rfl := Option.some.inj H
    exact fin1 rfl (Ext.refl w)
  · refine W_false (congrArg Value.bool q1) <| W_skip <| thn_n <| W_seq <| W_reg <| L_op (.plain rfl) rfl (ltb rfl) (X_assign (v := (.int .i64 1048576)) rfl) <| L_nil <| thn_n <| W_seq <| W_reg <| L_op (.plain rfl) rfl (ltb rfl) (X_move (v := v_a0) rfl) <| L_op (.plain rfl) rfl (ltb rfl) (X_move (v := (.int .i64 1048576)) rfl) ?_
    obtain ⟨c2, H⟩ := bif_some H
    obtain ⟨c3, H⟩ := bif_some H
    obtain ⟨c4, H⟩ := bif_some H
    obtain ⟨c5, H⟩ := bif_some H
    refine L_callP (.plain rfl) rfl (ltb rfl) rfl Tryd.call33 (laws_szRecordS.calls (w := w) (a0 := a0) (a1 := 1048576) f_a0 (of_decide_eq_true c2) (of_decide_eq_true c3) (of_decide_eq_true c4) (of_decide_eq_true c5)) rfl <| fun w6 e7 => L_op (.plain rfl) rfl (ltb rfl) (X_assign (v := (.int .i64 (szRecS a0 1048576))) rfl) <| L_nil <| thn_n <| W_seq <| W_seq <| W_reg <| L_op (.plain rfl) rfl (ltb rfl) (X_move (v := (.int .i64 (szRecS a0 1048576))) rfl) <| L_op (.plain rfl) rfl (ltb rfl) (X_lss rfl rfl) <| L_nil <| thn_n ?_
    rcases bif_two H with ⟨q8, H⟩ | ⟨q8, H⟩
    · refine W_true (congrArg Value.bool q8) <| W_seq <| W_reg <| L_op (.plain rfl) rfl (ltb rfl) (X_assign (v := (.bool true)) rfl) <| L_nil <| thn_n <| W_ret <| thn_r <| fin_r ?_
      obtain rfl := Option.some.inj H
      exact fin1 rfl e7
    · refine W_false (congrArg Value.bool q8) <| W_skip <| thn_n <| W_seq <| W_reg <| L_op (.plain rfl) rfl (ltb rfl) (X_move (v := v_a0) rfl) ?_
      obtain ⟨c9, H⟩ := bif_some H
      refine L_callO (.plain rfl) rfl (ltb rfl) rfl Tryd.call35 (laws_toRecordS.calls (w := w6) (a0 := a0) (Rd.ext f_a0 e7) (of_decide_eq_true c9)) rfl <| fun v12 w10 e11 o13 => L_op (.plain rfl) rfl (ltb rfl) (X_move (v := (S a1)) rfl) ?_
      obtain ⟨c14, H⟩ := bif_some H
      obtain ⟨c15, H⟩ := bif_some H
      refine L_callP (.plain rfl) rfl (ltb rfl) rfl Tryd.call42 (spec_FindRecord.calls (w := w10) (a0 := a0) (a1 := a1) (Own.rd o13) (of_decide_eq_true c14) (of_decide_eq_true c15)) rfl <| fun w16 e17 => L_op (.plain rfl) rfl (ltb rfl) (X_move rfl) <| L_op (.plain rfl) rfl (ltb rfl) (X_extract (v := (.agg (encRec ((findRec a0 a1).1)).toArray)) rfl rfl) <| L_op (.plain rfl) rfl (ltb rfl) (X_extract (v := (.int .i64 ((findRec a0 a1).2))) rfl rfl) <| L_alloc (.plain rfl) rfl (ltb rfl) rfl Tryd.zeroValue23 <| fun b18 w19 z20 z21 e22 k23 => L_storeA (.plain rfl) rfl rfl Tryd.sizeOf23 rfl rfl rfl rfl rfl k23 <| fun w24 h25 k26 => L_op (.plain rfl) rfl (ltb rfl) (X_assign (v := (.int .i64 ((findRec a0 a1).2))) rfl) <| L_nil <| thn_n <| W_seq <| W_reg <| L_op (.plain rfl) rfl (ltb rfl) (X_move (v := v_a0) rfl) ?_
      obtain ⟨c27, H⟩ := bif_some H
      refine L_callO (.plain rfl) rfl (ltb rfl) rfl Tryd.call35 (laws_toRecordS.calls (w := w24) (a0 := a0) (Rd.ext f_a0 (Ext.trans (Ext.trans (Ext.trans e7 e11) e17) (Below.trans e22 (Wr.below h25 (Nat.le_of_eq z20))))) (of_decide_eq_true c27)) rfl <| fun v30 w28 e29 o31 => L_op (.plain rfl) rfl (ltb rfl) (X_assign (v := v30) rfl) <| L_nil <| thn_n <| W_seq <| W_reg <| L_op (.plain rfl) rfl (ltb rfl) (X_move (v := v30) rfl) <| L_op (.plain rfl) rfl (ltb rfl) (X_move (v := (S a1)) rfl) ?_
      obtain ⟨c32, H⟩ := bif_some H
      obtain ⟨c33, H⟩ := bif_some H
      refine L_callP (.plain rfl) rfl (ltb rfl) rfl Tryd.call43 (impl_FindRecord.calls (w := w28) (a0 := a0) (a1 := a1) (GV.ext gv (Ext.trans (Ext.trans (Ext.trans (Ext.trans e7 e11) e17) (Below.trans e22 (Wr.below h25 (Nat.le_of_eq z20)))) e29)) (Own.rd o31) (of_decide_eq_true c32) (of_decide_eq_true c33)) rfl <| fun w34 e35 => L_op (.plain rfl) rfl (ltb rfl) (X_move rfl) <| L_op (.plain rfl) rfl (ltb rfl) (X_extract (v := (.agg (encRec ((findRec a0 a1).1)).toArray)) rfl rfl) <| L_op (.plain rfl) rfl (ltb rfl) (X_extract (v := (.int .i64 ((findRec a0 a1).2))) rfl rfl) <| L_alloc (.plain rfl) rfl (ltb rfl) rfl Tryd.zeroValue23 <| fun b36 w37 z38 z39 e40 k41 => L_storeA (.plain rfl) rfl rfl Tryd.sizeOf23 rfl rfl rfl rfl rfl k41 <| fun w42 h43 k44 => L_op (.plain rfl) rfl (ltb rfl) (X_assign (v := (.int .i64 ((findRec a0 a1).2))) rfl) <| L_nil <| thn_n <| W_seq <| W_seq <| W_reg <| L_op (.plain rfl) rfl (ltb rfl) (X_loadS Tryd.isAgg23 Tryd.sizeOf23 rfl rfl (Blk.at0 k44)) <| L_op (.plain rfl) rfl (ltb rfl) (X_loadS Tryd.isAgg23 Tryd.sizeOf23 rfl rfl (Blk.at0 (Blk.ext k26 (Ext.trans (Ext.trans e29 e35) (Below.trans e40 (Wr.below h43 (Nat.le_of_eq z38))))))) <| L_callP (.plain rfl) rfl (ltb rfl) rfl Tryd.call17 (laws_eqRecord.calls (w := w42) (a0 := ((findRec a0 a1).1)) (a1 := ((findRec a0 a1).1))) rfl <| fun w45 e46 => L_op (.plain rfl) rfl (ltb rfl) (X_not rfl) <| L_op (.plain rfl) rfl (ltb rfl) (X_move (v := (.bool (!(decide (((findRec a0 a1).1) = ((findRec a0 a1).1)))))) rfl) <| L_grp 4 [(39, 43)] 42 (.bool ((!(decide (((findRec a0 a1).1) = ((findRec a0 a1).1)))) || (!decide (((findRec a0 a1).2) = ((findRec a0 a1).2))))) ?_ ?_
      · rcases bool_two (!(decide (((findRec a0 a1).1) = ((findRec a0 a1).1)))) with b46_ | b46_
        · exact L_skip rfl rfl (ltb rfl) (congrArg Value.bool b46_) rfl rfl (ltb rfl) <| L_skip rfl rfl (ltb rfl) (congrArg Value.bool b46_) rfl rfl (ltb rfl) <| L_skip rfl rfl (ltb rfl) (congrArg Value.bool b46_) rfl rfl (ltb rfl) <| L_op (.plain rfl) rfl (ltb rfl) (X_pick (b := true) (v := (.bool true)) (congrArg Value.bool b46_) rfl) <| L_nil <| thn_n ⟨(Kp.upd (Kp.upd (Kp.upd (Kp.upd (Kp.refl _ _) rfl) rfl) rfl) rfl), (or_t b46_), (Ext.refl w45)⟩
        · exact L_op (.guard 4 false 38 rfl rfl (ltb rfl) (congrArg Value.bool b46_)) rfl (ltb rfl) (X_move (v := (.int .i64 ((findRec a0 a1).2))) rfl) <| L_op (.guard 4 false 38 rfl rfl (ltb rfl) (congrArg Value.bool b46_)) rfl (ltb rfl) (X_move (v := (.int .i64 ((findRec a0 a1).2))) rfl) <| L_op (.guard 4 false 38 rfl rfl (ltb rfl) (congrArg Value.bool b46_)) rfl (ltb rfl) (X_neq rfl rfl) <| L_op (.plain rfl) rfl (ltb rfl) (X_pick (b := false) (v := (.bool (!decide (((findRec a0 a1).2) = ((findRec a0 a1).2))))) (congrArg Value.bool b46_) rfl) <| L_nil <| thn_n ⟨(Kp.upd (Kp.upd (Kp.upd (Kp.upd (Kp.refl _ _) rfl) rfl) rfl) rfl), (or_f b46_), (Ext.refl w45)⟩
      intro s52 w48 K49 h50 e51
      refine L_nil <| thn_n ?_
      rcases bif_two H with ⟨q53, H⟩ | ⟨q53, H⟩
      · refine W_true (h50.trans (congrArg Value.bool q53)) <| W_seq <| W_reg <| L_op (.plain rfl) rfl (ltb rfl) (X_assign (v := (.bool false)) rfl) <| L_nil <| thn_n <| W_ret <| thn_r <| fin_r ?_
        obtain rfl := Option.some.inj H
        exact fin1 rfl (Ext.trans (Ext.trans (Ext.trans (Ext.trans (Ext.trans (Ext.trans (Ext.trans (Ext.trans e7 e11) e17) (Below.trans e22 (Wr.below h25 (Nat.le_of_eq z20)))) e29) e35) (Below.trans e40 (Wr.below h43 (Nat.le_of_eq z38)))) e46) e51)
      · refine W_false (h50.trans (congrArg Value.bool q53)) <| W_skip <| thn_n <| W_seq <| W_seq <| W_reg <| L_op (.plain rfl) rfl (ltb rfl) (X_move (v := v30) (K49 8 rfl)) <| L_op (.plain rfl) rfl (ltb rfl) (X_move (v := v_a0) (K49 0 rfl)) ?_
        obtain ⟨c54, H⟩ := bif_some H
        refine L_callO (.plain rfl) rfl (ltb rfl) rfl Tryd.call35 (laws_toRecordS.calls (w := w48) (a0 := a0) (Rd.ext f_a0 (Ext.trans (Ext.trans (Ext.trans (Ext.trans (Ext.trans (Ext.trans (Ext.trans (Ext.trans e7 e11) e17) (Below.trans e22 (Wr.below h25 (Nat.le_of_eq z20)))) e29) e35) (Below.trans e40 (Wr.below h43 (Nat.le_of_eq z38)))) e46) e51)) (of_decide_eq_true c54)) rfl <| fun v57 w55 e56 o58 => ?_
        obtain ⟨c59, H⟩ := bif_some H
        refine L_callP (.plain rfl) rfl (ltb rfl) rfl Tryd.call37 (laws_eqRecordS.calls (w := w55) (a0 := a0) (a1 := a0) (Own.rd (Own.ext o31 (Ext.trans (Ext.trans (Ext.trans (Ext.trans e35 (Below.trans e40 (Wr.below h43 (Nat.le_of_eq z38)))) e46) e51) e56))) (Own.rd o58) (of_decide_eq_true c59)) rfl <| fun w60 e61 => L_op (.plain rfl) rfl (ltb rfl) (X_not rfl) <| L_nil <| thn_n ?_
        rcases bif_two H with ⟨q62, H⟩ | ⟨q62, H⟩
        · refine W_true (congrArg Value.bool q62) <| W_seq <| W_reg <| L_op (.plain rfl) rfl (ltb rfl) (X_assign (v := (.bool false)) rfl) <| L_nil <| thn_n <| W_ret <| thn_r <| fin_r ?_
          obtain rfl := Option.some.inj H
          exact fin1 rfl (Ext.trans (Ext.trans (Ext.trans (Ext.trans (Ext.trans (Ext.trans (Ext.trans (Ext.trans (Ext.trans (Ext.trans e7 e11) e17) (Below.trans e22 (Wr.below h25 (Nat.le_of_eq z20)))) e29) e35) (Below.trans e40 (Wr.below h43 (Nat.le_of_eq z38)))) e46) e51) e56) e61)
        · refine W_false (congrArg Value.bool q62) <| W_skip <| thn_n <| W_seq <| W_reg <| L_op (.plain rfl) rfl (ltb rfl) (X_assign (v := (.bool true)) rfl) <| L_nil <| thn_n <| W_ret <| fin_r ?_
          obtain rfl := Option.some.inj H
          exact fin1 rfl (Ext.trans (Ext.trans (Ext.trans (Ext.trans (Ext.trans (Ext.trans (Ext.trans (Ext.trans (Ext.trans (Ext.trans e7 e11) e17) (Below.trans e22 (Wr.below h25 (Nat.le_of_eq z20)))) e29) e35) (Below.trans e40 (Wr.below h43 (Nat.le_of_eq z38)))) e46) e51) e56) e61)
theorem law_FindRecord.calls {w : World} {a0 : List Rec} {a1 : List UInt8} (gv : GV 0 w) {v_a0 : Value} (f_a0 : Rd 5 encRec w v_a0 a0) (h0 : ∀ x ∈ a0, okRec x) (h1 : a0.length ≤ 9223372036854775807) :
    Calls Tryd.prog 13 #[v_a0, S a1] w (Rt (RP w (.bool true))) := law_FindRecord.walk gv f_a0 (law_FindRecord.eq a0 a1 h0 h1)
/-! spec.l03Same -/
theorem spec_l03Same.walk {k : Nat} {w : World} {a0 : List Rec} {a1 : List Rec} {v_a0 : Value} (f_a0 : Rd 5 encRec w v_a0 a0) {v_a1 : Value} (f_a1 : Rd 5 encRec w v_a1 a1) {r : Bool} (H : spec_l03Same.sh k a0 a1 = some r) :
    Calls Tryd.prog 71 #[v_a0, v_a1] w (Rt (RP w (.bool r))) := by
  unfold spec_l03Same.sh at H
  refine calls_of_W Tryd.func71 rfl (Nat.le_of_ble_eq_true rfl) Tryd.ntmps71 rfl ?_
  refine W_seq <| W_reg <| L_op (.plain rfl) rfl (ltb rfl) (X_assign (v := (.bool false)) rfl) <| L_nil <| thn_n <| W_seq <| W_seq <| W_reg <| L_op (.plain rfl) rfl (ltb rfl) (X_move (v := v_a0) rfl) <| L_op (.plain rfl) rfl (ltb rfl) (X_lenR Tryd.underlying48 rfl f_a0) <| L_op (.plain rfl) rfl (ltb rfl) (X_move (v := v_a1) rfl) <| L_op (.plain rfl) rfl (ltb rfl) (X_lenR Tryd.underlying48 rfl f_a1) <| L_op (.plain rfl) rfl (ltb rfl) (X_neq rfl rfl) <| L_nil <| thn_n ?_
  rcases bif_two H with ⟨q1, H⟩ | ⟨q1, H⟩
  · refine W_true (congrArg Value.bool q1) <| W_seq <| W_reg <| L_op (.plain rfl) rfl (ltb rfl) (X_assign (v := (.bool false)) rfl) <| L_nil <| thn_n <| W_ret <| thn_r <| fin_r ?_
    obtain rfl := Option.some.inj H
    exact fin1 rfl (Ext.refl w)
  · refine W_false (congrArg Value.bool q1) <| W_skip <| thn_n <| W_seq <| W_seq <| W_reg <| L_op (.plain rfl) rfl (ltb rfl) (X_assign (v := (.int .i64 0)) rfl) <| L_nil <| thn_n ?_
    obtain ⟨z3, L4, C5⟩ := bind_some H
    clear H
    refine  W_cutQ (fun s0 s9 w9 => Kp [(4, 6), (11, 26)] s0 s9 ∧ Ext w w9 ∧ z3 = .inr ()) ?_ ?_
    · refine W_block <| W_loopI (fun s0 kk s9 w9 => ∃ (x5_2 : Int), Kp [(4, 6), (11, 26)] s0 s9 ∧ s9 5 = .int .i64 x5_2 ∧ Ext w w9 ∧ loopF (spec_l03Same.b1 a0 a1) kk x5_2 = some z3) k ⟨0, (Kp.refl _ _), rfl, (Ext.refl w), L4⟩ ?_
      rintro k10 s11 w12 ⟨x5_2, K13, h16, e14, L15⟩
      cases k10 with
      | zero => exact absurd L15 (by simp [loopF])
      | succ k10 =>
        obtain ⟨t17, H, S18⟩ := loopF_succ L15
        clear L15
        unfold spec_l03Same.b1 at H
        refine W_seq <| W_seq <| W_reg <| L_op (.plain rfl) rfl (ltb rfl) (X_move (v := (.int .i64 x5_2)) h16) <| L_op (.plain rfl) rfl (ltb rfl) (X_move (v := v_a0) (K13 0 rfl)) <| L_op (.plain rfl) rfl (ltb rfl) (X_lenR Tryd.underlying48 rfl (Rd.ext f_a0 e14)) <| L_op (.plain rfl) rfl (ltb rfl) (X_lss rfl rfl) <| L_nil <| thn_n ?_
        rcases bif_two H with ⟨q19, H⟩ | ⟨q19, H⟩
        · refine W_true (congrArg Value.bool q19) <| W_skip <| thn_n <| W_seq <| W_block <| W_seq ?_
          obtain ⟨c20, H⟩ := bif_some H
          obtain ⟨c23, H⟩ := bif_some H
          refine W_drawM [LEq v_a0, LEq (.int .i64 x5_2), LAt0 (encRec (gt a0 x5_2)), LEq (.agg (encRec (gt a0 x5_2)).toArray), LEq v_a1, LEq (.int .i64 x5_2), LAt0 (encRec (gt a1 x5_2)), LEq (.agg (encRec (gt a1 x5_2)).toArray), LEq (.bool (!decide ((gt a0 x5_2) = (gt a1 x5_2))))] (by kernel_rfl) (by kernel_rfl) ⟨LEq.mono, LEq.mono, LAt0.mono, LEq.mono, LEq.mono, LEq.mono, LAt0.mono, LEq.mono, LEq.mono, trivial⟩ ⟨?_, ?_, ?_, ?_, ?_, ?_, ?_, ?_, ?_, trivial⟩ ?_
          · intro s26 w27 e28 hf29 hd30 hu31
            exact L_op (.plain rfl) rfl (ltb rfl) (X_move (v := v_a0) ((hf29 0 rfl).trans (K13 0 rfl))) <| L_nil <| stepEnd rfl rfl (Ext.refl w27) rfl
          · intro s32 w33 e34 hf35 hd36 hu37
            exact L_op (.plain rfl) rfl (ltb rfl) (X_move (v := (.int .i64 x5_2)) ((hf35 5 rfl).trans h16)) <| L_nil <| stepEnd rfl rfl (Ext.refl w33) rfl
          · intro s38 w39 e40 hf41 hd42 hu43
            have d44 : s38 17 = v_a0 := (hd42 0 rfl)
            have d45 : s38 18 = (.int .i64 x5_2) := (hd42 1 rfl)
            have c46 := c20
            exact L_idx (.plain rfl) rfl (ltb rfl) rfl Tryd.underlying48 Tryd.sizeOf23 d44 (Rd.ext f_a0 (Ext.trans e14 e40)) d45 c46 <| fun p47 h48 => L_nil <| stepEnd rfl rfl (Ext.refl w39) ⟨_, rfl, h48⟩
          · intro s49 w50 e51 hf52 hd53 hu54
            obtain ⟨p55, h56, h57⟩ := (hd53 2 rfl)
            exact L_op (.plain rfl) rfl (ltb rfl) (X_loadS Tryd.isAgg23 Tryd.sizeOf23 rfl h56 h57) <| L_nil <| stepEnd rfl rfl (Ext.refl w50) rfl
          · intro s58 w59 e60 hf61 hd62 hu63
            exact L_op (.plain rfl) rfl (ltb rfl) (X_move (v := v_a1) ((hf61 1 rfl).trans (K13 1 rfl))) <| L_nil <| stepEnd rfl rfl (Ext.refl w59) rfl
          · intro s64 w65 e66 hf67 hd68 hu69
            exact L_op (.plain rfl) rfl (ltb rfl) (X_move (v := (.int .i64 x5_2)) ((hf67 5 rfl).trans h16)) <| L_nil <| stepEnd rfl rfl (Ext.refl w65) rfl
          · intro s70 w71 e72 hf73 hd74 hu75
            have d76 : s70 21 = v_a1 := (hd74 4 rfl)
            have d77 : s70 22 = (.int .i64 x5_2) := (hd74 5 rfl)
            have c78 := c23
            exact L_idx (.plain rfl) rfl (ltb rfl) rfl Tryd.underlying48 Tryd.sizeOf23 d76 (Rd.ext f_a1 (Ext.trans e14 e72)) d77 c78 <| fun p79 h80 => L_nil <| stepEnd rfl rfl (Ext.refl w71) ⟨_, rfl, h80⟩
          · intro s81 w82 e83 hf84 hd85 hu86
            obtain ⟨p87, h88, h89⟩ := (hd85 6 rfl)
            exact L_op (.plain rfl) rfl (ltb rfl) (X_loadS Tryd.isAgg23 Tryd.sizeOf23 rfl h88 h89) <| L_nil <| stepEnd rfl rfl (Ext.refl w82) rfl
          · intro s90 w91 e92 hf93 hd94 hu95
            have d96 : s90 20 = (.agg (encRec (gt a0 x5_2)).toArray) := (hd94 3 rfl)
            have d97 : s90 24 = (.agg (encRec (gt a1 x5_2)).toArray) := (hd94 7 rfl)
            exact L_op (.plain rfl) rfl (ltb rfl) (X_neA Eqg.t23 (Eqs.t23 (gt a0 x5_2) (gt a1 x5_2)) d96 d97) <| L_nil <| stepEnd rfl rfl (Ext.refl w91) rfl
          intro s98 w99 e100 hf101 ha102
          have K103 := Kp.ofD (kp := [(17, 26)]) rfl hf101
          have d104 : s98 25 = (.bool (!decide ((gt a0 x5_2) = (gt a1 x5_2)))) := ha102 8 rfl
          clear ha102 hf101
          refine thn_n ?_
          rcases bif_two H with ⟨q105, H⟩ | ⟨q105, H⟩
          · refine W_true (d104.trans (congrArg Value.bool q105)) <| W_seq <| W_reg <| L_op (.plain rfl) rfl (ltb rfl) (X_assign (v := (.bool false)) rfl) <| L_nil <| thn_n <| W_ret <| blk_r <| thn_r <| thn_r <| blk_r <| thn_r <| thn_r <| fin_r ?_
            obtain rfl := Option.some.inj H
            obtain rfl := Option.some.inj S18
            have H := C5
            obtain rfl := Option.some.inj H
            exact fin1 rfl (Ext.trans e14 e100)
          · refine W_false (d104.trans (congrArg Value.bool q105)) <| W_skip <| blk_n <| thn_n <| W_reg <| L_op (.plain rfl) rfl (ltb rfl) (X_move (v := (.int .i64 x5_2)) ((K103 5 rfl).trans h16)) <| L_op (.plain rfl) rfl (ltb rfl) (X_add rfl rfl) <| L_op (.plain rfl) rfl (ltb rfl) (X_assign (v := (.int .i64 (IntKind.wrap .i64 (x5_2 + 1)))) rfl) <| L_nil <| thn_n ?_
            obtain rfl := Option.some.inj H
            exact ⟨_, Nat.lt_succ_self _, IntKind.wrap .i64 (x5_2 + 1), (Kp.upd (Kp.upd (Kp.upd (Kp.cut (Kp.upd (Kp.upd (Kp.upd (Kp.upd K13 rfl) rfl) rfl) rfl) K103 rfl) rfl) rfl) rfl), rfl, (Ext.trans e14 e100), S18⟩
        · refine W_false (congrArg Value.bool q19) <| W_exit <| thn_x <| thn_x <| blk_x <| thn_n ?_
          obtain rfl := Option.some.inj H
          obtain rfl := Option.some.inj S18
          exact ⟨(Kp.upd (Kp.upd (Kp.upd (Kp.upd K13 rfl) rfl) rfl) rfl), e14, rfl⟩
    · rintro s7 w6 ⟨K8, e9, y106⟩
      rw [y106] at C5
      have H := C5
      replace H : _ = some _ := H
      refine thn_n <| W_seq <| W_reg <| L_op (.plain rfl) rfl (ltb rfl) (X_assign (v := (.bool true)) rfl) <| L_nil <| thn_n <| W_ret <| fin_r ?_
      obtain rfl := Option.some.inj H
      exact fin1 rfl e9
theorem spec_l03Same.calls {w : World} {a0 : List Rec} {a1 : List Rec} {v_a0 : Value} (f_a0 : Rd 5 encRec w v_a0 a0) {v_a1 : Value} (f_a1 : Rd 5 encRec w v_a1 a1) (h0 : a0.length ≤ 1048576) :
    Calls Tryd.prog 71 #[v_a0, v_a1] w (Rt (RP w (.bool (decide (a0 = a1))))) := by
  obtain ⟨k, h⟩ := spec_l03Same.eq a0 a1 h0
  exact spec_l03Same.walk f_a0 f_a1 h
/-! spec.SameLayer -/
theorem spec_SameLayer.walk {w : World} {a0 : List Rec} {a1 : List Rec} {v_a0 : Value} (f_a0 : Rd 5 encRec w v_a0 a0) {v_a1 : Value} (f_a1 : Rd 5 encRec w v_a1 a1) {r : Bool} (H : spec_SameLayer.sh a0 a1 = some r) :
    Calls Tryd.prog 44 #[v_a0, v_a1] w (Rt (RP w (.bool r))) := by
  unfold spec_SameLayer.sh at H
  refine calls_of_W Tryd.func44 rfl (Nat.le_of_ble_eq_true rfl) Tryd.ntmps44 rfl ?_
  refine W_seq <| W_reg <| L_op (.plain rfl) rfl (ltb rfl) (X_assign (v := (.bool false)) rfl) <| L_nil <| thn_n <| W_seq <| W_seq <| W_reg <| L_op (.plain rfl) rfl (ltb rfl) (X_move (v := v_a0) rfl) <| L_op (.plain rfl) rfl (ltb rfl) (X_lenR Tryd.underlying48 rfl f_a0) <| L_op (.plain rfl) rfl (ltb rfl) (X_gtr rfl rfl) <| L_op (.plain rfl) rfl (ltb rfl) (X_move (v := (.bool (decide (4096 < (a0.length : Int))))) rfl) <| L_grp 4 [(9, 13)] 12 (.bool ((decide (4096 < (a0.length : Int))) || (decide (4096 < (a1.length : Int))))) ?_ ?_
  · rcases bool_two (decide (4096 < (a0.length : Int))) with b0_ | b0_
    · exact L_skip rfl rfl (ltb rfl) (congrArg Value.bool b0_) rfl rfl (ltb rfl) <| L_skip rfl rfl (ltb rfl) (congrArg Value.bool b0_) rfl rfl (ltb rfl) <| L_skip rfl rfl (ltb rfl) (congrArg Value.bool b0_) rfl rfl (ltb rfl) <| L_op (.plain rfl) rfl (ltb rfl) (X_pick (b := true) (v := (.bool true)) (congrArg Value.bool b0_) rfl) <| L_nil <| thn_n ⟨(Kp.upd (Kp.upd (Kp.upd (Kp.upd (Kp.refl _ _) rfl) rfl) rfl) rfl), (or_t b0_), (Ext.refl w)⟩
    · exact L_op (.guard 3 false 8 rfl rfl (ltb rfl) (congrArg Value.bool b0_)) rfl (ltb rfl) (X_move (v := v_a1) rfl) <| L_op (.guard 3 false 8 rfl rfl (ltb rfl) (congrArg Value.bool b0_)) rfl (ltb rfl) (X_lenR Tryd.underlying48 rfl f_a1) <| L_op (.guard 3 false 8 rfl rfl (ltb rfl) (congrArg Value.bool b0_)) rfl (ltb rfl) (X_gtr rfl rfl) <| L_op (.plain rfl) rfl (ltb rfl) (X_pick (b := false) (v := (.bool (decide (4096 < (a1.length : Int))))) (congrArg Value.bool b0_) rfl) <| L_nil <| thn_n ⟨(Kp.upd (Kp.upd (Kp.upd (Kp.upd (Kp.refl _ _) rfl) rfl) rfl) rfl), (or_f b0_), (Ext.refl w)⟩
  intro s6 w2 K3 h4 e5
  refine L_nil <| thn_n ?_
  rcases bif_two H with ⟨q7, H⟩ | ⟨q7, H⟩
  · refine W_true (h4.trans (congrArg Value.bool q7)) <| W_seq <| W_reg <| L_op (.plain rfl) rfl (ltb rfl) (X_assign (v := (.bool false)) rfl) <| L_nil <| thn_n <| W_ret <| thn_r <| fin_r ?_
    obtain rfl := Option.some.inj H
    exact fin1 rfl e5
  · refine W_false (h4.trans (congrArg Value.bool q7)) <| W_skip <| thn_n <| W_seq <| W_reg <| L_op (.plain rfl) rfl (ltb rfl) (X_move (v := v_a0) (K3 0 rfl)) ?_
    obtain ⟨c8, H⟩ := bif_some H
    obtain ⟨c9, H⟩ := bif_some H
    refine L_callP (.plain rfl) rfl (ltb rfl) rfl Tryd.call68 (spec_l03OK.calls (w := w2) (a0 := a0) (Rd.ext f_a0 e5) (of_decide_eq_true c8) (of_decide_eq_true c9)) rfl <| fun w10 e11 => L_op (.plain rfl) rfl (ltb rfl) (X_move (v := (.bool (decide ((layerFault a0).2 = 0)))) rfl) ?_
    obtain ⟨z13, x14, H⟩ := bind_some H
    refine L_grpE 3 [(16, 19)] 18 (fun q => q = z13) ?_ ?_
    · rcases bif_two x14 with ⟨b11_, H⟩ | ⟨b11_, H⟩
      · refine L_op (.guard 2 true 15 rfl rfl (ltb rfl) (congrArg Value.bool b11_)) rfl (ltb rfl) (X_move (v := v_a1) (K3 1 rfl)) ?_
        obtain ⟨c13, H⟩ := bif_some H
        obtain ⟨c14, H⟩ := bif_some H
        refine L_callP (.guard 2 true 15 rfl rfl (ltb rfl) (congrArg Value.bool b11_)) rfl (ltb rfl) rfl Tryd.call68 (spec_l03OK.calls (w := w10) (a0 := a1) (Rd.ext f_a1 (Ext.trans e5 e11)) (of_decide_eq_true c13) (of_decide_eq_true c14)) rfl <| fun w15 e16 => L_op (.plain rfl) rfl (ltb rfl) (X_pick (b := true) (v := (.bool (decide ((layerFault a1).2 = 0)))) (congrArg Value.bool b11_) rfl) ?_
        obtain rfl := Option.some.inj H
        exact L_nil <| thn_n ⟨(Kp.upd (Kp.upd (Kp.upd (Kp.refl _ _) rfl) rfl) rfl), ⟨_, rfl, rfl⟩, e16⟩
      · refine L_skip rfl rfl (ltb rfl) (congrArg Value.bool b11_) rfl rfl (ltb rfl) <| L_skip rfl rfl (ltb rfl) (congrArg Value.bool b11_) rfl rfl (ltb rfl) <| L_op (.plain rfl) rfl (ltb rfl) (X_pick (b := false) (v := (.bool false)) (congrArg Value.bool b11_) rfl) ?_
        obtain rfl := Option.some.inj H
        exact L_nil <| thn_n ⟨(Kp.upd (Kp.upd (Kp.upd (Kp.refl _ _) rfl) rfl) rfl), ⟨_, rfl, rfl⟩, (Ext.refl w10)⟩
    intro s19 w15 z20 K16 hq h17 e18
    rw [hq] at h17; clear hq
    refine L_op (.plain rfl) rfl (ltb rfl) (X_move (v := (.bool z13)) h17) ?_
    obtain ⟨z22, x23, H⟩ := bind_some H
    refine L_grpE 4 [(20, 24)] 23 (fun q => q = z22) ?_ ?_
    · rcases bif_two x23 with ⟨b20_, H⟩ | ⟨b20_, H⟩
      · refine L_op (.guard 6 true 19 rfl rfl (ltb rfl) (congrArg Value.bool b20_)) rfl (ltb rfl) (X_move (v := v_a0) ((K16 0 rfl).trans (K3 0 rfl))) <| L_op (.guard 6 true 19 rfl rfl (ltb rfl) (congrArg Value.bool b20_)) rfl (ltb rfl) (X_move (v := v_a1) ((K16 1 rfl).trans (K3 1 rfl))) ?_
        obtain ⟨c22, H⟩ := bif_some H
        refine L_callP (.guard 6 true 19 rfl rfl (ltb rfl) (congrArg Value.bool b20_)) rfl (ltb rfl) rfl Tryd.call71 (spec_l03Same.calls (w := w15) (a0 := a0) (a1 := a1) (Rd.ext f_a0 (Ext.trans (Ext.trans e5 e11) e18)) (Rd.ext f_a1 (Ext.trans (Ext.trans e5 e11) e18)) (of_decide_eq_true c22)) rfl <| fun w23 e24 => L_op (.plain rfl) rfl (ltb rfl) (X_pick (b := true) (v := (.bool (decide (a0 = a1)))) (congrArg Value.bool b20_) rfl) ?_
        obtain rfl := Option.some.inj H
        exact L_nil <| thn_n ⟨(Kp.upd (Kp.upd (Kp.upd (Kp.upd (Kp.refl _ _) rfl) rfl) rfl) rfl), ⟨_, rfl, rfl⟩, e24⟩
      · refine L_skip rfl rfl (ltb rfl) (congrArg Value.bool b20_) rfl rfl (ltb rfl) <| L_skip rfl rfl (ltb rfl) (congrArg Value.bool b20_) rfl rfl (ltb rfl) <| L_skip rfl rfl (ltb rfl) (congrArg Value.bool b20_) rfl rfl (ltb rfl) <| L_op (.plain rfl) rfl (ltb rfl) (X_pick (b := false) (v := (.bool false)) (congrArg Value.bool b20_) rfl) ?_
        obtain rfl := Option.some.inj H
        exact L_nil <| thn_n ⟨(Kp.upd (Kp.upd (Kp.upd (Kp.upd (Kp.refl _ _) rfl) rfl) rfl) rfl), ⟨_, rfl, rfl⟩, (Ext.refl w15)⟩
    intro s28 w24 z29 K25 hq h26 e27
    rw [hq] at h26; clear hq
    refine L_op (.plain rfl) rfl (ltb rfl) (X_assign (v := (.bool z22)) h26) <| L_nil <| thn_n <| W_ret <| fin_r ?_
    obtain rfl := Option.some.inj H
    exact fin1 rfl (Ext.trans (Ext.trans (Ext.trans e5 e11) e18) e27)
theorem spec_SameLayer.calls {w : World} {a0 : List Rec} {a1 : List Rec} {v_a0 : Value} (f_a0 : Rd 5 encRec w v_a0 a0) {v_a1 : Value} (f_a1 : Rd 5 encRec w v_a1 a1) (h0 : a0.length ≤ 1048576) (h1 : a1.length ≤ 1048576) (h2 : ∀ x ∈ a0, x.path.length ≤ 1048576) (h3 : ∀ x ∈ a1, x.path.length ≤ 1048576) :
    Calls Tryd.prog 44 #[v_a0, v_a1] w (Rt (RP w (.bool (sameLayer a0 a1)))) := spec_SameLayer.walk f_a0 f_a1 (spec_SameLayer.eq a0 a1 h0 h1 h2 h3)
/-! slices.Equal(()impl.Record,impl.Record) -/
theorem slices_EqualR.walk {k : Nat} {w : World} {a0 : List Rec} {a1 : List Rec} {v_a0 : Value} (f_a0 : Rd 5 encRec w v_a0 a0) {v_a1 : Value} (f_a1 : Rd 5 encRec w v_a1 a1) {r : Bool} (H : slices_EqualR.sh k a0 a1 = some r) :
    Calls Tryd.prog 72 #[v_a0, v_a1] w (Rt (RP w (.bool r))) := by
  unfold slices_EqualR.sh at H
  refine calls_of_W Tryd.func72 rfl (Nat.le_of_ble_eq_true rfl) Tryd.ntmps72 rfl ?_
  refine W_seq <| W_reg <| L_op (.plain rfl) rfl (ltb rfl) (X_assign (v := (.bool false)) rfl) <| L_nil <| thn_n <| W_seq <| W_seq <| W_reg <| L_op (.plain rfl) rfl (ltb rfl) (X_move (v := v_a0) rfl) <| L_op (.plain rfl) rfl (ltb rfl) (X_lenR Tryd.underlying48 rfl f_a0) <| L_op (.plain rfl) rfl (ltb rfl) (X_move (v := v_a1) rfl) <| L_op (.plain rfl) rfl (ltb rfl) (X_lenR Tryd.underlying48 rfl f_a1) <| L_op (.plain rfl) rfl (ltb rfl) (X_neq rfl rfl) <| L_nil <| thn_n ?_
  rcases bif_two H with ⟨q1, H⟩ | ⟨q1, H⟩
  · refine W_true (congrArg Value.bool q1) <| W_seq <| W_reg <| L_op (.plain rfl) rfl (ltb rfl) (X_assign (v := (.bool false)) rfl) <| L_nil <| thn_n <| W_ret <| thn_r <| fin_r ?_
    obtain rfl := Option.some.inj H
    exact fin1 rfl (Ext.refl w)
  · refine W_false (congrArg Value.bool q1) <| W_skip <| thn_n <| W_seq <| W_seq <| W_reg <| L_op (.plain rfl) rfl (ltb rfl) (X_move (v := v_a0) rfl) <| L_op (.plain rfl) rfl (ltb rfl) (X_lenR Tryd.underlying48 rfl f_a0) <| L_op (.plain rfl) rfl (ltb rfl) (X_move (v := (.int .i64 0)) rfl) <| L_nil <| thn_n ?_
    obtain ⟨z3, L4, C5⟩ := bind_some H
    clear H
    refine  W_cutQ (fun s0 s9 w9 => Kp [(4, 6), (13, 26)] s0 s9 ∧ Ext w w9 ∧ z3 = .inr ()) ?_ ?_
    · refine W_block <| W_loopI (fun s0 kk s9 w9 => ∃ (x13_2 : Int), Kp [(4, 6), (13, 26)] s0 s9 ∧ s9 13 = .int .i64 x13_2 ∧ Ext w w9 ∧ loopF (slices_EqualR.b1 a0 a1) kk x13_2 = some z3) k ⟨0, (Kp.refl _ _), rfl, (Ext.refl w), L4⟩ ?_
      rintro k10 s11 w12 ⟨x13_2, K13, h16, e14, L15⟩
      cases k10 with
      | zero => exact absurd L15 (by simp [loopF])
      | succ k10 =>
        obtain ⟨t17, H, S18⟩ := loopF_succ L15
        clear L15
        unfold slices_EqualR.b1 at H
        refine W_seq <| W_reg <| L_op (.plain rfl) rfl (ltb rfl) (X_lss h16 (K13 12 rfl)) <| L_nil <| thn_n <| W_seq ?_
        rcases bif_two H with ⟨q19, H⟩ | ⟨q19, H⟩
        · refine W_true (congrArg Value.bool q19) <| W_skip <| thn_n <| W_seq <| W_block <| W_seq <| W_reg <| L_op (.plain rfl) rfl (ltb rfl) (X_move (v := (.int .i64 x13_2)) h16) <| L_op (.plain rfl) rfl (ltb rfl) (X_assign (v := (.int .i64 x13_2)) rfl) <| L_nil <| thn_n <| W_seq ?_
          obtain ⟨c20, H⟩ := bif_some H
          obtain ⟨c23, H⟩ := bif_some H
          refine W_drawM [LEq v_a0, LEq (.int .i64 x13_2), LAt0 (encRec (gt a0 x13_2)), LEq (.agg (encRec (gt a0 x13_2)).toArray), LEq v_a1, LEq (.int .i64 x13_2), LAt0 (encRec (gt a1 x13_2)), LEq (.agg (encRec (gt a1 x13_2)).toArray), LEq (.bool (!decide ((gt a0 x13_2) = (gt a1 x13_2))))] (by kernel_rfl) (by kernel_rfl) ⟨LEq.mono, LEq.mono, LAt0.mono, LEq.mono, LEq.mono, LEq.mono, LAt0.mono, LEq.mono, LEq.mono, trivial⟩ ⟨?_, ?_, ?_, ?_, ?_, ?_, ?_, ?_, ?_, trivial⟩ ?_
          · intro s26 w27 e28 hf29 hd30 hu31
            exact L_op (.plain rfl) rfl (ltb rfl) (X_move (v := v_a0) ((hf29 0 rfl).trans (K13 0 rfl))) <| L_nil <| stepEnd rfl rfl (Ext.refl w27) rfl
          · intro s32 w33 e34 hf35 hd36 hu37
            exact L_op (.plain rfl) rfl (ltb rfl) (X_move (v := (.int .i64 x13_2)) (hf35 5 rfl)) <| L_nil <| stepEnd rfl rfl (Ext.refl w33) rfl
          · intro s38 w39 e40 hf41 hd42 hu43
            have d44 : s38 16 = v_a0 := (hd42 0 rfl)
            have d45 : s38 17 = (.int .i64 x13_2) := (hd42 1 rfl)
            have c46 := c20
            exact L_idx (.plain rfl) rfl (ltb rfl) rfl Tryd.underlying48 Tryd.sizeOf23 d44 (Rd.ext f_a0 (Ext.trans e14 e40)) d45 c46 <| fun p47 h48 => L_nil <| stepEnd rfl rfl (Ext.refl w39) ⟨_, rfl, h48⟩
          · intro s49 w50 e51 hf52 hd53 hu54
            obtain ⟨p55, h56, h57⟩ := (hd53 2 rfl)
            exact L_op (.plain rfl) rfl (ltb rfl) (X_loadS Tryd.isAgg23 Tryd.sizeOf23 rfl h56 h57) <| L_nil <| stepEnd rfl rfl (Ext.refl w50) rfl
          · intro s58 w59 e60 hf61 hd62 hu63
            exact L_op (.plain rfl) rfl (ltb rfl) (X_move (v := v_a1) ((hf61 1 rfl).trans (K13 1 rfl))) <| L_nil <| stepEnd rfl rfl (Ext.refl w59) rfl
          · intro s64 w65 e66 hf67 hd68 hu69
            exact L_op (.plain rfl) rfl (ltb rfl) (X_move (v := (.int .i64 x13_2)) (hf67 5 rfl)) <| L_nil <| stepEnd rfl rfl (Ext.refl w65) rfl
          · intro s70 w71 e72 hf73 hd74 hu75
            have d76 : s70 20 = v_a1 := (hd74 4 rfl)
            have d77 : s70 21 = (.int .i64 x13_2) := (hd74 5 rfl)
            have c78 := c23
            exact L_idx (.plain rfl) rfl (ltb rfl) rfl Tryd.underlying48 Tryd.sizeOf23 d76 (Rd.ext f_a1 (Ext.trans e14 e72)) d77 c78 <| fun p79 h80 => L_nil <| stepEnd rfl rfl (Ext.refl w71) ⟨_, rfl, h80⟩
          · intro s81 w82 e83 hf84 hd85 hu86
            obtain ⟨p87, h88, h89⟩ := (hd85 6 rfl)
            exact L_op (.plain rfl) rfl (ltb rfl) (X_loadS Tryd.isAgg23 Tryd.sizeOf23 rfl h88 h89) <| L_nil <| stepEnd rfl rfl (Ext.refl w82) rfl
          · intro s90 w91 e92 hf93 hd94 hu95
            have d96 : s90 19 = (.agg (encRec (gt a0 x13_2)).toArray) := (hd94 3 rfl)
            have d97 : s90 23 = (.agg (encRec (gt a1 x13_2)).toArray) := (hd94 7 rfl)
            exact L_op (.plain rfl) rfl (ltb rfl) (X_neA Eqg.t23 (Eqs.t23 (gt a0 x13_2) (gt a1 x13_2)) d96 d97) <| L_nil <| stepEnd rfl rfl (Ext.refl w91) rfl
          intro s98 w99 e100 hf101 ha102
          have K103 := Kp.ofD (kp := [(16, 25)]) rfl hf101
          have d104 : s98 24 = (.bool (!decide ((gt a0 x13_2) = (gt a1 x13_2)))) := ha102 8 rfl
          clear ha102 hf101
          refine thn_n ?_
          rcases bif_two H with ⟨q105, H⟩ | ⟨q105, H⟩
          · refine W_true (d104.trans (congrArg Value.bool q105)) <| W_seq <| W_reg <| L_op (.plain rfl) rfl (ltb rfl) (X_assign (v := (.bool false)) rfl) <| L_nil <| thn_n <| W_ret <| blk_r <| thn_r <| thn_r <| blk_r <| thn_r <| thn_r <| fin_r ?_
            obtain rfl := Option.some.inj H
            obtain rfl := Option.some.inj S18
            have H := C5
            obtain rfl := Option.some.inj H
            exact fin1 rfl (Ext.trans e14 e100)
          · refine W_false (d104.trans (congrArg Value.bool q105)) <| W_skip <| blk_n <| thn_n <| W_reg <| L_op (.plain rfl) rfl (ltb rfl) (X_add ((K103 13 rfl).trans h16) rfl) <| L_op (.plain rfl) rfl (ltb rfl) (X_move (v := (.int .i64 (IntKind.wrap .i64 (x13_2 + 1)))) rfl) <| L_nil <| thn_n ?_
            obtain rfl := Option.some.inj H
            exact ⟨_, Nat.lt_succ_self _, IntKind.wrap .i64 (x13_2 + 1), (Kp.upd (Kp.upd (Kp.cut (Kp.upd (Kp.upd (Kp.upd K13 rfl) rfl) rfl) K103 rfl) rfl) rfl), rfl, (Ext.trans e14 e100), S18⟩
        · refine W_false (congrArg Value.bool q19) <| W_exit <| thn_x <| thn_x <| blk_x <| thn_n ?_
          obtain rfl := Option.some.inj H
          obtain rfl := Option.some.inj S18
          exact ⟨(Kp.upd K13 rfl), e14, rfl⟩
    · rintro s7 w6 ⟨K8, e9, y106⟩
      rw [y106] at C5
      have H := C5
      replace H : _ = some _ := H
      refine thn_n <| W_seq <| W_reg <| L_op (.plain rfl) rfl (ltb rfl) (X_assign (v := (.bool true)) rfl) <| L_nil <| thn_n <| W_ret <| fin_r ?_
      obtain rfl := Option.some.inj H
      exact fin1 rfl e9
theorem slices_EqualR.calls {w : World} {a0 : List Rec} {a1 : List Rec} {v_a0 : Value} (f_a0 : Rd 5 encRec w v_a0 a0) {v_a1 : Value} (f_a1 : Rd 5 encRec w v_a1 a1) (h0 : a0.length ≤ 1048576) :
    Calls Tryd.prog 72 #[v_a0, v_a1] w (Rt (RP w (.bool (decide (a0 = a1))))) := by
  obtain ⟨k, h⟩ := slices_EqualR.eq a0 a1 h0
  exact slices_EqualR.walk f_a0 f_a1 h
/-! impl.SameLayer -/
theorem impl_SameLayer.walk {w : World} {a0 : List Rec} {a1 : List Rec} (gv : GV 0 w) {v_a0 : Value} (f_a0 : Rd 5 encRec w v_a0 a0) {v_a1 : Value} (f_a1 : Rd 5 encRec w v_a1 a1) {r : Bool} (H : impl_SameLayer.sh a0 a1 = some r) :
    Calls Tryd.prog 45 #[v_a0, v_a1] w (Rt (RP w (.bool r))) := by
  unfold impl_SameLayer.sh at H
  refine calls_of_W Tryd.func45 rfl (Nat.le_of_ble_eq_true rfl) Tryd.ntmps45 rfl ?_
  refine W_seq <| W_reg <| L_op (.plain rfl) rfl (ltb rfl) (X_assign (v := (.bool false)) rfl) <| L_nil <| thn_n <| W_seq <| W_reg <| L_op (.plain rfl) rfl (ltb rfl) (X_move (v := v_a0) rfl) ?_
  obtain ⟨c1, H⟩ := bif_some H
  obtain ⟨c2, H⟩ := bif_some H
  refine L_callP (.plain rfl) rfl (ltb rfl) rfl Tryd.call39 (impl_LayerOK.calls (w := w) (a0 := a0) gv f_a0 (of_decide_eq_true c1) (of_decide_eq_true c2)) rfl <| fun w3 e4 => L_op (.plain rfl) rfl (ltb rfl) (X_move (v := (.bool (decide ((layerFaultL a0).2 = 0)))) rfl) ?_
  obtain ⟨z6, x7, H⟩ := bind_some H
  refine L_grpE 3 [(8, 11)] 10 (fun q => q = z6) ?_ ?_
  · rcases bif_two x7 with ⟨b4_, H⟩ | ⟨b4_, H⟩
    · refine L_op (.guard 2 true 7 rfl rfl (ltb rfl) (congrArg Value.bool b4_)) rfl (ltb rfl) (X_move (v := v_a1) rfl) ?_
      obtain ⟨c6, H⟩ := bif_some H
      obtain ⟨c7, H⟩ := bif_some H
      refine L_callP (.guard 2 true 7 rfl rfl (ltb rfl) (congrArg Value.bool b4_)) rfl (ltb rfl) rfl Tryd.call39 (impl_LayerOK.calls (w := w3) (a0 := a1) (GV.ext gv e4) (Rd.ext f_a1 e4) (of_decide_eq_true c6) (of_decide_eq_true c7)) rfl <| fun w8 e9 => L_op (.plain rfl) rfl (ltb rfl) (X_pick (b := true) (v := (.bool (decide ((layerFaultL a1).2 = 0)))) (congrArg Value.bool b4_) rfl) ?_
      obtain rfl := Option.some.inj H
      exact L_nil <| thn_n ⟨(Kp.upd (Kp.upd (Kp.upd (Kp.refl _ _) rfl) rfl) rfl), ⟨_, rfl, rfl⟩, e9⟩
    · refine L_skip rfl rfl (ltb rfl) (congrArg Value.bool b4_) rfl rfl (ltb rfl) <| L_skip rfl rfl (ltb rfl) (congrArg Value.bool b4_) rfl rfl (ltb rfl) <| L_op (.plain rfl) rfl (ltb rfl) (X_pick (b := false) (v := (.bool false)) (congrArg Value.bool b4_) rfl) ?_
      obtain rfl := Option.some.inj H
      exact L_nil <| thn_n ⟨(Kp.upd (Kp.upd (Kp.upd (Kp.refl _ _) rfl) rfl) rfl), ⟨_, rfl, rfl⟩, (Ext.refl w3)⟩
  intro s12 w8 z13 K9 hq h10 e11
  rw [hq] at h10; clear hq
  refine L_op (.plain rfl) rfl (ltb rfl) (X_move (v := (.bool z6)) h10) ?_
  obtain ⟨z15, x16, H⟩ := bind_some H
  refine L_grpE 4 [(12, 16)] 15 (fun q => q = z15) ?_ ?_
  · rcases bif_two x16 with ⟨b13_, H⟩ | ⟨b13_, H⟩
    · refine L_op (.guard 6 true 11 rfl rfl (ltb rfl) (congrArg Value.bool b13_)) rfl (ltb rfl) (X_move (v := v_a0) (K9 0 rfl)) <| L_op (.guard 6 true 11 rfl rfl (ltb rfl) (congrArg Value.bool b13_)) rfl (ltb rfl) (X_move (v := v_a1) (K9 1 rfl)) ?_
      obtain ⟨c15, H⟩ := bif_some H
      refine L_callP (.guard 6 true 11 rfl rfl (ltb rfl) (congrArg Value.bool b13_)) rfl (ltb rfl) rfl Tryd.call72 (slices_EqualR.calls (w := w8) (a0 := a0) (a1 := a1) (Rd.ext f_a0 (Ext.trans e4 e11)) (Rd.ext f_a1 (Ext.trans e4 e11)) (of_decide_eq_true c15)) rfl <| fun w16 e17 => L_op (.plain rfl) rfl (ltb rfl) (X_pick (b := true) (v := (.bool (decide (a0 = a1)))) (congrArg Value.bool b13_) rfl) ?_
      obtain rfl := Option.some.inj H
      exact L_nil <| thn_n ⟨(Kp.upd (Kp.upd (Kp.upd (Kp.upd (Kp.refl _ _) rfl) rfl) rfl) rfl), ⟨_, rfl, rfl⟩, e17⟩
    · refine L_skip rfl rfl (ltb rfl) (congrArg Value.bool b13_) rfl rfl (ltb rfl) <| L_skip rfl rfl (ltb rfl) (congrArg Value.bool b13_) rfl rfl (ltb rfl) <| L_skip rfl rfl (ltb rfl) (congrArg Value.bool b13_) rfl rfl (ltb rfl) <| L_op (.plain rfl) rfl (ltb rfl) (X_pick (b := false) (v := (.bool false)) (congrArg Value.bool b13_) rfl) ?_
      obtain rfl := Option.some.inj H
      exact L_nil <| thn_n ⟨(Kp.upd (Kp.upd (Kp.upd (Kp.upd (Kp.refl _ _) rfl) rfl) rfl) rfl), ⟨_, rfl, rfl⟩, (Ext.refl w8)⟩
  intro s21 w17 z22 K18 hq h19 e20
  rw [hq] at h19; clear hq
  refine L_op (.plain rfl) rfl (ltb rfl) (X_assign (v := (.bool z15)) h19) <| L_nil <| thn_n <| W_ret <| fin_r ?_
  obtain rfl := Option.some.inj H
  exact fin1 rfl (Ext.trans (Ext.trans e4 e11) e20)
theorem impl_SameLayer.calls {w : World} {a0 : List Rec} {a1 : List Rec} (gv : GV 0 w) {v_a0 : Value} (f_a0 : Rd 5 encRec w v_a0 a0) {v_a1 : Value} (f_a1 : Rd 5 encRec w v_a1 a1) (h0 : a0.length ≤ 1048576) (h1 : a1.length ≤ 1048576) (h2 : ∀ x ∈ a0, x.path.length ≤ 1048576) (h3 : ∀ x ∈ a1, x.path.length ≤ 1048576) :
    Calls Tryd.prog 45 #[v_a0, v_a1] w (Rt (RP w (.bool (sameLayer a0 a1)))) := impl_SameLayer.walk gv f_a0 f_a1 (impl_SameLayer.eq a0 a1 h0 h1 h2 h3)
/-! laws.FnExactSameLayer -/
theorem law_SameLayer.walk {w : World} {a0 : List Rec} {a1 : List Rec} (gv : GV 0 w) {v_a0 : Value} (f_a0 : Rd 5 encRec w v_a0 a0) {v_a1 : Value} (f_a1 : Rd 5 encRec w v_a1 a1) {r : Bool} (H : law_SameLayer.sh a0 a1 = some r) :
    Calls Tryd.prog 14 #[v_a0, v_a1] w (Rt (RP w (.bool r))) := by
  unfold law_SameLayer.sh at H
  refine calls_of_W Tryd.func14 rfl (Nat.le_of_ble_eq_true rfl) Tryd.ntmps14 rfl ?_
  refine W_seq <| W_reg <| L_op (.plain rfl) rfl (ltb rfl) (X_assign (v := (.bool false)) rfl) <| L_nil <| thn_n <| W_seq <| W_reg <| L_op (.plain rfl) rfl (ltb rfl) (X_assign (v := (.int .i64 1048576)) rfl) <| L_nil <| thn_n <| W_seq <| W_reg <| L_op (.plain rfl) rfl (ltb rfl) (X_move (v := v_a0) rfl) <| L_op (.plain rfl) rfl (ltb rfl) (X_move (v := (.int .i64 1048576)) rfl) ?_
  obtain ⟨c1, H⟩ := bif_some H
  obtain ⟨c2, H⟩ := bif_some H
  obtain ⟨c3, H⟩ := bif_some H
  obtain ⟨c4, H⟩ := bif_some H
  refine L_callP (.plain rfl) rfl (ltb rfl) rfl Tryd.call33 (laws_szRecordS.calls (w := w) (a0 := a0) (a1 := 1048576) f_a0 (of_decide_eq_true c1) (of_decide_eq_true c2) (of_decide_eq_true c3) (of_decide_eq_true c4)) rfl <| fun w5 e6 => L_op (.plain rfl) rfl (ltb rfl) (X_assign (v := (.int .i64 (szRecS a0 1048576))) rfl) <| L_nil <| thn_n <| W_seq <| W_seq <| W_reg <| L_op (.plain rfl) rfl (ltb rfl) (X_move (v := (.int .i64 (szRecS a0 1048576))) rfl) <| L_op (.plain rfl) rfl (ltb rfl) (X_lss rfl rfl) <| L_nil <| thn_n ?_
  rcases bif_two H with ⟨q7, H⟩ | ⟨q7, H⟩
  · refine W_true (congrArg Value.bool q7) <| W_seq <| W_reg <| L_op (.plain rfl) rfl (ltb rfl) (X_assign (v := (.bool true)) rfl) <| L_nil <| thn_n <| W_ret <| thn_r <| fin_r ?_
    obtain rfl := Option.some.inj H
    exact fin1 rfl e6
  · refine W_false (congrArg Value.bool q7) <| W_skip <| thn_n <| W_seq <| W_reg <| L_op (.plain rfl) rfl (ltb rfl) (X_move (v := v_a1) rfl) <| L_op (.plain rfl) rfl (ltb rfl) (X_move (v := (.int .i64 (szRecS a0 1048576))) rfl) ?_
    obtain ⟨c8, H⟩ := bif_some H
    obtain ⟨c9, H⟩ := bif_some H
    obtain ⟨c10, H⟩ := bif_some H
    obtain ⟨c11, H⟩ := bif_some H
    refine L_callP (.plain rfl) rfl (ltb rfl) rfl Tryd.call33 (laws_szRecordS.calls (w := w5) (a0 := a1) (a1 := (szRecS a0 1048576)) (Rd.ext f_a1 e6) (of_decide_eq_true c8) (of_decide_eq_true c9) (of_decide_eq_true c10) (of_decide_eq_true c11)) rfl <| fun w12 e13 => L_op (.plain rfl) rfl (ltb rfl) (X_assign (v := (.int .i64 (szRecS a1 (szRecS a0 1048576)))) rfl) <| L_nil <| thn_n <| W_seq <| W_seq <| W_reg <| L_op (.plain rfl) rfl (ltb rfl) (X_move (v := (.int .i64 (szRecS a1 (szRecS a0 1048576)))) rfl) <| L_op (.plain rfl) rfl (ltb rfl) (X_lss rfl rfl) <| L_nil <| thn_n ?_
    rcases bif_two H with ⟨q14, H⟩ | ⟨q14, H⟩
    · refine W_true (congrArg Value.bool q14) <| W_seq <| W_reg <| L_op (.plain rfl) rfl (ltb rfl) (X_assign (v := (.bool true)) rfl) <| L_nil <| thn_n <| W_ret <| thn_r <| fin_r ?_
      obtain rfl := Option.some.inj H
      exact fin1 rfl (Ext.trans e6 e13)
    · refine W_false (congrArg Value.bool q14) <| W_skip <| thn_n <| W_seq <| W_reg <| L_op (.plain rfl) rfl (ltb rfl) (X_move (v := v_a0) rfl) ?_
      obtain ⟨c15, H⟩ := bif_some H
      refine L_callO (.plain rfl) rfl (ltb rfl) rfl Tryd.call35 (laws_toRecordS.calls (w := w12) (a0 := a0) (Rd.ext f_a0 (Ext.trans e6 e13)) (of_decide_eq_true c15)) rfl <| fun v18 w16 e17 o19 => L_op (.plain rfl) rfl (ltb rfl) (X_move (v := v_a1) rfl) ?_
      obtain ⟨c20, H⟩ := bif_some H
      refine L_callO (.plain rfl) rfl (ltb rfl) rfl Tryd.call35 (laws_toRecordS.calls (w := w16) (a0 := a1) (Rd.ext f_a1 (Ext.trans (Ext.trans e6 e13) e17)) (of_decide_eq_true c20)) rfl <| fun v23 w21 e22 o24 => ?_
      obtain ⟨c25, H⟩ := bif_some H
      obtain ⟨c26, H⟩ := bif_some H
      obtain ⟨c27, H⟩ := bif_some H
      obtain ⟨c28, H⟩ := bif_some H
      refine L_callP (.plain rfl) rfl (ltb rfl) rfl Tryd.call44 (spec_SameLayer.calls (w := w21) (a0 := a0) (a1 := a1) (Own.rd (Own.ext o19 e22)) (Own.rd o24) (of_decide_eq_true c25) (of_decide_eq_true c26) (of_decide_eq_true c27) (of_decide_eq_true c28)) rfl <| fun w29 e30 => L_op (.plain rfl) rfl (ltb rfl) (X_assign (v := (.bool (sameLayer a0 a1))) rfl) <| L_nil <| thn_n <| W_seq <| W_reg <| L_op (.plain rfl) rfl (ltb rfl) (X_move (v := v_a0) rfl) ?_
      obtain ⟨c31, H⟩ := bif_some H
      refine L_callO (.plain rfl) rfl (ltb rfl) rfl Tryd.call35 (laws_toRecordS.calls (w := w29) (a0 := a0) (Rd.ext f_a0 (Ext.trans (Ext.trans (Ext.trans (Ext.trans e6 e13) e17) e22) e30)) (of_decide_eq_true c31)) rfl <| fun v34 w32 e33 o35 => L_op (.plain rfl) rfl (ltb rfl) (X_assign (v := v34) rfl) <| L_nil <| thn_n <| W_seq <| W_reg <| L_op (.plain rfl) rfl (ltb rfl) (X_move (v := v_a1) rfl) ?_
      obtain ⟨c36, H⟩ := bif_some H
      refine L_callO (.plain rfl) rfl (ltb rfl) rfl Tryd.call35 (laws_toRecordS.calls (w := w32) (a0 := a1) (Rd.ext f_a1 (Ext.trans (Ext.trans (Ext.trans (Ext.trans (Ext.trans e6 e13) e17) e22) e30) e33)) (of_decide_eq_true c36)) rfl <| fun v39 w37 e38 o40 => L_op (.plain rfl) rfl (ltb rfl) (X_assign (v := v39) rfl) <| L_nil <| thn_n <| W_seq <| W_reg <| L_op (.plain rfl) rfl (ltb rfl) (X_move (v := v34) rfl) <| L_op (.plain rfl) rfl (ltb rfl) (X_move (v := v39) rfl) ?_
      obtain ⟨c41, H⟩ := bif_some H
      obtain ⟨c42, H⟩ := bif_some H
      obtain ⟨c43, H⟩ := bif_some H
      obtain ⟨c44, H⟩ := bif_some H
      refine L_callP (.plain rfl) rfl (ltb rfl) rfl Tryd.call45 (impl_SameLayer.calls (w := w37) (a0 := a0) (a1 := a1) (GV.ext gv (Ext.trans (Ext.trans (Ext.trans (Ext.trans (Ext.trans (Ext.trans e6 e13) e17) e22) e30) e33) e38)) (Own.rd (Own.ext o35 e38)) (Own.rd o40) (of_decide_eq_true c41) (of_decide_eq_true c42) (of_decide_eq_true c43) (of_decide_eq_true c44)) rfl <| fun w45 e46 => L_op (.plain rfl) rfl (ltb rfl) (X_assign (v := (.bool (sameLayer a0 a1))) rfl) <| L_nil <| thn_n <| W_seq <| W_seq <| W_reg <| L_op (.plain rfl) rfl (ltb rfl) (X_move (v := (.bool (sameLayer a0 a1))) rfl) <| L_op (.plain rfl) rfl (ltb rfl) (X_move (v := (.bool (sameLayer a0 a1))) rfl) <| L_op (.plain rfl) rfl (ltb rfl) (X_bne Tryd.underlying4 rfl rfl) <| L_nil <| thn_n ?_
      rcases bif_two H with ⟨q47, H⟩ | ⟨q47, H⟩
      · refine W_true (congrArg Value.bool q47) <| W_seq <| W_reg <| L_op (.plain rfl) rfl (ltb rfl) (X_assign (v := (.bool false)) rfl) <| L_nil <| thn_n <| W_ret <| thn_r <| fin_r ?_
        obtain rfl := Option.some.inj H
        exact fin1 rfl (Ext.trans (Ext.trans (Ext.trans (Ext.trans (Ext.trans (Ext.trans (Ext.trans e6 e13) e17) e22) e30) e33) e38) e46)
      · refine W_false (congrArg Value.bool q47) <| W_skip <| thn_n <| W_seq <| W_seq <| W_reg <| L_op (.plain rfl) rfl (ltb rfl) (X_move (v := v34) rfl) <| L_op (.plain rfl) rfl (ltb rfl) (X_move (v := v_a0) rfl) ?_
        obtain ⟨c48, H⟩ := bif_some H
        refine L_callO (.plain rfl) rfl (ltb rfl) rfl Tryd.call35 (laws_toRecordS.calls (w := w45) (a0 := a0) (Rd.ext f_a0 (Ext.trans (Ext.trans (Ext.trans (Ext.trans (Ext.trans (Ext.trans (Ext.trans e6 e13) e17) e22) e30) e33) e38) e46)) (of_decide_eq_true c48)) rfl <| fun v51 w49 e50 o52 => ?_
        obtain ⟨c53, H⟩ := bif_some H
        refine L_callP (.plain rfl) rfl (ltb rfl) rfl Tryd.call37 (laws_eqRecordS.calls (w := w49) (a0 := a0) (a1 := a0) (Own.rd (Own.ext o35 (Ext.trans (Ext.trans e38 e46) e50))) (Own.rd o52) (of_decide_eq_true c53)) rfl <| fun w54 e55 => L_op (.plain rfl) rfl (ltb rfl) (X_not rfl) <| L_nil <| thn_n ?_
        rcases bif_two H with ⟨q56, H⟩ | ⟨q56, H⟩
        · refine W_true (congrArg Value.bool q56) <| W_seq <| W_reg <| L_op (.plain rfl) rfl (ltb rfl) (X_assign (v := (.bool false)) rfl) <| L_nil <| thn_n <| W_ret <| thn_r <| fin_r ?_
          obtain rfl := Option.some.inj H
          exact fin1 rfl (Ext.trans (Ext.trans (Ext.trans (Ext.trans (Ext.trans (Ext.trans (Ext.trans (Ext.trans (Ext.trans e6 e13) e17) e22) e30) e33) e38) e46) e50) e55)
        · refine W_false (congrArg Value.bool q56) <| W_skip <| thn_n <| W_seq <| W_seq <| W_reg <| L_op (.plain rfl) rfl (ltb rfl) (X_move (v := v39) rfl) <| L_op (.plain rfl) rfl (ltb rfl) (X_move (v := v_a1) rfl) ?_
          obtain ⟨c57, H⟩ := bif_some H
          refine L_callO (.plain rfl) rfl (ltb rfl) rfl Tryd.call35 (laws_toRecordS.calls (w := w54) (a0 := a1) (Rd.ext f_a1 (Ext.trans (Ext.trans (Ext.trans (Ext.trans (Ext.trans (Ext.trans (Ext.trans (Ext.trans (Ext.trans e6 e13) e17) e22) e30) e33) e38) e46) e50) e55)) (of_decide_eq_true c57)) rfl <| fun v60 w58 e59 o61 => ?_
          obtain ⟨c62, H⟩ := bif_some H
          refine L_callP (.plain rfl) rfl (ltb rfl) rfl Tryd.call37 (laws_eqRecordS.calls (w := w58) (a0 := a1) (a1 := a1) (Own.rd (Own.ext o40 (Ext.trans (Ext.trans (Ext.trans e46 e50) e55) e59))) (Own.rd o61) (of_decide_eq_true c62)) rfl <| fun w63 e64 => L_op (.plain rfl) rfl (ltb rfl) (X_not rfl) <| L_nil <| thn_n ?_
          rcases bif_two H with ⟨q65, H⟩ | ⟨q65, H⟩
          · refine W_true (congrArg Value.bool q65) <| W_seq <| W_reg <| L_op (.plain rfl) rfl (ltb rfl) (X_assign (v := (.bool false)) rfl) <| L_nil <| thn_n <| W_ret <| thn_r <| fin_r ?_
            obtain rfl := Option.some.inj H
            exact fin1 rfl (Ext.trans (Ext.trans (Ext.trans (Ext.trans (Ext.trans (Ext.trans (Ext.trans (Ext.trans (Ext.trans (Ext.trans (Ext.trans e6 e13) e17) e22) e30) e33) e38) e46) e50) e55) e59) e64)
          · refine W_false (congrArg Value.bool q65) <| W_skip <| thn_n <| W_seq <| W_reg <| L_op (.plain rfl) rfl (ltb rfl) (X_assign (v := (.bool true)) rfl) <| L_nil <| thn_n <| W_ret <| fin_r ?_
            obtain rfl := Option.some.inj H
            exact fin1 rfl (Ext.trans (Ext.trans (Ext.trans (Ext.trans (Ext.trans (Ext.trans (Ext.trans (Ext.trans (Ext.trans (Ext.trans (Ext.trans e6 e13) e17) e22) e30) e33) e38) e46) e50) e55) e59) e64)
theorem law_SameLayer.calls {w : World} {a0 : List Rec} {a1 : List Rec} (gv : GV 0 w) {v_a0 : Value} (f_a0 : Rd 5 encRec w v_a0 a0) {v_a1 : Value} (f_a1 : Rd 5 encRec w v_a1 a1) (h0 : ∀ x ∈ a0, okRec x) (h1 : a0.length ≤ 9223372036854775807) (h2 : ∀ x ∈ a1, okRec x) (h3 : a1.length ≤ 9223372036854775807) :
    Calls Tryd.prog 14 #[v_a0, v_a1] w (Rt (RP w (.bool true))) := law_SameLayer.walk gv f_a0 f_a1 (law_SameLayer.eq a0 a1 h0 h1 h2 h3)
/-! laws.szNode -/
theorem laws_szNode.walk {w : World} {a0 : Nd} {a1 : Int} {r : Int} (H : laws_szNode.sh a0 a1 = some r) :
    Calls Tryd.prog 54 #[.agg (encNd a0).toArray, .int .i64 a1] w (Rt (RP w (.int .i64 r))) := by
  unfold laws_szNode.sh at H
  refine calls_of_W Tryd.func54 rfl (Nat.le_of_ble_eq_true rfl) Tryd.ntmps54 rfl ?_
  refine W_seq <| W_reg <| L_box (.plain rfl) rfl (ltb rfl) rfl rfl <| fun b1 w2 z3 z4 e5 k6 => L_op (.plain rfl) rfl (ltb rfl) (X_assign (v := (.int .i64 0)) rfl) <| L_nil <| thn_n <| W_seq <| W_reg <| L_op (.plain rfl) rfl (ltb rfl) (X_move (v := (.int .i64 a1)) rfl) <| L_op (.plain rfl) rfl (ltb rfl) (X_fieldAddr Tryd.underlying63 rfl Tryd.sizeOf9 rfl rfl) <| L_op (.plain rfl) rfl (ltb rfl) (X_loadB Tryd.isAgg9 k6 rfl rfl) <| L_op (.plain rfl) rfl (ltb rfl) (X_lenS Tryd.underlying9 rfl) <| L_op (.plain rfl) rfl (ltb rfl) (X_sub rfl rfl) <| L_op (.plain rfl) rfl (ltb rfl) (X_assign (v := (.int .i64 (IntKind.wrap .i64 (a1 - (a0.path.length : Int))))) rfl) <| L_nil <| thn_n <| W_seq <| W_seq <| W_reg <| L_op (.plain rfl) rfl (ltb rfl) (X_move (v := (.int .i64 (IntKind.wrap .i64 (a1 - (a0.path.length : Int))))) rfl) <| L_op (.plain rfl) rfl (ltb rfl) (X_lss rfl rfl) <| L_nil <| thn_n ?_
  rcases bif_two H with ⟨q7, H⟩ | ⟨q7, H⟩
  · refine W_true (congrArg Value.bool q7) <| W_seq <| W_reg <| L_op (.plain rfl) rfl (ltb rfl) (X_assign (v := (.int .i64 (-1))) rfl) <| L_nil <| thn_n <| W_ret <| thn_r <| fin_r ?_
    obtain rfl := Option.some.inj H
    exact fin1 rfl e5
  · refine W_false (congrArg Value.bool q7) <| W_skip <| thn_n <| W_seq <| W_reg <| L_op (.plain rfl) rfl (ltb rfl) (X_move (v := (.int .i64 (IntKind.wrap .i64 (a1 - (a0.path.length : Int))))) rfl) <| L_op (.plain rfl) rfl (ltb rfl) (X_fieldAddr Tryd.underlying63 rfl Tryd.sizeOf9 rfl rfl) <| L_op (.plain rfl) rfl (ltb rfl) (X_loadB Tryd.isAgg9 k6 rfl rfl) <| L_op (.plain rfl) rfl (ltb rfl) (X_lenS Tryd.underlying9 rfl) <| L_op (.plain rfl) rfl (ltb rfl) (X_sub rfl rfl) <| L_op (.plain rfl) rfl (ltb rfl) (X_assign rfl) <| L_nil <| thn_n <| W_seq <| W_seq <| W_reg <| L_op (.plain rfl) rfl (ltb rfl) (X_move rfl) <| L_op (.plain rfl) rfl (ltb rfl) (X_lss rfl rfl) <| L_nil <| thn_n ?_
    rcases bif_two H with ⟨q8, H⟩ | ⟨q8, H⟩
    · refine W_true (congrArg Value.bool q8) <| W_seq <| W_reg <| L_op (.plain rfl) rfl (ltb rfl) (X_assign (v := (.int .i64 (-1))) rfl) <| L_nil <| thn_n <| W_ret <| thn_r <| fin_r ?_
      obtain rfl := Option.some.inj H
      exact fin1 rfl e5
    · refine W_false (congrArg Value.bool q8) <| W_skip <| thn_n <| W_seq <| W_reg <| L_op (.plain rfl) rfl (ltb rfl) (X_move rfl) <| L_op (.plain rfl) rfl (ltb rfl) (X_assign rfl) <| L_nil <| thn_n <| W_ret <| fin_r ?_
      obtain rfl := Option.some.inj H
      exact fin1 rfl e5
theorem laws_szNode.calls {w : World} {a0 : Nd} {a1 : Int} (h0 : (0 : Int) ≤ a1) (h1 : (a1 : Int) ≤ 1048576) (h2 : a0.path.length ≤ 9223372036854775807) (h3 : a0.body.length ≤ 9223372036854775807) :
    Calls Tryd.prog 54 #[.agg (encNd a0).toArray, .int .i64 a1] w (Rt (RP w (.int .i64 (szNd a0 a1)))) := laws_szNode.walk (laws_szNode.eq a0 a1 h0 h1 h2 h3)
/-! laws.toNode -/
theorem laws_toNode.walk {w : World} {a0 : Nd} {r : Nd} (H : laws_toNode.sh a0 = some r) :
    Calls Tryd.prog 56 #[.agg (encNd a0).toArray] w (Rt (RP w (.agg (encNd r).toArray))) := by
  unfold laws_toNode.sh at H
  refine calls_of_WG Tryd.func56 rfl (Nat.le_of_ble_eq_true rfl) Tryd.ntmps56 ?_
  refine W_seq <| W_reg <| L_box (.plain rfl) rfl (ltb rfl) rfl rfl <| fun b1 w2 z3 z4 e5 k6 => L_alloc (.plain rfl) rfl (ltb rfl) rfl Tryd.zeroValue64 <| fun b7 w8 z9 z10 e11 k12 => L_nil <| thn_n <| W_seq <| W_reg <| L_alloc (.plain rfl) rfl (ltb rfl) rfl Tryd.zeroValue64 <| fun b13 w14 z15 z16 e17 k18 => L_nil <| thn_n <| W_seq <| W_reg <| L_op (.plain rfl) rfl (ltb rfl) (X_fieldAddr Tryd.underlying63 rfl Tryd.sizeOf3 rfl rfl) <| L_op (.plain rfl) rfl (ltb rfl) (X_loadB Tryd.isAgg3 (Blk.ext k6 (Ext.trans e11 e17)) rfl rfl) <| L_op (.plain rfl) rfl (ltb rfl) (X_fieldAddr Tryd.underlying64 rfl Tryd.sizeOf3 rfl rfl) <| L_store1 (.plain rfl) rfl rfl Tryd.sizeOf3 rfl rfl rfl k18 (ltb rfl) <| fun w19 h20 k21 => L_nil <| thn_n <| W_seq <| W_reg <| L_op (.plain rfl) rfl (ltb rfl) (X_fieldAddr Tryd.underlying63 rfl Tryd.sizeOf9 rfl rfl) <| L_op (.plain rfl) rfl (ltb rfl) (X_loadB Tryd.isAgg9 (Blk.ext k6 (Ext.trans e11 (Below.trans e17 (Wr.below h20 (Nat.le_of_eq z15))))) rfl rfl) <| L_op (.plain rfl) rfl (ltb rfl) (X_fieldAddr Tryd.underlying64 rfl Tryd.sizeOf9 rfl rfl) <| L_store1 (.plain rfl) rfl rfl Tryd.sizeOf9 rfl rfl rfl k21 (ltb rfl) <| fun w22 h23 k24 => L_nil <| thn_n <| W_seq <| W_reg <| L_op (.plain rfl) rfl (ltb rfl) (X_fieldAddr Tryd.underlying63 rfl Tryd.sizeOf9 rfl rfl) <| L_op (.plain rfl) rfl (ltb rfl) (X_loadB Tryd.isAgg9 (Blk.ext k6 (Ext.trans e11 (Below.trans (Below.trans e17 (Wr.below h20 (Nat.le_of_eq z15))) (Wr.below h23 (Nat.le_of_eq z15))))) rfl rfl) <| L_op (.plain rfl) rfl (ltb rfl) (X_fieldAddr Tryd.underlying64 rfl Tryd.sizeOf9 rfl rfl) <| L_store1 (.plain rfl) rfl rfl Tryd.sizeOf9 rfl rfl rfl k24 (ltb rfl) <| fun w25 h26 k27 => L_nil <| thn_n <| W_seq <| W_reg <| L_op (.plain rfl) rfl (ltb rfl) (X_fieldAddr Tryd.underlying63 rfl Tryd.sizeOf3 rfl rfl) <| L_op (.plain rfl) rfl (ltb rfl) (X_loadB Tryd.isAgg3 (Blk.ext k6 (Ext.trans e11 (Below.trans (Below.trans (Below.trans e17 (Wr.below h20 (Nat.le_of_eq z15))) (Wr.below h23 (Nat.le_of_eq z15))) (Wr.below h26 (Nat.le_of_eq z15))))) rfl rfl) <| L_op (.plain rfl) rfl (ltb rfl) (X_fieldAddr Tryd.underlying64 rfl Tryd.sizeOf3 rfl rfl) <| L_store1 (.plain rfl) rfl rfl Tryd.sizeOf3 rfl rfl rfl k27 (ltb rfl) <| fun w28 h29 k30 => L_nil <| thn_n <| W_seq <| W_reg <| L_op (.plain rfl) rfl (ltb rfl) (X_loadS Tryd.isAgg64 Tryd.sizeOf64 rfl rfl (Blk.at0 k30)) <| L_storeA (.plain rfl) rfl rfl Tryd.sizeOf64 rfl rfl rfl rfl rfl (Blk.ext k12 (Below.trans (Below.trans (Below.trans (Below.trans e17 (Wr.below h20 (Nat.le_of_eq z15))) (Wr.below h23 (Nat.le_of_eq z15))) (Wr.below h26 (Nat.le_of_eq z15))) (Wr.below h29 (Nat.le_of_eq z15)))) <| fun w31 h32 k33 => L_nil <| thn_n <| W_ret <| finG_r ?_
  obtain rfl := Option.some.inj H
  exact finC1 rfl rfl k33 Tryd.isAgg64 Tryd.sizeOf64 rfl (Ext.trans e5 (Below.trans (Ext.trans e11 (Below.trans (Below.trans (Below.trans (Below.trans e17 (Wr.below h20 (Nat.le_of_eq z15))) (Wr.below h23 (Nat.le_of_eq z15))) (Wr.below h26 (Nat.le_of_eq z15))) (Wr.below h29 (Nat.le_of_eq z15)))) (Wr.below h32 (Nat.le_of_eq z9))))
theorem laws_toNode.calls {w : World} {a0 : Nd} :
    Calls Tryd.prog 56 #[.agg (encNd a0).toArray] w (Rt (RP w (.agg (encNd a0).toArray))) := laws_toNode.walk (laws_toNode.eq a0)
/-! laws.szNodeS -/
theorem laws_szNodeS.walk {k : Nat} {w : World} {a0 : List Nd} {a1 : Int} {v_a0 : Value} (f_a0 : Rd 4 encNd w v_a0 a0) {r : Int} (H : laws_szNodeS.sh k a0 a1 = some r) :
    Calls Tryd.prog 26 #[v_a0, .int .i64 a1] w (Rt (RP w (.int .i64 r))) := by
  unfold laws_szNodeS.sh at H
  refine calls_of_W Tryd.func26 rfl (Nat.le_of_ble_eq_true rfl) Tryd.ntmps26 rfl ?_
  refine W_seq <| W_reg <| L_op (.plain rfl) rfl (ltb rfl) (X_assign (v := (.int .i64 0)) rfl) <| L_nil <| thn_n <| W_seq <| W_reg <| L_op (.plain rfl) rfl (ltb rfl) (X_move (v := (.int .i64 a1)) rfl) <| L_op (.plain rfl) rfl (ltb rfl) (X_move (v := v_a0) rfl) <| L_op (.plain rfl) rfl (ltb rfl) (X_lenR Tryd.underlying36 rfl f_a0) <| L_op (.plain rfl) rfl (ltb rfl) (X_sub rfl rfl) <| L_op (.plain rfl) rfl (ltb rfl) (X_assign (v := (.int .i64 (IntKind.wrap .i64 (a1 - (a0.length : Int))))) rfl) <| L_nil <| thn_n <| W_seq <| W_seq <| W_reg <| L_op (.plain rfl) rfl (ltb rfl) (X_move (v := (.int .i64 (IntKind.wrap .i64 (a1 - (a0.length : Int))))) rfl) <| L_op (.plain rfl) rfl (ltb rfl) (X_lss rfl rfl) <| L_nil <| thn_n ?_
  rcases bif_two H with ⟨q1, H⟩ | ⟨q1, H⟩
  · refine W_true (congrArg Value.bool q1) <| W_seq <| W_reg <| L_op (.plain rfl) rfl (ltb rfl) (X_assign (v := (.int .i64 (-1))) rfl) <| L_nil <| thn_n <| W_ret <| thn_r <| fin_r ?_
    obtain rfl := Option.some.inj H
    exact fin1 rfl (Ext.refl w)
  · refine W_false (congrArg Value.bool q1) <| W_skip <| thn_n <| W_seq <| W_seq <| W_reg <| L_op (.plain rfl) rfl (ltb rfl) (X_assign (v := (.int .i64 0)) rfl) <| L_nil <| thn_n ?_
    obtain ⟨z4, L5, C6⟩ := bind_some H
    clear H
    refine  W_cutQ (fun s0 s9 w9 => ∃ (x1_7 : Int), Kp [(1, 2), (4, 6), (12, 26)] s0 s9 ∧ s9 1 = .int .i64 x1_7 ∧ Ext w w9 ∧ z4 = .inr x1_7) ?_ ?_
    · refine W_block <| W_loopI (fun s0 kk s9 w9 => ∃ (x1_2 : Int) (x5_3 : Int), Kp [(1, 2), (4, 6), (12, 26)] s0 s9 ∧ s9 1 = .int .i64 x1_2 ∧ s9 5 = .int .i64 x5_3 ∧ Ext w w9 ∧ loopF (laws_szNodeS.b1 a0) kk (x1_2, x5_3) = some z4) k ⟨IntKind.wrap .i64 (a1 - (a0.length : Int)), 0, (Kp.refl _ _), rfl, rfl, (Ext.refl w), L5⟩ ?_
      rintro k12 s13 w14 ⟨x1_2, x5_3, K15, h18, h19, e16, L17⟩
      cases k12 with
      | zero => exact absurd L17 (by simp [loopF])
      | succ k12 =>
        obtain ⟨t20, H, S21⟩ := loopF_succ L17
        clear L17
        unfold laws_szNodeS.b1 at H
        refine W_seq <| W_seq <| W_reg <| L_op (.plain rfl) rfl (ltb rfl) (X_move (v := (.int .i64 x5_3)) h19) <| L_op (.plain rfl) rfl (ltb rfl) (X_move (v := v_a0) (K15 0 rfl)) <| L_op (.plain rfl) rfl (ltb rfl) (X_lenR Tryd.underlying36 rfl (Rd.ext f_a0 e16)) <| L_op (.plain rfl) rfl (ltb rfl) (X_lss rfl rfl) <| L_nil <| thn_n ?_
        rcases bif_two H with ⟨q22, H⟩ | ⟨q22, H⟩
        · refine W_true (congrArg Value.bool q22) <| W_skip <| thn_n <| W_seq <| W_block <| W_seq <| W_reg <| L_op (.plain rfl) rfl (ltb rfl) (X_move (v := v_a0) (K15 0 rfl)) <| L_op (.plain rfl) rfl (ltb rfl) (X_move (v := (.int .i64 x5_3)) h19) ?_
          obtain ⟨c23, H⟩ := bif_some H
          refine L_idx (.plain rfl) rfl (ltb rfl) rfl Tryd.underlying36 Tryd.sizeOf63 rfl (Rd.ext f_a0 e16) rfl c23 <| fun p24 h25 => L_op (.plain rfl) rfl (ltb rfl) (X_loadS Tryd.isAgg63 Tryd.sizeOf63 rfl rfl h25) <| L_op (.plain rfl) rfl (ltb rfl) (X_move (v := (.int .i64 x1_2)) h18) ?_
          obtain ⟨c26, H⟩ := bif_some H
          obtain ⟨c27, H⟩ := bif_some H
          obtain ⟨c28, H⟩ := bif_some H
          obtain ⟨c29, H⟩ := bif_some H
          refine L_callP (.plain rfl) rfl (ltb rfl) rfl Tryd.call54 (laws_szNode.calls (w := w14) (a0 := gt a0 x5_3) (a1 := x1_2) (of_decide_eq_true c26) (of_decide_eq_true c27) (of_decide_eq_true c28) (of_decide_eq_true c29)) rfl <| fun w30 e31 => L_op (.plain rfl) rfl (ltb rfl) (X_assign (v := (.int .i64 (szNd (gt a0 x5_3) x1_2))) rfl) <| L_nil <| thn_n <| W_seq <| W_reg <| L_op (.plain rfl) rfl (ltb rfl) (X_move (v := (.int .i64 (szNd (gt a0 x5_3) x1_2))) rfl) <| L_op (.plain rfl) rfl (ltb rfl) (X_lss rfl rfl) <| L_nil <| thn_n ?_
          rcases bif_two H with ⟨q32, H⟩ | ⟨q32, H⟩
          · refine W_true (congrArg Value.bool q32) <| W_seq <| W_reg <| L_op (.plain rfl) rfl (ltb rfl) (X_assign (v := (.int .i64 (-1))) rfl) <| L_nil <| thn_n <| W_ret <| blk_r <| thn_r <| thn_r <| blk_r <| thn_r <| thn_r <| fin_r ?_
            obtain rfl := Option.some.inj H
            obtain rfl := Option.some.inj S21
            have H := C6
            obtain rfl := Option.some.inj H
            exact fin1 rfl (Ext.trans e16 e31)
          · refine W_false (congrArg Value.bool q32) <| W_skip <| blk_n <| thn_n <| W_reg <| L_op (.plain rfl) rfl (ltb rfl) (X_move (v := (.int .i64 x5_3)) h19) <| L_op (.plain rfl) rfl (ltb rfl) (X_add rfl rfl) <| L_op (.plain rfl) rfl (ltb rfl) (X_assign (v := (.int .i64 (IntKind.wrap .i64 (x5_3 + 1)))) rfl) <| L_nil <| thn_n ?_
            obtain rfl := Option.some.inj H
            exact ⟨_, Nat.lt_succ_self _, (szNd (gt a0 x5_3) x1_2), IntKind.wrap .i64 (x5_3 + 1), (Kp.upd (Kp.upd (Kp.upd (Kp.upd (Kp.upd (Kp.upd (Kp.upd (Kp.upd (Kp.upd (Kp.upd (Kp.upd (Kp.upd (Kp.upd (Kp.upd (Kp.upd (Kp.upd K15 rfl) rfl) rfl) rfl) rfl) rfl) rfl) rfl) rfl) rfl) rfl) rfl) rfl) rfl) rfl) rfl), rfl, rfl, (Ext.trans e16 e31), S21⟩
        · refine W_false (congrArg Value.bool q22) <| W_exit <| thn_x <| thn_x <| blk_x <| thn_n ?_
          obtain rfl := Option.some.inj H
          obtain rfl := Option.some.inj S21
          exact ⟨x1_2, (Kp.upd (Kp.upd (Kp.upd (Kp.upd K15 rfl) rfl) rfl) rfl), h18, e16, rfl⟩
    · rintro s9 w8 ⟨x1_7, K10, h33, e11, y34⟩
      rw [y34] at C6
      have H := C6
      replace H : _ = some _ := H
      refine thn_n <| W_seq <| W_reg <| L_op (.plain rfl) rfl (ltb rfl) (X_move (v := (.int .i64 x1_7)) h33) <| L_op (.plain rfl) rfl (ltb rfl) (X_assign (v := (.int .i64 x1_7)) rfl) <| L_nil <| thn_n <| W_ret <| fin_r ?_
      obtain rfl := Option.some.inj H
      exact fin1 rfl e11
theorem laws_szNodeS.calls {w : World} {a0 : List Nd} {a1 : Int} {v_a0 : Value} (f_a0 : Rd 4 encNd w v_a0 a0) (h0 : (0 : Int) ≤ a1) (h1 : (a1 : Int) ≤ 1048576) (h2 : a0.length ≤ 9223372036854775807) (h3 : ∀ x ∈ a0, okNd x) :
    Calls Tryd.prog 26 #[v_a0, .int .i64 a1] w (Rt (RP w (.int .i64 (szNdS a0 a1)))) := by
  obtain ⟨k, h⟩ := laws_szNodeS.eq a0 a1 h0 h1 h2 h3
  exact laws_szNodeS.walk f_a0 h
/-! laws.toNodeS -/
theorem laws_toNodeS.walk {k : Nat} {w : World} {a0 : List Nd} {v_a0 : Value} (f_a0 : Rd 4 encNd w v_a0 a0) {r : List Nd} (H : laws_toNodeS.sh k a0 = some r) :
    Calls Tryd.prog 28 #[v_a0] w (Rt (RO 64 4 encNd w r)) := by
  unfold laws_toNodeS.sh at H
  refine calls_of_W Tryd.func28 rfl (Nat.le_of_ble_eq_true rfl) Tryd.ntmps28 rfl ?_
  refine W_seq <| W_reg <| L_op (.plain rfl) rfl (ltb rfl) (X_assign (v := (.slice none 0 0)) rfl) <| L_nil <| thn_n <| W_seq <| W_reg <| L_op (.plain rfl) rfl (ltb rfl) (X_move (v := v_a0) rfl) <| L_op (.plain rfl) rfl (ltb rfl) (X_lenR Tryd.underlying36 rfl f_a0) ?_
  obtain ⟨c1, H⟩ := bif_some H
  refine L_make (enc := encNd) (zr := (⟨0, [], [], 0⟩ : Nd)) (n := a0.length) (.plain rfl) rfl (ltb rfl) rfl El.t39 rfl rfl rfl (of_decide_eq_true c1) (Nat.le_refl _) <| fun b2 w3 z4 z5 e6 o7 => L_op (.plain rfl) rfl (ltb rfl) (X_assign (v := (.slice (some ⟨b2, 0, none⟩) a0.length a0.length)) rfl) <| L_nil <| thn_n <| W_seq <| W_seq <| W_reg <| L_op (.plain rfl) rfl (ltb rfl) (X_assign (v := (.int .i64 0)) rfl) <| L_nil <| thn_n ?_
  obtain ⟨z10, L11, C12⟩ := bind_some H
  clear H
  refine  W_cutQ (fun s0 s9 w9 => ∃ (y13 : List Nd), Kp [(4, 5), (8, 22)] s0 s9 ∧ Own 64 4 encNd w.heap.size w9 (.slice (some ⟨b2, 0, none⟩) a0.length a0.length) y13 ∧ Ext w w9 ∧ z10 = .inr y13) ?_ ?_
  · refine W_block <| W_loopI (fun s0 kk s9 w9 => ∃ (x4_8 : Int) (y9 : List Nd), Kp [(4, 5), (8, 22)] s0 s9 ∧ s9 4 = .int .i64 x4_8 ∧ Own 64 4 encNd w.heap.size w9 (.slice (some ⟨b2, 0, none⟩) a0.length a0.length) y9 ∧ Ext w w9 ∧ loopF (laws_toNodeS.b1 a0) kk (x4_8, y9) = some z10) k ⟨0, List.replicate a0.length (⟨0, [], [], 0⟩ : Nd), (Kp.refl _ _), rfl, o7, e6, L11⟩ ?_
    rintro k18 s19 w20 ⟨x4_8, y9, K21, h24, h25, e22, L23⟩
    cases k18 with
    | zero => exact absurd L23 (by simp [loopF])
    | succ k18 =>
      obtain ⟨t26, H, S27⟩ := loopF_succ L23
      clear L23
      unfold laws_toNodeS.b1 at H
      refine W_seq <| W_seq <| W_reg <| L_op (.plain rfl) rfl (ltb rfl) (X_move (v := (.int .i64 x4_8)) h24) <| L_op (.plain rfl) rfl (ltb rfl) (X_move (v := v_a0) (K21 0 rfl)) <| L_op (.plain rfl) rfl (ltb rfl) (X_lenR Tryd.underlying36 rfl (Rd.ext f_a0 e22)) <| L_op (.plain rfl) rfl (ltb rfl) (X_lss rfl rfl) <| L_nil <| thn_n ?_
      rcases bif_two H with ⟨q28, H⟩ | ⟨q28, H⟩
      · refine W_true (congrArg Value.bool q28) <| W_skip <| thn_n <| W_seq <| W_block <| W_reg <| L_op (.plain rfl) rfl (ltb rfl) (X_move (v := (.slice (some ⟨b2, 0, none⟩) a0.length a0.length)) (K21 3 rfl)) <| L_op (.plain rfl) rfl (ltb rfl) (X_move (v := (.int .i64 x4_8)) h24) <| L_op (.plain rfl) rfl (ltb rfl) (X_move (v := v_a0) (K21 0 rfl)) <| L_op (.plain rfl) rfl (ltb rfl) (X_move (v := (.int .i64 x4_8)) h24) ?_
        obtain ⟨c29, H⟩ := bif_some H
        refine L_idx (.plain rfl) rfl (ltb rfl) rfl Tryd.underlying36 Tryd.sizeOf63 rfl (Rd.ext f_a0 e22) rfl c29 <| fun p30 h31 => L_op (.plain rfl) rfl (ltb rfl) (X_loadS Tryd.isAgg63 Tryd.sizeOf63 rfl rfl h31) <| L_callP (.plain rfl) rfl (ltb rfl) rfl Tryd.call56 (laws_toNode.calls (w := w20) (a0 := gt a0 x4_8)) rfl <| fun w32 e33 => ?_
        obtain ⟨c36, H⟩ := bif_some H
        refine L_idxO (.plain rfl) rfl (ltb rfl) rfl Tryd.underlying39 Tryd.sizeOf64 rfl (Own.ext h25 e33) rfl c36 <| fun p34 h35 => L_storeO (a := (gt a0 x4_8)) (vs := [(.int .i64 ((gt a0 x4_8).kind)), (S ((gt a0 x4_8).path)), (S ((gt a0 x4_8).body)), (.int .i64 ((gt a0 x4_8).mode))]) (off := 0) (.plain rfl) rfl rfl Tryd.sizeOf64 rfl h35 rfl rfl rfl rfl rfl rfl <| fun b37 w38 h39 h40 h41 o42 => L_nil <| blk_n <| thn_n <| W_reg <| L_op (.plain rfl) rfl (ltb rfl) (X_move (v := (.int .i64 x4_8)) h24) <| L_op (.plain rfl) rfl (ltb rfl) (X_add rfl rfl) <| L_op (.plain rfl) rfl (ltb rfl) (X_assign (v := (.int .i64 (IntKind.wrap .i64 (x4_8 + 1)))) rfl) <| L_nil <| thn_n ?_
        obtain rfl := Option.some.inj H
        exact ⟨_, Nat.lt_succ_self _, IntKind.wrap .i64 (x4_8 + 1), setI y9 x4_8 (gt a0 x4_8), (Kp.upd (Kp.upd (Kp.upd (Kp.upd (Kp.upd (Kp.upd (Kp.upd (Kp.upd (Kp.upd (Kp.upd (Kp.upd (Kp.upd (Kp.upd (Kp.upd (Kp.upd K21 rfl) rfl) rfl) rfl) rfl) rfl) rfl) rfl) rfl) rfl) rfl) rfl) rfl) rfl) rfl), rfl, o42, (Ext.wr (Ext.trans e22 e33) h41 h40 (Nat.le_refl _)), S27⟩
      · refine W_false (congrArg Value.bool q28) <| W_exit <| thn_x <| thn_x <| blk_x <| thn_n ?_
        obtain rfl := Option.some.inj H
        obtain rfl := Option.some.inj S27
        exact ⟨y9, (Kp.upd (Kp.upd (Kp.upd (Kp.upd K21 rfl) rfl) rfl) rfl), h25, e22, rfl⟩
  · rintro s15 w14 ⟨y13, K16, h43, e17, y44⟩
    rw [y44] at C12
    have H := C12
    replace H : _ = some _ := H
    refine thn_n <| W_seq <| W_reg <| L_op (.plain rfl) rfl (ltb rfl) (X_move (v := (.slice (some ⟨b2, 0, none⟩) a0.length a0.length)) (K16 3 rfl)) <| L_op (.plain rfl) rfl (ltb rfl) (X_assign (v := (.slice (some ⟨b2, 0, none⟩) a0.length a0.length)) rfl) <| L_nil <| thn_n <| W_ret <| fin_r ?_
    obtain rfl := Option.some.inj H
    exact fin1o rfl e17 h43 ((Ext.refl w)).size
theorem laws_toNodeS.calls {w : World} {a0 : List Nd} {v_a0 : Value} (f_a0 : Rd 4 encNd w v_a0 a0) (h0 : a0.length ≤ 1048576) :
    Calls Tryd.prog 28 #[v_a0] w (Rt (RO 64 4 encNd w a0)) := by
  obtain ⟨k, h⟩ := laws_toNodeS.eq a0 h0
  exact laws_toNodeS.walk f_a0 h
/-! laws.eqNodeS -/
theorem laws_eqNodeS.walk {k : Nat} {w : World} {a0 : List Nd} {a1 : List Nd} {v_a0 : Value} (f_a0 : Rd 4 encNd w v_a0 a0) {v_a1 : Value} (f_a1 : Rd 4 encNd w v_a1 a1) {r : Bool} (H : laws_eqNodeS.sh k a0 a1 = some r) :
    Calls Tryd.prog 30 #[v_a0, v_a1] w (Rt (RP w (.bool r))) := by
  unfold laws_eqNodeS.sh at H
  refine calls_of_W Tryd.func30 rfl (Nat.le_of_ble_eq_true rfl) Tryd.ntmps30 rfl ?_
  refine W_seq <| W_reg <| L_op (.plain rfl) rfl (ltb rfl) (X_assign (v := (.bool false)) rfl) <| L_nil <| thn_n <| W_seq <| W_seq <| W_reg <| L_op (.plain rfl) rfl (ltb rfl) (X_move (v := v_a0) rfl) <| L_op (.plain rfl) rfl (ltb rfl) (X_lenR Tryd.underlying39 rfl f_a0) <| L_op (.plain rfl) rfl (ltb rfl) (X_move (v := v_a1) rfl) <| L_op (.plain rfl) rfl (ltb rfl) (X_lenR Tryd.underlying39 rfl f_a1) <| L_op (.plain rfl) rfl (ltb rfl) (X_neq rfl rfl) <| L_nil <| thn_n ?_
  rcases bif_two H with ⟨q1, H⟩ | ⟨q1, H⟩
  · refine W_true (congrArg Value.bool q1) <| W_seq <| W_reg <| L_op (.plain rfl) rfl (ltb rfl) (X_assign (v := (.bool false)) rfl) <| L_nil <| thn_n <| W_ret <| thn_r <| fin_r ?_
    obtain rfl := Option.some.inj H
    exact fin1 rfl (Ext.refl w)
  · refine W_false (congrArg Value.bool q1) <| W_skip <| thn_n <| W_seq <| W_seq <| W_reg <| L_op (.plain rfl) rfl (ltb rfl) (X_assign (v := (.int .i64 0)) rfl) <| L_nil <| thn_n ?_
    obtain ⟨z3, L4, C5⟩ := bind_some H
    clear H
    refine  W_cutQ (fun s0 s9 w9 => Kp [(4, 6), (11, 27)] s0 s9 ∧ Ext w w9 ∧ z3 = .inr ()) ?_ ?_
    · refine W_block <| W_loopI (fun s0 kk s9 w9 => ∃ (x5_2 : Int), Kp [(4, 6), (11, 27)] s0 s9 ∧ s9 5 = .int .i64 x5_2 ∧ Ext w w9 ∧ loopF (laws_eqNodeS.b1 a0 a1) kk x5_2 = some z3) k ⟨0, (Kp.refl _ _), rfl, (Ext.refl w), L4⟩ ?_
      rintro k10 s11 w12 ⟨x5_2, K13, h16, e14, L15⟩
      cases k10 with
      | zero => exact absurd L15 (by simp [loopF])
      | succ k10 =>
        obtain ⟨t17, H, S18⟩ := loopF_succ L15
        clear L15
        unfold laws_eqNodeS.b1 at H
        refine W_seq <| W_seq <| W_reg <| L_op (.plain rfl) rfl (ltb rfl) (X_move (v := (.int .i64 x5_2)) h16) <| L_op (.plain rfl) rfl (ltb rfl) (X_move (v := v_a0) (K13 0 rfl)) <| L_op (.plain rfl) rfl (ltb rfl) (X_lenR Tryd.underlying39 rfl (Rd.ext f_a0 e14)) <| L_op (.plain rfl) rfl (ltb rfl) (X_lss rfl rfl) <| L_nil <| thn_n ?_
        rcases bif_two H with ⟨q19, H⟩ | ⟨q19, H⟩
        · refine W_true (congrArg Value.bool q19) <| W_skip <| thn_n <| W_seq <| W_block <| W_seq ?_
          obtain ⟨c20, H⟩ := bif_some H
          obtain ⟨c23, H⟩ := bif_some H
          refine W_drawM [LEq v_a0, LEq (.int .i64 x5_2), LAt0 (encNd (gt a0 x5_2)), LEq (.agg (encNd (gt a0 x5_2)).toArray), LEq v_a1, LEq (.int .i64 x5_2), LAt0 (encNd (gt a1 x5_2)), LEq (.agg (encNd (gt a1 x5_2)).toArray), LEq (.bool (decide ((gt a0 x5_2) = (gt a1 x5_2)))), LEq (.bool (!(decide ((gt a0 x5_2) = (gt a1 x5_2)))))] (by kernel_rfl) (by kernel_rfl) ⟨LEq.mono, LEq.mono, LAt0.mono, LEq.mono, LEq.mono, LEq.mono, LAt0.mono, LEq.mono, LEq.mono, LEq.mono, trivial⟩ ⟨?_, ?_, ?_, ?_, ?_, ?_, ?_, ?_, ?_, ?_, trivial⟩ ?_
          · intro s28 w29 e30 hf31 hd32 hu33
            exact L_op (.plain rfl) rfl (ltb rfl) (X_move (v := v_a0) ((hf31 0 rfl).trans (K13 0 rfl))) <| L_nil <| stepEnd rfl rfl (Ext.refl w29) rfl
          · intro s34 w35 e36 hf37 hd38 hu39
            exact L_op (.plain rfl) rfl (ltb rfl) (X_move (v := (.int .i64 x5_2)) ((hf37 5 rfl).trans h16)) <| L_nil <| stepEnd rfl rfl (Ext.refl w35) rfl
          · intro s40 w41 e42 hf43 hd44 hu45
            have d46 : s40 17 = v_a0 := (hd44 0 rfl)
            have d47 : s40 18 = (.int .i64 x5_2) := (hd44 1 rfl)
            have c48 := c20
            exact L_idx (.plain rfl) rfl (ltb rfl) rfl Tryd.underlying39 Tryd.sizeOf64 d46 (Rd.ext f_a0 (Ext.trans e14 e42)) d47 c48 <| fun p49 h50 => L_nil <| stepEnd rfl rfl (Ext.refl w41) ⟨_, rfl, h50⟩
          · intro s51 w52 e53 hf54 hd55 hu56
            obtain ⟨p57, h58, h59⟩ := (hd55 2 rfl)
            exact L_op (.plain rfl) rfl (ltb rfl) (X_loadS Tryd.isAgg64 Tryd.sizeOf64 rfl h58 h59) <| L_nil <| stepEnd rfl rfl (Ext.refl w52) rfl
          · intro s60 w61 e62 hf63 hd64 hu65
            exact L_op (.plain rfl) rfl (ltb rfl) (X_move (v := v_a1) ((hf63 1 rfl).trans (K13 1 rfl))) <| L_nil <| stepEnd rfl rfl (Ext.refl w61) rfl
          · intro s66 w67 e68 hf69 hd70 hu71
            exact L_op (.plain rfl) rfl (ltb rfl) (X_move (v := (.int .i64 x5_2)) ((hf69 5 rfl).trans h16)) <| L_nil <| stepEnd rfl rfl (Ext.refl w67) rfl
          · intro s72 w73 e74 hf75 hd76 hu77
            have d78 : s72 21 = v_a1 := (hd76 4 rfl)
            have d79 : s72 22 = (.int .i64 x5_2) := (hd76 5 rfl)
            have c80 := c23
            exact L_idx (.plain rfl) rfl (ltb rfl) rfl Tryd.underlying39 Tryd.sizeOf64 d78 (Rd.ext f_a1 (Ext.trans e14 e74)) d79 c80 <| fun p81 h82 => L_nil <| stepEnd rfl rfl (Ext.refl w73) ⟨_, rfl, h82⟩
          · intro s83 w84 e85 hf86 hd87 hu88
            obtain ⟨p89, h90, h91⟩ := (hd87 6 rfl)
            exact L_op (.plain rfl) rfl (ltb rfl) (X_loadS Tryd.isAgg64 Tryd.sizeOf64 rfl h90 h91) <| L_nil <| stepEnd rfl rfl (Ext.refl w84) rfl
          · intro s92 w93 e94 hf95 hd96 hu97
            have d98 : s92 20 = (.agg (encNd (gt a0 x5_2)).toArray) := (hd96 3 rfl)
            have d99 : s92 24 = (.agg (encNd (gt a1 x5_2)).toArray) := (hd96 7 rfl)
            exact L_callP (.plain rfl) rfl (ltb rfl) rfl Tryd.call60 (laws_eqNode.calls (w := w93) (a0 := gt a0 x5_2) (a1 := gt a1 x5_2)) (cons2 d98 (cons2 d99 rfl)) <| fun w100 e101 => L_nil <| stepEnd rfl rfl e101 rfl
          · intro s102 w103 e104 hf105 hd106 hu107
            have d108 : s102 25 = (.bool (decide ((gt a0 x5_2) = (gt a1 x5_2)))) := (hd106 8 rfl)
            exact L_op (.plain rfl) rfl (ltb rfl) (X_not d108) <| L_nil <| stepEnd rfl rfl (Ext.refl w103) rfl
          intro s109 w110 e111 hf112 ha113
          have K114 := Kp.ofD (kp := [(17, 27)]) rfl hf112
          have d115 : s109 26 = (.bool (!(decide ((gt a0 x5_2) = (gt a1 x5_2))))) := ha113 9 rfl
          clear ha113 hf112
          refine thn_n ?_
          rcases bif_two H with ⟨q116, H⟩ | ⟨q116, H⟩
          · refine W_true (d115.trans (congrArg Value.bool q116)) <| W_seq <| W_reg <| L_op (.plain rfl) rfl (ltb rfl) (X_assign (v := (.bool false)) rfl) <| L_nil <| thn_n <| W_ret <| blk_r <| thn_r <| thn_r <| blk_r <| thn_r <| thn_r <| fin_r ?_
            obtain rfl := Option.some.inj H
            obtain rfl := Option.some.inj S18
            have H := C5
            obtain rfl := Option.some.inj H
            exact fin1 rfl (Ext.trans e14 e111)
          · refine W_false (d115.trans (congrArg Value.bool q116)) <| W_skip <| blk_n <| thn_n <| W_reg <| L_op (.plain rfl) rfl (ltb rfl) (X_move (v := (.int .i64 x5_2)) ((K114 5 rfl).trans h16)) <| L_op (.plain rfl) rfl (ltb rfl) (X_add rfl rfl) <| L_op (.plain rfl) rfl (ltb rfl) (X_assign (v := (.int .i64 (IntKind.wrap .i64 (x5_2 + 1)))) rfl) <| L_nil <| thn_n ?_
            obtain rfl := Option.some.inj H
            exact ⟨_, Nat.lt_succ_self _, IntKind.wrap .i64 (x5_2 + 1), (Kp.upd (Kp.upd (Kp.upd (Kp.cut (Kp.upd (Kp.upd (Kp.upd (Kp.upd K13 rfl) rfl) rfl) rfl) K114 rfl) rfl) rfl) rfl), rfl, (Ext.trans e14 e111), S18⟩
        · refine W_false (congrArg Value.bool q19) <| W_exit <| thn_x <| thn_x <| blk_x <| thn_n ?_
          obtain rfl := Option.some.inj H
          obtain rfl := Option.some.inj S18
          exact ⟨(Kp.upd (Kp.upd (Kp.upd (Kp.upd K13 rfl) rfl) rfl) rfl), e14, rfl⟩
    · rintro s7 w6 ⟨K8, e9, y117⟩
      rw [y117] at C5
      have H := C5
      replace H : _ = some _ := H
      refine thn_n <| W_seq <| W_reg <| L_op (.plain rfl) rfl (ltb rfl) (X_assign (v := (.bool true)) rfl) <| L_nil <| thn_n <| W_ret <| fin_r ?_
      obtain rfl := Option.some.inj H
      exact fin1 rfl e9
theorem laws_eqNodeS.calls {w : World} {a0 : List Nd} {a1 : List Nd} {v_a0 : Value} (f_a0 : Rd 4 encNd w v_a0 a0) {v_a1 : Value} (f_a1 : Rd 4 encNd w v_a1 a1) (h0 : a0.length ≤ 4611686018427387904) :
    Calls Tryd.prog 30 #[v_a0, v_a1] w (Rt (RP w (.bool (decide (a0 = a1))))) := by
  obtain ⟨k, h⟩ := laws_eqNodeS.eq a0 a1 h0
  exact laws_eqNodeS.walk f_a0 f_a1 h
/-! spec.l04Record -/
theorem spec_l04Record.walk {w : World} {a0 : Nd} {r : Rec} (H : spec_l04Record.sh a0 = some r) :
    Calls Tryd.prog 82 #[.agg (encNd a0).toArray] w (Rt (RP w (.agg (encRec r).toArray))) := by
  unfold spec_l04Record.sh at H
  refine calls_of_WG Tryd.func82 rfl (Nat.le_of_ble_eq_true rfl) Tryd.ntmps82 ?_
  refine W_seq <| W_reg <| L_box (.plain rfl) rfl (ltb rfl) rfl rfl <| fun b1 w2 z3 z4 e5 k6 => L_alloc (.plain rfl) rfl (ltb rfl) rfl Tryd.zeroValue23 <| fun b7 w8 z9 z10 e11 k12 => L_nil <| thn_n <| W_seq <| W_reg <| L_op (.plain rfl) rfl (ltb rfl) (X_fieldAddr Tryd.underlying64 rfl Tryd.sizeOf3 rfl rfl) <| L_op (.plain rfl) rfl (ltb rfl) (X_loadB Tryd.isAgg3 (Blk.ext k6 e11) rfl rfl) <| L_op (.plain rfl) rfl (ltb rfl) (X_fieldAddr Tryd.underlying64 rfl Tryd.sizeOf9 rfl rfl) <| L_op (.plain rfl) rfl (ltb rfl) (X_loadB Tryd.isAgg9 (Blk.ext k6 e11) rfl rfl) <| L_op (.plain rfl) rfl (ltb rfl) (X_fieldAddr Tryd.underlying64 rfl Tryd.sizeOf9 rfl rfl) <| L_op (.plain rfl) rfl (ltb rfl) (X_loadB Tryd.isAgg9 (Blk.ext k6 e11) rfl rfl) <| L_op (.plain rfl) rfl (ltb rfl) (X_fieldAddr Tryd.underlying64 rfl Tryd.sizeOf3 rfl rfl) <| L_op (.plain rfl) rfl (ltb rfl) (X_loadB Tryd.isAgg3 (Blk.ext k6 e11) rfl rfl) <| L_op (.plain rfl) rfl (ltb rfl) (X_build1 (vs := [(0, (.int .i64 a0.kind)), (1, (S a0.path)), (2, (S a0.body)), (3, (.int .i64 a0.mode))]) (pl := #[(0, 1), (1, 1), (2, 1), (3, 1), (4, 1)]) Tryd.underlying23 Tryd.zeroValue23 rfl (fun _ => by kernel_rfl) rfl rfl rfl) <| L_storeA (.plain rfl) rfl rfl Tryd.sizeOf23 rfl rfl rfl rfl rfl k12 <| fun w13 h14 k15 => L_nil <| thn_n <| W_ret <| finG_r ?_
  obtain rfl := Option.some.inj H
  exact finC1 rfl rfl k15 Tryd.isAgg23 Tryd.sizeOf23 rfl (Ext.trans e5 (Below.trans e11 (Wr.below h14 (Nat.le_of_eq z9))))
theorem spec_l04Record.calls {w : World} {a0 : Nd} :
    Calls Tryd.prog 82 #[.agg (encNd a0).toArray] w (Rt (RP w (.agg (encRec (recOf a0)).toArray))) := spec_l04Record.walk (spec_l04Record.eq a0)
/-! spec.l04At -/
theorem spec_l04At.walk {k : Nat} {w : World} {a0 : List Nd} {a1 : List UInt8} {v_a0 : Value} (f_a0 : Rd 4 encNd w v_a0 a0) {r : Int} (H : spec_l04At.sh k a0 a1 = some r) :
    Calls Tryd.prog 84 #[v_a0, S a1] w (Rt (RP w (.int .i64 r))) := by
  unfold spec_l04At.sh at H
  refine calls_of_W Tryd.func84 rfl (Nat.le_of_ble_eq_true rfl) Tryd.ntmps84 rfl ?_
  refine W_seq <| W_reg <| L_op (.plain rfl) rfl (ltb rfl) (X_assign (v := (.int .i64 0)) rfl) <| L_nil <| thn_n <| W_seq <| W_seq <| W_reg <| L_op (.plain rfl) rfl (ltb rfl) (X_assign (v := (.int .i64 0)) rfl) <| L_nil <| thn_n ?_
  obtain ⟨z2, L3, C4⟩ := bind_some H
  clear H
  refine  W_cutQ (fun s0 s9 w9 => Kp [(4, 20)] s0 s9 ∧ Ext w w9 ∧ z2 = .inr ()) ?_ ?_
  · refine W_block <| W_loopI (fun s0 kk s9 w9 => ∃ (x5_1 : Int), Kp [(4, 20)] s0 s9 ∧ s9 5 = .int .i64 x5_1 ∧ Ext w w9 ∧ loopF (spec_l04At.b1 a0 a1) kk x5_1 = some z2) k ⟨0, (Kp.refl _ _), rfl, (Ext.refl w), L3⟩ ?_
    rintro k9 s10 w11 ⟨x5_1, K12, h15, e13, L14⟩
    cases k9 with
    | zero => exact absurd L14 (by simp [loopF])
    | succ k9 =>
      obtain ⟨t16, H, S17⟩ := loopF_succ L14
      clear L14
      unfold spec_l04At.b1 at H
      refine W_seq <| W_seq <| W_reg <| L_op (.plain rfl) rfl (ltb rfl) (X_move (v := (.int .i64 x5_1)) h15) <| L_op (.plain rfl) rfl (ltb rfl) (X_move (v := v_a0) (K12 0 rfl)) <| L_op (.plain rfl) rfl (ltb rfl) (X_lenR Tryd.underlying39 rfl (Rd.ext f_a0 e13)) <| L_op (.plain rfl) rfl (ltb rfl) (X_lss rfl rfl) <| L_nil <| thn_n ?_
      rcases bif_two H with ⟨q18, H⟩ | ⟨q18, H⟩
      · refine W_true (congrArg Value.bool q18) <| W_skip <| thn_n <| W_seq <| W_block <| W_seq <| W_reg <| L_op (.plain rfl) rfl (ltb rfl) (X_move (v := v_a0) (K12 0 rfl)) <| L_op (.plain rfl) rfl (ltb rfl) (X_move (v := (.int .i64 x5_1)) h15) ?_
        obtain ⟨c19, H⟩ := bif_some H
        refine L_idx (.plain rfl) rfl (ltb rfl) rfl Tryd.underlying39 Tryd.sizeOf64 rfl (Rd.ext f_a0 e13) rfl c19 <| fun p20 h21 => L_op (.plain rfl) rfl (ltb rfl) (X_fieldAddr Tryd.underlying64 rfl Tryd.sizeOf9 rfl rfl) <| L_op (.plain rfl) rfl (ltb rfl) (X_loadF Tryd.isAgg9 (j := 1) h21 rfl rfl) <| L_op (.plain rfl) rfl (ltb rfl) (X_move (v := (S a1)) (K12 1 rfl)) <| L_op (.plain rfl) rfl (ltb rfl) (X_seq rfl rfl) <| L_nil <| thn_n ?_
        rcases bif_two H with ⟨q22, H⟩ | ⟨q22, H⟩
        · refine W_true (congrArg Value.bool q22) <| W_seq <| W_reg <| L_op (.plain rfl) rfl (ltb rfl) (X_move (v := (.int .i64 x5_1)) h15) <| L_op (.plain rfl) rfl (ltb rfl) (X_assign (v := (.int .i64 x5_1)) rfl) <| L_nil <| thn_n <| W_ret <| blk_r <| thn_r <| thn_r <| blk_r <| thn_r <| thn_r <| fin_r ?_
          obtain rfl := Option.some.inj H
          obtain rfl := Option.some.inj S17
          have H := C4
          obtain rfl := Option.some.inj H
          exact fin1 rfl e13
        · refine W_false (congrArg Value.bool q22) <| W_skip <| blk_n <| thn_n <| W_reg <| L_op (.plain rfl) rfl (ltb rfl) (X_move (v := (.int .i64 x5_1)) h15) <| L_op (.plain rfl) rfl (ltb rfl) (X_add rfl rfl) <| L_op (.plain rfl) rfl (ltb rfl) (X_assign (v := (.int .i64 (IntKind.wrap .i64 (x5_1 + 1)))) rfl) <| L_nil <| thn_n ?_
          obtain rfl := Option.some.inj H
          exact ⟨_, Nat.lt_succ_self _, IntKind.wrap .i64 (x5_1 + 1), (Kp.upd (Kp.upd (Kp.upd (Kp.upd (Kp.upd (Kp.upd (Kp.upd (Kp.upd (Kp.upd (Kp.upd (Kp.upd (Kp.upd (Kp.upd (Kp.upd K12 rfl) rfl) rfl) rfl) rfl) rfl) rfl) rfl) rfl) rfl) rfl) rfl) rfl) rfl), rfl, e13, S17⟩
      · refine W_false (congrArg Value.bool q18) <| W_exit <| thn_x <| thn_x <| blk_x <| thn_n ?_
        obtain rfl := Option.some.inj H
        obtain rfl := Option.some.inj S17
        exact ⟨(Kp.upd (Kp.upd (Kp.upd (Kp.upd K12 rfl) rfl) rfl) rfl), e13, rfl⟩
  · rintro s6 w5 ⟨K7, e8, y23⟩
    rw [y23] at C4
    have H := C4
    replace H : _ = some _ := H
    refine thn_n <| W_seq <| W_reg <| L_op (.plain rfl) rfl (ltb rfl) (X_assign (v := (.int .i64 (-1))) rfl) <| L_nil <| thn_n <| W_ret <| fin_r ?_
    obtain rfl := Option.some.inj H
    exact fin1 rfl e8
theorem spec_l04At.calls {w : World} {a0 : List Nd} {a1 : List UInt8} {v_a0 : Value} (f_a0 : Rd 4 encNd w v_a0 a0) (h0 : a0.length ≤ 1048576) :
    Calls Tryd.prog 84 #[v_a0, S a1] w (Rt (RP w (.int .i64 (findN a0 a1)))) := by
  obtain ⟨k, h⟩ := spec_l04At.eq a0 a1 h0
  exact spec_l04At.walk f_a0 h
/-! spec.l04OK -/
theorem spec_l04OK.walk {k : Nat} {w : World} {a0 : List Nd} {v_a0 : Value} (f_a0 : Rd 4 encNd w v_a0 a0) {r : Bool} (H : spec_l04OK.sh k a0 = some r) :
    Calls Tryd.prog 55 #[v_a0] w (Rt (RP w (.bool r))) := by
  unfold spec_l04OK.sh at H
  refine calls_of_W Tryd.func55 rfl (Nat.le_of_ble_eq_true rfl) Tryd.ntmps55 rfl ?_
  refine W_seq <| W_reg <| L_op (.plain rfl) rfl (ltb rfl) (X_assign (v := (.bool false)) rfl) <| L_nil <| thn_n <| W_seq <| W_seq <| W_reg <| L_op (.plain rfl) rfl (ltb rfl) (X_move (v := v_a0) rfl) <| L_op (.plain rfl) rfl (ltb rfl) (X_lenR Tryd.underlying39 rfl f_a0) <| L_op (.plain rfl) rfl (ltb rfl) (X_gtr rfl rfl) <| L_nil <| thn_n ?_
  rcases bif_two H with ⟨q1, H⟩ | ⟨q1, H⟩
  · refine W_true (congrArg Value.bool q1) <| W_seq <| W_reg <| L_op (.plain rfl) rfl (ltb rfl) (X_assign (v := (.bool false)) rfl) <| L_nil <| thn_n <| W_ret <| thn_r <| fin_r ?_
    obtain rfl := Option.some.inj H
    exact fin1 rfl (Ext.refl w)
  · refine W_false (congrArg Value.bool q1) <| W_skip <| thn_n <| W_seq <| W_seq <| W_reg <| L_op (.plain rfl) rfl (ltb rfl) (X_assign (v := (.int .i64 0)) rfl) <| L_nil <| thn_n ?_
    obtain ⟨z3, L4, C5⟩ := bind_some H
    clear H
    refine  W_cutQ (fun s0 s9 w9 => Kp [(2, 6), (9, 72)] s0 s9 ∧ Ext w w9 ∧ z3 = .inr ()) ?_ ?_
    · refine W_block <| W_loopI (fun s0 kk s9 w9 => ∃ (x3_2 : Int), Kp [(2, 6), (9, 72)] s0 s9 ∧ s9 3 = .int .i64 x3_2 ∧ Ext w w9 ∧ loopF (spec_l04OK.b1 a0) kk x3_2 = some z3) k ⟨0, (Kp.refl _ _), rfl, (Ext.refl w), L4⟩ ?_
      rintro k10 s11 w12 ⟨x3_2, K13, h16, e14, L15⟩
      cases k10 with
      | zero => exact absurd L15 (by simp [loopF])
      | succ k10 =>
        obtain ⟨t17, H, S18⟩ := loopF_succ L15
        clear L15
        unfold spec_l04OK.b1 at H
        refine W_seq <| W_seq <| W_reg <| L_op (.plain rfl) rfl (ltb rfl) (X_move (v := (.int .i64 x3_2)) h16) <| L_op (.plain rfl) rfl (ltb rfl) (X_move (v := v_a0) (K13 0 rfl)) <| L_op (.plain rfl) rfl (ltb rfl) (X_lenR Tryd.underlying39 rfl (Rd.ext f_a0 e14)) <| L_op (.plain rfl) rfl (ltb rfl) (X_lss rfl rfl) <| L_nil <| thn_n ?_
        rcases bif_two H with ⟨q19, H⟩ | ⟨q19, H⟩
        · refine W_true (congrArg Value.bool q19) <| W_skip <| thn_n <| W_seq <| W_block <| W_seq <| W_seq ?_
          obtain ⟨c20, H⟩ := bif_some H
          obtain ⟨c23, H⟩ := bif_some H
          obtain ⟨c30, H⟩ := bif_some H
          obtain ⟨c33, H⟩ := bif_some H
          obtain ⟨c36, H⟩ := bif_some H
          obtain ⟨c37, H⟩ := bif_some H
          refine W_drawM [LEq v_a0, LEq (.int .i64 x3_2), LAt0 (encNd (gt a0 x3_2)), LAt 0 (encNd (gt a0 x3_2)), LEq (.int .i64 ((gt a0 x3_2).kind)), LEq (.bool (decide (((gt a0 x3_2).kind) = 4))), LEq (.bool (decide (((gt a0 x3_2).kind) = 4))), LIf (!(decide (((gt a0 x3_2).kind) = 4))) (LEq v_a0), LIf (!(decide (((gt a0 x3_2).kind) = 4))) (LEq (.int .i64 x3_2)), LIf (!(decide (((gt a0 x3_2).kind) = 4))) (LAt0 (encNd (gt a0 x3_2))), LIf (!(decide (((gt a0 x3_2).kind) = 4))) (LEq (.agg (encNd (gt a0 x3_2)).toArray)), LIf (!(decide (((gt a0 x3_2).kind) = 4))) (LEq (.agg (encRec (recOf (gt a0 x3_2))).toArray)), LIf (!(decide (((gt a0 x3_2).kind) = 4))) (LEq (.bool (decide (recFault (recOf (gt a0 x3_2)) = 0)))), LIf (!(decide (((gt a0 x3_2).kind) = 4))) (LEq (.bool (!(decide (recFault (recOf (gt a0 x3_2)) = 0))))), LEq (.bool ((decide (((gt a0 x3_2).kind) = 4)) || (!(decide (recFault (recOf (gt a0 x3_2)) = 0))))), LEq (.bool ((decide (((gt a0 x3_2).kind) = 4)) || (!(decide (recFault (recOf (gt a0 x3_2)) = 0))))), LIf (!((decide (((gt a0 x3_2).kind) = 4)) || (!(decide (recFault (recOf (gt a0 x3_2)) = 0))))) (LEq (.int .i64 x3_2)), LIf (!((decide (((gt a0 x3_2).kind) = 4)) || (!(decide (recFault (recOf (gt a0 x3_2)) = 0))))) (LEq (.bool (decide (0 < x3_2)))), LIf (!((decide (((gt a0 x3_2).kind) = 4)) || (!(decide (recFault (recOf (gt a0 x3_2)) = 0))))) (LEq (.bool (decide (0 < x3_2)))), LIf ((!((decide (((gt a0 x3_2).kind) = 4)) || (!(decide (recFault (recOf (gt a0 x3_2)) = 0))))) && (decide (0 < x3_2))) (LEq v_a0), LIf ((!((decide (((gt a0 x3_2).kind) = 4)) || (!(decide (recFault (recOf (gt a0 x3_2)) = 0))))) && (decide (0 < x3_2))) (LEq (.int .i64 x3_2)), LIf ((!((decide (((gt a0 x3_2).kind) = 4)) || (!(decide (recFault (recOf (gt a0 x3_2)) = 0))))) && (decide (0 < x3_2))) (LEq (.int .i64 (IntKind.wrap .i64 (x3_2 - 1)))), LIf ((!((decide (((gt a0 x3_2).kind) = 4)) || (!(decide (recFault (recOf (gt a0 x3_2)) = 0))))) && (decide (0 < x3_2))) (LAt0 (encNd (gt a0 (IntKind.wrap .i64 (x3_2 - 1))))), LIf ((!((decide (((gt a0 x3_2).kind) = 4)) || (!(decide (recFault (recOf (gt a0 x3_2)) = 0))))) && (decide (0 < x3_2))) (LAt 1 (encNd (gt a0 (IntKind.wrap .i64 (x3_2 - 1))))), LIf ((!((decide (((gt a0 x3_2).kind) = 4)) || (!(decide (recFault (recOf (gt a0 x3_2)) = 0))))) && (decide (0 < x3_2))) (LEq (S ((gt a0 (IntKind.wrap .i64 (x3_2 - 1))).path))), LIf ((!((decide (((gt a0 x3_2).kind) = 4)) || (!(decide (recFault (recOf (gt a0 x3_2)) = 0))))) && (decide (0 < x3_2))) (LEq v_a0), LIf ((!((decide (((gt a0 x3_2).kind) = 4)) || (!(decide (recFault (recOf (gt a0 x3_2)) = 0))))) && (decide (0 < x3_2))) (LEq (.int .i64 x3_2)), LIf ((!((decide (((gt a0 x3_2).kind) = 4)) || (!(decide (recFault (recOf (gt a0 x3_2)) = 0))))) && (decide (0 < x3_2))) (LAt0 (encNd (gt a0 x3_2))), LIf ((!((decide (((gt a0 x3_2).kind) = 4)) || (!(decide (recFault (recOf (gt a0 x3_2)) = 0))))) && (decide (0 < x3_2))) (LAt 1 (encNd (gt a0 x3_2))), LIf ((!((decide (((gt a0 x3_2).kind) = 4)) || (!(decide (recFault (recOf (gt a0 x3_2)) = 0))))) && (decide (0 < x3_2))) (LEq (S ((gt a0 x3_2).path))), LIf ((!((decide (((gt a0 x3_2).kind) = 4)) || (!(decide (recFault (recOf (gt a0 x3_2)) = 0))))) && (decide (0 < x3_2))) (LEq (.bool (lessL (cut 47 ((gt a0 (IntKind.wrap .i64 (x3_2 - 1))).path)) (cut 47 ((gt a0 x3_2).path))))), LIf ((!((decide (((gt a0 x3_2).kind) = 4)) || (!(decide (recFault (recOf (gt a0 x3_2)) = 0))))) && (decide (0 < x3_2))) (LEq (.bool (!(lessL (cut 47 ((gt a0 (IntKind.wrap .i64 (x3_2 - 1))).path)) (cut 47 ((gt a0 x3_2).path)))))), LIf (!((decide (((gt a0 x3_2).kind) = 4)) || (!(decide (recFault (recOf (gt a0 x3_2)) = 0))))) (LEq (.bool ((decide (0 < x3_2)) && (!(lessL (cut 47 ((gt a0 (IntKind.wrap .i64 (x3_2 - 1))).path)) (cut 47 ((gt a0 x3_2).path))))))), LEq (.bool (((decide (((gt a0 x3_2).kind) = 4)) || (!(decide (recFault (recOf (gt a0 x3_2)) = 0)))) || ((decide (0 < x3_2)) && (!(lessL (cut 47 ((gt a0 (IntKind.wrap .i64 (x3_2 - 1))).path)) (cut 47 ((gt a0 x3_2).path)))))))] (by kernel_rfl) (by kernel_rfl) ⟨LEq.mono, LEq.mono, LAt0.mono, LAt.mono, LEq.mono, LEq.mono, LEq.mono, (LIf.mono LEq.mono), (LIf.mono LEq.mono), (LIf.mono LAt0.mono), (LIf.mono LEq.mono), (LIf.mono LEq.mono), (LIf.mono LEq.mono), (LIf.mono LEq.mono), LEq.mono, LEq.mono, (LIf.mono LEq.mono), (LIf.mono LEq.mono), (LIf.mono LEq.mono), (LIf.mono LEq.mono), (LIf.mono LEq.mono), (LIf.mono LEq.mono), (LIf.mono LAt0.mono), (LIf.mono LAt.mono), (LIf.mono LEq.mono), (LIf.mono LEq.mono), (LIf.mono LEq.mono), (LIf.mono LAt0.mono), (LIf.mono LAt.mono), (LIf.mono LEq.mono), (LIf.mono LEq.mono), (LIf.mono LEq.mono), (LIf.mono LEq.mono), LEq.mono, trivial⟩ ⟨?_, ?_, ?_, ?_, ?_, ?_, ?_, ?_, ?_, ?_, ?_, ?_, ?_, ?_, ?_, ?_, ?_, ?_, ?_, ?_, ?_, ?_, ?_, ?_, ?_, ?_, ?_, ?_, ?_, ?_, ?_, ?_, ?_, ?_, trivial⟩ ?_
          · intro s40 w41 e42 hf43 hd44 hu45
            exact L_op (.plain rfl) rfl (ltb rfl) (X_move (v := v_a0) ((hf43 0 rfl).trans (K13 0 rfl))) <| L_nil <| stepEnd rfl rfl (Ext.refl w41) rfl
          · intro s46 w47 e48 hf49 hd50 hu51
            exact L_op (.plain rfl) rfl (ltb rfl) (X_move (v := (.int .i64 x3_2)) ((hf49 3 rfl).trans h16)) <| L_nil <| stepEnd rfl rfl (Ext.refl w47) rfl
          · intro s52 w53 e54 hf55 hd56 hu57
            have d58 : s52 15 = v_a0 := (hd56 0 rfl)
            have d59 : s52 16 = (.int .i64 x3_2) := (hd56 1 rfl)
            have c60 := c20
            exact L_idx (.plain rfl) rfl (ltb rfl) rfl Tryd.underlying39 Tryd.sizeOf64 d58 (Rd.ext f_a0 (Ext.trans e14 e54)) d59 c60 <| fun p61 h62 => L_nil <| stepEnd rfl rfl (Ext.refl w53) ⟨_, rfl, h62⟩
          · intro s63 w64 e65 hf66 hd67 hu68
            obtain ⟨p69, h70, h71⟩ := (hd67 2 rfl)
            exact L_op (.plain rfl) rfl (ltb rfl) (X_fieldAddr Tryd.underlying64 rfl Tryd.sizeOf3 rfl h70) <| L_nil <| stepEnd rfl rfl (Ext.refl w64) ⟨_, rfl, h71⟩
          · intro s72 w73 e74 hf75 hd76 hu77
            obtain ⟨p78, h79, h80⟩ := (hd76 3 rfl)
            exact L_op (.plain rfl) rfl (ltb rfl) (X_loadF Tryd.isAgg3 (j := 0) h80 h79 rfl) <| L_nil <| stepEnd rfl rfl (Ext.refl w73) rfl
          · intro s81 w82 e83 hf84 hd85 hu86
            have d87 : s81 19 = (.int .i64 ((gt a0 x3_2).kind)) := (hd85 4 rfl)
            exact L_op (.plain rfl) rfl (ltb rfl) (X_eql d87 rfl) <| L_nil <| stepEnd rfl rfl (Ext.refl w82) rfl
          · intro s88 w89 e90 hf91 hd92 hu93
            have d94 : s88 20 = (.bool (decide (((gt a0 x3_2).kind) = 4))) := (hd92 5 rfl)
            exact L_op (.plain rfl) rfl (ltb rfl) (X_move (v := (.bool (decide (((gt a0 x3_2).kind) = 4)))) d94) <| L_nil <| stepEnd rfl rfl (Ext.refl w89) rfl
          · intro s95 w96 e97 hf98 hd99 hu100
            rcases bool_two (!(decide (((gt a0 x3_2).kind) = 4))) with b101 | b101
            · have g102 : (decide (((gt a0 x3_2).kind) = 4)) = false := (not_f b101)
              have d103 : s95 21 = (.bool (decide (((gt a0 x3_2).kind) = 4))) := (hd99 6 rfl)
              have d104 : s95 21 = (.bool (decide (((gt a0 x3_2).kind) = 4))) := (hd99 6 rfl)
              exact L_op (.guard 6 false 21 rfl rfl (ltb rfl) (d103.trans (congrArg Value.bool g102))) rfl (ltb rfl) (X_move (v := v_a0) ((hf98 0 rfl).trans (K13 0 rfl))) <| L_nil <| stepEnd rfl rfl (Ext.refl w96) ⟨fun _ => rfl, fun h => absurd (b101.symm.trans h) (by decide)⟩
            · have d105 : s95 21 = (.bool (decide (((gt a0 x3_2).kind) = 4))) := (hd99 6 rfl)
              have g106 : (decide (((gt a0 x3_2).kind) = 4)) = true := (not_ff b101)
              exact L_skip rfl rfl (ltb rfl) (d105.trans (congrArg Value.bool g106)) rfl rfl (ltb rfl) <| L_nil <| stepEnd rfl rfl (Ext.refl w96) ⟨fun h => absurd (b101.symm.trans h) (by decide), fun _ => rfl⟩
          · intro s107 w108 e109 hf110 hd111 hu112
            rcases bool_two (!(decide (((gt a0 x3_2).kind) = 4))) with b113 | b113
            · have g114 : (decide (((gt a0 x3_2).kind) = 4)) = false := (not_f b113)
              have d115 : s107 21 = (.bool (decide (((gt a0 x3_2).kind) = 4))) := (hd111 6 rfl)
              have d116 : s107 21 = (.bool (decide (((gt a0 x3_2).kind) = 4))) := (hd111 6 rfl)
              exact L_op (.guard 6 false 21 rfl rfl (ltb rfl) (d115.trans (congrArg Value.bool g114))) rfl (ltb rfl) (X_move (v := (.int .i64 x3_2)) ((hf110 3 rfl).trans h16)) <| L_nil <| stepEnd rfl rfl (Ext.refl w108) ⟨fun _ => rfl, fun h => absurd (b113.symm.trans h) (by decide)⟩
            · have d117 : s107 21 = (.bool (decide (((gt a0 x3_2).kind) = 4))) := (hd111 6 rfl)
              have g118 : (decide (((gt a0 x3_2).kind) = 4)) = true := (not_ff b113)
              exact L_skip rfl rfl (ltb rfl) (d117.trans (congrArg Value.bool g118)) rfl rfl (ltb rfl) <| L_nil <| stepEnd rfl rfl (Ext.refl w108) ⟨fun h => absurd (b113.symm.trans h) (by decide), fun _ => rfl⟩
          · intro s119 w120 e121 hf122 hd123 hu124
            rcases bool_two (!(decide (((gt a0 x3_2).kind) = 4))) with b125 | b125
            · have g126 : (decide (((gt a0 x3_2).kind) = 4)) = false := (not_f b125)
              have d127 : s119 21 = (.bool (decide (((gt a0 x3_2).kind) = 4))) := (hd123 6 rfl)
              have d128 : s119 21 = (.bool (decide (((gt a0 x3_2).kind) = 4))) := (hd123 6 rfl)
              have d129 : s119 22 = v_a0 := ((hd123 7 rfl).1 (not_mk (not_f b125)))
              have d130 : s119 23 = (.int .i64 x3_2) := ((hd123 8 rfl).1 (not_mk (not_f b125)))
              have c131 := imp_take b125 c23
              exact L_idx (.guard 6 false 21 rfl rfl (ltb rfl) (d127.trans (congrArg Value.bool g126))) rfl (ltb rfl) rfl Tryd.underlying39 Tryd.sizeOf64 d129 (Rd.ext f_a0 (Ext.trans e14 e121)) d130 c131 <| fun p132 h133 => L_nil <| stepEnd rfl rfl (Ext.refl w120) ⟨fun _ => ⟨_, rfl, h133⟩, fun h => absurd (b125.symm.trans h) (by decide)⟩
            · have d134 : s119 21 = (.bool (decide (((gt a0 x3_2).kind) = 4))) := (hd123 6 rfl)
              have g135 : (decide (((gt a0 x3_2).kind) = 4)) = true := (not_ff b125)
              exact L_skip rfl rfl (ltb rfl) (d134.trans (congrArg Value.bool g135)) rfl rfl (ltb rfl) <| L_nil <| stepEnd rfl rfl (Ext.refl w120) ⟨fun h => absurd (b125.symm.trans h) (by decide), fun _ => rfl⟩
          · intro s136 w137 e138 hf139 hd140 hu141
            rcases bool_two (!(decide (((gt a0 x3_2).kind) = 4))) with b142 | b142
            · have g143 : (decide (((gt a0 x3_2).kind) = 4)) = false := (not_f b142)
              have d144 : s136 21 = (.bool (decide (((gt a0 x3_2).kind) = 4))) := (hd140 6 rfl)
              have d145 : s136 21 = (.bool (decide (((gt a0 x3_2).kind) = 4))) := (hd140 6 rfl)
              obtain ⟨p146, h147, h148⟩ := ((hd140 9 rfl).1 (not_mk (not_f b142)))
              exact L_op (.guard 6 false 21 rfl rfl (ltb rfl) (d144.trans (congrArg Value.bool g143))) rfl (ltb rfl) (X_loadS Tryd.isAgg64 Tryd.sizeOf64 rfl h147 h148) <| L_nil <| stepEnd rfl rfl (Ext.refl w137) ⟨fun _ => rfl, fun h => absurd (b142.symm.trans h) (by decide)⟩
            · have d149 : s136 21 = (.bool (decide (((gt a0 x3_2).kind) = 4))) := (hd140 6 rfl)
              have g150 : (decide (((gt a0 x3_2).kind) = 4)) = true := (not_ff b142)
              exact L_skip rfl rfl (ltb rfl) (d149.trans (congrArg Value.bool g150)) rfl rfl (ltb rfl) <| L_nil <| stepEnd rfl rfl (Ext.refl w137) ⟨fun h => absurd (b142.symm.trans h) (by decide), fun _ => rfl⟩
          · intro s151 w152 e153 hf154 hd155 hu156
            rcases bool_two (!(decide (((gt a0 x3_2).kind) = 4))) with b157 | b157
            · have g158 : (decide (((gt a0 x3_2).kind) = 4)) = false := (not_f b157)
              have d159 : s151 21 = (.bool (decide (((gt a0 x3_2).kind) = 4))) := (hd155 6 rfl)
              have d160 : s151 21 = (.bool (decide (((gt a0 x3_2).kind) = 4))) := (hd155 6 rfl)
              have d161 : s151 25 = (.agg (encNd (gt a0 x3_2)).toArray) := ((hd155 10 rfl).1 (not_mk (not_f b157)))
              exact L_callP (.guard 6 false 21 rfl rfl (ltb rfl) (d159.trans (congrArg Value.bool g158))) rfl (ltb rfl) rfl Tryd.call82 (spec_l04Record.calls (w := w152) (a0 := gt a0 x3_2)) (cons2 d161 rfl) <| fun w162 e163 => L_nil <| stepEnd rfl rfl e163 ⟨fun _ => rfl, fun h => absurd (b157.symm.trans h) (by decide)⟩
            · have d164 : s151 21 = (.bool (decide (((gt a0 x3_2).kind) = 4))) := (hd155 6 rfl)
              have g165 : (decide (((gt a0 x3_2).kind) = 4)) = true := (not_ff b157)
              exact L_skip rfl rfl (ltb rfl) (d164.trans (congrArg Value.bool g165)) rfl rfl (ltb rfl) <| L_nil <| stepEnd rfl rfl (Ext.refl w152) ⟨fun h => absurd (b157.symm.trans h) (by decide), fun _ => rfl⟩
          · intro s166 w167 e168 hf169 hd170 hu171
            rcases bool_two (!(decide (((gt a0 x3_2).kind) = 4))) with b172 | b172
            · have g173 : (decide (((gt a0 x3_2).kind) = 4)) = false := (not_f b172)
              have d174 : s166 21 = (.bool (decide (((gt a0 x3_2).kind) = 4))) := (hd170 6 rfl)
              have d175 : s166 21 = (.bool (decide (((gt a0 x3_2).kind) = 4))) := (hd170 6 rfl)
              have d176 : s166 26 = (.agg (encRec (recOf (gt a0 x3_2))).toArray) := ((hd170 11 rfl).1 (not_mk (not_f b172)))
              exact L_callP (.guard 6 false 21 rfl rfl (ltb rfl) (d174.trans (congrArg Value.bool g173))) rfl (ltb rfl) rfl Tryd.call81 (spec_l02OK.calls (w := w167) (a0 := (recOf (gt a0 x3_2)))) (cons2 d176 rfl) <| fun w177 e178 => L_nil <| stepEnd rfl rfl e178 ⟨fun _ => rfl, fun h => absurd (b172.symm.trans h) (by decide)⟩
            · have d179 : s166 21 = (.bool (decide (((gt a0 x3_2).kind) = 4))) := (hd170 6 rfl)
              have g180 : (decide (((gt a0 x3_2).kind) = 4)) = true := (not_ff b172)
              exact L_skip rfl rfl (ltb rfl) (d179.trans (congrArg Value.bool g180)) rfl rfl (ltb rfl) <| L_nil <| stepEnd rfl rfl (Ext.refl w167) ⟨fun h => absurd (b172.symm.trans h) (by decide), fun _ => rfl⟩
          · intro s181 w182 e183 hf184 hd185 hu186
            rcases bool_two (!(decide (((gt a0 x3_2).kind) = 4))) with b187 | b187
            · have g188 : (decide (((gt a0 x3_2).kind) = 4)) = false := (not_f b187)
              have d189 : s181 21 = (.bool (decide (((gt a0 x3_2).kind) = 4))) := (hd185 6 rfl)
              have d190 : s181 21 = (.bool (decide (((gt a0 x3_2).kind) = 4))) := (hd185 6 rfl)
              have d191 : s181 27 = (.bool (decide (recFault (recOf (gt a0 x3_2)) = 0))) := ((hd185 12 rfl).1 (not_mk (not_f b187)))
              exact L_op (.guard 6 false 21 rfl rfl (ltb rfl) (d189.trans (congrArg Value.bool g188))) rfl (ltb rfl) (X_not d191) <| L_nil <| stepEnd rfl rfl (Ext.refl w182) ⟨fun _ => rfl, fun h => absurd (b187.symm.trans h) (by decide)⟩
            · have d192 : s181 21 = (.bool (decide (((gt a0 x3_2).kind) = 4))) := (hd185 6 rfl)
              have g193 : (decide (((gt a0 x3_2).kind) = 4)) = true := (not_ff b187)
              exact L_skip rfl rfl (ltb rfl) (d192.trans (congrArg Value.bool g193)) rfl rfl (ltb rfl) <| L_nil <| stepEnd rfl rfl (Ext.refl w182) ⟨fun h => absurd (b187.symm.trans h) (by decide), fun _ => rfl⟩
          · intro s194 w195 e196 hf197 hd198 hu199
            rcases bool_two (decide (((gt a0 x3_2).kind) = 4)) with b200 | b200
            · have d201 : s194 21 = (.bool (decide (((gt a0 x3_2).kind) = 4))) := (hd198 6 rfl)
              exact L_op (.plain rfl) rfl (ltb rfl) (X_pick (b := true) (v := (.bool true)) (d201.trans (congrArg Value.bool b200)) rfl) <| L_nil <| stepEnd rfl rfl (Ext.refl w195) (by show _ = _; rw [b200]; rfl)
            · have d202 : s194 21 = (.bool (decide (((gt a0 x3_2).kind) = 4))) := (hd198 6 rfl)
              have d203 : s194 28 = (.bool (!(decide (recFault (recOf (gt a0 x3_2)) = 0)))) := ((hd198 13 rfl).1 (not_mk b200))
              exact L_op (.plain rfl) rfl (ltb rfl) (X_pick (b := false) (v := (.bool (!(decide (recFault (recOf (gt a0 x3_2)) = 0))))) (d202.trans (congrArg Value.bool b200)) d203) <| L_nil <| stepEnd rfl rfl (Ext.refl w195) (by show _ = _; rw [b200]; rfl)
          · intro s204 w205 e206 hf207 hd208 hu209
            have d210 : s204 29 = (.bool ((decide (((gt a0 x3_2).kind) = 4)) || (!(decide (recFault (recOf (gt a0 x3_2)) = 0))))) := (hd208 14 rfl)
            exact L_op (.plain rfl) rfl (ltb rfl) (X_move d210) <| L_nil <| stepEnd rfl rfl (Ext.refl w205) rfl
          · intro s211 w212 e213 hf214 hd215 hu216
            rcases bool_two (!((decide (((gt a0 x3_2).kind) = 4)) || (!(decide (recFault (recOf (gt a0 x3_2)) = 0))))) with b217 | b217
            · have g218 : ((decide (((gt a0 x3_2).kind) = 4)) || (!(decide (recFault (recOf (gt a0 x3_2)) = 0)))) = false := (not_f b217)
              have d219 : s211 30 = (.bool ((decide (((gt a0 x3_2).kind) = 4)) || (!(decide (recFault (recOf (gt a0 x3_2)) = 0))))) := (hd215 15 rfl)
              have d220 : s211 30 = (.bool ((decide (((gt a0 x3_2).kind) = 4)) || (!(decide (recFault (recOf (gt a0 x3_2)) = 0))))) := (hd215 15 rfl)
              exact L_op (.guard 15 false 30 rfl rfl (ltb rfl) (d219.trans (congrArg Value.bool g218))) rfl (ltb rfl) (X_move (v := (.int .i64 x3_2)) ((hf214 3 rfl).trans h16)) <| L_nil <| stepEnd rfl rfl (Ext.refl w212) ⟨fun _ => rfl, fun h => absurd (b217.symm.trans h) (by decide)⟩
            · have d221 : s211 30 = (.bool ((decide (((gt a0 x3_2).kind) = 4)) || (!(decide (recFault (recOf (gt a0 x3_2)) = 0))))) := (hd215 15 rfl)
              have g222 : ((decide (((gt a0 x3_2).kind) = 4)) || (!(decide (recFault (recOf (gt a0 x3_2)) = 0)))) = true := (not_ff b217)
              exact L_skip rfl rfl (ltb rfl) (d221.trans (congrArg Value.bool g222)) rfl rfl (ltb rfl) <| L_nil <| stepEnd rfl rfl (Ext.refl w212) ⟨fun h => absurd (b217.symm.trans h) (by decide), fun _ => rfl⟩
          · intro s223 w224 e225 hf226 hd227 hu228
            rcases bool_two (!((decide (((gt a0 x3_2).kind) = 4)) || (!(decide (recFault (recOf (gt a0 x3_2)) = 0))))) with b229 | b229
            · have g230 : ((decide (((gt a0 x3_2).kind) = 4)) || (!(decide (recFault (recOf (gt a0 x3_2)) = 0)))) = false := (not_f b229)
              have d231 : s223 30 = (.bool ((decide (((gt a0 x3_2).kind) = 4)) || (!(decide (recFault (recOf (gt a0 x3_2)) = 0))))) := (hd227 15 rfl)
              have d232 : s223 30 = (.bool ((decide (((gt a0 x3_2).kind) = 4)) || (!(decide (recFault (recOf (gt a0 x3_2)) = 0))))) := (hd227 15 rfl)
              have d233 : s223 31 = (.int .i64 x3_2) := ((hd227 16 rfl).1 (not_mk (not_f b229)))
              exact L_op (.guard 15 false 30 rfl rfl (ltb rfl) (d231.trans (congrArg Value.bool g230))) rfl (ltb rfl) (X_gtr d233 rfl) <| L_nil <| stepEnd rfl rfl (Ext.refl w224) ⟨fun _ => rfl, fun h => absurd (b229.symm.trans h) (by decide)⟩
            · have d234 : s223 30 = (.bool ((decide (((gt a0 x3_2).kind) = 4)) || (!(decide (recFault (recOf (gt a0 x3_2)) = 0))))) := (hd227 15 rfl)
              have g235 : ((decide (((gt a0 x3_2).kind) = 4)) || (!(decide (recFault (recOf (gt a0 x3_2)) = 0)))) = true := (not_ff b229)
              exact L_skip rfl rfl (ltb rfl) (d234.trans (congrArg Value.bool g235)) rfl rfl (ltb rfl) <| L_nil <| stepEnd rfl rfl (Ext.refl w224) ⟨fun h => absurd (b229.symm.trans h) (by decide), fun _ => rfl⟩
          · intro s236 w237 e238 hf239 hd240 hu241
            rcases bool_two (!((decide (((gt a0 x3_2).kind) = 4)) || (!(decide (recFault (recOf (gt a0 x3_2)) = 0))))) with b242 | b242
            · have g243 : ((decide (((gt a0 x3_2).kind) = 4)) || (!(decide (recFault (recOf (gt a0 x3_2)) = 0)))) = false := (not_f b242)
              have d244 : s236 30 = (.bool ((decide (((gt a0 x3_2).kind) = 4)) || (!(decide (recFault (recOf (gt a0 x3_2)) = 0))))) := (hd240 15 rfl)
              have d245 : s236 30 = (.bool ((decide (((gt a0 x3_2).kind) = 4)) || (!(decide (recFault (recOf (gt a0 x3_2)) = 0))))) := (hd240 15 rfl)
              have d246 : s236 32 = (.bool (decide (0 < x3_2))) := ((hd240 17 rfl).1 (not_mk (not_f b242)))
              exact L_op (.guard 15 false 30 rfl rfl (ltb rfl) (d244.trans (congrArg Value.bool g243))) rfl (ltb rfl) (X_move (v := (.bool (decide (0 < x3_2)))) d246) <| L_nil <| stepEnd rfl rfl (Ext.refl w237) ⟨fun _ => rfl, fun h => absurd (b242.symm.trans h) (by decide)⟩
            · have d247 : s236 30 = (.bool ((decide (((gt a0 x3_2).kind) = 4)) || (!(decide (recFault (recOf (gt a0 x3_2)) = 0))))) := (hd240 15 rfl)
              have g248 : ((decide (((gt a0 x3_2).kind) = 4)) || (!(decide (recFault (recOf (gt a0 x3_2)) = 0)))) = true := (not_ff b242)
              exact L_skip rfl rfl (ltb rfl) (d247.trans (congrArg Value.bool g248)) rfl rfl (ltb rfl) <| L_nil <| stepEnd rfl rfl (Ext.refl w237) ⟨fun h => absurd (b242.symm.trans h) (by decide), fun _ => rfl⟩
          · intro s249 w250 e251 hf252 hd253 hu254
            rcases bool_two ((!((decide (((gt a0 x3_2).kind) = 4)) || (!(decide (recFault (recOf (gt a0 x3_2)) = 0))))) && (decide (0 < x3_2))) with b255 | b255
            · have g256 : (decide (0 < x3_2)) = true := (and_r b255)
              have d257 : s249 33 = (.bool (decide (0 < x3_2))) := ((hd253 18 rfl).1 (not_mk (not_f (and_l b255))))
              have d258 : s249 33 = (.bool (decide (0 < x3_2))) := ((hd253 18 rfl).1 (not_mk (not_f (and_l b255))))
              exact L_op (.guard 18 true 33 rfl rfl (ltb rfl) (d257.trans (congrArg Value.bool g256))) rfl (ltb rfl) (X_move (v := v_a0) ((hf252 0 rfl).trans (K13 0 rfl))) <| L_nil <| stepEnd rfl rfl (Ext.refl w250) ⟨fun _ => rfl, fun h => absurd (b255.symm.trans h) (by decide)⟩
            · rcases bool_two (!((decide (((gt a0 x3_2).kind) = 4)) || (!(decide (recFault (recOf (gt a0 x3_2)) = 0))))) with b259 | b259
              · have d260 : s249 33 = (.bool (decide (0 < x3_2))) := ((hd253 18 rfl).1 (not_mk (not_f b259)))
                have g261 : (decide (0 < x3_2)) = false := (and_fr b255 b259)
                exact L_skip rfl rfl (ltb rfl) (d260.trans (congrArg Value.bool g261)) rfl rfl (ltb rfl) <| L_nil <| stepEnd rfl rfl (Ext.refl w250) ⟨fun h => absurd (b255.symm.trans h) (by decide), fun _ => rfl⟩
              · exact L_skipU rfl rfl (ltb rfl) ((hd253 18 rfl).2 b259) rfl (ltb rfl) <| L_nil <| stepEnd rfl rfl (Ext.refl w250) ⟨fun h => absurd (b255.symm.trans h) (by decide), fun _ => rfl⟩
          · intro s262 w263 e264 hf265 hd266 hu267
            rcases bool_two ((!((decide (((gt a0 x3_2).kind) = 4)) || (!(decide (recFault (recOf (gt a0 x3_2)) = 0))))) && (decide (0 < x3_2))) with b268 | b268
            · have g269 : (decide (0 < x3_2)) = true := (and_r b268)
              have d270 : s262 33 = (.bool (decide (0 < x3_2))) := ((hd266 18 rfl).1 (not_mk (not_f (and_l b268))))
              have d271 : s262 33 = (.bool (decide (0 < x3_2))) := ((hd266 18 rfl).1 (not_mk (not_f (and_l b268))))
              exact L_op (.guard 18 true 33 rfl rfl (ltb rfl) (d270.trans (congrArg Value.bool g269))) rfl (ltb rfl) (X_move (v := (.int .i64 x3_2)) ((hf265 3 rfl).trans h16)) <| L_nil <| stepEnd rfl rfl (Ext.refl w263) ⟨fun _ => rfl, fun h => absurd (b268.symm.trans h) (by decide)⟩
            · rcases bool_two (!((decide (((gt a0 x3_2).kind) = 4)) || (!(decide (recFault (recOf (gt a0 x3_2)) = 0))))) with b272 | b272
              · have d273 : s262 33 = (.bool (decide (0 < x3_2))) := ((hd266 18 rfl).1 (not_mk (not_f b272)))
                have g274 : (decide (0 < x3_2)) = false := (and_fr b268 b272)
                exact L_skip rfl rfl (ltb rfl) (d273.trans (congrArg Value.bool g274)) rfl rfl (ltb rfl) <| L_nil <| stepEnd rfl rfl (Ext.refl w263) ⟨fun h => absurd (b268.symm.trans h) (by decide), fun _ => rfl⟩
              · exact L_skipU rfl rfl (ltb rfl) ((hd266 18 rfl).2 b272) rfl (ltb rfl) <| L_nil <| stepEnd rfl rfl (Ext.refl w263) ⟨fun h => absurd (b268.symm.trans h) (by decide), fun _ => rfl⟩
          · intro s275 w276 e277 hf278 hd279 hu280
            rcases bool_two ((!((decide (((gt a0 x3_2).kind) = 4)) || (!(decide (recFault (recOf (gt a0 x3_2)) = 0))))) && (decide (0 < x3_2))) with b281 | b281
            · have g282 : (decide (0 < x3_2)) = true := (and_r b281)
              have d283 : s275 33 = (.bool (decide (0 < x3_2))) := ((hd279 18 rfl).1 (not_mk (not_f (and_l b281))))
              have d284 : s275 33 = (.bool (decide (0 < x3_2))) := ((hd279 18 rfl).1 (not_mk (not_f (and_l b281))))
              have d285 : s275 35 = (.int .i64 x3_2) := ((hd279 20 rfl).1 (and_mk (not_mk (not_f (and_l b281))) (and_r b281)))
              exact L_op (.guard 18 true 33 rfl rfl (ltb rfl) (d283.trans (congrArg Value.bool g282))) rfl (ltb rfl) (X_sub d285 rfl) <| L_nil <| stepEnd rfl rfl (Ext.refl w276) ⟨fun _ => rfl, fun h => absurd (b281.symm.trans h) (by decide)⟩
            · rcases bool_two (!((decide (((gt a0 x3_2).kind) = 4)) || (!(decide (recFault (recOf (gt a0 x3_2)) = 0))))) with b286 | b286
              · have d287 : s275 33 = (.bool (decide (0 < x3_2))) := ((hd279 18 rfl).1 (not_mk (not_f b286)))
                have g288 : (decide (0 < x3_2)) = false := (and_fr b281 b286)
                exact L_skip rfl rfl (ltb rfl) (d287.trans (congrArg Value.bool g288)) rfl rfl (ltb rfl) <| L_nil <| stepEnd rfl rfl (Ext.refl w276) ⟨fun h => absurd (b281.symm.trans h) (by decide), fun _ => rfl⟩
              · exact L_skipU rfl rfl (ltb rfl) ((hd279 18 rfl).2 b286) rfl (ltb rfl) <| L_nil <| stepEnd rfl rfl (Ext.refl w276) ⟨fun h => absurd (b281.symm.trans h) (by decide), fun _ => rfl⟩
          · intro s289 w290 e291 hf292 hd293 hu294
            rcases bool_two ((!((decide (((gt a0 x3_2).kind) = 4)) || (!(decide (recFault (recOf (gt a0 x3_2)) = 0))))) && (decide (0 < x3_2))) with b295 | b295
            · have g296 : (decide (0 < x3_2)) = true := (and_r b295)
              have d297 : s289 33 = (.bool (decide (0 < x3_2))) := ((hd293 18 rfl).1 (not_mk (not_f (and_l b295))))
              have d298 : s289 33 = (.bool (decide (0 < x3_2))) := ((hd293 18 rfl).1 (not_mk (not_f (and_l b295))))
              have d299 : s289 34 = v_a0 := ((hd293 19 rfl).1 (and_mk (not_mk (not_f (and_l b295))) (and_r b295)))
              have d300 : s289 36 = (.int .i64 (IntKind.wrap .i64 (x3_2 - 1))) := ((hd293 21 rfl).1 (and_mk (not_mk (not_f (and_l b295))) (and_r b295)))
              have c301 := imp_take b295 c30
              exact L_idx (.guard 18 true 33 rfl rfl (ltb rfl) (d297.trans (congrArg Value.bool g296))) rfl (ltb rfl) rfl Tryd.underlying39 Tryd.sizeOf64 d299 (Rd.ext f_a0 (Ext.trans e14 e291)) d300 c301 <| fun p302 h303 => L_nil <| stepEnd rfl rfl (Ext.refl w290) ⟨fun _ => ⟨_, rfl, h303⟩, fun h => absurd (b295.symm.trans h) (by decide)⟩
            · rcases bool_two (!((decide (((gt a0 x3_2).kind) = 4)) || (!(decide (recFault (recOf (gt a0 x3_2)) = 0))))) with b304 | b304
              · have d305 : s289 33 = (.bool (decide (0 < x3_2))) := ((hd293 18 rfl).1 (not_mk (not_f b304)))
                have g306 : (decide (0 < x3_2)) = false := (and_fr b295 b304)
                exact L_skip rfl rfl (ltb rfl) (d305.trans (congrArg Value.bool g306)) rfl rfl (ltb rfl) <| L_nil <| stepEnd rfl rfl (Ext.refl w290) ⟨fun h => absurd (b295.symm.trans h) (by decide), fun _ => rfl⟩
              · exact L_skipU rfl rfl (ltb rfl) ((hd293 18 rfl).2 b304) rfl (ltb rfl) <| L_nil <| stepEnd rfl rfl (Ext.refl w290) ⟨fun h => absurd (b295.symm.trans h) (by decide), fun _ => rfl⟩
          · intro s307 w308 e309 hf310 hd311 hu312
            rcases bool_two ((!((decide (((gt a0 x3_2).kind) = 4)) || (!(decide (recFault (recOf (gt a0 x3_2)) = 0))))) && (decide (0 < x3_2))) with b313 | b313
            · have g314 : (decide (0 < x3_2)) = true := (and_r b313)
              have d315 : s307 33 = (.bool (decide (0 < x3_2))) := ((hd311 18 rfl).1 (not_mk (not_f (and_l b313))))
              have d316 : s307 33 = (.bool (decide (0 < x3_2))) := ((hd311 18 rfl).1 (not_mk (not_f (and_l b313))))
              obtain ⟨p317, h318, h319⟩ := ((hd311 22 rfl).1 (and_mk (not_mk (not_f (and_l b313))) (and_r b313)))
              exact L_op (.guard 18 true 33 rfl rfl (ltb rfl) (d315.trans (congrArg Value.bool g314))) rfl (ltb rfl) (X_fieldAddr Tryd.underlying64 rfl Tryd.sizeOf9 rfl h318) <| L_nil <| stepEnd rfl rfl (Ext.refl w308) ⟨fun _ => ⟨_, rfl, h319⟩, fun h => absurd (b313.symm.trans h) (by decide)⟩
            · rcases bool_two (!((decide (((gt a0 x3_2).kind) = 4)) || (!(decide (recFault (recOf (gt a0 x3_2)) = 0))))) with b320 | b320
              · have d321 : s307 33 = (.bool (decide (0 < x3_2))) := ((hd311 18 rfl).1 (not_mk (not_f b320)))
                have g322 : (decide (0 < x3_2)) = false := (and_fr b313 b320)
                exact L_skip rfl rfl (ltb rfl) (d321.trans (congrArg Value.bool g322)) rfl rfl (ltb rfl) <| L_nil <| stepEnd rfl rfl (Ext.refl w308) ⟨fun h => absurd (b313.symm.trans h) (by decide), fun _ => rfl⟩
              · exact L_skipU rfl rfl (ltb rfl) ((hd311 18 rfl).2 b320) rfl (ltb rfl) <| L_nil <| stepEnd rfl rfl (Ext.refl w308) ⟨fun h => absurd (b313.symm.trans h) (by decide), fun _ => rfl⟩
          · intro s323 w324 e325 hf326 hd327 hu328
            rcases bool_two ((!((decide (((gt a0 x3_2).kind) = 4)) || (!(decide (recFault (recOf (gt a0 x3_2)) = 0))))) && (decide (0 < x3_2))) with b329 | b329
            · have g330 : (decide (0 < x3_2)) = true := (and_r b329)
              have d331 : s323 33 = (.bool (decide (0 < x3_2))) := ((hd327 18 rfl).1 (not_mk (not_f (and_l b329))))
              have d332 : s323 33 = (.bool (decide (0 < x3_2))) := ((hd327 18 rfl).1 (not_mk (not_f (and_l b329))))
              obtain ⟨p333, h334, h335⟩ := ((hd327 23 rfl).1 (and_mk (not_mk (not_f (and_l b329))) (and_r b329)))
              exact L_op (.guard 18 true 33 rfl rfl (ltb rfl) (d331.trans (congrArg Value.bool g330))) rfl (ltb rfl) (X_loadF Tryd.isAgg9 (j := 1) h335 h334 rfl) <| L_nil <| stepEnd rfl rfl (Ext.refl w324) ⟨fun _ => rfl, fun h => absurd (b329.symm.trans h) (by decide)⟩
            · rcases bool_two (!((decide (((gt a0 x3_2).kind) = 4)) || (!(decide (recFault (recOf (gt a0 x3_2)) = 0))))) with b336 | b336
              · have d337 : s323 33 = (.bool (decide (0 < x3_2))) := ((hd327 18 rfl).1 (not_mk (not_f b336)))
                have g338 : (decide (0 < x3_2)) = false := (and_fr b329 b336)
                exact L_skip rfl rfl (ltb rfl) (d337.trans (congrArg Value.bool g338)) rfl rfl (ltb rfl) <| L_nil <| stepEnd rfl rfl (Ext.refl w324) ⟨fun h => absurd (b329.symm.trans h) (by decide), fun _ => rfl⟩
              · exact L_skipU rfl rfl (ltb rfl) ((hd327 18 rfl).2 b336) rfl (ltb rfl) <| L_nil <| stepEnd rfl rfl (Ext.refl w324) ⟨fun h => absurd (b329.symm.trans h) (by decide), fun _ => rfl⟩
          · intro s339 w340 e341 hf342 hd343 hu344
            rcases bool_two ((!((decide (((gt a0 x3_2).kind) = 4)) || (!(decide (recFault (recOf (gt a0 x3_2)) = 0))))) && (decide (0 < x3_2))) with b345 | b345
            · have g346 : (decide (0 < x3_2)) = true := (and_r b345)
              have d347 : s339 33 = (.bool (decide (0 < x3_2))) := ((hd343 18 rfl).1 (not_mk (not_f (and_l b345))))
              have d348 : s339 33 = (.bool (decide (0 < x3_2))) := ((hd343 18 rfl).1 (not_mk (not_f (and_l b345))))
              exact L_op (.guard 18 true 33 rfl rfl (ltb rfl) (d347.trans (congrArg Value.bool g346))) rfl (ltb rfl) (X_move (v := v_a0) ((hf342 0 rfl).trans (K13 0 rfl))) <| L_nil <| stepEnd rfl rfl (Ext.refl w340) ⟨fun _ => rfl, fun h => absurd (b345.symm.trans h) (by decide)⟩
            · rcases bool_two (!((decide (((gt a0 x3_2).kind) = 4)) || (!(decide (recFault (recOf (gt a0 x3_2)) = 0))))) with b349 | b349
              · have d350 : s339 33 = (.bool (decide (0 < x3_2))) := ((hd343 18 rfl).1 (not_mk (not_f b349)))
                have g351 : (decide (0 < x3_2)) = false := (and_fr b345 b349)
                exact L_skip rfl rfl (ltb rfl) (d350.trans (congrArg Value.bool g351)) rfl rfl (ltb rfl) <| L_nil <| stepEnd rfl rfl (Ext.refl w340) ⟨fun h => absurd (b345.symm.trans h) (by decide), fun _ => rfl⟩
              · exact L_skipU rfl rfl (ltb rfl) ((hd343 18 rfl).2 b349) rfl (ltb rfl) <| L_nil <| stepEnd rfl rfl (Ext.refl w340) ⟨fun h => absurd (b345.symm.trans h) (by decide), fun _ => rfl⟩
          · intro s352 w353 e354 hf355 hd356 hu357
            rcases bool_two ((!((decide (((gt a0 x3_2).kind) = 4)) || (!(decide (recFault (recOf (gt a0 x3_2)) = 0))))) && (decide (0 < x3_2))) with b358 | b358
            · have g359 : (decide (0 < x3_2)) = true := (and_r b358)
              have d360 : s352 33 = (.bool (decide (0 < x3_2))) := ((hd356 18 rfl).1 (not_mk (not_f (and_l b358))))
              have d361 : s352 33 = (.bool (decide (0 < x3_2))) := ((hd356 18 rfl).1 (not_mk (not_f (and_l b358))))
              exact L_op (.guard 18 true 33 rfl rfl (ltb rfl) (d360.trans (congrArg Value.bool g359))) rfl (ltb rfl) (X_move (v := (.int .i64 x3_2)) ((hf355 3 rfl).trans h16)) <| L_nil <| stepEnd rfl rfl (Ext.refl w353) ⟨fun _ => rfl, fun h => absurd (b358.symm.trans h) (by decide)⟩
            · rcases bool_two (!((decide (((gt a0 x3_2).kind) = 4)) || (!(decide (recFault (recOf (gt a0 x3_2)) = 0))))) with b362 | b362
              · have d363 : s352 33 = (.bool (decide (0 < x3_2))) := ((hd356 18 rfl).1 (not_mk (not_f b362)))
                have g364 : (decide (0 < x3_2)) = false := (and_fr b358 b362)
                exact L_skip rfl rfl (ltb rfl) (d363.trans (congrArg Value.bool g364)) rfl rfl (ltb rfl) <| L_nil <| stepEnd rfl rfl (Ext.refl w353) ⟨fun h => absurd (b358.symm.trans h) (by decide), fun _ => rfl⟩
              · exact L_skipU rfl rfl (ltb rfl) ((hd356 18 rfl).2 b362) rfl (ltb rfl) <| L_nil <| stepEnd rfl rfl (Ext.refl w353) ⟨fun h => absurd (b358.symm.trans h) (by decide), fun _ => rfl⟩
          · intro s365 w366 e367 hf368 hd369 hu370
            rcases bool_two ((!((decide (((gt a0 x3_2).kind) = 4)) || (!(decide (recFault (recOf (gt a0 x3_2)) = 0))))) && (decide (0 < x3_2))) with b371 | b371
            · have g372 : (decide (0 < x3_2)) = true := (and_r b371)
              have d373 : s365 33 = (.bool (decide (0 < x3_2))) := ((hd369 18 rfl).1 (not_mk (not_f (and_l b371))))
              have d374 : s365 33 = (.bool (decide (0 < x3_2))) := ((hd369 18 rfl).1 (not_mk (not_f (and_l b371))))
              have d375 : s365 40 = v_a0 := ((hd369 25 rfl).1 (and_mk (not_mk (not_f (and_l b371))) (and_r b371)))
              have d376 : s365 41 = (.int .i64 x3_2) := ((hd369 26 rfl).1 (and_mk (not_mk (not_f (and_l b371))) (and_r b371)))
              have c377 := imp_take b371 c33
              exact L_idx (.guard 18 true 33 rfl rfl (ltb rfl) (d373.trans (congrArg Value.bool g372))) rfl (ltb rfl) rfl Tryd.underlying39 Tryd.sizeOf64 d375 (Rd.ext f_a0 (Ext.trans e14 e367)) d376 c377 <| fun p378 h379 => L_nil <| stepEnd rfl rfl (Ext.refl w366) ⟨fun _ => ⟨_, rfl, h379⟩, fun h => absurd (b371.symm.trans h) (by decide)⟩
            · rcases bool_two (!((decide (((gt a0 x3_2).kind) = 4)) || (!(decide (recFault (recOf (gt a0 x3_2)) = 0))))) with b380 | b380
              · have d381 : s365 33 = (.bool (decide (0 < x3_2))) := ((hd369 18 rfl).1 (not_mk (not_f b380)))
                have g382 : (decide (0 < x3_2)) = false := (and_fr b371 b380)
                exact L_skip rfl rfl (ltb rfl) (d381.trans (congrArg Value.bool g382)) rfl rfl (ltb rfl) <| L_nil <| stepEnd rfl rfl (Ext.refl w366) ⟨fun h => absurd (b371.symm.trans h) (by decide), fun _ => rfl⟩
              · exact L_skipU rfl rfl (ltb rfl) ((hd369 18 rfl).2 b380) rfl (ltb rfl) <| L_nil <| stepEnd rfl rfl (Ext.refl w366) ⟨fun h => absurd (b371.symm.trans h) (by decide), fun _ => rfl⟩
          · intro s383 w384 e385 hf386 hd387 hu388
            rcases bool_two ((!((decide (((gt a0 x3_2).kind) = 4)) || (!(decide (recFault (recOf (gt a0 x3_2)) = 0))))) && (decide (0 < x3_2))) with b389 | b389
            · have g390 : (decide (0 < x3_2)) = true := (and_r b389)
              have d391 : s383 33 = (.bool (decide (0 < x3_2))) := ((hd387 18 rfl).1 (not_mk (not_f (and_l b389))))
              have d392 : s383 33 = (.bool (decide (0 < x3_2))) := ((hd387 18 rfl).1 (not_mk (not_f (and_l b389))))
              obtain ⟨p393, h394, h395⟩ := ((hd387 27 rfl).1 (and_mk (not_mk (not_f (and_l b389))) (and_r b389)))
              exact L_op (.guard 18 true 33 rfl rfl (ltb rfl) (d391.trans (congrArg Value.bool g390))) rfl (ltb rfl) (X_fieldAddr Tryd.underlying64 rfl Tryd.sizeOf9 rfl h394) <| L_nil <| stepEnd rfl rfl (Ext.refl w384) ⟨fun _ => ⟨_, rfl, h395⟩, fun h => absurd (b389.symm.trans h) (by decide)⟩
            · rcases bool_two (!((decide (((gt a0 x3_2).kind) = 4)) || (!(decide (recFault (recOf (gt a0 x3_2)) = 0))))) with b396 | b396
              · have d397 : s383 33 = (.bool (decide (0 < x3_2))) := ((hd387 18 rfl).1 (not_mk (not_f b396)))
                have g398 : (decide (0 < x3_2)) = false := (and_fr b389 b396)
                exact L_skip rfl rfl (ltb rfl) (d397.trans (congrArg Value.bool g398)) rfl rfl (ltb rfl) <| L_nil <| stepEnd rfl rfl (Ext.refl w384) ⟨fun h => absurd (b389.symm.trans h) (by decide), fun _ => rfl⟩
              · exact L_skipU rfl rfl (ltb rfl) ((hd387 18 rfl).2 b396) rfl (ltb rfl) <| L_nil <| stepEnd rfl rfl (Ext.refl w384) ⟨fun h => absurd (b389.symm.trans h) (by decide), fun _ => rfl⟩
          · intro s399 w400 e401 hf402 hd403 hu404
            rcases bool_two ((!((decide (((gt a0 x3_2).kind) = 4)) || (!(decide (recFault (recOf (gt a0 x3_2)) = 0))))) && (decide (0 < x3_2))) with b405 | b405
            · have g406 : (decide (0 < x3_2)) = true := (and_r b405)
              have d407 : s399 33 = (.bool (decide (0 < x3_2))) := ((hd403 18 rfl).1 (not_mk (not_f (and_l b405))))
              have d408 : s399 33 = (.bool (decide (0 < x3_2))) := ((hd403 18 rfl).1 (not_mk (not_f (and_l b405))))
              obtain ⟨p409, h410, h411⟩ := ((hd403 28 rfl).1 (and_mk (not_mk (not_f (and_l b405))) (and_r b405)))
              exact L_op (.guard 18 true 33 rfl rfl (ltb rfl) (d407.trans (congrArg Value.bool g406))) rfl (ltb rfl) (X_loadF Tryd.isAgg9 (j := 1) h411 h410 rfl) <| L_nil <| stepEnd rfl rfl (Ext.refl w400) ⟨fun _ => rfl, fun h => absurd (b405.symm.trans h) (by decide)⟩
            · rcases bool_two (!((decide (((gt a0 x3_2).kind) = 4)) || (!(decide (recFault (recOf (gt a0 x3_2)) = 0))))) with b412 | b412
              · have d413 : s399 33 = (.bool (decide (0 < x3_2))) := ((hd403 18 rfl).1 (not_mk (not_f b412)))
                have g414 : (decide (0 < x3_2)) = false := (and_fr b405 b412)
                exact L_skip rfl rfl (ltb rfl) (d413.trans (congrArg Value.bool g414)) rfl rfl (ltb rfl) <| L_nil <| stepEnd rfl rfl (Ext.refl w400) ⟨fun h => absurd (b405.symm.trans h) (by decide), fun _ => rfl⟩
              · exact L_skipU rfl rfl (ltb rfl) ((hd403 18 rfl).2 b412) rfl (ltb rfl) <| L_nil <| stepEnd rfl rfl (Ext.refl w400) ⟨fun h => absurd (b405.symm.trans h) (by decide), fun _ => rfl⟩
          · intro s415 w416 e417 hf418 hd419 hu420
            rcases bool_two ((!((decide (((gt a0 x3_2).kind) = 4)) || (!(decide (recFault (recOf (gt a0 x3_2)) = 0))))) && (decide (0 < x3_2))) with b421 | b421
            · have g422 : (decide (0 < x3_2)) = true := (and_r b421)
              have d423 : s415 33 = (.bool (decide (0 < x3_2))) := ((hd419 18 rfl).1 (not_mk (not_f (and_l b421))))
              have d424 : s415 33 = (.bool (decide (0 < x3_2))) := ((hd419 18 rfl).1 (not_mk (not_f (and_l b421))))
              have d425 : s415 39 = (S ((gt a0 (IntKind.wrap .i64 (x3_2 - 1))).path)) := ((hd419 24 rfl).1 (and_mk (not_mk (not_f (and_l b421))) (and_r b421)))
              have d426 : s415 44 = (S ((gt a0 x3_2).path)) := ((hd419 29 rfl).1 (and_mk (not_mk (not_f (and_l b421))) (and_r b421)))
              have c427 := imp_take b421 c36
              have c428 := imp_take b421 c37
              exact L_callP (.guard 18 true 33 rfl rfl (ltb rfl) (d423.trans (congrArg Value.bool g422))) rfl (ltb rfl) rfl Tryd.call83 (spec_l01Less.calls (w := w416) (a0 := (gt a0 (IntKind.wrap .i64 (x3_2 - 1))).path) (a1 := (gt a0 x3_2).path) (of_decide_eq_true c427) (of_decide_eq_true c428)) (cons2 d425 (cons2 d426 rfl)) <| fun w429 e430 => L_nil <| stepEnd rfl rfl e430 ⟨fun _ => rfl, fun h => absurd (b421.symm.trans h) (by decide)⟩
            · rcases bool_two (!((decide (((gt a0 x3_2).kind) = 4)) || (!(decide (recFault (recOf (gt a0 x3_2)) = 0))))) with b431 | b431
              · have d432 : s415 33 = (.bool (decide (0 < x3_2))) := ((hd419 18 rfl).1 (not_mk (not_f b431)))
                have g433 : (decide (0 < x3_2)) = false := (and_fr b421 b431)
                exact L_skip rfl rfl (ltb rfl) (d432.trans (congrArg Value.bool g433)) rfl rfl (ltb rfl) <| L_nil <| stepEnd rfl rfl (Ext.refl w416) ⟨fun h => absurd (b421.symm.trans h) (by decide), fun _ => rfl⟩
              · exact L_skipU rfl rfl (ltb rfl) ((hd419 18 rfl).2 b431) rfl (ltb rfl) <| L_nil <| stepEnd rfl rfl (Ext.refl w416) ⟨fun h => absurd (b421.symm.trans h) (by decide), fun _ => rfl⟩
          · intro s434 w435 e436 hf437 hd438 hu439
            rcases bool_two ((!((decide (((gt a0 x3_2).kind) = 4)) || (!(decide (recFault (recOf (gt a0 x3_2)) = 0))))) && (decide (0 < x3_2))) with b440 | b440
            · have g441 : (decide (0 < x3_2)) = true := (and_r b440)
              have d442 : s434 33 = (.bool (decide (0 < x3_2))) := ((hd438 18 rfl).1 (not_mk (not_f (and_l b440))))
              have d443 : s434 33 = (.bool (decide (0 < x3_2))) := ((hd438 18 rfl).1 (not_mk (not_f (and_l b440))))
              have d444 : s434 45 = (.bool (lessL (cut 47 ((gt a0 (IntKind.wrap .i64 (x3_2 - 1))).path)) (cut 47 ((gt a0 x3_2).path)))) := ((hd438 30 rfl).1 (and_mk (not_mk (not_f (and_l b440))) (and_r b440)))
              exact L_op (.guard 18 true 33 rfl rfl (ltb rfl) (d442.trans (congrArg Value.bool g441))) rfl (ltb rfl) (X_not d444) <| L_nil <| stepEnd rfl rfl (Ext.refl w435) ⟨fun _ => rfl, fun h => absurd (b440.symm.trans h) (by decide)⟩
            · rcases bool_two (!((decide (((gt a0 x3_2).kind) = 4)) || (!(decide (recFault (recOf (gt a0 x3_2)) = 0))))) with b445 | b445
              · have d446 : s434 33 = (.bool (decide (0 < x3_2))) := ((hd438 18 rfl).1 (not_mk (not_f b445)))
                have g447 : (decide (0 < x3_2)) = false := (and_fr b440 b445)
                exact L_skip rfl rfl (ltb rfl) (d446.trans (congrArg Value.bool g447)) rfl rfl (ltb rfl) <| L_nil <| stepEnd rfl rfl (Ext.refl w435) ⟨fun h => absurd (b440.symm.trans h) (by decide), fun _ => rfl⟩
              · exact L_skipU rfl rfl (ltb rfl) ((hd438 18 rfl).2 b445) rfl (ltb rfl) <| L_nil <| stepEnd rfl rfl (Ext.refl w435) ⟨fun h => absurd (b440.symm.trans h) (by decide), fun _ => rfl⟩
          · intro s448 w449 e450 hf451 hd452 hu453
            rcases bool_two (!((decide (((gt a0 x3_2).kind) = 4)) || (!(decide (recFault (recOf (gt a0 x3_2)) = 0))))) with b454 | b454
            · have g455 : ((decide (((gt a0 x3_2).kind) = 4)) || (!(decide (recFault (recOf (gt a0 x3_2)) = 0)))) = false := (not_f b454)
              have d456 : s448 30 = (.bool ((decide (((gt a0 x3_2).kind) = 4)) || (!(decide (recFault (recOf (gt a0 x3_2)) = 0))))) := (hd452 15 rfl)
              rcases bool_two (decide (0 < x3_2)) with b457 | b457
              · have d458 : s448 33 = (.bool (decide (0 < x3_2))) := ((hd452 18 rfl).1 (not_mk (not_f b454)))
                have d459 : s448 46 = (.bool (!(lessL (cut 47 ((gt a0 (IntKind.wrap .i64 (x3_2 - 1))).path)) (cut 47 ((gt a0 x3_2).path))))) := ((hd452 31 rfl).1 (and_mk (not_mk (not_f b454)) b457))
                exact L_op (.guard 15 false 30 rfl rfl (ltb rfl) (d456.trans (congrArg Value.bool g455))) rfl (ltb rfl) (X_pick (b := true) (v := (.bool (!(lessL (cut 47 ((gt a0 (IntKind.wrap .i64 (x3_2 - 1))).path)) (cut 47 ((gt a0 x3_2).path)))))) (d458.trans (congrArg Value.bool b457)) d459) <| L_nil <| stepEnd rfl rfl (Ext.refl w449) ⟨fun _ => (by show _ = _; rw [b457]; rfl), fun h => absurd (b454.symm.trans h) (by decide)⟩
              · have d460 : s448 33 = (.bool (decide (0 < x3_2))) := ((hd452 18 rfl).1 (not_mk (not_f b454)))
                exact L_op (.guard 15 false 30 rfl rfl (ltb rfl) (d456.trans (congrArg Value.bool g455))) rfl (ltb rfl) (X_pick (b := false) (v := (.bool false)) (d460.trans (congrArg Value.bool b457)) rfl) <| L_nil <| stepEnd rfl rfl (Ext.refl w449) ⟨fun _ => (by show _ = _; rw [b457]; rfl), fun h => absurd (b454.symm.trans h) (by decide)⟩
            · have d461 : s448 30 = (.bool ((decide (((gt a0 x3_2).kind) = 4)) || (!(decide (recFault (recOf (gt a0 x3_2)) = 0))))) := (hd452 15 rfl)
              have g462 : ((decide (((gt a0 x3_2).kind) = 4)) || (!(decide (recFault (recOf (gt a0 x3_2)) = 0)))) = true := (not_ff b454)
              exact L_skip rfl rfl (ltb rfl) (d461.trans (congrArg Value.bool g462)) rfl rfl (ltb rfl) <| L_nil <| stepEnd rfl rfl (Ext.refl w449) ⟨fun h => absurd (b454.symm.trans h) (by decide), fun _ => rfl⟩
          · intro s463 w464 e465 hf466 hd467 hu468
            rcases bool_two ((decide (((gt a0 x3_2).kind) = 4)) || (!(decide (recFault (recOf (gt a0 x3_2)) = 0)))) with b469 | b469
            · have d470 : s463 30 = (.bool ((decide (((gt a0 x3_2).kind) = 4)) || (!(decide (recFault (recOf (gt a0 x3_2)) = 0))))) := (hd467 15 rfl)
              exact L_op (.plain rfl) rfl (ltb rfl) (X_pick (b := true) (v := (.bool true)) (d470.trans (congrArg Value.bool b469)) rfl) <| L_nil <| stepEnd rfl rfl (Ext.refl w464) (by show _ = _; rw [b469]; rfl)
            · have d471 : s463 30 = (.bool ((decide (((gt a0 x3_2).kind) = 4)) || (!(decide (recFault (recOf (gt a0 x3_2)) = 0))))) := (hd467 15 rfl)
              have d472 : s463 47 = (.bool ((decide (0 < x3_2)) && (!(lessL (cut 47 ((gt a0 (IntKind.wrap .i64 (x3_2 - 1))).path)) (cut 47 ((gt a0 x3_2).path)))))) := ((hd467 32 rfl).1 (not_mk b469))
              exact L_op (.plain rfl) rfl (ltb rfl) (X_pick (b := false) (v := (.bool ((decide (0 < x3_2)) && (!(lessL (cut 47 ((gt a0 (IntKind.wrap .i64 (x3_2 - 1))).path)) (cut 47 ((gt a0 x3_2).path))))))) (d471.trans (congrArg Value.bool b469)) d472) <| L_nil <| stepEnd rfl rfl (Ext.refl w464) (by show _ = _; rw [b469]; rfl)
          intro s473 w474 e475 hf476 ha477
          have K478 := Kp.ofD (kp := [(15, 49)]) rfl hf476
          have d479 : s473 48 = (.bool (((decide (((gt a0 x3_2).kind) = 4)) || (!(decide (recFault (recOf (gt a0 x3_2)) = 0)))) || ((decide (0 < x3_2)) && (!(lessL (cut 47 ((gt a0 (IntKind.wrap .i64 (x3_2 - 1))).path)) (cut 47 ((gt a0 x3_2).path))))))) := ha477 33 rfl
          clear ha477 hf476
          refine thn_n ?_
          rcases bif_two H with ⟨q480, H⟩ | ⟨q480, H⟩
          · refine W_true (d479.trans (congrArg Value.bool q480)) <| W_seq <| W_reg <| L_op (.plain rfl) rfl (ltb rfl) (X_assign (v := (.bool false)) rfl) <| L_nil <| thn_n <| W_ret <| thn_r <| blk_r <| thn_r <| thn_r <| blk_r <| thn_r <| thn_r <| fin_r ?_
            obtain rfl := Option.some.inj H
            obtain rfl := Option.some.inj S18
            have H := C5
            obtain rfl := Option.some.inj H
            exact fin1 rfl (Ext.trans e14 e475)
          · refine W_false (d479.trans (congrArg Value.bool q480)) <| W_skip <| thn_n <| W_seq <| W_reg <| L_op (.plain rfl) rfl (ltb rfl) (X_move (v := v_a0) ((K478 0 rfl).trans (K13 0 rfl))) <| L_op (.plain rfl) rfl (ltb rfl) (X_move (v := (.int .i64 x3_2)) ((K478 3 rfl).trans h16)) ?_
            obtain ⟨c481, H⟩ := bif_some H
            refine L_idx (.plain rfl) rfl (ltb rfl) rfl Tryd.underlying39 Tryd.sizeOf64 rfl (Rd.ext f_a0 (Ext.trans e14 e475)) rfl c481 <| fun p482 h483 => L_op (.plain rfl) rfl (ltb rfl) (X_fieldAddr Tryd.underlying64 rfl Tryd.sizeOf9 rfl rfl) <| L_op (.plain rfl) rfl (ltb rfl) (X_loadF Tryd.isAgg9 (j := 1) h483 rfl rfl) ?_
            obtain ⟨c484, H⟩ := bif_some H
            refine L_callP (.plain rfl) rfl (ltb rfl) rfl Tryd.call49 (spec_l01Parent.calls (w := w474) (a0 := (gt a0 x3_2).path) (of_decide_eq_true c484)) rfl <| fun w485 e486 => L_op (.plain rfl) rfl (ltb rfl) (X_assign (v := (S (parentP ((gt a0 x3_2).path)))) rfl) <| L_nil <| thn_n <| W_seq <| W_reg <| L_op (.plain rfl) rfl (ltb rfl) (X_move (v := (S (parentP ((gt a0 x3_2).path)))) rfl) <| L_op (.plain rfl) rfl (ltb rfl) (X_sne rfl rfl) <| L_nil <| thn_n ?_
            rcases bif_two H with ⟨q487, H⟩ | ⟨q487, H⟩
            · refine W_true (congrArg Value.bool q487) <| W_seq <| W_reg <| L_op (.plain rfl) rfl (ltb rfl) (X_move (v := v_a0) ((K478 0 rfl).trans (K13 0 rfl))) <| L_op (.plain rfl) rfl (ltb rfl) (X_move (v := (.int .i64 x3_2)) ((K478 3 rfl).trans h16)) ?_
              obtain ⟨c488, H⟩ := bif_some H
              refine L_sub (.plain rfl) rfl (ltb rfl) rfl Tryd.underlying39 Tryd.sizeOf64 rfl (Rd.ext f_a0 (Ext.trans (Ext.trans e14 e475) e486)) (l := 0) (h := x3_2) rfl ⟨_, rfl⟩ c488 <| fun v489 h490 => L_op (.plain rfl) rfl (ltb rfl) (X_move (v := (S (parentP ((gt a0 x3_2).path)))) rfl) ?_
              obtain ⟨c491, H⟩ := bif_some H
              refine L_callP (.plain rfl) rfl (ltb rfl) rfl Tryd.call84 (spec_l04At.calls (w := w485) (a0 := sub a0 0 x3_2) (a1 := (parentP ((gt a0 x3_2).path))) h490 (of_decide_eq_true c491)) rfl <| fun w492 e493 => L_op (.plain rfl) rfl (ltb rfl) (X_assign (v := (.int .i64 (findN (sub a0 0 x3_2) (parentP ((gt a0 x3_2).path))))) rfl) <| L_nil <| thn_n <| W_seq <| W_reg <| L_op (.plain rfl) rfl (ltb rfl) (X_move (v := (.int .i64 (findN (sub a0 0 x3_2) (parentP ((gt a0 x3_2).path))))) rfl) <| L_op (.plain rfl) rfl (ltb rfl) (X_lss rfl rfl) <| L_op (.plain rfl) rfl (ltb rfl) (X_move rfl) ?_
              obtain ⟨z495, x496, H⟩ := bind_some H
              refine L_grpE 7 [(65, 72)] 71 (fun q => q = z495) ?_ ?_
              · rcases bif_two x496 with ⟨b493_, H⟩ | ⟨b493_, H⟩
                · refine L_skip rfl rfl (ltb rfl) (congrArg Value.bool b493_) rfl rfl (ltb rfl) <| L_skip rfl rfl (ltb rfl) (congrArg Value.bool b493_) rfl rfl (ltb rfl) <| L_skip rfl rfl (ltb rfl) (congrArg Value.bool b493_) rfl rfl (ltb rfl) <| L_skip rfl rfl (ltb rfl) (congrArg Value.bool b493_) rfl rfl (ltb rfl) <| L_skip rfl rfl (ltb rfl) (congrArg Value.bool b493_) rfl rfl (ltb rfl) <| L_skip rfl rfl (ltb rfl) (congrArg Value.bool b493_) rfl rfl (ltb rfl) <| L_op (.plain rfl) rfl (ltb rfl) (X_pick (b := true) (v := (.bool true)) (congrArg Value.bool b493_) rfl) ?_
                  obtain rfl := Option.some.inj H
                  exact L_nil <| thn_n ⟨(Kp.upd (Kp.upd (Kp.upd (Kp.upd (Kp.upd (Kp.upd (Kp.upd (Kp.refl _ _) rfl) rfl) rfl) rfl) rfl) rfl) rfl), ⟨_, rfl, rfl⟩, (Ext.refl w492)⟩
                · refine L_op (.guard 2 false 64 rfl rfl (ltb rfl) (congrArg Value.bool b493_)) rfl (ltb rfl) (X_move (v := v_a0) ((K478 0 rfl).trans (K13 0 rfl))) <| L_op (.guard 2 false 64 rfl rfl (ltb rfl) (congrArg Value.bool b493_)) rfl (ltb rfl) (X_move (v := (.int .i64 (findN (sub a0 0 x3_2) (parentP ((gt a0 x3_2).path))))) rfl) ?_
                  obtain ⟨c495, H⟩ := bif_some H
                  refine L_idx (.guard 2 false 64 rfl rfl (ltb rfl) (congrArg Value.bool b493_)) rfl (ltb rfl) rfl Tryd.underlying39 Tryd.sizeOf64 rfl (Rd.ext f_a0 (Ext.trans (Ext.trans (Ext.trans e14 e475) e486) e493)) rfl c495 <| fun p496 h497 => L_op (.guard 2 false 64 rfl rfl (ltb rfl) (congrArg Value.bool b493_)) rfl (ltb rfl) (X_fieldAddr Tryd.underlying64 rfl Tryd.sizeOf3 rfl rfl) <| L_op (.guard 2 false 64 rfl rfl (ltb rfl) (congrArg Value.bool b493_)) rfl (ltb rfl) (X_loadF Tryd.isAgg3 (j := 0) h497 rfl rfl) <| L_op (.guard 2 false 64 rfl rfl (ltb rfl) (congrArg Value.bool b493_)) rfl (ltb rfl) (X_neq rfl rfl) <| L_op (.plain rfl) rfl (ltb rfl) (X_pick (b := false) (v := (.bool (!decide (((gt a0 (findN (sub a0 0 x3_2) (parentP ((gt a0 x3_2).path)))).kind) = 3)))) (congrArg Value.bool b493_) rfl) ?_
                  obtain rfl := Option.some.inj H
                  exact L_nil <| thn_n ⟨(Kp.upd (Kp.upd (Kp.upd (Kp.upd (Kp.upd (Kp.upd (Kp.upd (Kp.refl _ _) rfl) rfl) rfl) rfl) rfl) rfl) rfl), ⟨_, rfl, rfl⟩, (Ext.refl w492)⟩
              intro s501 w497 z502 K498 hq h499 e500
              rw [hq] at h499; clear hq
              refine L_nil <| thn_n ?_
              rcases bif_two H with ⟨q503, H⟩ | ⟨q503, H⟩
              · refine W_true (h499.trans (congrArg Value.bool q503)) <| W_seq <| W_reg <| L_op (.plain rfl) rfl (ltb rfl) (X_assign (v := (.bool false)) rfl) <| L_nil <| thn_n <| W_ret <| blk_r <| thn_r <| thn_r <| blk_r <| thn_r <| thn_r <| fin_r ?_
                obtain rfl := Option.some.inj H
                obtain rfl := Option.some.inj S18
                have H := C5
                obtain rfl := Option.some.inj H
                exact fin1 rfl (Ext.trans (Ext.trans (Ext.trans (Ext.trans e14 e475) e486) e493) e500)
              · refine W_false (h499.trans (congrArg Value.bool q503)) <| W_skip <| blk_n <| thn_n <| W_reg <| L_op (.plain rfl) rfl (ltb rfl) (X_move (v := (.int .i64 x3_2)) ((K498 3 rfl).trans ((K478 3 rfl).trans h16))) <| L_op (.plain rfl) rfl (ltb rfl) (X_add rfl rfl) <| L_op (.plain rfl) rfl (ltb rfl) (X_assign (v := (.int .i64 (IntKind.wrap .i64 (x3_2 + 1)))) rfl) <| L_nil <| thn_n ?_
                obtain rfl := Option.some.inj H
                exact ⟨_, Nat.lt_succ_self _, IntKind.wrap .i64 (x3_2 + 1), (Kp.upd (Kp.upd (Kp.upd (Kp.cut (Kp.upd (Kp.upd (Kp.upd (Kp.upd (Kp.upd (Kp.upd (Kp.upd (Kp.upd (Kp.upd (Kp.upd (Kp.upd (Kp.upd (Kp.upd (Kp.upd (Kp.upd (Kp.upd (Kp.upd (Kp.upd (Kp.cut (Kp.upd (Kp.upd (Kp.upd (Kp.upd K13 rfl) rfl) rfl) rfl) K478 rfl) rfl) rfl) rfl) rfl) rfl) rfl) rfl) rfl) rfl) rfl) rfl) rfl) rfl) rfl) rfl) rfl) rfl) rfl) K498 rfl) rfl) rfl) rfl), rfl, (Ext.trans (Ext.trans (Ext.trans (Ext.trans e14 e475) e486) e493) e500), S18⟩
            · refine W_false (congrArg Value.bool q487) <| W_skip <| blk_n <| thn_n <| W_reg <| L_op (.plain rfl) rfl (ltb rfl) (X_move (v := (.int .i64 x3_2)) ((K478 3 rfl).trans h16)) <| L_op (.plain rfl) rfl (ltb rfl) (X_add rfl rfl) <| L_op (.plain rfl) rfl (ltb rfl) (X_assign (v := (.int .i64 (IntKind.wrap .i64 (x3_2 + 1)))) rfl) <| L_nil <| thn_n ?_
              obtain rfl := Option.some.inj H
              exact ⟨_, Nat.lt_succ_self _, IntKind.wrap .i64 (x3_2 + 1), (Kp.upd (Kp.upd (Kp.upd (Kp.upd (Kp.upd (Kp.upd (Kp.upd (Kp.upd (Kp.upd (Kp.upd (Kp.upd (Kp.upd (Kp.cut (Kp.upd (Kp.upd (Kp.upd (Kp.upd K13 rfl) rfl) rfl) rfl) K478 rfl) rfl) rfl) rfl) rfl) rfl) rfl) rfl) rfl) rfl) rfl) rfl) rfl), rfl, (Ext.trans (Ext.trans e14 e475) e486), S18⟩
        · refine W_false (congrArg Value.bool q19) <| W_exit <| thn_x <| thn_x <| blk_x <| thn_n ?_
          obtain rfl := Option.some.inj H
          obtain rfl := Option.some.inj S18
          exact ⟨(Kp.upd (Kp.upd (Kp.upd (Kp.upd K13 rfl) rfl) rfl) rfl), e14, rfl⟩
    · rintro s7 w6 ⟨K8, e9, y504⟩
      rw [y504] at C5
      have H := C5
      replace H : _ = some _ := H
      refine thn_n <| W_seq <| W_reg <| L_op (.plain rfl) rfl (ltb rfl) (X_assign (v := (.bool true)) rfl) <| L_nil <| thn_n <| W_ret <| fin_r ?_
      obtain rfl := Option.some.inj H
      exact fin1 rfl e9
theorem spec_l04OK.calls {w : World} {a0 : List Nd} {v_a0 : Value} (f_a0 : Rd 4 encNd w v_a0 a0) (h0 : ∀ x ∈ a0, x.path.length ≤ 1048576) :
    Calls Tryd.prog 55 #[v_a0] w (Rt (RP w (.bool (treeOK a0)))) := by
  obtain ⟨k, h⟩ := spec_l04OK.eq a0 h0
  exact spec_l04OK.walk f_a0 h
/-! spec.TreeOK -/
theorem spec_TreeOK.walk {w : World} {a0 : List Nd} {v_a0 : Value} (f_a0 : Rd 4 encNd w v_a0 a0) {r : Bool} (H : spec_TreeOK.sh a0 = some r) :
    Calls Tryd.prog 27 #[v_a0] w (Rt (RP w (.bool r))) := by
  unfold spec_TreeOK.sh at H
  refine calls_of_W Tryd.func27 rfl (Nat.le_of_ble_eq_true rfl) Tryd.ntmps27 rfl ?_
  refine W_seq <| W_reg <| L_op (.plain rfl) rfl (ltb rfl) (X_assign (v := (.bool false)) rfl) <| L_nil <| thn_n <| W_seq <| W_seq <| W_reg <| L_op (.plain rfl) rfl (ltb rfl) (X_move (v := v_a0) rfl) <| L_op (.plain rfl) rfl (ltb rfl) (X_lenR Tryd.underlying39 rfl f_a0) <| L_op (.plain rfl) rfl (ltb rfl) (X_gtr rfl rfl) <| L_nil <| thn_n ?_
  rcases bif_two H with ⟨q1, H⟩ | ⟨q1, H⟩
  · refine W_true (congrArg Value.bool q1) <| W_seq <| W_reg <| L_op (.plain rfl) rfl (ltb rfl) (X_assign (v := (.bool false)) rfl) <| L_nil <| thn_n <| W_ret <| thn_r <| fin_r ?_
    obtain rfl := Option.some.inj H
    exact fin1 rfl (Ext.refl w)
  · refine W_false (congrArg Value.bool q1) <| W_skip <| thn_n <| W_seq <| W_reg <| L_op (.plain rfl) rfl (ltb rfl) (X_move (v := v_a0) rfl) ?_
    obtain ⟨c2, H⟩ := bif_some H
    refine L_callP (.plain rfl) rfl (ltb rfl) rfl Tryd.call55 (spec_l04OK.calls (w := w) (a0 := a0) f_a0 (of_decide_eq_true c2)) rfl <| fun w3 e4 => L_op (.plain rfl) rfl (ltb rfl) (X_assign (v := (.bool (treeOK a0))) rfl) <| L_nil <| thn_n <| W_ret <| fin_r ?_
    obtain rfl := Option.some.inj H
    exact fin1 rfl e4
theorem spec_TreeOK.calls {w : World} {a0 : List Nd} {v_a0 : Value} (f_a0 : Rd 4 encNd w v_a0 a0) (h0 : ∀ x ∈ a0, x.path.length ≤ 1048576) :
    Calls Tryd.prog 27 #[v_a0] w (Rt (RP w (.bool (treeOK a0)))) := spec_TreeOK.walk f_a0 (spec_TreeOK.eq a0 h0)
/-! spec.l04Same -/
theorem spec_l04Same.walk {k : Nat} {w : World} {a0 : List Nd} {a1 : List Nd} {v_a0 : Value} (f_a0 : Rd 4 encNd w v_a0 a0) {v_a1 : Value} (f_a1 : Rd 4 encNd w v_a1 a1) {r : Bool} (H : spec_l04Same.sh k a0 a1 = some r) :
    Calls Tryd.prog 61 #[v_a0, v_a1] w (Rt (RP w (.bool r))) := by
  unfold spec_l04Same.sh at H
  refine calls_of_W Tryd.func61 rfl (Nat.le_of_ble_eq_true rfl) Tryd.ntmps61 rfl ?_
  refine W_seq <| W_reg <| L_op (.plain rfl) rfl (ltb rfl) (X_assign (v := (.bool false)) rfl) <| L_nil <| thn_n <| W_seq <| W_seq <| W_reg <| L_op (.plain rfl) rfl (ltb rfl) (X_move (v := v_a0) rfl) <| L_op (.plain rfl) rfl (ltb rfl) (X_lenR Tryd.underlying39 rfl f_a0) <| L_op (.plain rfl) rfl (ltb rfl) (X_move (v := v_a1) rfl) <| L_op (.plain rfl) rfl (ltb rfl) (X_lenR Tryd.underlying39 rfl f_a1) <| L_op (.plain rfl) rfl (ltb rfl) (X_neq rfl rfl) <| L_nil <| thn_n ?_
  rcases bif_two H with ⟨q1, H⟩ | ⟨q1, H⟩
  · refine W_true (congrArg Value.bool q1) <| W_seq <| W_reg <| L_op (.plain rfl) rfl (ltb rfl) (X_assign (v := (.bool false)) rfl) <| L_nil <| thn_n <| W_ret <| thn_r <| fin_r ?_
    obtain rfl := Option.some.inj H
    exact fin1 rfl (Ext.refl w)
  · refine W_false (congrArg Value.bool q1) <| W_skip <| thn_n <| W_seq <| W_seq <| W_reg <| L_op (.plain rfl) rfl (ltb rfl) (X_assign (v := (.int .i64 0)) rfl) <| L_nil <| thn_n ?_
    obtain ⟨z3, L4, C5⟩ := bind_some H
    clear H
    refine  W_cutQ (fun s0 s9 w9 => Kp [(4, 6), (11, 26)] s0 s9 ∧ Ext w w9 ∧ z3 = .inr ()) ?_ ?_
    · refine W_block <| W_loopI (fun s0 kk s9 w9 => ∃ (x5_2 : Int), Kp [(4, 6), (11, 26)] s0 s9 ∧ s9 5 = .int .i64 x5_2 ∧ Ext w w9 ∧ loopF (spec_l04Same.b1 a0 a1) kk x5_2 = some z3) k ⟨0, (Kp.refl _ _), rfl, (Ext.refl w), L4⟩ ?_
      rintro k10 s11 w12 ⟨x5_2, K13, h16, e14, L15⟩
      cases k10 with
      | zero => exact absurd L15 (by simp [loopF])
      | succ k10 =>
        obtain ⟨t17, H, S18⟩ := loopF_succ L15
        clear L15
        unfold spec_l04Same.b1 at H
        refine W_seq <| W_seq <| W_reg <| L_op (.plain rfl) rfl (ltb rfl) (X_move (v := (.int .i64 x5_2)) h16) <| L_op (.plain rfl) rfl (ltb rfl) (X_move (v := v_a0) (K13 0 rfl)) <| L_op (.plain rfl) rfl (ltb rfl) (X_lenR Tryd.underlying39 rfl (Rd.ext f_a0 e14)) <| L_op (.plain rfl) rfl (ltb rfl) (X_lss rfl rfl) <| L_nil <| thn_n ?_
        rcases bif_two H with ⟨q19, H⟩ | ⟨q19, H⟩
        · refine W_true (congrArg Value.bool q19) <| W_skip <| thn_n <| W_seq <| W_block <| W_seq ?_
          obtain ⟨c20, H⟩ := bif_some H
          obtain ⟨c23, H⟩ := bif_some H
          refine W_drawM [LEq v_a0, LEq (.int .i64 x5_2), LAt0 (encNd (gt a0 x5_2)), LEq (.agg (encNd (gt a0 x5_2)).toArray), LEq v_a1, LEq (.int .i64 x5_2), LAt0 (encNd (gt a1 x5_2)), LEq (.agg (encNd (gt a1 x5_2)).toArray), LEq (.bool (!decide ((gt a0 x5_2) = (gt a1 x5_2))))] (by kernel_rfl) (by kernel_rfl) ⟨LEq.mono, LEq.mono, LAt0.mono, LEq.mono, LEq.mono, LEq.mono, LAt0.mono, LEq.mono, LEq.mono, trivial⟩ ⟨?_, ?_, ?_, ?_, ?_, ?_, ?_, ?_, ?_, trivial⟩ ?_
          · intro s26 w27 e28 hf29 hd30 hu31
            exact L_op (.plain rfl) rfl (ltb rfl) (X_move (v := v_a0) ((hf29 0 rfl).trans (K13 0 rfl))) <| L_nil <| stepEnd rfl rfl (Ext.refl w27) rfl
          · intro s32 w33 e34 hf35 hd36 hu37
            exact L_op (.plain rfl) rfl (ltb rfl) (X_move (v := (.int .i64 x5_2)) ((hf35 5 rfl).trans h16)) <| L_nil <| stepEnd rfl rfl (Ext.refl w33) rfl
          · intro s38 w39 e40 hf41 hd42 hu43
            have d44 : s38 17 = v_a0 := (hd42 0 rfl)
            have d45 : s38 18 = (.int .i64 x5_2) := (hd42 1 rfl)
            have c46 := c20
            exact L_idx (.plain rfl) rfl (ltb rfl) rfl Tryd.underlying39 Tryd.sizeOf64 d44 (Rd.ext f_a0 (Ext.trans e14 e40)) d45 c46 <| fun p47 h48 => L_nil <| stepEnd rfl rfl (Ext.refl w39) ⟨_, rfl, h48⟩
          · intro s49 w50 e51 hf52 hd53 hu54
            obtain ⟨p55, h56, h57⟩ := (hd53 2 rfl)
            exact L_op (.plain rfl) rfl (ltb rfl) (X_loadS Tryd.isAgg64 Tryd.sizeOf64 rfl h56 h57) <| L_nil <| stepEnd rfl rfl (Ext.refl w50) rfl
          · intro s58 w59 e60 hf61 hd62 hu63
            exact L_op (.plain rfl) rfl (ltb rfl) (X_move (v := v_a1) ((hf61 1 rfl).trans (K13 1 rfl))) <| L_nil <| stepEnd rfl rfl (Ext.refl w59) rfl
          · intro s64 w65 e66 hf67 hd68 hu69
            exact L_op (.plain rfl) rfl (ltb rfl) (X_move (v := (.int .i64 x5_2)) ((hf67 5 rfl).trans h16)) <| L_nil <| stepEnd rfl rfl (Ext.refl w65) rfl
          · intro s70 w71 e72 hf73 hd74 hu75
            have d76 : s70 21 = v_a1 := (hd74 4 rfl)
            have d77 : s70 22 = (.int .i64 x5_2) := (hd74 5 rfl)
            have c78 := c23
            exact L_idx (.plain rfl) rfl (ltb rfl) rfl Tryd.underlying39 Tryd.sizeOf64 d76 (Rd.ext f_a1 (Ext.trans e14 e72)) d77 c78 <| fun p79 h80 => L_nil <| stepEnd rfl rfl (Ext.refl w71) ⟨_, rfl, h80⟩
          · intro s81 w82 e83 hf84 hd85 hu86
            obtain ⟨p87, h88, h89⟩ := (hd85 6 rfl)
            exact L_op (.plain rfl) rfl (ltb rfl) (X_loadS Tryd.isAgg64 Tryd.sizeOf64 rfl h88 h89) <| L_nil <| stepEnd rfl rfl (Ext.refl w82) rfl
          · intro s90 w91 e92 hf93 hd94 hu95
            have d96 : s90 20 = (.agg (encNd (gt a0 x5_2)).toArray) := (hd94 3 rfl)
            have d97 : s90 24 = (.agg (encNd (gt a1 x5_2)).toArray) := (hd94 7 rfl)
            exact L_op (.plain rfl) rfl (ltb rfl) (X_neA Eqg.t64 (Eqs.t64 (gt a0 x5_2) (gt a1 x5_2)) d96 d97) <| L_nil <| stepEnd rfl rfl (Ext.refl w91) rfl
          intro s98 w99 e100 hf101 ha102
          have K103 := Kp.ofD (kp := [(17, 26)]) rfl hf101
          have d104 : s98 25 = (.bool (!decide ((gt a0 x5_2) = (gt a1 x5_2)))) := ha102 8 rfl
          clear ha102 hf101
          refine thn_n ?_
          rcases bif_two H with ⟨q105, H⟩ | ⟨q105, H⟩
          · refine W_true (d104.trans (congrArg Value.bool q105)) <| W_seq <| W_reg <| L_op (.plain rfl) rfl (ltb rfl) (X_assign (v := (.bool false)) rfl) <| L_nil <| thn_n <| W_ret <| blk_r <| thn_r <| thn_r <| blk_r <| thn_r <| thn_r <| fin_r ?_
            obtain rfl := Option.some.inj H
            obtain rfl := Option.some.inj S18
            have H := C5
            obtain rfl := Option.some.inj H
            exact fin1 rfl (Ext.trans e14 e100)
          · refine W_false (d104.trans (congrArg Value.bool q105)) <| W_skip <| blk_n <| thn_n <| W_reg <| L_op (.plain rfl) rfl (ltb rfl) (X_move (v := (.int .i64 x5_2)) ((K103 5 rfl).trans h16)) <| L_op (.plain rfl) rfl (ltb rfl) (X_add rfl rfl) <| L_op (.plain rfl) rfl (ltb rfl) (X_assign (v := (.int .i64 (IntKind.wrap .i64 (x5_2 + 1)))) rfl) <| L_nil <| thn_n ?_
            obtain rfl := Option.some.inj H
            exact ⟨_, Nat.lt_succ_self _, IntKind.wrap .i64 (x5_2 + 1), (Kp.upd (Kp.upd (Kp.upd (Kp.cut (Kp.upd (Kp.upd (Kp.upd (Kp.upd K13 rfl) rfl) rfl) rfl) K103 rfl) rfl) rfl) rfl), rfl, (Ext.trans e14 e100), S18⟩
        · refine W_false (congrArg Value.bool q19) <| W_exit <| thn_x <| thn_x <| blk_x <| thn_n ?_
          obtain rfl := Option.some.inj H
          obtain rfl := Option.some.inj S18
          exact ⟨(Kp.upd (Kp.upd (Kp.upd (Kp.upd K13 rfl) rfl) rfl) rfl), e14, rfl⟩
    · rintro s7 w6 ⟨K8, e9, y106⟩
      rw [y106] at C5
      have H := C5
      replace H : _ = some _ := H
      refine thn_n <| W_seq <| W_reg <| L_op (.plain rfl) rfl (ltb rfl) (X_assign (v := (.bool true)) rfl) <| L_nil <| thn_n <| W_ret <| fin_r ?_
      obtain rfl := Option.some.inj H
      exact fin1 rfl e9
theorem spec_l04Same.calls {w : World} {a0 : List Nd} {a1 : List Nd} {v_a0 : Value} (f_a0 : Rd 4 encNd w v_a0 a0) {v_a1 : Value} (f_a1 : Rd 4 encNd w v_a1 a1) (h0 : a0.length ≤ 1048576) :
    Calls Tryd.prog 61 #[v_a0, v_a1] w (Rt (RP w (.bool (decide (a0 = a1))))) := by
  obtain ⟨k, h⟩ := spec_l04Same.eq a0 a1 h0
  exact spec_l04Same.walk f_a0 f_a1 h
/-! spec.SameTree -/
theorem spec_SameTree.walk {w : World} {a0 : List Nd} {a1 : List Nd} {v_a0 : Value} (f_a0 : Rd 4 encNd w v_a0 a0) {v_a1 : Value} (f_a1 : Rd 4 encNd w v_a1 a1) {r : Bool} (H : spec_SameTree.sh a0 a1 = some r) :
    Calls Tryd.prog 31 #[v_a0, v_a1] w (Rt (RP w (.bool r))) := by
  unfold spec_SameTree.sh at H
  refine calls_of_W Tryd.func31 rfl (Nat.le_of_ble_eq_true rfl) Tryd.ntmps31 rfl ?_
  refine W_seq <| W_reg <| L_op (.plain rfl) rfl (ltb rfl) (X_assign (v := (.bool false)) rfl) <| L_nil <| thn_n <| W_seq <| W_seq <| W_reg <| L_op (.plain rfl) rfl (ltb rfl) (X_move (v := v_a0) rfl) <| L_op (.plain rfl) rfl (ltb rfl) (X_lenR Tryd.underlying39 rfl f_a0) <| L_op (.plain rfl) rfl (ltb rfl) (X_gtr rfl rfl) <| L_op (.plain rfl) rfl (ltb rfl) (X_move (v := (.bool (decide (4096 < (a0.length : Int))))) rfl) <| L_grp 4 [(9, 13)] 12 (.bool ((decide (4096 < (a0.length : Int))) || (decide (4096 < (a1.length : Int))))) ?_ ?_
  · rcases bool_two (decide (4096 < (a0.length : Int))) with b0_ | b0_
    · exact L_skip rfl rfl (ltb rfl) (congrArg Value.bool b0_) rfl rfl (ltb rfl) <| L_skip rfl rfl (ltb rfl) (congrArg Value.bool b0_) rfl rfl (ltb rfl) <| L_skip rfl rfl (ltb rfl) (congrArg Value.bool b0_) rfl rfl (ltb rfl) <| L_op (.plain rfl) rfl (ltb rfl) (X_pick (b := true) (v := (.bool true)) (congrArg Value.bool b0_) rfl) <| L_nil <| thn_n ⟨(Kp.upd (Kp.upd (Kp.upd (Kp.upd (Kp.refl _ _) rfl) rfl) rfl) rfl), (or_t b0_), (Ext.refl w)⟩
    · exact L_op (.guard 3 false 8 rfl rfl (ltb rfl) (congrArg Value.bool b0_)) rfl (ltb rfl) (X_move (v := v_a1) rfl) <| L_op (.guard 3 false 8 rfl rfl (ltb rfl) (congrArg Value.bool b0_)) rfl (ltb rfl) (X_lenR Tryd.underlying39 rfl f_a1) <| L_op (.guard 3 false 8 rfl rfl (ltb rfl) (congrArg Value.bool b0_)) rfl (ltb rfl) (X_gtr rfl rfl) <| L_op (.plain rfl) rfl (ltb rfl) (X_pick (b := false) (v := (.bool (decide (4096 < (a1.length : Int))))) (congrArg Value.bool b0_) rfl) <| L_nil <| thn_n ⟨(Kp.upd (Kp.upd (Kp.upd (Kp.upd (Kp.refl _ _) rfl) rfl) rfl) rfl), (or_f b0_), (Ext.refl w)⟩
  intro s6 w2 K3 h4 e5
  refine L_nil <| thn_n ?_
  rcases bif_two H with ⟨q7, H⟩ | ⟨q7, H⟩
  · refine W_true (h4.trans (congrArg Value.bool q7)) <| W_seq <| W_reg <| L_op (.plain rfl) rfl (ltb rfl) (X_assign (v := (.bool false)) rfl) <| L_nil <| thn_n <| W_ret <| thn_r <| fin_r ?_
    obtain rfl := Option.some.inj H
    exact fin1 rfl e5
  · refine W_false (h4.trans (congrArg Value.bool q7)) <| W_skip <| thn_n <| W_seq <| W_reg <| L_op (.plain rfl) rfl (ltb rfl) (X_move (v := v_a0) (K3 0 rfl)) ?_
    obtain ⟨c8, H⟩ := bif_some H
    refine L_callP (.plain rfl) rfl (ltb rfl) rfl Tryd.call55 (spec_l04OK.calls (w := w2) (a0 := a0) (Rd.ext f_a0 e5) (of_decide_eq_true c8)) rfl <| fun w9 e10 => L_op (.plain rfl) rfl (ltb rfl) (X_move (v := (.bool (treeOK a0))) rfl) ?_
    obtain ⟨z12, x13, H⟩ := bind_some H
    refine L_grpE 3 [(16, 19)] 18 (fun q => q = z12) ?_ ?_
    · rcases bif_two x13 with ⟨b10_, H⟩ | ⟨b10_, H⟩
      · refine L_op (.guard 2 true 15 rfl rfl (ltb rfl) (congrArg Value.bool b10_)) rfl (ltb rfl) (X_move (v := v_a1) (K3 1 rfl)) ?_
        obtain ⟨c12, H⟩ := bif_some H
        refine L_callP (.guard 2 true 15 rfl rfl (ltb rfl) (congrArg Value.bool b10_)) rfl (ltb rfl) rfl Tryd.call55 (spec_l04OK.calls (w := w9) (a0 := a1) (Rd.ext f_a1 (Ext.trans e5 e10)) (of_decide_eq_true c12)) rfl <| fun w13 e14 => L_op (.plain rfl) rfl (ltb rfl) (X_pick (b := true) (v := (.bool (treeOK a1))) (congrArg Value.bool b10_) rfl) ?_
        obtain rfl := Option.some.inj H
        exact L_nil <| thn_n ⟨(Kp.upd (Kp.upd (Kp.upd (Kp.refl _ _) rfl) rfl) rfl), ⟨_, rfl, rfl⟩, e14⟩
      · refine L_skip rfl rfl (ltb rfl) (congrArg Value.bool b10_) rfl rfl (ltb rfl) <| L_skip rfl rfl (ltb rfl) (congrArg Value.bool b10_) rfl rfl (ltb rfl) <| L_op (.plain rfl) rfl (ltb rfl) (X_pick (b := false) (v := (.bool false)) (congrArg Value.bool b10_) rfl) ?_
        obtain rfl := Option.some.inj H
        exact L_nil <| thn_n ⟨(Kp.upd (Kp.upd (Kp.upd (Kp.refl _ _) rfl) rfl) rfl), ⟨_, rfl, rfl⟩, (Ext.refl w9)⟩
    intro s18 w14 z19 K15 hq h16 e17
    rw [hq] at h16; clear hq
    refine L_op (.plain rfl) rfl (ltb rfl) (X_move (v := (.bool z12)) h16) ?_
    obtain ⟨z21, x22, H⟩ := bind_some H
    refine L_grpE 4 [(20, 24)] 23 (fun q => q = z21) ?_ ?_
    · rcases bif_two x22 with ⟨b19_, H⟩ | ⟨b19_, H⟩
      · refine L_op (.guard 6 true 19 rfl rfl (ltb rfl) (congrArg Value.bool b19_)) rfl (ltb rfl) (X_move (v := v_a0) ((K15 0 rfl).trans (K3 0 rfl))) <| L_op (.guard 6 true 19 rfl rfl (ltb rfl) (congrArg Value.bool b19_)) rfl (ltb rfl) (X_move (v := v_a1) ((K15 1 rfl).trans (K3 1 rfl))) ?_
        obtain ⟨c21, H⟩ := bif_some H
        refine L_callP (.guard 6 true 19 rfl rfl (ltb rfl) (congrArg Value.bool b19_)) rfl (ltb rfl) rfl Tryd.call61 (spec_l04Same.calls (w := w14) (a0 := a0) (a1 := a1) (Rd.ext f_a0 (Ext.trans (Ext.trans e5 e10) e17)) (Rd.ext f_a1 (Ext.trans (Ext.trans e5 e10) e17)) (of_decide_eq_true c21)) rfl <| fun w22 e23 => L_op (.plain rfl) rfl (ltb rfl) (X_pick (b := true) (v := (.bool (decide (a0 = a1)))) (congrArg Value.bool b19_) rfl) ?_
        obtain rfl := Option.some.inj H
        exact L_nil <| thn_n ⟨(Kp.upd (Kp.upd (Kp.upd (Kp.upd (Kp.refl _ _) rfl) rfl) rfl) rfl), ⟨_, rfl, rfl⟩, e23⟩
      · refine L_skip rfl rfl (ltb rfl) (congrArg Value.bool b19_) rfl rfl (ltb rfl) <| L_skip rfl rfl (ltb rfl) (congrArg Value.bool b19_) rfl rfl (ltb rfl) <| L_skip rfl rfl (ltb rfl) (congrArg Value.bool b19_) rfl rfl (ltb rfl) <| L_op (.plain rfl) rfl (ltb rfl) (X_pick (b := false) (v := (.bool false)) (congrArg Value.bool b19_) rfl) ?_
        obtain rfl := Option.some.inj H
        exact L_nil <| thn_n ⟨(Kp.upd (Kp.upd (Kp.upd (Kp.upd (Kp.refl _ _) rfl) rfl) rfl) rfl), ⟨_, rfl, rfl⟩, (Ext.refl w14)⟩
    intro s27 w23 z28 K24 hq h25 e26
    rw [hq] at h25; clear hq
    refine L_op (.plain rfl) rfl (ltb rfl) (X_assign (v := (.bool z21)) h25) <| L_nil <| thn_n <| W_ret <| fin_r ?_
    obtain rfl := Option.some.inj H
    exact fin1 rfl (Ext.trans (Ext.trans (Ext.trans e5 e10) e17) e26)
theorem spec_SameTree.calls {w : World} {a0 : List Nd} {a1 : List Nd} {v_a0 : Value} (f_a0 : Rd 4 encNd w v_a0 a0) {v_a1 : Value} (f_a1 : Rd 4 encNd w v_a1 a1) (h0 : a0.length ≤ 1048576) (h1 : a1.length ≤ 1048576) (h2 : ∀ x ∈ a0, x.path.length ≤ 1048576) (h3 : ∀ x ∈ a1, x.path.length ≤ 1048576) :
    Calls Tryd.prog 31 #[v_a0, v_a1] w (Rt (RP w (.bool (sameTree a0 a1)))) := spec_SameTree.walk f_a0 f_a1 (spec_SameTree.eq a0 a1 h0 h1 h2 h3)
/-! (impl.Node).record -/
theorem impl_Node_record.walk {w : World} {a0 : Nd} {r : Rec} (H : impl_Node_record.sh a0 = some r) :
    Calls Tryd.prog 86 #[.agg (encNd a0).toArray] w (Rt (RP w (.agg (encRec r).toArray))) := by
  unfold impl_Node_record.sh at H
  refine calls_of_WG Tryd.func86 rfl (Nat.le_of_ble_eq_true rfl) Tryd.ntmps86 ?_
  refine W_seq <| W_reg <| L_box (.plain rfl) rfl (ltb rfl) rfl rfl <| fun b1 w2 z3 z4 e5 k6 => L_alloc (.plain rfl) rfl (ltb rfl) rfl Tryd.zeroValue23 <| fun b7 w8 z9 z10 e11 k12 => L_nil <| thn_n <| W_seq <| W_reg <| L_op (.plain rfl) rfl (ltb rfl) (X_fieldAddr Tryd.underlying64 rfl Tryd.sizeOf3 rfl rfl) <| L_op (.plain rfl) rfl (ltb rfl) (X_loadB Tryd.isAgg3 (Blk.ext k6 e11) rfl rfl) <| L_op (.plain rfl) rfl (ltb rfl) (X_fieldAddr Tryd.underlying64 rfl Tryd.sizeOf9 rfl rfl) <| L_op (.plain rfl) rfl (ltb rfl) (X_loadB Tryd.isAgg9 (Blk.ext k6 e11) rfl rfl) <| L_op (.plain rfl) rfl (ltb rfl) (X_fieldAddr Tryd.underlying64 rfl Tryd.sizeOf9 rfl rfl) <| L_op (.plain rfl) rfl (ltb rfl) (X_loadB Tryd.isAgg9 (Blk.ext k6 e11) rfl rfl) <| L_op (.plain rfl) rfl (ltb rfl) (X_fieldAddr Tryd.underlying64 rfl Tryd.sizeOf3 rfl rfl) <| L_op (.plain rfl) rfl (ltb rfl) (X_loadB Tryd.isAgg3 (Blk.ext k6 e11) rfl rfl) <| L_op (.plain rfl) rfl (ltb rfl) (X_build1 (vs := [(0, (.int .i64 a0.kind)), (1, (S a0.path)), (2, (S a0.body)), (3, (.int .i64 a0.mode)), (4, (.bool false))]) (pl := #[(0, 1), (1, 1), (2, 1), (3, 1), (4, 1)]) Tryd.underlying23 Tryd.zeroValue23 rfl (fun _ => by kernel_rfl) rfl rfl rfl) <| L_storeA (.plain rfl) rfl rfl Tryd.sizeOf23 rfl rfl rfl rfl rfl k12 <| fun w13 h14 k15 => L_nil <| thn_n <| W_ret <| finG_r ?_
  obtain rfl := Option.some.inj H
  exact finC1 rfl rfl k15 Tryd.isAgg23 Tryd.sizeOf23 rfl (Ext.trans e5 (Below.trans e11 (Wr.below h14 (Nat.le_of_eq z9))))
theorem impl_Node_record.calls {w : World} {a0 : Nd} :
    Calls Tryd.prog 86 #[.agg (encNd a0).toArray] w (Rt (RP w (.agg (encRec (recOf a0)).toArray))) := impl_Node_record.walk (impl_Node_record.eq a0)
/-! impl.nodeOK -/
theorem impl_nodeOK.walk {w : World} {a0 : Nd} (gv : GV 0 w) {r : Bool} (H : impl_nodeOK.sh a0 = some r) :
    Calls Tryd.prog 57 #[.agg (encNd a0).toArray] w (Rt (RP w (.bool r))) := by
  unfold impl_nodeOK.sh at H
  refine calls_of_W Tryd.func57 rfl (Nat.le_of_ble_eq_true rfl) Tryd.ntmps57 rfl ?_
  refine W_seq <| W_reg <| L_box (.plain rfl) rfl (ltb rfl) rfl rfl <| fun b1 w2 z3 z4 e5 k6 => L_op (.plain rfl) rfl (ltb rfl) (X_assign (v := (.bool false)) rfl) <| L_nil <| thn_n <| W_seq <| W_reg <| L_op (.plain rfl) rfl (ltb rfl) (X_loadS Tryd.isAgg64 Tryd.sizeOf64 rfl rfl (Blk.at0 k6)) <| L_callP (.plain rfl) rfl (ltb rfl) rfl Tryd.call86 (impl_Node_record.calls (w := w2) (a0 := a0)) rfl <| fun w7 e8 => L_callP (.plain rfl) rfl (ltb rfl) rfl Tryd.call85 (impl_RecordOK.calls (w := w7) (a0 := (recOf a0)) (GV.ext gv (Ext.trans e5 e8))) rfl <| fun w9 e10 => L_op (.plain rfl) rfl (ltb rfl) (X_move (v := (.bool (decide (recFault (recOf a0) = 0)))) rfl) <| L_grp 4 [(7, 11)] 10 (.bool ((decide (recFault (recOf a0) = 0)) && (!decide (a0.kind = 4)))) ?_ ?_
  · rcases bool_two (decide (recFault (recOf a0) = 0)) with b10_ | b10_
    · exact L_op (.guard 3 true 6 rfl rfl (ltb rfl) (congrArg Value.bool b10_)) rfl (ltb rfl) (X_fieldAddr Tryd.underlying64 rfl Tryd.sizeOf3 rfl rfl) <| L_op (.guard 3 true 6 rfl rfl (ltb rfl) (congrArg Value.bool b10_)) rfl (ltb rfl) (X_loadB Tryd.isAgg3 (Blk.ext k6 (Ext.trans e8 e10)) rfl rfl) <| L_op (.guard 3 true 6 rfl rfl (ltb rfl) (congrArg Value.bool b10_)) rfl (ltb rfl) (X_neq rfl rfl) <| L_op (.plain rfl) rfl (ltb rfl) (X_pick (b := true) (v := (.bool (!decide (a0.kind = 4)))) (congrArg Value.bool b10_) rfl) <| L_nil <| thn_n ⟨(Kp.upd (Kp.upd (Kp.upd (Kp.upd (Kp.refl _ _) rfl) rfl) rfl) rfl), (and_t b10_), (Ext.refl w9)⟩
    · exact L_skip rfl rfl (ltb rfl) (congrArg Value.bool b10_) rfl rfl (ltb rfl) <| L_skip rfl rfl (ltb rfl) (congrArg Value.bool b10_) rfl rfl (ltb rfl) <| L_skip rfl rfl (ltb rfl) (congrArg Value.bool b10_) rfl rfl (ltb rfl) <| L_op (.plain rfl) rfl (ltb rfl) (X_pick (b := false) (v := (.bool false)) (congrArg Value.bool b10_) rfl) <| L_nil <| thn_n ⟨(Kp.upd (Kp.upd (Kp.upd (Kp.upd (Kp.refl _ _) rfl) rfl) rfl) rfl), (and_f b10_), (Ext.refl w9)⟩
  intro s16 w12 K13 h14 e15
  refine L_op (.plain rfl) rfl (ltb rfl) (X_assign h14) <| L_nil <| thn_n <| W_ret <| fin_r ?_
  obtain rfl := Option.some.inj H
  exact fin1 rfl (Ext.trans (Ext.trans (Ext.trans e5 e8) e10) e15)
theorem impl_nodeOK.calls {w : World} {a0 : Nd} (gv : GV 0 w) :
    Calls Tryd.prog 57 #[.agg (encNd a0).toArray] w (Rt (RP w (.bool (nodeOK a0)))) := impl_nodeOK.walk gv (impl_nodeOK.eq a0)
/-! impl.at$1 -/
theorem impl_at_1.walk {w : World} {a0 : Nd} {a1 : List UInt8} {b_a1 : Nat} (k_a1 : Blk w b_a1 #[(S a1)] 9) {r : Bool} (H : impl_at_1.sh a0 a1 = some r) :
    Calls Tryd.prog 103 #[.agg (encNd a0).toArray, .pointer (some ⟨b_a1, 0, none⟩)] w (Rt (RP w (.bool r))) := by
  unfold impl_at_1.sh at H
  refine calls_of_W Tryd.func103 rfl (Nat.le_of_ble_eq_true rfl) Tryd.ntmps103 rfl ?_
  refine W_seq <| W_reg <| L_box (.plain rfl) rfl (ltb rfl) rfl rfl <| fun b1 w2 z3 z4 e5 k6 => L_op (.plain rfl) rfl (ltb rfl) (X_assign (v := (.bool false)) rfl) <| L_nil <| thn_n <| W_seq <| W_reg <| L_op (.plain rfl) rfl (ltb rfl) (X_fieldAddr Tryd.underlying64 rfl Tryd.sizeOf9 rfl rfl) <| L_op (.plain rfl) rfl (ltb rfl) (X_loadB Tryd.isAgg9 k6 rfl rfl) <| L_op (.plain rfl) rfl (ltb rfl) (X_loadB Tryd.isAgg9 (Blk.ext k_a1 e5) rfl rfl) <| L_op (.plain rfl) rfl (ltb rfl) (X_seq rfl rfl) <| L_op (.plain rfl) rfl (ltb rfl) (X_assign (v := (.bool (decide (a0.path = a1)))) rfl) <| L_nil <| thn_n <| W_ret <| fin_r ?_
  obtain rfl := Option.some.inj H
  exact fin1 rfl e5
theorem impl_at_1.calls {w : World} {a0 : Nd} {a1 : List UInt8} {b_a1 : Nat} (k_a1 : Blk w b_a1 #[(S a1)] 9) :
    Calls Tryd.prog 103 #[.agg (encNd a0).toArray, .pointer (some ⟨b_a1, 0, none⟩)] w (Rt (RP w (.bool (decide (a0.path = a1))))) := impl_at_1.walk k_a1 (impl_at_1.eq a0 a1)
/-! slices.IndexFunc(()impl.Node,impl.Node) -/
theorem slices_IndexFuncN.walk {k : Nat} {w : World} {a0 : List Nd} {a1 : Nd → Option Bool} {v_a0 : Value} (f_a0 : Rd 4 encNd w v_a0 a0) {v_a1 : Value} (f_a1 : ∀ (x0 : Nd) (r : Bool), a1 x0 = some r → FnAt Tryd.prog w v_a1 [(.agg (encNd x0).toArray)] (.bool r)) (g_a1 : v_a1.cells = #[v_a1]) {r : Int} (H : slices_IndexFuncN.sh k a0 a1 = some r) :
    Calls Tryd.prog 102 #[v_a0, v_a1] w (Rt (RP w (.int .i64 r))) := by
  unfold slices_IndexFuncN.sh at H
  refine calls_of_W Tryd.func102 rfl (Nat.le_of_ble_eq_true rfl) Tryd.ntmps102 rfl ?_
  refine W_seq <| W_reg <| L_op (.plain rfl) rfl (ltb rfl) (X_assign (v := (.int .i64 0)) rfl) <| L_nil <| thn_n <| W_seq <| W_seq <| W_reg <| L_op (.plain rfl) rfl (ltb rfl) (X_move (v := v_a0) rfl) <| L_op (.plain rfl) rfl (ltb rfl) (X_lenR Tryd.underlying39 rfl f_a0) <| L_op (.plain rfl) rfl (ltb rfl) (X_move (v := (.int .i64 0)) rfl) <| L_nil <| thn_n ?_
  obtain ⟨z2, L3, C4⟩ := bind_some H
  clear H
  refine  W_cutQ (fun s0 s9 w9 => Kp [(4, 6), (8, 19)] s0 s9 ∧ Ext w w9 ∧ z2 = .inr ()) ?_ ?_
  · refine W_block <| W_loopI (fun s0 kk s9 w9 => ∃ (x8_1 : Int), Kp [(4, 6), (8, 19)] s0 s9 ∧ s9 8 = .int .i64 x8_1 ∧ Ext w w9 ∧ loopF (slices_IndexFuncN.b1 a0 a1) kk x8_1 = some z2) k ⟨0, (Kp.refl _ _), rfl, (Ext.refl w), L3⟩ ?_
    rintro k9 s10 w11 ⟨x8_1, K12, h15, e13, L14⟩
    cases k9 with
    | zero => exact absurd L14 (by simp [loopF])
    | succ k9 =>
      obtain ⟨t16, H, S17⟩ := loopF_succ L14
      clear L14
      unfold slices_IndexFuncN.b1 at H
      refine W_seq <| W_reg <| L_op (.plain rfl) rfl (ltb rfl) (X_lss h15 (K12 7 rfl)) <| L_nil <| thn_n <| W_seq ?_
      rcases bif_two H with ⟨q18, H⟩ | ⟨q18, H⟩
      · refine W_true (congrArg Value.bool q18) <| W_skip <| thn_n <| W_seq <| W_block <| W_seq <| W_reg <| L_op (.plain rfl) rfl (ltb rfl) (X_move (v := (.int .i64 x8_1)) h15) <| L_op (.plain rfl) rfl (ltb rfl) (X_assign (v := (.int .i64 x8_1)) rfl) <| L_nil <| thn_n <| W_seq <| W_reg <| L_op (.plain rfl) rfl (ltb rfl) (X_move (v := v_a1) (K12 1 rfl)) <| L_op (.plain rfl) rfl (ltb rfl) (X_move (v := v_a0) (K12 0 rfl)) <| L_op (.plain rfl) rfl (ltb rfl) (X_move (v := (.int .i64 x8_1)) rfl) ?_
        obtain ⟨c19, H⟩ := bif_some H
        refine L_idx (.plain rfl) rfl (ltb rfl) rfl Tryd.underlying39 Tryd.sizeOf64 rfl (Rd.ext f_a0 e13) rfl c19 <| fun p20 h21 => L_op (.plain rfl) rfl (ltb rfl) (X_loadS Tryd.isAgg64 Tryd.sizeOf64 rfl rfl h21) ?_
        obtain ⟨z22, x23, H⟩ := bind_some H
        refine L_callF (.plain rfl) rfl (ltb rfl) rfl rfl (FnAt.ext (f_a1 _ _ x23) e13) rfl <| fun w24 e25 => L_nil <| thn_n ?_
        rcases bif_two H with ⟨q26, H⟩ | ⟨q26, H⟩
        · refine W_true (congrArg Value.bool q26) <| W_seq <| W_reg <| L_op (.plain rfl) rfl (ltb rfl) (X_move (v := (.int .i64 x8_1)) rfl) <| L_op (.plain rfl) rfl (ltb rfl) (X_assign (v := (.int .i64 x8_1)) rfl) <| L_nil <| thn_n <| W_ret <| blk_r <| thn_r <| thn_r <| blk_r <| thn_r <| thn_r <| fin_r ?_
          obtain rfl := Option.some.inj H
          obtain rfl := Option.some.inj S17
          have H := C4
          obtain rfl := Option.some.inj H
          exact fin1 rfl (Ext.trans e13 e25)
        · refine W_false (congrArg Value.bool q26) <| W_skip <| blk_n <| thn_n <| W_reg <| L_op (.plain rfl) rfl (ltb rfl) (X_add h15 rfl) <| L_op (.plain rfl) rfl (ltb rfl) (X_move (v := (.int .i64 (IntKind.wrap .i64 (x8_1 + 1)))) rfl) <| L_nil <| thn_n ?_
          obtain rfl := Option.some.inj H
          exact ⟨_, Nat.lt_succ_self _, IntKind.wrap .i64 (x8_1 + 1), (Kp.upd (Kp.upd (Kp.upd (Kp.upd (Kp.upd (Kp.upd (Kp.upd (Kp.upd (Kp.upd (Kp.upd (Kp.upd K12 rfl) rfl) rfl) rfl) rfl) rfl) rfl) rfl) rfl) rfl) rfl), rfl, (Ext.trans e13 e25), S17⟩
      · refine W_false (congrArg Value.bool q18) <| W_exit <| thn_x <| thn_x <| blk_x <| thn_n ?_
        obtain rfl := Option.some.inj H
        obtain rfl := Option.some.inj S17
        exact ⟨(Kp.upd K12 rfl), e13, rfl⟩
  · rintro s6 w5 ⟨K7, e8, y27⟩
    rw [y27] at C4
    have H := C4
    replace H : _ = some _ := H
    refine thn_n <| W_seq <| W_reg <| L_op (.plain rfl) rfl (ltb rfl) (X_assign (v := (.int .i64 (-1))) rfl) <| L_nil <| thn_n <| W_ret <| fin_r ?_
    obtain rfl := Option.some.inj H
    exact fin1 rfl e8
theorem slices_IndexFuncN.calls {w : World} {a0 : List Nd} {a1 : Nd → Option Bool} {r : Int} {v_a0 : Value} (f_a0 : Rd 4 encNd w v_a0 a0) {v_a1 : Value} (f_a1 : ∀ (x0 : Nd) (r : Bool), a1 x0 = some r → FnAt Tryd.prog w v_a1 [(.agg (encNd x0).toArray)] (.bool r)) (g_a1 : v_a1.cells = #[v_a1]) (h0 : a0.length ≤ 4611686018427387904) (H : (idxO a1 a0) = some r) :
    Calls Tryd.prog 102 #[v_a0, v_a1] w (Rt (RP w (.int .i64 r))) := by
  obtain ⟨k, h⟩ := slices_IndexFuncN.eq a0 a1 h0 H
  exact slices_IndexFuncN.walk f_a0 f_a1 g_a1 h
/-! impl.at -/
theorem impl_at.walk {w : World} {a0 : List Nd} {a1 : List UInt8} {v_a0 : Value} (f_a0 : Rd 4 encNd w v_a0 a0) {r : Int} (H : impl_at.sh a0 a1 = some r) :
    Calls Tryd.prog 88 #[v_a0, S a1] w (Rt (RP w (.int .i64 r))) := by
  unfold impl_at.sh at H
  refine calls_of_W Tryd.func88 rfl (Nat.le_of_ble_eq_true rfl) Tryd.ntmps88 rfl ?_
  refine W_seq <| W_reg <| L_box (.plain rfl) rfl (ltb rfl) rfl rfl <| fun b1 w2 z3 z4 e5 k6 => L_op (.plain rfl) rfl (ltb rfl) (X_assign (v := (.int .i64 0)) rfl) <| L_nil <| thn_n <| W_seq <| W_reg <| L_op (.plain rfl) rfl (ltb rfl) (X_move (v := v_a0) rfl) <| L_op (.plain rfl) rfl (ltb rfl) (X_makeFunc (vs := #[]) (us := #[.pointer (some ⟨b1, 0, none⟩)]) rfl rfl) ?_
  obtain ⟨c9, H⟩ := bif_some H
  obtain ⟨z10, x11, H⟩ := bind_some H
  refine L_callP (.plain rfl) rfl (ltb rfl) rfl Tryd.call102 (slices_IndexFuncN.calls (w := w2) (a0 := a0) (a1 := (fun (x0_ : Nd) => some (decide (x0_.path = a1)))) (Rd.ext f_a0 e5) (fun x0_ r h => by have h := Option.some.inj h; subst h; exact FnAt.mk Tryd.call103 (by rfl) fun w7 k8 => impl_at_1.calls (w := w7) (a0 := x0_) (a1 := a1) (Blk.ext k6 k8)) rfl (of_decide_eq_true c9) x11) rfl <| fun w12 e13 => L_op (.plain rfl) rfl (ltb rfl) (X_assign (v := (.int .i64 z10)) rfl) <| L_nil <| thn_n <| W_ret <| fin_r ?_
  obtain rfl := Option.some.inj H
  exact fin1 rfl (Ext.trans e5 e13)
theorem impl_at.calls {w : World} {a0 : List Nd} {a1 : List UInt8} {v_a0 : Value} (f_a0 : Rd 4 encNd w v_a0 a0) (h0 : a0.length ≤ 1048576) :
    Calls Tryd.prog 88 #[v_a0, S a1] w (Rt (RP w (.int .i64 (findN a0 a1)))) := impl_at.walk f_a0 (impl_at.eq a0 a1 h0)
/-! impl.isDir -/
theorem impl_isDir.walk {w : World} {a0 : List Nd} {a1 : List UInt8} {v_a0 : Value} (f_a0 : Rd 4 encNd w v_a0 a0) {r : Bool} (H : impl_isDir.sh a0 a1 = some r) :
    Calls Tryd.prog 59 #[v_a0, S a1] w (Rt (RP w (.bool r))) := by
  unfold impl_isDir.sh at H
  refine calls_of_W Tryd.func59 rfl (Nat.le_of_ble_eq_true rfl) Tryd.ntmps59 rfl ?_
  refine W_seq <| W_reg <| L_op (.plain rfl) rfl (ltb rfl) (X_assign (v := (.bool false)) rfl) <| L_nil <| thn_n <| W_seq <| W_reg <| L_op (.plain rfl) rfl (ltb rfl) (X_move (v := v_a0) rfl) <| L_op (.plain rfl) rfl (ltb rfl) (X_move (v := (S a1)) rfl) ?_
  obtain ⟨c1, H⟩ := bif_some H
  refine L_callP (.plain rfl) rfl (ltb rfl) rfl Tryd.call88 (impl_at.calls (w := w) (a0 := a0) (a1 := a1) f_a0 (of_decide_eq_true c1)) rfl <| fun w2 e3 => L_op (.plain rfl) rfl (ltb rfl) (X_assign (v := (.int .i64 (findN a0 a1))) rfl) <| L_nil <| thn_n <| W_seq <| W_reg <| L_op (.plain rfl) rfl (ltb rfl) (X_move (v := (S a1)) rfl) <| L_op (.plain rfl) rfl (ltb rfl) (X_seq rfl rfl) <| L_op (.plain rfl) rfl (ltb rfl) (X_move (v := (.bool (decide (a1 = ([] : List UInt8))))) rfl) ?_
  obtain ⟨z5, x6, H⟩ := bind_some H
  refine L_grpE 11 [(12, 23)] 22 (fun q => q = z5) ?_ ?_
  · rcases bif_two x6 with ⟨b3_, H⟩ | ⟨b3_, H⟩
    · refine L_skip rfl rfl (ltb rfl) (congrArg Value.bool b3_) rfl rfl (ltb rfl) <| L_skip rfl rfl (ltb rfl) (congrArg Value.bool b3_) rfl rfl (ltb rfl) <| L_skip rfl rfl (ltb rfl) (congrArg Value.bool b3_) rfl rfl (ltb rfl) <| L_skipU rfl rfl (ltb rfl) rfl rfl (ltb rfl) <| L_skipU rfl rfl (ltb rfl) rfl rfl (ltb rfl) <| L_skipU rfl rfl (ltb rfl) rfl rfl (ltb rfl) <| L_skipU rfl rfl (ltb rfl) rfl rfl (ltb rfl) <| L_skipU rfl rfl (ltb rfl) rfl rfl (ltb rfl) <| L_skipU rfl rfl (ltb rfl) rfl rfl (ltb rfl) <| L_skip rfl rfl (ltb rfl) (congrArg Value.bool b3_) rfl rfl (ltb rfl) <| L_op (.plain rfl) rfl (ltb rfl) (X_pick (b := true) (v := (.bool true)) (congrArg Value.bool b3_) rfl) ?_
      obtain rfl := Option.some.inj H
      exact L_nil <| thn_n ⟨(Kp.upd (Kp.upd (Kp.upd (Kp.upd (Kp.upd (Kp.upd (Kp.upd (Kp.upd (Kp.upd (Kp.upd (Kp.upd (Kp.refl _ _) rfl) rfl) rfl) rfl) rfl) rfl) rfl) rfl) rfl) rfl) rfl), ⟨_, rfl, rfl⟩, (Ext.refl w2)⟩
    · refine L_op (.guard 2 false 11 rfl rfl (ltb rfl) (congrArg Value.bool b3_)) rfl (ltb rfl) (X_move (v := (.int .i64 (findN a0 a1))) rfl) <| L_op (.guard 2 false 11 rfl rfl (ltb rfl) (congrArg Value.bool b3_)) rfl (ltb rfl) (X_geq rfl rfl) <| L_op (.guard 2 false 11 rfl rfl (ltb rfl) (congrArg Value.bool b3_)) rfl (ltb rfl) (X_move (v := (.bool (decide (0 ≤ (findN a0 a1))))) rfl) ?_
      obtain ⟨z6, x7, H⟩ := bind_some H
      refine L_grpE 7 [(15, 22)] 21 (fun q => q = z6) ?_ ?_
      · rcases bif_two x7 with ⟨b4_, H⟩ | ⟨b4_, H⟩
        · refine L_op (.guard 5 true 14 rfl rfl (ltb rfl) (congrArg Value.bool b4_)) rfl (ltb rfl) (X_move (v := v_a0) rfl) <| L_op (.guard 5 true 14 rfl rfl (ltb rfl) (congrArg Value.bool b4_)) rfl (ltb rfl) (X_move (v := (.int .i64 (findN a0 a1))) rfl) ?_
          obtain ⟨c6, H⟩ := bif_some H
          refine L_idx (.guard 5 true 14 rfl rfl (ltb rfl) (congrArg Value.bool b4_)) rfl (ltb rfl) rfl Tryd.underlying39 Tryd.sizeOf64 rfl (Rd.ext f_a0 e3) rfl c6 <| fun p7 h8 => L_op (.guard 5 true 14 rfl rfl (ltb rfl) (congrArg Value.bool b4_)) rfl (ltb rfl) (X_fieldAddr Tryd.underlying64 rfl Tryd.sizeOf3 rfl rfl) <| L_op (.guard 5 true 14 rfl rfl (ltb rfl) (congrArg Value.bool b4_)) rfl (ltb rfl) (X_loadF Tryd.isAgg3 (j := 0) h8 rfl rfl) <| L_op (.guard 5 true 14 rfl rfl (ltb rfl) (congrArg Value.bool b4_)) rfl (ltb rfl) (X_eql rfl rfl) <| L_op (.guard 2 false 11 rfl rfl (ltb rfl) (congrArg Value.bool b3_)) rfl (ltb rfl) (X_pick (b := true) (v := (.bool (decide (((gt a0 (findN a0 a1)).kind) = 3)))) (congrArg Value.bool b4_) rfl) ?_
          obtain rfl := Option.some.inj H
          exact L_nil <| thn_n ⟨(Kp.upd (Kp.upd (Kp.upd (Kp.upd (Kp.upd (Kp.upd (Kp.upd (Kp.refl _ _) rfl) rfl) rfl) rfl) rfl) rfl) rfl), ⟨_, rfl, rfl⟩, (Ext.refl w2)⟩
        · refine L_skip rfl rfl (ltb rfl) (congrArg Value.bool b4_) rfl rfl (ltb rfl) <| L_skip rfl rfl (ltb rfl) (congrArg Value.bool b4_) rfl rfl (ltb rfl) <| L_skip rfl rfl (ltb rfl) (congrArg Value.bool b4_) rfl rfl (ltb rfl) <| L_skip rfl rfl (ltb rfl) (congrArg Value.bool b4_) rfl rfl (ltb rfl) <| L_skip rfl rfl (ltb rfl) (congrArg Value.bool b4_) rfl rfl (ltb rfl) <| L_skip rfl rfl (ltb rfl) (congrArg Value.bool b4_) rfl rfl (ltb rfl) <| L_op (.guard 2 false 11 rfl rfl (ltb rfl) (congrArg Value.bool b3_)) rfl (ltb rfl) (X_pick (b := false) (v := (.bool false)) (congrArg Value.bool b4_) rfl) ?_
          obtain rfl := Option.some.inj H
          exact L_nil <| thn_n ⟨(Kp.upd (Kp.upd (Kp.upd (Kp.upd (Kp.upd (Kp.upd (Kp.upd (Kp.refl _ _) rfl) rfl) rfl) rfl) rfl) rfl) rfl), ⟨_, rfl, rfl⟩, (Ext.refl w2)⟩
      intro s12 w8 z13 K9 hq h10 e11
      rw [hq] at h10; clear hq
      refine L_op (.plain rfl) rfl (ltb rfl) (X_pick (b := false) (v := (.bool z6)) ((K9 11 rfl).trans (congrArg Value.bool b3_)) h10) ?_
      obtain rfl := Option.some.inj H
      exact L_nil <| thn_n ⟨(Kp.upd (Kp.cut (Kp.upd (Kp.upd (Kp.upd (Kp.refl _ _) rfl) rfl) rfl) K9 rfl) rfl), ⟨_, rfl, rfl⟩, e11⟩
  intro s14 w7 z15 K8 hq h9 e10
  rw [hq] at h9; clear hq
  refine L_op (.plain rfl) rfl (ltb rfl) (X_assign (v := (.bool z5)) h9) <| L_nil <| thn_n <| W_ret <| fin_r ?_
  obtain rfl := Option.some.inj H
  exact fin1 rfl (Ext.trans e3 e10)
theorem impl_isDir.calls {w : World} {a0 : List Nd} {a1 : List UInt8} {v_a0 : Value} (f_a0 : Rd 4 encNd w v_a0 a0) (h0 : a0.length ≤ 1048576) :
    Calls Tryd.prog 59 #[v_a0, S a1] w (Rt (RP w (.bool (isDirN a0 a1)))) := impl_isDir.walk f_a0 (impl_isDir.eq a0 a1 h0)
end Go.Proofs.YtilogldgepaeiaaDoor
