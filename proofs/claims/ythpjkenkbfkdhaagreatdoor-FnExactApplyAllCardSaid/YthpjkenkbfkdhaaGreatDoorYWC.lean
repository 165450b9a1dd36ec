/- The walks, by program (wip/tools). -/
import Derived.Test.YthpjkenkbfkdhaaGreatDoorProg
import Derived.Test.YthpjkenkbfkdhaaGreatDoorKJ
import Derived.Test.YthpjkenkbfkdhaaGreatDoorKL
import Derived.Test.YthpjkenkbfkdhaaGreatDoorYWB
set_option linter.unusedVariables false
set_option maxRecDepth 10000
namespace Go.Proofs.YthpjkenkbfkdhaaGreatDoor
open Go.UL Go.RowKit
/-! impl.TreeOK -/
abbrev impl_TreeOK.e1 (a0 : List Nd) (x7_1 : Int) := (((decide (24 ≤ x7_1)) || (!(nodeOK (gt a0 x7_1)))) || ((decide (0 < x7_1)) && (!(pathLess ((gt a0 (IntKind.wrap .i64 (x7_1 - 1))).path) ((gt a0 x7_1).path)))))
abbrev impl_TreeOK.e2 (a0 : List Nd) (x7_1 : Int) := ((decide (24 ≤ x7_1)) || (!(nodeOK (gt a0 x7_1))))
abbrev impl_TreeOK.e3 (a0 : List Nd) (x7_1 : Int) := ((!(impl_TreeOK.e2 a0 x7_1)) && (decide (0 < x7_1)))
abbrev impl_TreeOK.e4 (a0 : List Nd) (x7_1 : Int) := (pathLess ((gt a0 (IntKind.wrap .i64 (x7_1 - 1))).path) ((gt a0 x7_1).path))
theorem impl_TreeOK.walk {k : Nat} {w : World} {a0 : List Nd} (gv : GV 0 w) {v_a0 : Value} (f_a0 : Rd 4 encNd w v_a0 a0) {r : Bool} (H : impl_TreeOK.sh k a0 = some r) :
    Calls Tryz.prog 72 #[v_a0] w (Rt (RP w (.bool r))) := by
  unfold impl_TreeOK.sh at H
  refine calls_of_W Tryz.func72 rfl (Nat.le_of_ble_eq_true rfl) Tryz.ntmps72 rfl ?_
  refine W_seq <| W_reg <| L_op (.plain rfl) rfl (ltb rfl) (X_assign (v := (.bool false)) rfl) <| L_nil <| thn_n <| W_seq <| W_seq <| W_reg <| L_op (.plain rfl) rfl (ltb rfl) (X_move (v := v_a0) rfl) <| L_op (.plain rfl) rfl (ltb rfl) (X_lenR Tryz.underlying30 rfl f_a0) <| L_op (.plain rfl) rfl (ltb rfl) (X_move (v := (.int .i64 0)) rfl) <| L_nil <| thn_n ?_
  obtain ⟨z2, L3, C4⟩ := bind_some H
  clear H
  refine  W_cutQ (fun s0 sQ wQ => Kp [(2, 5), (7, 46)] s0 sQ ∧ Ext w wQ ∧ z2 = .inr ()) ?_ ?_
  · refine W_block <| W_loopI (fun s0 kk sQ wQ => ∃ (x7_1 : Int), Kp [(2, 5), (7, 46)] s0 sQ ∧ sQ 7 = .int .i64 x7_1 ∧ Ext w wQ ∧ loopF (impl_TreeOK.b1 a0) kk x7_1 = some z2) k ⟨0, (Kp.refl _ _), rfl, (Ext.refl w), L3⟩ ?_
    rintro k9 s10 w11 ⟨x7_1, K12, h15, e13, L14⟩
    cases k9 with
    | zero => exact absurd L14 (by simp [loopF])
    | succ k9 =>
      obtain ⟨t16, H, S17⟩ := loopF_succ L14
      clear L14
      unfold impl_TreeOK.b1 at H
      refine W_seq <| W_reg <| L_op (.plain rfl) rfl (ltb rfl) (X_lss h15 (K12 6 rfl)) <| L_nil <| thn_n <| W_seq ?_
      rcases bif_two H with ⟨q18, H⟩ | ⟨q18, H⟩
      · refine W_true (congrArg Value.bool q18) <| W_skip <| thn_n <| W_seq <| W_block <| W_seq <| W_reg <| L_op (.plain rfl) rfl (ltb rfl) (X_move (v := (.int .i64 x7_1)) h15) ?_
        obtain ⟨c19, H⟩ := bif_some H
        refine L_idx (.plain rfl) rfl (ltb rfl) rfl Tryz.underlying30 Tryz.sizeOf80 (K12 5 rfl) (Rd.ext f_a0 e13) h15 c19 <| fun p20 h21 => L_op (.plain rfl) rfl (ltb rfl) (X_loadS Tryz.isAgg80 Tryz.sizeOf80 rfl rfl h21) <| L_alloc (.plain rfl) rfl (ltb rfl) rfl Tryz.zeroValue80 <| fun b22 w23 z24 z25 e26 k27 => L_op (.plain rfl) rfl (ltb rfl) (X_assign (v := (.int .i64 x7_1)) rfl) <| L_storeA (.plain rfl) rfl rfl Tryz.sizeOf80 rfl rfl rfl rfl rfl k27 <| fun w28 h29 k30 => L_nil <| thn_n <| W_seq ?_
        obtain ⟨c33, H⟩ := bif_some H
        obtain ⟨c38, H⟩ := bif_some H
        obtain ⟨c41, H⟩ := bif_some H
        obtain ⟨c44, H⟩ := bif_some H
        refine W_drawM [LEq (.int .i64 x7_1), LEq (.bool (decide (24 ≤ x7_1))), LEq (.bool (decide (24 ≤ x7_1))), LIf (!(decide (24 ≤ x7_1))) (LEq (.agg #[(.int .i64 ((gt a0 x7_1).kind)), (S ((gt a0 x7_1).path)), (S ((gt a0 x7_1).body)), (.int .i64 ((gt a0 x7_1).mode))])), LIf (!(decide (24 ≤ x7_1))) (LEq (.bool (nodeOK (gt a0 x7_1)))), LIf (!(decide (24 ≤ x7_1))) (LEq (.bool (!(nodeOK (gt a0 x7_1))))), LEq (.bool (impl_TreeOK.e2 a0 x7_1)), LEq (.bool (impl_TreeOK.e2 a0 x7_1)), LIf (!(impl_TreeOK.e2 a0 x7_1)) (LEq (.int .i64 x7_1)), LIf (!(impl_TreeOK.e2 a0 x7_1)) (LEq (.bool (decide (0 < x7_1)))), LIf (!(impl_TreeOK.e2 a0 x7_1)) (LEq (.bool (decide (0 < x7_1)))), LIf (impl_TreeOK.e3 a0 x7_1) (LEq v_a0), LIf (impl_TreeOK.e3 a0 x7_1) (LEq (.int .i64 x7_1)), LIf (impl_TreeOK.e3 a0 x7_1) (LEq (.int .i64 (IntKind.wrap .i64 (x7_1 - 1)))), LIf (impl_TreeOK.e3 a0 x7_1) (LAt0 (encNd (gt a0 (IntKind.wrap .i64 (x7_1 - 1))))), LIf (impl_TreeOK.e3 a0 x7_1) (LAt 1 (encNd (gt a0 (IntKind.wrap .i64 (x7_1 - 1))))), LIf (impl_TreeOK.e3 a0 x7_1) (LEq (S ((gt a0 (IntKind.wrap .i64 (x7_1 - 1))).path))), LIf (impl_TreeOK.e3 a0 x7_1) (LEq (.pointer (some ⟨b22, 1, none⟩))), LIf (impl_TreeOK.e3 a0 x7_1) (LEq (S ((gt a0 x7_1).path))), LIf (impl_TreeOK.e3 a0 x7_1) (LEq (.bool (impl_TreeOK.e4 a0 x7_1))), LIf (impl_TreeOK.e3 a0 x7_1) (LEq (.bool (!(impl_TreeOK.e4 a0 x7_1)))), LIf (!(impl_TreeOK.e2 a0 x7_1)) (LEq (.bool ((decide (0 < x7_1)) && (!(impl_TreeOK.e4 a0 x7_1))))), LEq (.bool (impl_TreeOK.e1 a0 x7_1)), LEq (.bool (impl_TreeOK.e1 a0 x7_1)), LIf (!(impl_TreeOK.e1 a0 x7_1)) (LEq v_a0), LIf (!(impl_TreeOK.e1 a0 x7_1)) (LEq (.int .i64 x7_1)), LIf (!(impl_TreeOK.e1 a0 x7_1)) (LRd 4 encNd (sub a0 0 x7_1)), LIf (!(impl_TreeOK.e1 a0 x7_1)) (LEq (.pointer (some ⟨b22, 1, none⟩))), LIf (!(impl_TreeOK.e1 a0 x7_1)) (LEq (S ((gt a0 x7_1).path))), LIf (!(impl_TreeOK.e1 a0 x7_1)) (LEq (S (parentP ((gt a0 x7_1).path)))), LIf (!(impl_TreeOK.e1 a0 x7_1)) (LEq (.bool (isDirN (sub a0 0 x7_1) (parentP ((gt a0 x7_1).path))))), LIf (!(impl_TreeOK.e1 a0 x7_1)) (LEq (.bool (!(isDirN (sub a0 0 x7_1) (parentP ((gt a0 x7_1).path)))))), LEq (.bool ((impl_TreeOK.e1 a0 x7_1) || (!(isDirN (sub a0 0 x7_1) (parentP ((gt a0 x7_1).path))))))] (by kernel_rfl) (by kernel_rfl) ⟨LEq.mono, LEq.mono, LEq.mono, (LIf.mono LEq.mono), (LIf.mono LEq.mono), (LIf.mono LEq.mono), LEq.mono, LEq.mono, (LIf.mono LEq.mono), (LIf.mono LEq.mono), (LIf.mono LEq.mono), (LIf.mono LEq.mono), (LIf.mono LEq.mono), (LIf.mono LEq.mono), (LIf.mono LAt0.mono), (LIf.mono LAt.mono), (LIf.mono LEq.mono), (LIf.mono LEq.mono), (LIf.mono LEq.mono), (LIf.mono LEq.mono), (LIf.mono LEq.mono), (LIf.mono LEq.mono), LEq.mono, LEq.mono, (LIf.mono LEq.mono), (LIf.mono LEq.mono), (LIf.mono LRd.mono), (LIf.mono LEq.mono), (LIf.mono LEq.mono), (LIf.mono LEq.mono), (LIf.mono LEq.mono), (LIf.mono LEq.mono), LEq.mono, trivial⟩ ⟨?_, ?_, ?_, ?_, ?_, ?_, ?_, ?_, ?_, ?_, ?_, ?_, ?_, ?_, ?_, ?_, ?_, ?_, ?_, ?_, ?_, ?_, ?_, ?_, ?_, ?_, ?_, ?_, ?_, ?_, ?_, ?_, ?_, trivial⟩ ?_
        · intro s47 w48 e49 hf50 hd51 hu52
          exact L_op (.plain rfl) rfl (ltb rfl) (X_move (v := (.int .i64 x7_1)) (hf50 3 rfl)) <| L_nil <| stepEnd rfl rfl (Ext.refl w48) rfl
        · intro s53 w54 e55 hf56 hd57 hu58
          have d59 : s53 12 = (.int .i64 x7_1) := (hd57 0 rfl)
          exact L_op (.plain rfl) rfl (ltb rfl) (X_geq d59 rfl) <| L_nil <| stepEnd rfl rfl (Ext.refl w54) rfl
        · intro s60 w61 e62 hf63 hd64 hu65
          have d66 : s60 13 = (.bool (decide (24 ≤ x7_1))) := (hd64 1 rfl)
          exact L_op (.plain rfl) rfl (ltb rfl) (X_move (v := (.bool (decide (24 ≤ x7_1)))) d66) <| L_nil <| stepEnd rfl rfl (Ext.refl w61) rfl
        · intro s67 w68 e69 hf70 hd71 hu72
          rcases bool_two (!(decide (24 ≤ x7_1))) with b73 | b73
          · have g74 : (decide (24 ≤ x7_1)) = false := (not_f b73)
            have d75 : s67 14 = (.bool (decide (24 ≤ x7_1))) := (hd71 2 rfl)
            have d76 : s67 14 = (.bool (decide (24 ≤ x7_1))) := (hd71 2 rfl)
            exact L_op (.guard 2 false 14 rfl rfl (ltb rfl) (d75.trans (congrArg Value.bool g74))) rfl (ltb rfl) (X_loadS Tryz.isAgg80 Tryz.sizeOf80 rfl (hf70 4 rfl) (Blk.at0 (Blk.ext k30 e69))) <| L_nil <| stepEnd rfl rfl (Ext.refl w68) ⟨fun _ => rfl, fun h => absurd (b73.symm.trans h) (by decide)⟩
          · have d77 : s67 14 = (.bool (decide (24 ≤ x7_1))) := (hd71 2 rfl)
            have g78 : (decide (24 ≤ x7_1)) = true := (not_ff b73)
            exact L_skip rfl rfl (ltb rfl) (d77.trans (congrArg Value.bool g78)) rfl rfl (ltb rfl) <| L_nil <| stepEnd rfl rfl (Ext.refl w68) ⟨fun h => absurd (b73.symm.trans h) (by decide), fun _ => rfl⟩
        · intro s79 w80 e81 hf82 hd83 hu84
          rcases bool_two (!(decide (24 ≤ x7_1))) with b85 | b85
          · have g86 : (decide (24 ≤ x7_1)) = false := (not_f b85)
            have d87 : s79 14 = (.bool (decide (24 ≤ x7_1))) := (hd83 2 rfl)
            have d88 : s79 14 = (.bool (decide (24 ≤ x7_1))) := (hd83 2 rfl)
            have d89 : s79 15 = (.agg #[(.int .i64 ((gt a0 x7_1).kind)), (S ((gt a0 x7_1).path)), (S ((gt a0 x7_1).body)), (.int .i64 ((gt a0 x7_1).mode))]) := ((hd83 3 rfl).1 (not_mk (not_f b85)))
            exact L_callP (.guard 2 false 14 rfl rfl (ltb rfl) (d87.trans (congrArg Value.bool g86))) rfl (ltb rfl) rfl Tryz.call117 (impl_nodeOK.calls (w := w80) (a0 := (gt a0 x7_1)) (GV.ext gv (Ext.trans (Ext.trans e13 (Below.trans e26 (Wr.below h29 (Nat.le_of_eq z24)))) e81))) (cons2 d89 rfl) <| fun w90 e91 => L_nil <| stepEnd rfl rfl e91 ⟨fun _ => rfl, fun h => absurd (b85.symm.trans h) (by decide)⟩
          · have d92 : s79 14 = (.bool (decide (24 ≤ x7_1))) := (hd83 2 rfl)
            have g93 : (decide (24 ≤ x7_1)) = true := (not_ff b85)
            exact L_skip rfl rfl (ltb rfl) (d92.trans (congrArg Value.bool g93)) rfl rfl (ltb rfl) <| L_nil <| stepEnd rfl rfl (Ext.refl w80) ⟨fun h => absurd (b85.symm.trans h) (by decide), fun _ => rfl⟩
        · intro s94 w95 e96 hf97 hd98 hu99
          rcases bool_two (!(decide (24 ≤ x7_1))) with b100 | b100
          · have g101 : (decide (24 ≤ x7_1)) = false := (not_f b100)
            have d102 : s94 14 = (.bool (decide (24 ≤ x7_1))) := (hd98 2 rfl)
            have d103 : s94 14 = (.bool (decide (24 ≤ x7_1))) := (hd98 2 rfl)
            have d104 : s94 16 = (.bool (nodeOK (gt a0 x7_1))) := ((hd98 4 rfl).1 (not_mk (not_f b100)))
            exact L_op (.guard 2 false 14 rfl rfl (ltb rfl) (d102.trans (congrArg Value.bool g101))) rfl (ltb rfl) (X_not d104) <| L_nil <| stepEnd rfl rfl (Ext.refl w95) ⟨fun _ => rfl, fun h => absurd (b100.symm.trans h) (by decide)⟩
          · have d105 : s94 14 = (.bool (decide (24 ≤ x7_1))) := (hd98 2 rfl)
            have g106 : (decide (24 ≤ x7_1)) = true := (not_ff b100)
            exact L_skip rfl rfl (ltb rfl) (d105.trans (congrArg Value.bool g106)) rfl rfl (ltb rfl) <| L_nil <| stepEnd rfl rfl (Ext.refl w95) ⟨fun h => absurd (b100.symm.trans h) (by decide), fun _ => rfl⟩
        · intro s107 w108 e109 hf110 hd111 hu112
          rcases bool_two (decide (24 ≤ x7_1)) with b113 | b113
          · have d114 : s107 14 = (.bool (decide (24 ≤ x7_1))) := (hd111 2 rfl)
            exact L_op (.plain rfl) rfl (ltb rfl) (X_pick (b := true) (v := (.bool true)) (d114.trans (congrArg Value.bool b113)) rfl) <| L_nil <| stepEnd rfl rfl (Ext.refl w108) (or_t b113)
          · have d115 : s107 14 = (.bool (decide (24 ≤ x7_1))) := (hd111 2 rfl)
            have d116 : s107 17 = (.bool (!(nodeOK (gt a0 x7_1)))) := ((hd111 5 rfl).1 (not_mk b113))
            exact L_op (.plain rfl) rfl (ltb rfl) (X_pick (b := false) (v := (.bool (!(nodeOK (gt a0 x7_1))))) (d115.trans (congrArg Value.bool b113)) d116) <| L_nil <| stepEnd rfl rfl (Ext.refl w108) (or_f b113)
        · intro s117 w118 e119 hf120 hd121 hu122
          have d123 : s117 18 = (.bool (impl_TreeOK.e2 a0 x7_1)) := (hd121 6 rfl)
          exact L_op (.plain rfl) rfl (ltb rfl) (X_move (v := (.bool (impl_TreeOK.e2 a0 x7_1))) d123) <| L_nil <| stepEnd rfl rfl (Ext.refl w118) rfl
        · intro s124 w125 e126 hf127 hd128 hu129
          rcases bool_two (!(impl_TreeOK.e2 a0 x7_1)) with b130 | b130
          · have g131 : (impl_TreeOK.e2 a0 x7_1) = false := (not_f b130)
            have d132 : s124 19 = (.bool (impl_TreeOK.e2 a0 x7_1)) := (hd128 7 rfl)
            have d133 : s124 19 = (.bool (impl_TreeOK.e2 a0 x7_1)) := (hd128 7 rfl)
            exact L_op (.guard 7 false 19 rfl rfl (ltb rfl) (d132.trans (congrArg Value.bool g131))) rfl (ltb rfl) (X_move (v := (.int .i64 x7_1)) (hf127 3 rfl)) <| L_nil <| stepEnd rfl rfl (Ext.refl w125) ⟨fun _ => rfl, fun h => absurd (b130.symm.trans h) (by decide)⟩
          · have d134 : s124 19 = (.bool (impl_TreeOK.e2 a0 x7_1)) := (hd128 7 rfl)
            have g135 : (impl_TreeOK.e2 a0 x7_1) = true := (not_ff b130)
            exact L_skip rfl rfl (ltb rfl) (d134.trans (congrArg Value.bool g135)) rfl rfl (ltb rfl) <| L_nil <| stepEnd rfl rfl (Ext.refl w125) ⟨fun h => absurd (b130.symm.trans h) (by decide), fun _ => rfl⟩
        · intro s136 w137 e138 hf139 hd140 hu141
          rcases bool_two (!(impl_TreeOK.e2 a0 x7_1)) with b142 | b142
          · have g143 : (impl_TreeOK.e2 a0 x7_1) = false := (not_f b142)
            have d144 : s136 19 = (.bool (impl_TreeOK.e2 a0 x7_1)) := (hd140 7 rfl)
            have d145 : s136 19 = (.bool (impl_TreeOK.e2 a0 x7_1)) := (hd140 7 rfl)
            have d146 : s136 20 = (.int .i64 x7_1) := ((hd140 8 rfl).1 (not_mk (not_f b142)))
            exact L_op (.guard 7 false 19 rfl rfl (ltb rfl) (d144.trans (congrArg Value.bool g143))) rfl (ltb rfl) (X_gtr d146 rfl) <| L_nil <| stepEnd rfl rfl (Ext.refl w137) ⟨fun _ => rfl, fun h => absurd (b142.symm.trans h) (by decide)⟩
          · have d147 : s136 19 = (.bool (impl_TreeOK.e2 a0 x7_1)) := (hd140 7 rfl)
            have g148 : (impl_TreeOK.e2 a0 x7_1) = true := (not_ff b142)
            exact L_skip rfl rfl (ltb rfl) (d147.trans (congrArg Value.bool g148)) rfl rfl (ltb rfl) <| L_nil <| stepEnd rfl rfl (Ext.refl w137) ⟨fun h => absurd (b142.symm.trans h) (by decide), fun _ => rfl⟩
        · intro s149 w150 e151 hf152 hd153 hu154
          rcases bool_two (!(impl_TreeOK.e2 a0 x7_1)) with b155 | b155
          · have g156 : (impl_TreeOK.e2 a0 x7_1) = false := (not_f b155)
            have d157 : s149 19 = (.bool (impl_TreeOK.e2 a0 x7_1)) := (hd153 7 rfl)
            have d158 : s149 19 = (.bool (impl_TreeOK.e2 a0 x7_1)) := (hd153 7 rfl)
            have d159 : s149 21 = (.bool (decide (0 < x7_1))) := ((hd153 9 rfl).1 (not_mk (not_f b155)))
            exact L_op (.guard 7 false 19 rfl rfl (ltb rfl) (d157.trans (congrArg Value.bool g156))) rfl (ltb rfl) (X_move (v := (.bool (decide (0 < x7_1)))) d159) <| L_nil <| stepEnd rfl rfl (Ext.refl w150) ⟨fun _ => rfl, fun h => absurd (b155.symm.trans h) (by decide)⟩
          · have d160 : s149 19 = (.bool (impl_TreeOK.e2 a0 x7_1)) := (hd153 7 rfl)
            have g161 : (impl_TreeOK.e2 a0 x7_1) = true := (not_ff b155)
            exact L_skip rfl rfl (ltb rfl) (d160.trans (congrArg Value.bool g161)) rfl rfl (ltb rfl) <| L_nil <| stepEnd rfl rfl (Ext.refl w150) ⟨fun h => absurd (b155.symm.trans h) (by decide), fun _ => rfl⟩
        · intro s162 w163 e164 hf165 hd166 hu167
          rcases bool_two (impl_TreeOK.e3 a0 x7_1) with b168 | b168
          · have g169 : (decide (0 < x7_1)) = true := (and_r b168)
            have d170 : s162 22 = (.bool (decide (0 < x7_1))) := ((hd166 10 rfl).1 (not_mk (not_f (and_l b168))))
            have d171 : s162 22 = (.bool (decide (0 < x7_1))) := ((hd166 10 rfl).1 (not_mk (not_f (and_l b168))))
            exact L_op (.guard 10 true 22 rfl rfl (ltb rfl) (d170.trans (congrArg Value.bool g169))) rfl (ltb rfl) (X_move (v := v_a0) ((hf165 0 rfl).trans (K12 0 rfl))) <| L_nil <| stepEnd rfl rfl (Ext.refl w163) ⟨fun _ => rfl, fun h => absurd (b168.symm.trans h) (by decide)⟩
          · rcases bool_two (!(impl_TreeOK.e2 a0 x7_1)) with b172 | b172
            · have d173 : s162 22 = (.bool (decide (0 < x7_1))) := ((hd166 10 rfl).1 (not_mk (not_f b172)))
              have g174 : (decide (0 < x7_1)) = false := (and_fr b168 b172)
              exact L_skip rfl rfl (ltb rfl) (d173.trans (congrArg Value.bool g174)) rfl rfl (ltb rfl) <| L_nil <| stepEnd rfl rfl (Ext.refl w163) ⟨fun h => absurd (b168.symm.trans h) (by decide), fun _ => rfl⟩
            · exact L_skipU rfl rfl (ltb rfl) ((hd166 10 rfl).2 b172) rfl (ltb rfl) <| L_nil <| stepEnd rfl rfl (Ext.refl w163) ⟨fun h => absurd (b168.symm.trans h) (by decide), fun _ => rfl⟩
        · intro s175 w176 e177 hf178 hd179 hu180
          rcases bool_two (impl_TreeOK.e3 a0 x7_1) with b181 | b181
          · have g182 : (decide (0 < x7_1)) = true := (and_r b181)
            have d183 : s175 22 = (.bool (decide (0 < x7_1))) := ((hd179 10 rfl).1 (not_mk (not_f (and_l b181))))
            have d184 : s175 22 = (.bool (decide (0 < x7_1))) := ((hd179 10 rfl).1 (not_mk (not_f (and_l b181))))
            exact L_op (.guard 10 true 22 rfl rfl (ltb rfl) (d183.trans (congrArg Value.bool g182))) rfl (ltb rfl) (X_move (v := (.int .i64 x7_1)) (hf178 3 rfl)) <| L_nil <| stepEnd rfl rfl (Ext.refl w176) ⟨fun _ => rfl, fun h => absurd (b181.symm.trans h) (by decide)⟩
          · rcases bool_two (!(impl_TreeOK.e2 a0 x7_1)) with b185 | b185
            · have d186 : s175 22 = (.bool (decide (0 < x7_1))) := ((hd179 10 rfl).1 (not_mk (not_f b185)))
              have g187 : (decide (0 < x7_1)) = false := (and_fr b181 b185)
              exact L_skip rfl rfl (ltb rfl) (d186.trans (congrArg Value.bool g187)) rfl rfl (ltb rfl) <| L_nil <| stepEnd rfl rfl (Ext.refl w176) ⟨fun h => absurd (b181.symm.trans h) (by decide), fun _ => rfl⟩
            · exact L_skipU rfl rfl (ltb rfl) ((hd179 10 rfl).2 b185) rfl (ltb rfl) <| L_nil <| stepEnd rfl rfl (Ext.refl w176) ⟨fun h => absurd (b181.symm.trans h) (by decide), fun _ => rfl⟩
        · intro s188 w189 e190 hf191 hd192 hu193
          rcases bool_two (impl_TreeOK.e3 a0 x7_1) with b194 | b194
          · have g195 : (decide (0 < x7_1)) = true := (and_r b194)
            have d196 : s188 22 = (.bool (decide (0 < x7_1))) := ((hd192 10 rfl).1 (not_mk (not_f (and_l b194))))
            have d197 : s188 22 = (.bool (decide (0 < x7_1))) := ((hd192 10 rfl).1 (not_mk (not_f (and_l b194))))
            have d198 : s188 24 = (.int .i64 x7_1) := ((hd192 12 rfl).1 (and_mk (not_mk (not_f (and_l b194))) (and_r b194)))
            exact L_op (.guard 10 true 22 rfl rfl (ltb rfl) (d196.trans (congrArg Value.bool g195))) rfl (ltb rfl) (X_sub d198 rfl) <| L_nil <| stepEnd rfl rfl (Ext.refl w189) ⟨fun _ => rfl, fun h => absurd (b194.symm.trans h) (by decide)⟩
          · rcases bool_two (!(impl_TreeOK.e2 a0 x7_1)) with b199 | b199
            · have d200 : s188 22 = (.bool (decide (0 < x7_1))) := ((hd192 10 rfl).1 (not_mk (not_f b199)))
              have g201 : (decide (0 < x7_1)) = false := (and_fr b194 b199)
              exact L_skip rfl rfl (ltb rfl) (d200.trans (congrArg Value.bool g201)) rfl rfl (ltb rfl) <| L_nil <| stepEnd rfl rfl (Ext.refl w189) ⟨fun h => absurd (b194.symm.trans h) (by decide), fun _ => rfl⟩
            · exact L_skipU rfl rfl (ltb rfl) ((hd192 10 rfl).2 b199) rfl (ltb rfl) <| L_nil <| stepEnd rfl rfl (Ext.refl w189) ⟨fun h => absurd (b194.symm.trans h) (by decide), fun _ => rfl⟩
        · intro s202 w203 e204 hf205 hd206 hu207
          rcases bool_two (impl_TreeOK.e3 a0 x7_1) with b208 | b208
          · have g209 : (decide (0 < x7_1)) = true := (and_r b208)
            have d210 : s202 22 = (.bool (decide (0 < x7_1))) := ((hd206 10 rfl).1 (not_mk (not_f (and_l b208))))
            have d211 : s202 22 = (.bool (decide (0 < x7_1))) := ((hd206 10 rfl).1 (not_mk (not_f (and_l b208))))
            have d212 : s202 23 = v_a0 := ((hd206 11 rfl).1 (and_mk (not_mk (not_f (and_l b208))) (and_r b208)))
            have d213 : s202 25 = (.int .i64 (IntKind.wrap .i64 (x7_1 - 1))) := ((hd206 13 rfl).1 (and_mk (not_mk (not_f (and_l b208))) (and_r b208)))
            have c214 := imp_take b208 c33
            exact L_idx (.guard 10 true 22 rfl rfl (ltb rfl) (d210.trans (congrArg Value.bool g209))) rfl (ltb rfl) rfl Tryz.underlying30 Tryz.sizeOf80 d212 (Rd.ext f_a0 (Ext.trans (Ext.trans e13 (Below.trans e26 (Wr.below h29 (Nat.le_of_eq z24)))) e204)) d213 c214 <| fun p215 h216 => L_nil <| stepEnd rfl rfl (Ext.refl w203) ⟨fun _ => ⟨_, rfl, h216⟩, fun h => absurd (b208.symm.trans h) (by decide)⟩
          · rcases bool_two (!(impl_TreeOK.e2 a0 x7_1)) with b217 | b217
            · have d218 : s202 22 = (.bool (decide (0 < x7_1))) := ((hd206 10 rfl).1 (not_mk (not_f b217)))
              have g219 : (decide (0 < x7_1)) = false := (and_fr b208 b217)
              exact L_skip rfl rfl (ltb rfl) (d218.trans (congrArg Value.bool g219)) rfl rfl (ltb rfl) <| L_nil <| stepEnd rfl rfl (Ext.refl w203) ⟨fun h => absurd (b208.symm.trans h) (by decide), fun _ => rfl⟩
            · exact L_skipU rfl rfl (ltb rfl) ((hd206 10 rfl).2 b217) rfl (ltb rfl) <| L_nil <| stepEnd rfl rfl (Ext.refl w203) ⟨fun h => absurd (b208.symm.trans h) (by decide), fun _ => rfl⟩
        · intro s220 w221 e222 hf223 hd224 hu225
          rcases bool_two (impl_TreeOK.e3 a0 x7_1) with b226 | b226
          · have g227 : (decide (0 < x7_1)) = true := (and_r b226)
            have d228 : s220 22 = (.bool (decide (0 < x7_1))) := ((hd224 10 rfl).1 (not_mk (not_f (and_l b226))))
            have d229 : s220 22 = (.bool (decide (0 < x7_1))) := ((hd224 10 rfl).1 (not_mk (not_f (and_l b226))))
            obtain ⟨p230, h231, h232⟩ := ((hd224 14 rfl).1 (and_mk (not_mk (not_f (and_l b226))) (and_r b226)))
            exact L_op (.guard 10 true 22 rfl rfl (ltb rfl) (d228.trans (congrArg Value.bool g227))) rfl (ltb rfl) (X_fieldAddr Tryz.underlying80 rfl Tryz.sizeOf9 rfl h231) <| L_nil <| stepEnd rfl rfl (Ext.refl w221) ⟨fun _ => ⟨_, rfl, h232⟩, fun h => absurd (b226.symm.trans h) (by decide)⟩
          · rcases bool_two (!(impl_TreeOK.e2 a0 x7_1)) with b233 | b233
            · have d234 : s220 22 = (.bool (decide (0 < x7_1))) := ((hd224 10 rfl).1 (not_mk (not_f b233)))
              have g235 : (decide (0 < x7_1)) = false := (and_fr b226 b233)
              exact L_skip rfl rfl (ltb rfl) (d234.trans (congrArg Value.bool g235)) rfl rfl (ltb rfl) <| L_nil <| stepEnd rfl rfl (Ext.refl w221) ⟨fun h => absurd (b226.symm.trans h) (by decide), fun _ => rfl⟩
            · exact L_skipU rfl rfl (ltb rfl) ((hd224 10 rfl).2 b233) rfl (ltb rfl) <| L_nil <| stepEnd rfl rfl (Ext.refl w221) ⟨fun h => absurd (b226.symm.trans h) (by decide), fun _ => rfl⟩
        · intro s236 w237 e238 hf239 hd240 hu241
          rcases bool_two (impl_TreeOK.e3 a0 x7_1) with b242 | b242
          · have g243 : (decide (0 < x7_1)) = true := (and_r b242)
            have d244 : s236 22 = (.bool (decide (0 < x7_1))) := ((hd240 10 rfl).1 (not_mk (not_f (and_l b242))))
            have d245 : s236 22 = (.bool (decide (0 < x7_1))) := ((hd240 10 rfl).1 (not_mk (not_f (and_l b242))))
            obtain ⟨p246, h247, h248⟩ := ((hd240 15 rfl).1 (and_mk (not_mk (not_f (and_l b242))) (and_r b242)))
            exact L_op (.guard 10 true 22 rfl rfl (ltb rfl) (d244.trans (congrArg Value.bool g243))) rfl (ltb rfl) (X_loadF Tryz.isAgg9 (j := 1) h248 h247 rfl) <| L_nil <| stepEnd rfl rfl (Ext.refl w237) ⟨fun _ => rfl, fun h => absurd (b242.symm.trans h) (by decide)⟩
          · rcases bool_two (!(impl_TreeOK.e2 a0 x7_1)) with b249 | b249
            · have d250 : s236 22 = (.bool (decide (0 < x7_1))) := ((hd240 10 rfl).1 (not_mk (not_f b249)))
              have g251 : (decide (0 < x7_1)) = false := (and_fr b242 b249)
              exact L_skip rfl rfl (ltb rfl) (d250.trans (congrArg Value.bool g251)) rfl rfl (ltb rfl) <| L_nil <| stepEnd rfl rfl (Ext.refl w237) ⟨fun h => absurd (b242.symm.trans h) (by decide), fun _ => rfl⟩
            · exact L_skipU rfl rfl (ltb rfl) ((hd240 10 rfl).2 b249) rfl (ltb rfl) <| L_nil <| stepEnd rfl rfl (Ext.refl w237) ⟨fun h => absurd (b242.symm.trans h) (by decide), fun _ => rfl⟩
        · intro s252 w253 e254 hf255 hd256 hu257
          rcases bool_two (impl_TreeOK.e3 a0 x7_1) with b258 | b258
          · have g259 : (decide (0 < x7_1)) = true := (and_r b258)
            have d260 : s252 22 = (.bool (decide (0 < x7_1))) := ((hd256 10 rfl).1 (not_mk (not_f (and_l b258))))
            have d261 : s252 22 = (.bool (decide (0 < x7_1))) := ((hd256 10 rfl).1 (not_mk (not_f (and_l b258))))
            exact L_op (.guard 10 true 22 rfl rfl (ltb rfl) (d260.trans (congrArg Value.bool g259))) rfl (ltb rfl) (X_fieldAddr Tryz.underlying80 rfl Tryz.sizeOf9 rfl (hf255 4 rfl)) <| L_nil <| stepEnd rfl rfl (Ext.refl w253) ⟨fun _ => rfl, fun h => absurd (b258.symm.trans h) (by decide)⟩
          · rcases bool_two (!(impl_TreeOK.e2 a0 x7_1)) with b262 | b262
            · have d263 : s252 22 = (.bool (decide (0 < x7_1))) := ((hd256 10 rfl).1 (not_mk (not_f b262)))
              have g264 : (decide (0 < x7_1)) = false := (and_fr b258 b262)
              exact L_skip rfl rfl (ltb rfl) (d263.trans (congrArg Value.bool g264)) rfl rfl (ltb rfl) <| L_nil <| stepEnd rfl rfl (Ext.refl w253) ⟨fun h => absurd (b258.symm.trans h) (by decide), fun _ => rfl⟩
            · exact L_skipU rfl rfl (ltb rfl) ((hd256 10 rfl).2 b262) rfl (ltb rfl) <| L_nil <| stepEnd rfl rfl (Ext.refl w253) ⟨fun h => absurd (b258.symm.trans h) (by decide), fun _ => rfl⟩
        · intro s265 w266 e267 hf268 hd269 hu270
          rcases bool_two (impl_TreeOK.e3 a0 x7_1) with b271 | b271
          · have g272 : (decide (0 < x7_1)) = true := (and_r b271)
            have d273 : s265 22 = (.bool (decide (0 < x7_1))) := ((hd269 10 rfl).1 (not_mk (not_f (and_l b271))))
            have d274 : s265 22 = (.bool (decide (0 < x7_1))) := ((hd269 10 rfl).1 (not_mk (not_f (and_l b271))))
            have d275 : s265 29 = (.pointer (some ⟨b22, 1, none⟩)) := ((hd269 17 rfl).1 (and_mk (not_mk (not_f (and_l b271))) (and_r b271)))
            exact L_op (.guard 10 true 22 rfl rfl (ltb rfl) (d273.trans (congrArg Value.bool g272))) rfl (ltb rfl) (X_loadB Tryz.isAgg9 (Blk.ext k30 e267) d275 rfl) <| L_nil <| stepEnd rfl rfl (Ext.refl w266) ⟨fun _ => rfl, fun h => absurd (b271.symm.trans h) (by decide)⟩
          · rcases bool_two (!(impl_TreeOK.e2 a0 x7_1)) with b276 | b276
            · have d277 : s265 22 = (.bool (decide (0 < x7_1))) := ((hd269 10 rfl).1 (not_mk (not_f b276)))
              have g278 : (decide (0 < x7_1)) = false := (and_fr b271 b276)
              exact L_skip rfl rfl (ltb rfl) (d277.trans (congrArg Value.bool g278)) rfl rfl (ltb rfl) <| L_nil <| stepEnd rfl rfl (Ext.refl w266) ⟨fun h => absurd (b271.symm.trans h) (by decide), fun _ => rfl⟩
            · exact L_skipU rfl rfl (ltb rfl) ((hd269 10 rfl).2 b276) rfl (ltb rfl) <| L_nil <| stepEnd rfl rfl (Ext.refl w266) ⟨fun h => absurd (b271.symm.trans h) (by decide), fun _ => rfl⟩
        · intro s279 w280 e281 hf282 hd283 hu284
          rcases bool_two (impl_TreeOK.e3 a0 x7_1) with b285 | b285
          · have g286 : (decide (0 < x7_1)) = true := (and_r b285)
            have d287 : s279 22 = (.bool (decide (0 < x7_1))) := ((hd283 10 rfl).1 (not_mk (not_f (and_l b285))))
            have d288 : s279 22 = (.bool (decide (0 < x7_1))) := ((hd283 10 rfl).1 (not_mk (not_f (and_l b285))))
            have d289 : s279 28 = (S ((gt a0 (IntKind.wrap .i64 (x7_1 - 1))).path)) := ((hd283 16 rfl).1 (and_mk (not_mk (not_f (and_l b285))) (and_r b285)))
            have d290 : s279 30 = (S ((gt a0 x7_1).path)) := ((hd283 18 rfl).1 (and_mk (not_mk (not_f (and_l b285))) (and_r b285)))
            exact L_callP (.guard 10 true 22 rfl rfl (ltb rfl) (d287.trans (congrArg Value.bool g286))) rfl (ltb rfl) rfl Tryz.call118 (impl_PathLess.calls (w := w280) (a0 := (gt a0 (IntKind.wrap .i64 (x7_1 - 1))).path) (a1 := (gt a0 x7_1).path) (GV.ext gv (Ext.trans (Ext.trans e13 (Below.trans e26 (Wr.below h29 (Nat.le_of_eq z24)))) e281))) (cons2 d289 (cons2 d290 rfl)) <| fun w291 e292 => L_nil <| stepEnd rfl rfl e292 ⟨fun _ => rfl, fun h => absurd (b285.symm.trans h) (by decide)⟩
          · rcases bool_two (!(impl_TreeOK.e2 a0 x7_1)) with b293 | b293
            · have d294 : s279 22 = (.bool (decide (0 < x7_1))) := ((hd283 10 rfl).1 (not_mk (not_f b293)))
              have g295 : (decide (0 < x7_1)) = false := (and_fr b285 b293)
              exact L_skip rfl rfl (ltb rfl) (d294.trans (congrArg Value.bool g295)) rfl rfl (ltb rfl) <| L_nil <| stepEnd rfl rfl (Ext.refl w280) ⟨fun h => absurd (b285.symm.trans h) (by decide), fun _ => rfl⟩
            · exact L_skipU rfl rfl (ltb rfl) ((hd283 10 rfl).2 b293) rfl (ltb rfl) <| L_nil <| stepEnd rfl rfl (Ext.refl w280) ⟨fun h => absurd (b285.symm.trans h) (by decide), fun _ => rfl⟩
        · intro s296 w297 e298 hf299 hd300 hu301
          rcases bool_two (impl_TreeOK.e3 a0 x7_1) with b302 | b302
          · have g303 : (decide (0 < x7_1)) = true := (and_r b302)
            have d304 : s296 22 = (.bool (decide (0 < x7_1))) := ((hd300 10 rfl).1 (not_mk (not_f (and_l b302))))
            have d305 : s296 22 = (.bool (decide (0 < x7_1))) := ((hd300 10 rfl).1 (not_mk (not_f (and_l b302))))
            have d306 : s296 31 = (.bool (impl_TreeOK.e4 a0 x7_1)) := ((hd300 19 rfl).1 (and_mk (not_mk (not_f (and_l b302))) (and_r b302)))
            exact L_op (.guard 10 true 22 rfl rfl (ltb rfl) (d304.trans (congrArg Value.bool g303))) rfl (ltb rfl) (X_not d306) <| L_nil <| stepEnd rfl rfl (Ext.refl w297) ⟨fun _ => rfl, fun h => absurd (b302.symm.trans h) (by decide)⟩
          · rcases bool_two (!(impl_TreeOK.e2 a0 x7_1)) with b307 | b307
            · have d308 : s296 22 = (.bool (decide (0 < x7_1))) := ((hd300 10 rfl).1 (not_mk (not_f b307)))
              have g309 : (decide (0 < x7_1)) = false := (and_fr b302 b307)
              exact L_skip rfl rfl (ltb rfl) (d308.trans (congrArg Value.bool g309)) rfl rfl (ltb rfl) <| L_nil <| stepEnd rfl rfl (Ext.refl w297) ⟨fun h => absurd (b302.symm.trans h) (by decide), fun _ => rfl⟩
            · exact L_skipU rfl rfl (ltb rfl) ((hd300 10 rfl).2 b307) rfl (ltb rfl) <| L_nil <| stepEnd rfl rfl (Ext.refl w297) ⟨fun h => absurd (b302.symm.trans h) (by decide), fun _ => rfl⟩
        · intro s310 w311 e312 hf313 hd314 hu315
          rcases bool_two (!(impl_TreeOK.e2 a0 x7_1)) with b316 | b316
          · have g317 : (impl_TreeOK.e2 a0 x7_1) = false := (not_f b316)
            have d318 : s310 19 = (.bool (impl_TreeOK.e2 a0 x7_1)) := (hd314 7 rfl)
            rcases bool_two (decide (0 < x7_1)) with b319 | b319
            · have d320 : s310 22 = (.bool (decide (0 < x7_1))) := ((hd314 10 rfl).1 (not_mk (not_f b316)))
              have d321 : s310 32 = (.bool (!(impl_TreeOK.e4 a0 x7_1))) := ((hd314 20 rfl).1 (and_mk (not_mk (not_f b316)) b319))
              exact L_op (.guard 7 false 19 rfl rfl (ltb rfl) (d318.trans (congrArg Value.bool g317))) rfl (ltb rfl) (X_pick (b := true) (v := (.bool (!(impl_TreeOK.e4 a0 x7_1)))) (d320.trans (congrArg Value.bool b319)) d321) <| L_nil <| stepEnd rfl rfl (Ext.refl w311) ⟨fun _ => (and_t b319), fun h => absurd (b316.symm.trans h) (by decide)⟩
            · have d322 : s310 22 = (.bool (decide (0 < x7_1))) := ((hd314 10 rfl).1 (not_mk (not_f b316)))
              exact L_op (.guard 7 false 19 rfl rfl (ltb rfl) (d318.trans (congrArg Value.bool g317))) rfl (ltb rfl) (X_pick (b := false) (v := (.bool false)) (d322.trans (congrArg Value.bool b319)) rfl) <| L_nil <| stepEnd rfl rfl (Ext.refl w311) ⟨fun _ => (and_f b319), fun h => absurd (b316.symm.trans h) (by decide)⟩
          · have d323 : s310 19 = (.bool (impl_TreeOK.e2 a0 x7_1)) := (hd314 7 rfl)
            have g324 : (impl_TreeOK.e2 a0 x7_1) = true := (not_ff b316)
            exact L_skip rfl rfl (ltb rfl) (d323.trans (congrArg Value.bool g324)) rfl rfl (ltb rfl) <| L_nil <| stepEnd rfl rfl (Ext.refl w311) ⟨fun h => absurd (b316.symm.trans h) (by decide), fun _ => rfl⟩
        · intro s325 w326 e327 hf328 hd329 hu330
          rcases bool_two (impl_TreeOK.e2 a0 x7_1) with b331 | b331
          · have d332 : s325 19 = (.bool (impl_TreeOK.e2 a0 x7_1)) := (hd329 7 rfl)
            exact L_op (.plain rfl) rfl (ltb rfl) (X_pick (b := true) (v := (.bool true)) (d332.trans (congrArg Value.bool b331)) rfl) <| L_nil <| stepEnd rfl rfl (Ext.refl w326) (or_t b331)
          · have d333 : s325 19 = (.bool (impl_TreeOK.e2 a0 x7_1)) := (hd329 7 rfl)
            have d334 : s325 33 = (.bool ((decide (0 < x7_1)) && (!(impl_TreeOK.e4 a0 x7_1)))) := ((hd329 21 rfl).1 (not_mk b331))
            exact L_op (.plain rfl) rfl (ltb rfl) (X_pick (b := false) (v := (.bool ((decide (0 < x7_1)) && (!(impl_TreeOK.e4 a0 x7_1))))) (d333.trans (congrArg Value.bool b331)) d334) <| L_nil <| stepEnd rfl rfl (Ext.refl w326) (or_f b331)
        · intro s335 w336 e337 hf338 hd339 hu340
          have d341 : s335 34 = (.bool (impl_TreeOK.e1 a0 x7_1)) := (hd339 22 rfl)
          exact L_op (.plain rfl) rfl (ltb rfl) (X_move d341) <| L_nil <| stepEnd rfl rfl (Ext.refl w336) rfl
        · intro s342 w343 e344 hf345 hd346 hu347
          rcases bool_two (!(impl_TreeOK.e1 a0 x7_1)) with b348 | b348
          · have g349 : (impl_TreeOK.e1 a0 x7_1) = false := (not_f b348)
            have d350 : s342 35 = (.bool (impl_TreeOK.e1 a0 x7_1)) := (hd346 23 rfl)
            have d351 : s342 35 = (.bool (impl_TreeOK.e1 a0 x7_1)) := (hd346 23 rfl)
            exact L_op (.guard 23 false 35 rfl rfl (ltb rfl) (d350.trans (congrArg Value.bool g349))) rfl (ltb rfl) (X_move (v := v_a0) ((hf345 0 rfl).trans (K12 0 rfl))) <| L_nil <| stepEnd rfl rfl (Ext.refl w343) ⟨fun _ => rfl, fun h => absurd (b348.symm.trans h) (by decide)⟩
          · have d352 : s342 35 = (.bool (impl_TreeOK.e1 a0 x7_1)) := (hd346 23 rfl)
            have g353 : (impl_TreeOK.e1 a0 x7_1) = true := (not_ff b348)
            exact L_skip rfl rfl (ltb rfl) (d352.trans (congrArg Value.bool g353)) rfl rfl (ltb rfl) <| L_nil <| stepEnd rfl rfl (Ext.refl w343) ⟨fun h => absurd (b348.symm.trans h) (by decide), fun _ => rfl⟩
        · intro s354 w355 e356 hf357 hd358 hu359
          rcases bool_two (!(impl_TreeOK.e1 a0 x7_1)) with b360 | b360
          · have g361 : (impl_TreeOK.e1 a0 x7_1) = false := (not_f b360)
            have d362 : s354 35 = (.bool (impl_TreeOK.e1 a0 x7_1)) := (hd358 23 rfl)
            have d363 : s354 35 = (.bool (impl_TreeOK.e1 a0 x7_1)) := (hd358 23 rfl)
            exact L_op (.guard 23 false 35 rfl rfl (ltb rfl) (d362.trans (congrArg Value.bool g361))) rfl (ltb rfl) (X_move (v := (.int .i64 x7_1)) (hf357 3 rfl)) <| L_nil <| stepEnd rfl rfl (Ext.refl w355) ⟨fun _ => rfl, fun h => absurd (b360.symm.trans h) (by decide)⟩
          · have d364 : s354 35 = (.bool (impl_TreeOK.e1 a0 x7_1)) := (hd358 23 rfl)
            have g365 : (impl_TreeOK.e1 a0 x7_1) = true := (not_ff b360)
            exact L_skip rfl rfl (ltb rfl) (d364.trans (congrArg Value.bool g365)) rfl rfl (ltb rfl) <| L_nil <| stepEnd rfl rfl (Ext.refl w355) ⟨fun h => absurd (b360.symm.trans h) (by decide), fun _ => rfl⟩
        · intro s366 w367 e368 hf369 hd370 hu371
          rcases bool_two (!(impl_TreeOK.e1 a0 x7_1)) with b372 | b372
          · have g373 : (impl_TreeOK.e1 a0 x7_1) = false := (not_f b372)
            have d374 : s366 35 = (.bool (impl_TreeOK.e1 a0 x7_1)) := (hd370 23 rfl)
            have d375 : s366 35 = (.bool (impl_TreeOK.e1 a0 x7_1)) := (hd370 23 rfl)
            have d376 : s366 36 = v_a0 := ((hd370 24 rfl).1 (not_mk (not_f b372)))
            have d377 : s366 37 = (.int .i64 x7_1) := ((hd370 25 rfl).1 (not_mk (not_f b372)))
            have c378 := imp_take b372 c38
            exact L_sub (.guard 23 false 35 rfl rfl (ltb rfl) (d374.trans (congrArg Value.bool g373))) rfl (ltb rfl) rfl Tryz.underlying30 Tryz.sizeOf80 d376 (Rd.ext f_a0 (Ext.trans (Ext.trans e13 (Below.trans e26 (Wr.below h29 (Nat.le_of_eq z24)))) e368)) (l := 0) (h := x7_1) rfl ⟨_, d377⟩ c378 <| fun v379 h380 => L_nil <| stepEnd rfl rfl (Ext.refl w367) ⟨fun _ => h380, fun h => absurd (b372.symm.trans h) (by decide)⟩
          · have d381 : s366 35 = (.bool (impl_TreeOK.e1 a0 x7_1)) := (hd370 23 rfl)
            have g382 : (impl_TreeOK.e1 a0 x7_1) = true := (not_ff b372)
            exact L_skip rfl rfl (ltb rfl) (d381.trans (congrArg Value.bool g382)) rfl rfl (ltb rfl) <| L_nil <| stepEnd rfl rfl (Ext.refl w367) ⟨fun h => absurd (b372.symm.trans h) (by decide), fun _ => rfl⟩
        · intro s383 w384 e385 hf386 hd387 hu388
          rcases bool_two (!(impl_TreeOK.e1 a0 x7_1)) with b389 | b389
          · have g390 : (impl_TreeOK.e1 a0 x7_1) = false := (not_f b389)
            have d391 : s383 35 = (.bool (impl_TreeOK.e1 a0 x7_1)) := (hd387 23 rfl)
            have d392 : s383 35 = (.bool (impl_TreeOK.e1 a0 x7_1)) := (hd387 23 rfl)
            exact L_op (.guard 23 false 35 rfl rfl (ltb rfl) (d391.trans (congrArg Value.bool g390))) rfl (ltb rfl) (X_fieldAddr Tryz.underlying80 rfl Tryz.sizeOf9 rfl (hf386 4 rfl)) <| L_nil <| stepEnd rfl rfl (Ext.refl w384) ⟨fun _ => rfl, fun h => absurd (b389.symm.trans h) (by decide)⟩
          · have d393 : s383 35 = (.bool (impl_TreeOK.e1 a0 x7_1)) := (hd387 23 rfl)
            have g394 : (impl_TreeOK.e1 a0 x7_1) = true := (not_ff b389)
            exact L_skip rfl rfl (ltb rfl) (d393.trans (congrArg Value.bool g394)) rfl rfl (ltb rfl) <| L_nil <| stepEnd rfl rfl (Ext.refl w384) ⟨fun h => absurd (b389.symm.trans h) (by decide), fun _ => rfl⟩
        · intro s395 w396 e397 hf398 hd399 hu400
          rcases bool_two (!(impl_TreeOK.e1 a0 x7_1)) with b401 | b401
          · have g402 : (impl_TreeOK.e1 a0 x7_1) = false := (not_f b401)
            have d403 : s395 35 = (.bool (impl_TreeOK.e1 a0 x7_1)) := (hd399 23 rfl)
            have d404 : s395 35 = (.bool (impl_TreeOK.e1 a0 x7_1)) := (hd399 23 rfl)
            have d405 : s395 39 = (.pointer (some ⟨b22, 1, none⟩)) := ((hd399 27 rfl).1 (not_mk (not_f b401)))
            exact L_op (.guard 23 false 35 rfl rfl (ltb rfl) (d403.trans (congrArg Value.bool g402))) rfl (ltb rfl) (X_loadB Tryz.isAgg9 (Blk.ext k30 e397) d405 rfl) <| L_nil <| stepEnd rfl rfl (Ext.refl w396) ⟨fun _ => rfl, fun h => absurd (b401.symm.trans h) (by decide)⟩
          · have d406 : s395 35 = (.bool (impl_TreeOK.e1 a0 x7_1)) := (hd399 23 rfl)
            have g407 : (impl_TreeOK.e1 a0 x7_1) = true := (not_ff b401)
            exact L_skip rfl rfl (ltb rfl) (d406.trans (congrArg Value.bool g407)) rfl rfl (ltb rfl) <| L_nil <| stepEnd rfl rfl (Ext.refl w396) ⟨fun h => absurd (b401.symm.trans h) (by decide), fun _ => rfl⟩
        · intro s408 w409 e410 hf411 hd412 hu413
          rcases bool_two (!(impl_TreeOK.e1 a0 x7_1)) with b414 | b414
          · have g415 : (impl_TreeOK.e1 a0 x7_1) = false := (not_f b414)
            have d416 : s408 35 = (.bool (impl_TreeOK.e1 a0 x7_1)) := (hd412 23 rfl)
            have d417 : s408 35 = (.bool (impl_TreeOK.e1 a0 x7_1)) := (hd412 23 rfl)
            have d418 : s408 40 = (S ((gt a0 x7_1).path)) := ((hd412 28 rfl).1 (not_mk (not_f b414)))
            have c419 := imp_take b414 c41
            exact L_callP (.guard 23 false 35 rfl rfl (ltb rfl) (d416.trans (congrArg Value.bool g415))) rfl (ltb rfl) rfl Tryz.call120 (impl_parent.calls (w := w409) (a0 := (gt a0 x7_1).path) (of_decide_eq_true c419)) (cons2 d418 rfl) <| fun w420 e421 => L_nil <| stepEnd rfl rfl e421 ⟨fun _ => rfl, fun h => absurd (b414.symm.trans h) (by decide)⟩
          · have d422 : s408 35 = (.bool (impl_TreeOK.e1 a0 x7_1)) := (hd412 23 rfl)
            have g423 : (impl_TreeOK.e1 a0 x7_1) = true := (not_ff b414)
            exact L_skip rfl rfl (ltb rfl) (d422.trans (congrArg Value.bool g423)) rfl rfl (ltb rfl) <| L_nil <| stepEnd rfl rfl (Ext.refl w409) ⟨fun h => absurd (b414.symm.trans h) (by decide), fun _ => rfl⟩
        · intro s424 w425 e426 hf427 hd428 hu429
          rcases bool_two (!(impl_TreeOK.e1 a0 x7_1)) with b430 | b430
          · have g431 : (impl_TreeOK.e1 a0 x7_1) = false := (not_f b430)
            have d432 : s424 35 = (.bool (impl_TreeOK.e1 a0 x7_1)) := (hd428 23 rfl)
            have d433 : s424 35 = (.bool (impl_TreeOK.e1 a0 x7_1)) := (hd428 23 rfl)
            have d434 : Rd 4 encNd w425 (s424 38) (sub a0 0 x7_1) := ((hd428 26 rfl).1 (not_mk (not_f b430)))
            have d435 : s424 41 = (S (parentP ((gt a0 x7_1).path))) := ((hd428 29 rfl).1 (not_mk (not_f b430)))
            have c436 := imp_take b430 c44
            exact L_callP (.guard 23 false 35 rfl rfl (ltb rfl) (d432.trans (congrArg Value.bool g431))) rfl (ltb rfl) rfl Tryz.call119 (impl_isDir.calls (w := w425) (a0 := sub a0 0 x7_1) (a1 := (parentP ((gt a0 x7_1).path))) d434 (of_decide_eq_true c436)) (cons2 rfl (cons2 d435 rfl)) <| fun w437 e438 => L_nil <| stepEnd rfl rfl e438 ⟨fun _ => rfl, fun h => absurd (b430.symm.trans h) (by decide)⟩
          · have d439 : s424 35 = (.bool (impl_TreeOK.e1 a0 x7_1)) := (hd428 23 rfl)
            have g440 : (impl_TreeOK.e1 a0 x7_1) = true := (not_ff b430)
            exact L_skip rfl rfl (ltb rfl) (d439.trans (congrArg Value.bool g440)) rfl rfl (ltb rfl) <| L_nil <| stepEnd rfl rfl (Ext.refl w425) ⟨fun h => absurd (b430.symm.trans h) (by decide), fun _ => rfl⟩
        · intro s441 w442 e443 hf444 hd445 hu446
          rcases bool_two (!(impl_TreeOK.e1 a0 x7_1)) with b447 | b447
          · have g448 : (impl_TreeOK.e1 a0 x7_1) = false := (not_f b447)
            have d449 : s441 35 = (.bool (impl_TreeOK.e1 a0 x7_1)) := (hd445 23 rfl)
            have d450 : s441 35 = (.bool (impl_TreeOK.e1 a0 x7_1)) := (hd445 23 rfl)
            have d451 : s441 42 = (.bool (isDirN (sub a0 0 x7_1) (parentP ((gt a0 x7_1).path)))) := ((hd445 30 rfl).1 (not_mk (not_f b447)))
            exact L_op (.guard 23 false 35 rfl rfl (ltb rfl) (d449.trans (congrArg Value.bool g448))) rfl (ltb rfl) (X_not d451) <| L_nil <| stepEnd rfl rfl (Ext.refl w442) ⟨fun _ => rfl, fun h => absurd (b447.symm.trans h) (by decide)⟩
          · have d452 : s441 35 = (.bool (impl_TreeOK.e1 a0 x7_1)) := (hd445 23 rfl)
            have g453 : (impl_TreeOK.e1 a0 x7_1) = true := (not_ff b447)
            exact L_skip rfl rfl (ltb rfl) (d452.trans (congrArg Value.bool g453)) rfl rfl (ltb rfl) <| L_nil <| stepEnd rfl rfl (Ext.refl w442) ⟨fun h => absurd (b447.symm.trans h) (by decide), fun _ => rfl⟩
        · intro s454 w455 e456 hf457 hd458 hu459
          rcases bool_two (impl_TreeOK.e1 a0 x7_1) with b460 | b460
          · have d461 : s454 35 = (.bool (impl_TreeOK.e1 a0 x7_1)) := (hd458 23 rfl)
            exact L_op (.plain rfl) rfl (ltb rfl) (X_pick (b := true) (v := (.bool true)) (d461.trans (congrArg Value.bool b460)) rfl) <| L_nil <| stepEnd rfl rfl (Ext.refl w455) (or_t b460)
          · have d462 : s454 35 = (.bool (impl_TreeOK.e1 a0 x7_1)) := (hd458 23 rfl)
            have d463 : s454 43 = (.bool (!(isDirN (sub a0 0 x7_1) (parentP ((gt a0 x7_1).path))))) := ((hd458 31 rfl).1 (not_mk b460))
            exact L_op (.plain rfl) rfl (ltb rfl) (X_pick (b := false) (v := (.bool (!(isDirN (sub a0 0 x7_1) (parentP ((gt a0 x7_1).path)))))) (d462.trans (congrArg Value.bool b460)) d463) <| L_nil <| stepEnd rfl rfl (Ext.refl w455) (or_f b460)
        intro s464 w465 e466 hf467 ha468
        have K469 := Kp.ofD (kp := [(12, 45)]) rfl hf467
        have d470 : s464 44 = (.bool ((impl_TreeOK.e1 a0 x7_1) || (!(isDirN (sub a0 0 x7_1) (parentP ((gt a0 x7_1).path)))))) := ha468 32 rfl
        clear ha468 hf467
        refine thn_n ?_
        rcases bif_two H with ⟨q471, H⟩ | ⟨q471, H⟩
        · refine W_true (d470.trans (congrArg Value.bool q471)) <| W_seq <| W_reg <| L_op (.plain rfl) rfl (ltb rfl) (X_assign (v := (.bool false)) rfl) <| L_nil <| thn_n <| W_ret <| blk_r <| thn_r <| thn_r <| blk_r <| thn_r <| thn_r <| fin_r ?_
          obtain rfl := Option.some.inj H
          obtain rfl := Option.some.inj S17
          have H := C4
          obtain rfl := Option.some.inj H
          exact fin1 rfl (Ext.trans (Ext.trans e13 (Below.trans e26 (Wr.below h29 (Nat.le_of_eq z24)))) e466)
        · refine W_false (d470.trans (congrArg Value.bool q471)) <| W_skip <| blk_n <| thn_n <| W_reg <| L_op (.plain rfl) rfl (ltb rfl) (X_add ((K469 7 rfl).trans h15) rfl) <| L_op (.plain rfl) rfl (ltb rfl) (X_move (v := (.int .i64 (IntKind.wrap .i64 (x7_1 + 1)))) rfl) <| L_nil <| thn_n ?_
          obtain rfl := Option.some.inj H
          exact ⟨_, Nat.lt_succ_self _, IntKind.wrap .i64 (x7_1 + 1), (Kp.upd (Kp.upd (Kp.cut (Kp.upd (Kp.upd (Kp.upd (Kp.upd (Kp.upd (Kp.upd K12 rfl) rfl) rfl) rfl) rfl) rfl) K469 rfl) rfl) rfl), rfl, (Ext.trans (Ext.trans e13 (Below.trans e26 (Wr.below h29 (Nat.le_of_eq z24)))) e466), S17⟩
      · refine W_false (congrArg Value.bool q18) <| W_exit <| thn_x <| thn_x <| blk_x <| thn_n ?_
        obtain rfl := Option.some.inj H
        obtain rfl := Option.some.inj S17
        exact ⟨(Kp.upd K12 rfl), e13, rfl⟩
  · rintro s6 w5 ⟨K7, e8, y472⟩
    rw [y472] at C4
    have H := C4
    replace H : _ = some _ := H
    refine thn_n <| W_seq <| W_reg <| L_op (.plain rfl) rfl (ltb rfl) (X_assign (v := (.bool true)) rfl) <| L_nil <| thn_n <| W_ret <| fin_r ?_
    obtain rfl := Option.some.inj H
    exact fin1 rfl e8
theorem impl_TreeOK.calls {w : World} {a0 : List Nd} (gv : GV 0 w) {v_a0 : Value} (f_a0 : Rd 4 encNd w v_a0 a0) (h0 : a0.length ≤ 1048576) (h1 : ∀ x ∈ a0, x.path.length ≤ 1048576) :
    Calls Tryz.prog 72 #[v_a0] w (Rt (RP w (.bool (treeOK a0)))) := by
  obtain ⟨k, h⟩ := impl_TreeOK.eq a0 h0 h1
  exact impl_TreeOK.walk gv f_a0 h
/-! laws.szRecordSS -/
theorem laws_szRecordSS.walk {k : Nat} {w : World} {a0 : List (List Rec)} {a1 : Int} {v_a0 : Value} (f_a0 : Rd2 5 encRec w v_a0 a0) {r : Int} (H : laws_szRecordSS.sh k a0 a1 = some r) :
    Calls Tryz.prog 23 #[v_a0, .int .i64 a1] w (Rt (RP w (.int .i64 r))) := by
  unfold laws_szRecordSS.sh at H
  refine calls_of_W Tryz.func23 rfl (Nat.le_of_ble_eq_true rfl) Tryz.ntmps23 rfl ?_
  refine W_seq <| W_reg <| L_op (.plain rfl) rfl (ltb rfl) (X_assign (v := (.int .i64 0)) rfl) <| L_nil <| thn_n <| W_seq <| W_reg <| L_op (.plain rfl) rfl (ltb rfl) (X_move (v := (.int .i64 a1)) rfl) <| L_op (.plain rfl) rfl (ltb rfl) (X_move (v := v_a0) rfl) <| L_op (.plain rfl) rfl (ltb rfl) (X_lenR2 Tryz.underlying35 rfl f_a0) <| L_op (.plain rfl) rfl (ltb rfl) (X_sub rfl rfl) <| L_op (.plain rfl) rfl (ltb rfl) (X_assign (v := (.int .i64 (IntKind.wrap .i64 (a1 - (a0.length : Int))))) rfl) <| L_nil <| thn_n <| W_seq <| W_seq <| W_reg <| L_op (.plain rfl) rfl (ltb rfl) (X_move (v := (.int .i64 (IntKind.wrap .i64 (a1 - (a0.length : Int))))) rfl) <| L_op (.plain rfl) rfl (ltb rfl) (X_lss rfl rfl) <| L_nil <| thn_n ?_
  rcases bif_two H with ⟨q1, H⟩ | ⟨q1, H⟩
  · refine W_true (congrArg Value.bool q1) <| W_seq <| W_reg <| L_op (.plain rfl) rfl (ltb rfl) (X_assign (v := (.int .i64 (-1))) rfl) <| L_nil <| thn_n <| W_ret <| thn_r <| fin_r ?_
    obtain rfl := Option.some.inj H
    exact fin1 rfl (Ext.refl w)
  · refine W_false (congrArg Value.bool q1) <| W_skip <| thn_n <| W_seq <| W_seq <| W_reg <| L_op (.plain rfl) rfl (ltb rfl) (X_assign (v := (.int .i64 0)) rfl) <| L_nil <| thn_n ?_
    obtain ⟨z4, L5, C6⟩ := bind_some H
    clear H
    refine  W_cutQ (fun s0 sQ wQ => ∃ (x1_7 : Int), Kp [(1, 2), (4, 6), (12, 26)] s0 sQ ∧ sQ 1 = .int .i64 x1_7 ∧ Ext w wQ ∧ z4 = .inr x1_7) ?_ ?_
    · refine W_block <| W_loopI (fun s0 kk sQ wQ => ∃ (x1_2 : Int) (x5_3 : Int), Kp [(1, 2), (4, 6), (12, 26)] s0 sQ ∧ sQ 1 = .int .i64 x1_2 ∧ sQ 5 = .int .i64 x5_3 ∧ Ext w wQ ∧ loopF (laws_szRecordSS.b1 a0) kk (x1_2, x5_3) = some z4) k ⟨IntKind.wrap .i64 (a1 - (a0.length : Int)), 0, (Kp.refl _ _), rfl, rfl, (Ext.refl w), L5⟩ ?_
      rintro k12 s13 w14 ⟨x1_2, x5_3, K15, h18, h19, e16, L17⟩
      cases k12 with
      | zero => exact absurd L17 (by simp [loopF])
      | succ k12 =>
        obtain ⟨t20, H, S21⟩ := loopF_succ L17
        clear L17
        unfold laws_szRecordSS.b1 at H
        refine W_seq <| W_seq <| W_reg <| L_op (.plain rfl) rfl (ltb rfl) (X_move (v := (.int .i64 x5_3)) h19) <| L_op (.plain rfl) rfl (ltb rfl) (X_move (v := v_a0) (K15 0 rfl)) <| L_op (.plain rfl) rfl (ltb rfl) (X_lenR2 Tryz.underlying35 rfl (Rd2.ext f_a0 e16)) <| L_op (.plain rfl) rfl (ltb rfl) (X_lss rfl rfl) <| L_nil <| thn_n ?_
        rcases bif_two H with ⟨q22, H⟩ | ⟨q22, H⟩
        · refine W_true (congrArg Value.bool q22) <| W_skip <| thn_n <| W_seq <| W_block <| W_seq <| W_reg <| L_op (.plain rfl) rfl (ltb rfl) (X_move (v := v_a0) (K15 0 rfl)) <| L_op (.plain rfl) rfl (ltb rfl) (X_move (v := (.int .i64 x5_3)) h19) ?_
          obtain ⟨c23, H⟩ := bif_some H
          refine L_idx2 (.plain rfl) rfl (ltb rfl) rfl Tryz.underlying35 Tryz.sizeOf22 rfl (Rd2.ext f_a0 e16) rfl c23 <| fun p24 v26 h25 h27 => L_op (.plain rfl) rfl (ltb rfl) (X_loadAt Tryz.isAgg22 rfl h25 rfl) <| L_op (.plain rfl) rfl (ltb rfl) (X_move (v := (.int .i64 x1_2)) h18) ?_
          obtain ⟨c28, H⟩ := bif_some H
          obtain ⟨c29, H⟩ := bif_some H
          obtain ⟨c30, H⟩ := bif_some H
          obtain ⟨c31, H⟩ := bif_some H
          refine L_callP (.plain rfl) rfl (ltb rfl) rfl Tryz.call15 (laws_szRecordS.calls (w := w14) (a0 := gt a0 x5_3) (a1 := x1_2) h27 (of_decide_eq_true c28) (of_decide_eq_true c29) (of_decide_eq_true c30) (of_decide_eq_true c31)) rfl <| fun w32 e33 => L_op (.plain rfl) rfl (ltb rfl) (X_assign (v := (.int .i64 (szRecS (gt a0 x5_3) x1_2))) rfl) <| L_nil <| thn_n <| W_seq <| W_reg <| L_op (.plain rfl) rfl (ltb rfl) (X_move (v := (.int .i64 (szRecS (gt a0 x5_3) x1_2))) rfl) <| L_op (.plain rfl) rfl (ltb rfl) (X_lss rfl rfl) <| L_nil <| thn_n ?_
          rcases bif_two H with ⟨q34, H⟩ | ⟨q34, H⟩
          · refine W_true (congrArg Value.bool q34) <| W_seq <| W_reg <| L_op (.plain rfl) rfl (ltb rfl) (X_assign (v := (.int .i64 (-1))) rfl) <| L_nil <| thn_n <| W_ret <| blk_r <| thn_r <| thn_r <| blk_r <| thn_r <| thn_r <| fin_r ?_
            obtain rfl := Option.some.inj H
            obtain rfl := Option.some.inj S21
            have H := C6
            obtain rfl := Option.some.inj H
            exact fin1 rfl (Ext.trans e16 e33)
          · refine W_false (congrArg Value.bool q34) <| W_skip <| blk_n <| thn_n <| W_reg <| L_op (.plain rfl) rfl (ltb rfl) (X_move (v := (.int .i64 x5_3)) h19) <| L_op (.plain rfl) rfl (ltb rfl) (X_add rfl rfl) <| L_op (.plain rfl) rfl (ltb rfl) (X_assign (v := (.int .i64 (IntKind.wrap .i64 (x5_3 + 1)))) rfl) <| L_nil <| thn_n ?_
            obtain rfl := Option.some.inj H
            exact ⟨_, Nat.lt_succ_self _, (szRecS (gt a0 x5_3) x1_2), IntKind.wrap .i64 (x5_3 + 1), (Kp.upd (Kp.upd (Kp.upd (Kp.upd (Kp.upd (Kp.upd (Kp.upd (Kp.upd (Kp.upd (Kp.upd (Kp.upd (Kp.upd (Kp.upd (Kp.upd (Kp.upd (Kp.upd K15 rfl) rfl) rfl) rfl) rfl) rfl) rfl) rfl) rfl) rfl) rfl) rfl) rfl) rfl) rfl) rfl), rfl, rfl, (Ext.trans e16 e33), S21⟩
        · refine W_false (congrArg Value.bool q22) <| W_exit <| thn_x <| thn_x <| blk_x <| thn_n ?_
          obtain rfl := Option.some.inj H
          obtain rfl := Option.some.inj S21
          exact ⟨x1_2, (Kp.upd (Kp.upd (Kp.upd (Kp.upd K15 rfl) rfl) rfl) rfl), h18, e16, rfl⟩
    · rintro s9 w8 ⟨x1_7, K10, h35, e11, y36⟩
      rw [y36] at C6
      have H := C6
      replace H : _ = some _ := H
      refine thn_n <| W_seq <| W_reg <| L_op (.plain rfl) rfl (ltb rfl) (X_move (v := (.int .i64 x1_7)) h35) <| L_op (.plain rfl) rfl (ltb rfl) (X_assign (v := (.int .i64 x1_7)) rfl) <| L_nil <| thn_n <| W_ret <| fin_r ?_
      obtain rfl := Option.some.inj H
      exact fin1 rfl e11
theorem laws_szRecordSS.calls {w : World} {a0 : List (List Rec)} {a1 : Int} {v_a0 : Value} (f_a0 : Rd2 5 encRec w v_a0 a0) (h0 : (0 : Int) ≤ a1) (h1 : (a1 : Int) ≤ 1048576) (h2 : a0.length ≤ 9223372036854775807) (h3 : ∀ l ∈ a0, l.length ≤ 9223372036854775807) (h4 : ∀ l ∈ a0, ∀ x ∈ l, okRec x) :
    Calls Tryz.prog 23 #[v_a0, .int .i64 a1] w (Rt (RP w (.int .i64 (szRecSS a0 a1)))) := by
  obtain ⟨k, h⟩ := laws_szRecordSS.eq a0 a1 h0 h1 h2 h3 h4
  exact laws_szRecordSS.walk f_a0 h
/-! laws.toRecordSS -/
theorem laws_toRecordSS.walk {k : Nat} {w : World} {a0 : List (List Rec)} {v_a0 : Value} (f_a0 : Rd2 5 encRec w v_a0 a0) {r : List (List Rec)} (H : laws_toRecordSS.sh k a0 = some r) :
    Calls Tryz.prog 25 #[v_a0] w (Rt (ROS 28 78 5 encRec w r)) := by
  unfold laws_toRecordSS.sh at H
  refine calls_of_W Tryz.func25 rfl (Nat.le_of_ble_eq_true rfl) Tryz.ntmps25 rfl ?_
  refine W_seq <| W_reg <| L_op (.plain rfl) rfl (ltb rfl) (X_assign (v := (.slice none 0 0)) rfl) <| L_nil <| thn_n <| W_seq <| W_reg <| L_op (.plain rfl) rfl (ltb rfl) (X_move (v := v_a0) rfl) <| L_op (.plain rfl) rfl (ltb rfl) (X_lenR2 Tryz.underlying35 rfl f_a0) ?_
  obtain ⟨c1, H⟩ := bif_some H
  refine L_make (enc := encV) (zr := .slice none 0 0) (n := a0.length) (.plain rfl) rfl (ltb rfl) rfl El.t39 rfl rfl rfl (of_decide_eq_true c1) (Nat.le_refl _) <| fun b2 w3 z4 z5 e6 o7 => L_op (.plain rfl) rfl (ltb rfl) (X_assign (v := (.slice (some ⟨b2, 0, none⟩) a0.length a0.length)) rfl) <| L_nil <| thn_n <| W_seq <| W_seq <| W_reg <| L_op (.plain rfl) rfl (ltb rfl) (X_assign (v := (.int .i64 0)) rfl) <| L_nil <| thn_n ?_
  obtain ⟨z10, L11, C12⟩ := bind_some H
  clear H
  refine  W_cutQ (fun s0 sQ wQ => ∃ (y13 : List (List Rec)), Kp [(4, 5), (8, 22)] s0 sQ ∧ Own2 28 78 5 encRec w.heap.size wQ (.slice (some ⟨b2, 0, none⟩) a0.length a0.length) y13 ∧ Ext w wQ ∧ z10 = .inr y13) ?_ ?_
  · refine W_block <| W_loopI (fun s0 kk sQ wQ => ∃ (x4_8 : Int) (y9 : List (List Rec)), Kp [(4, 5), (8, 22)] s0 sQ ∧ sQ 4 = .int .i64 x4_8 ∧ Own2 28 78 5 encRec w.heap.size wQ (.slice (some ⟨b2, 0, none⟩) a0.length a0.length) y9 ∧ Ext w wQ ∧ loopF (laws_toRecordSS.b1 a0) kk (x4_8, y9) = some z10) k ⟨0, List.replicate a0.length ([] : List Rec), (Kp.refl _ _), rfl, (Own2.made o7), e6, L11⟩ ?_
    rintro k18 s19 w20 ⟨x4_8, y9, K21, h24, h25, e22, L23⟩
    cases k18 with
    | zero => exact absurd L23 (by simp [loopF])
    | succ k18 =>
      obtain ⟨t26, H, S27⟩ := loopF_succ L23
      clear L23
      unfold laws_toRecordSS.b1 at H
      refine W_seq <| W_seq <| W_reg <| L_op (.plain rfl) rfl (ltb rfl) (X_move (v := (.int .i64 x4_8)) h24) <| L_op (.plain rfl) rfl (ltb rfl) (X_move (v := v_a0) (K21 0 rfl)) <| L_op (.plain rfl) rfl (ltb rfl) (X_lenR2 Tryz.underlying35 rfl (Rd2.ext f_a0 e22)) <| L_op (.plain rfl) rfl (ltb rfl) (X_lss rfl rfl) <| L_nil <| thn_n ?_
      rcases bif_two H with ⟨q28, H⟩ | ⟨q28, H⟩
      · refine W_true (congrArg Value.bool q28) <| W_skip <| thn_n <| W_seq <| W_block <| W_reg <| L_op (.plain rfl) rfl (ltb rfl) (X_move (v := (.slice (some ⟨b2, 0, none⟩) a0.length a0.length)) (K21 3 rfl)) <| L_op (.plain rfl) rfl (ltb rfl) (X_move (v := (.int .i64 x4_8)) h24) <| L_op (.plain rfl) rfl (ltb rfl) (X_move (v := v_a0) (K21 0 rfl)) <| L_op (.plain rfl) rfl (ltb rfl) (X_move (v := (.int .i64 x4_8)) h24) ?_
        obtain ⟨c29, H⟩ := bif_some H
        refine L_idx2 (.plain rfl) rfl (ltb rfl) rfl Tryz.underlying35 Tryz.sizeOf22 rfl (Rd2.ext f_a0 e22) rfl c29 <| fun p30 v32 h31 h33 => L_op (.plain rfl) rfl (ltb rfl) (X_loadAt Tryz.isAgg22 rfl h31 rfl) ?_
        obtain ⟨c34, H⟩ := bif_some H
        refine L_callO (.plain rfl) rfl (ltb rfl) rfl Tryz.call18 (laws_toRecordS.calls (w := w20) (a0 := gt a0 x4_8) h33 (of_decide_eq_true c34)) rfl <| fun v37 w35 e36 o38 => ?_
        obtain ⟨c39, H⟩ := bif_some H
        refine L_idxO2 (.plain rfl) rfl (ltb rfl) rfl Tryz.underlying39 Tryz.sizeOf28 rfl (Own2.ext h25 e36) rfl c39 <| fun p40 h41 => L_storeO2s (.plain rfl) rfl rfl Tryz.sizeOf28 rfl h41 rfl o38 (e22).size h25 e36 (Nat.le_refl _) <| fun b42 w43 h44 h45 h46 o47 o48 => L_nil <| blk_n <| thn_n <| W_reg <| L_op (.plain rfl) rfl (ltb rfl) (X_move (v := (.int .i64 x4_8)) h24) <| L_op (.plain rfl) rfl (ltb rfl) (X_add rfl rfl) <| L_op (.plain rfl) rfl (ltb rfl) (X_assign (v := (.int .i64 (IntKind.wrap .i64 (x4_8 + 1)))) rfl) <| L_nil <| thn_n ?_
        obtain rfl := Option.some.inj H
        exact ⟨_, Nat.lt_succ_self _, IntKind.wrap .i64 (x4_8 + 1), setI y9 x4_8 (gt a0 x4_8), (Kp.upd (Kp.upd (Kp.upd (Kp.upd (Kp.upd (Kp.upd (Kp.upd (Kp.upd (Kp.upd (Kp.upd (Kp.upd (Kp.upd (Kp.upd (Kp.upd (Kp.upd K21 rfl) rfl) rfl) rfl) rfl) rfl) rfl) rfl) rfl) rfl) rfl) rfl) rfl) rfl) rfl), rfl, o47, (Ext.wr (Ext.trans e22 e36) h46 h45 (Nat.le_refl _)), S27⟩
      · refine W_false (congrArg Value.bool q28) <| W_exit <| thn_x <| thn_x <| blk_x <| thn_n ?_
        obtain rfl := Option.some.inj H
        obtain rfl := Option.some.inj S27
        exact ⟨y9, (Kp.upd (Kp.upd (Kp.upd (Kp.upd K21 rfl) rfl) rfl) rfl), h25, e22, rfl⟩
  · rintro s15 w14 ⟨y13, K16, h49, e17, y50⟩
    rw [y50] at C12
    have H := C12
    replace H : _ = some _ := H
    refine thn_n <| W_seq <| W_reg <| L_op (.plain rfl) rfl (ltb rfl) (X_move (v := (.slice (some ⟨b2, 0, none⟩) a0.length a0.length)) (K16 3 rfl)) <| L_op (.plain rfl) rfl (ltb rfl) (X_assign (v := (.slice (some ⟨b2, 0, none⟩) a0.length a0.length)) rfl) <| L_nil <| thn_n <| W_ret <| fin_r ?_
    obtain rfl := Option.some.inj H
    exact fin1os rfl e17 h49 ((Ext.refl w)).size
theorem laws_toRecordSS.calls {w : World} {a0 : List (List Rec)} {v_a0 : Value} (f_a0 : Rd2 5 encRec w v_a0 a0) (h0 : a0.length ≤ 1048576) (h1 : ∀ l ∈ a0, l.length ≤ 1048576) :
    Calls Tryz.prog 25 #[v_a0] w (Rt (ROS 28 78 5 encRec w a0)) := by
  obtain ⟨k, h⟩ := laws_toRecordSS.eq a0 h0 h1
  exact laws_toRecordSS.walk f_a0 h
/-! spec.l05Stack -/
theorem spec_l05Stack.walk {k : Nat} {w : World} {a0 : List (List Rec)} {v_a0 : Value} (f_a0 : Rd2 5 encRec w v_a0 a0) {r : Bool} (H : spec_l05Stack.sh k a0 = some r) :
    Calls Tryz.prog 77 #[v_a0] w (Rt (RP w (.bool r))) := by
  unfold spec_l05Stack.sh at H
  refine calls_of_W Tryz.func77 rfl (Nat.le_of_ble_eq_true rfl) Tryz.ntmps77 rfl ?_
  refine W_seq <| W_reg <| L_op (.plain rfl) rfl (ltb rfl) (X_assign (v := (.bool false)) rfl) <| L_nil <| thn_n <| W_seq <| W_seq <| W_reg <| L_op (.plain rfl) rfl (ltb rfl) (X_move (v := v_a0) rfl) <| L_op (.plain rfl) rfl (ltb rfl) (X_lenR2 Tryz.underlying39 rfl f_a0) <| L_op (.plain rfl) rfl (ltb rfl) (X_gtr rfl rfl) <| L_nil <| thn_n ?_
  rcases bif_two H with ⟨q1, H⟩ | ⟨q1, H⟩
  · refine W_true (congrArg Value.bool q1) <| W_seq <| W_reg <| L_op (.plain rfl) rfl (ltb rfl) (X_assign (v := (.bool false)) rfl) <| L_nil <| thn_n <| W_ret <| thn_r <| fin_r ?_
    obtain rfl := Option.some.inj H
    exact fin1 rfl (Ext.refl w)
  · refine W_false (congrArg Value.bool q1) <| W_skip <| thn_n <| W_seq <| W_seq <| W_reg <| L_op (.plain rfl) rfl (ltb rfl) (X_assign (v := (.int .i64 0)) rfl) <| L_nil <| thn_n ?_
    obtain ⟨z3, L4, C5⟩ := bind_some H
    clear H
    refine  W_cutQ (fun s0 sQ wQ => Kp [(2, 4), (7, 19)] s0 sQ ∧ Ext w wQ ∧ z3 = .inr ()) ?_ ?_
    · refine W_block <| W_loopI (fun s0 kk sQ wQ => ∃ (x3_2 : Int), Kp [(2, 4), (7, 19)] s0 sQ ∧ sQ 3 = .int .i64 x3_2 ∧ Ext w wQ ∧ loopF (spec_l05Stack.b1 a0) kk x3_2 = some z3) k ⟨0, (Kp.refl _ _), rfl, (Ext.refl w), L4⟩ ?_
      rintro k10 s11 w12 ⟨x3_2, K13, h16, e14, L15⟩
      cases k10 with
      | zero => exact absurd L15 (by simp [loopF])
      | succ k10 =>
        obtain ⟨t17, H, S18⟩ := loopF_succ L15
        clear L15
        unfold spec_l05Stack.b1 at H
        refine W_seq <| W_seq <| W_reg <| L_op (.plain rfl) rfl (ltb rfl) (X_move (v := (.int .i64 x3_2)) h16) <| L_op (.plain rfl) rfl (ltb rfl) (X_move (v := v_a0) (K13 0 rfl)) <| L_op (.plain rfl) rfl (ltb rfl) (X_lenR2 Tryz.underlying39 rfl (Rd2.ext f_a0 e14)) <| L_op (.plain rfl) rfl (ltb rfl) (X_lss rfl rfl) <| L_nil <| thn_n ?_
        rcases bif_two H with ⟨q19, H⟩ | ⟨q19, H⟩
        · refine W_true (congrArg Value.bool q19) <| W_skip <| thn_n <| W_seq <| W_block <| W_seq <| W_reg <| L_op (.plain rfl) rfl (ltb rfl) (X_move (v := v_a0) (K13 0 rfl)) <| L_op (.plain rfl) rfl (ltb rfl) (X_move (v := (.int .i64 x3_2)) h16) ?_
          obtain ⟨c20, H⟩ := bif_some H
          refine L_idx2 (.plain rfl) rfl (ltb rfl) rfl Tryz.underlying39 Tryz.sizeOf28 rfl (Rd2.ext f_a0 e14) rfl c20 <| fun p21 v23 h22 h24 => L_op (.plain rfl) rfl (ltb rfl) (X_loadAt Tryz.isAgg28 rfl h22 rfl) ?_
          obtain ⟨c25, H⟩ := bif_some H
          obtain ⟨c26, H⟩ := bif_some H
          refine L_callP (.plain rfl) rfl (ltb rfl) rfl Tryz.call62 (spec_l03OK.calls (w := w12) (a0 := gt a0 x3_2) h24 (of_decide_eq_true c25) (of_decide_eq_true c26)) rfl <| fun w27 e28 => L_op (.plain rfl) rfl (ltb rfl) (X_not rfl) <| L_nil <| thn_n ?_
          rcases bif_two H with ⟨q29, H⟩ | ⟨q29, H⟩
          · refine W_true (congrArg Value.bool q29) <| W_seq <| W_reg <| L_op (.plain rfl) rfl (ltb rfl) (X_assign (v := (.bool false)) rfl) <| L_nil <| thn_n <| W_ret <| blk_r <| thn_r <| thn_r <| blk_r <| thn_r <| thn_r <| fin_r ?_
            obtain rfl := Option.some.inj H
            obtain rfl := Option.some.inj S18
            have H := C5
            obtain rfl := Option.some.inj H
            exact fin1 rfl (Ext.trans e14 e28)
          · refine W_false (congrArg Value.bool q29) <| W_skip <| blk_n <| thn_n <| W_reg <| L_op (.plain rfl) rfl (ltb rfl) (X_move (v := (.int .i64 x3_2)) h16) <| L_op (.plain rfl) rfl (ltb rfl) (X_add rfl rfl) <| L_op (.plain rfl) rfl (ltb rfl) (X_assign (v := (.int .i64 (IntKind.wrap .i64 (x3_2 + 1)))) rfl) <| L_nil <| thn_n ?_
            obtain rfl := Option.some.inj H
            exact ⟨_, Nat.lt_succ_self _, IntKind.wrap .i64 (x3_2 + 1), (Kp.upd (Kp.upd (Kp.upd (Kp.upd (Kp.upd (Kp.upd (Kp.upd (Kp.upd (Kp.upd (Kp.upd (Kp.upd (Kp.upd (Kp.upd K13 rfl) rfl) rfl) rfl) rfl) rfl) rfl) rfl) rfl) rfl) rfl) rfl) rfl), rfl, (Ext.trans e14 e28), S18⟩
        · refine W_false (congrArg Value.bool q19) <| W_exit <| thn_x <| thn_x <| blk_x <| thn_n ?_
          obtain rfl := Option.some.inj H
          obtain rfl := Option.some.inj S18
          exact ⟨(Kp.upd (Kp.upd (Kp.upd (Kp.upd K13 rfl) rfl) rfl) rfl), e14, rfl⟩
    · rintro s7 w6 ⟨K8, e9, y30⟩
      rw [y30] at C5
      have H := C5
      replace H : _ = some _ := H
      refine thn_n <| W_seq <| W_reg <| L_op (.plain rfl) rfl (ltb rfl) (X_assign (v := (.bool true)) rfl) <| L_nil <| thn_n <| W_ret <| fin_r ?_
      obtain rfl := Option.some.inj H
      exact fin1 rfl e9
theorem spec_l05Stack.calls {w : World} {a0 : List (List Rec)} {v_a0 : Value} (f_a0 : Rd2 5 encRec w v_a0 a0) (h0 : a0.length ≤ 1048576) (h1 : ∀ l ∈ a0, l.length ≤ 1048576) (h2 : ∀ l ∈ a0, ∀ x ∈ l, x.path.length ≤ 1048576) :
    Calls Tryz.prog 77 #[v_a0] w (Rt (RP w (.bool (stackOK a0)))) := by
  obtain ⟨k, h⟩ := spec_l05Stack.eq a0 h0 h1 h2
  exact spec_l05Stack.walk f_a0 h
/-! impl.all(()impl.Record)$1 -/
theorem impl_allSS_1.walk {w : World} {a0 : List Rec} {a1 : List Rec → Option Bool} {v_a0 : Value} (f_a0 : Rd 5 encRec w v_a0 a0) {v_a1 : Value} (f_a1 : ∀ (x0 : List Rec) (r : Bool), a1 x0 = some r → ∀ (u0 : Value) (wR : World), Ext w wR → Rd 5 encRec wR u0 x0 → FnAt Tryz.prog wR v_a1 [u0] (.bool r)) (g_a1 : v_a1.cells = #[v_a1]) {b_a1 : Nat} (k_a1 : Blk w b_a1 #[v_a1] 75) {r : Bool} (H : impl_allSS_1.sh a0 a1 = some r) :
    Calls Tryz.prog 178 #[v_a0, .pointer (some ⟨b_a1, 0, none⟩)] w (Rt (RP w (.bool r))) := by
  unfold impl_allSS_1.sh at H
  refine calls_of_W Tryz.func178 rfl (Nat.le_of_ble_eq_true rfl) Tryz.ntmps178 rfl ?_
  refine W_seq <| W_reg <| L_op (.plain rfl) rfl (ltb rfl) (X_assign (v := (.bool false)) rfl) <| L_nil <| thn_n <| W_seq <| W_reg <| L_op (.plain rfl) rfl (ltb rfl) (X_loadB Tryz.isAgg75 k_a1 rfl rfl) <| L_op (.plain rfl) rfl (ltb rfl) (X_move (v := v_a0) rfl) ?_
  obtain ⟨z1, x2, H⟩ := bind_some H
  refine L_callF (.plain rfl) rfl (ltb rfl) rfl rfl (f_a1 _ _ x2 v_a0 w (Ext.refl w) f_a0) rfl <| fun w3 e4 => L_op (.plain rfl) rfl (ltb rfl) (X_not rfl) <| L_op (.plain rfl) rfl (ltb rfl) (X_assign (v := (.bool (!z1))) rfl) <| L_nil <| thn_n <| W_ret <| fin_r ?_
  obtain rfl := Option.some.inj H
  exact fin1 rfl e4
theorem impl_allSS_1.calls {w : World} {a0 : List Rec} {a1 : List Rec → Option Bool} {r : Bool} {v_a0 : Value} (f_a0 : Rd 5 encRec w v_a0 a0) {v_a1 : Value} (f_a1 : ∀ (x0 : List Rec) (r : Bool), a1 x0 = some r → ∀ (u0 : Value) (wR : World), Ext w wR → Rd 5 encRec wR u0 x0 → FnAt Tryz.prog wR v_a1 [u0] (.bool r)) (g_a1 : v_a1.cells = #[v_a1]) {b_a1 : Nat} (k_a1 : Blk w b_a1 #[v_a1] 75) (H : ((a1 a0).map (!·)) = some r) :
    Calls Tryz.prog 178 #[v_a0, .pointer (some ⟨b_a1, 0, none⟩)] w (Rt (RP w (.bool r))) := impl_allSS_1.walk f_a0 f_a1 g_a1 k_a1 (impl_allSS_1.eq a0 a1 H)
/-! slices.IndexFunc(()()impl.Record,()impl.Record) -/
theorem slices_IndexFuncSS.walk {k : Nat} {w : World} {a0 : List (List Rec)} {a1 : List Rec → Option Bool} {v_a0 : Value} (f_a0 : Rd2 5 encRec w v_a0 a0) {v_a1 : Value} (f_a1 : ∀ (x0 : List Rec) (r : Bool), a1 x0 = some r → ∀ (u0 : Value) (wR : World), Ext w wR → Rd 5 encRec wR u0 x0 → FnAt Tryz.prog wR v_a1 [u0] (.bool r)) (g_a1 : v_a1.cells = #[v_a1]) {r : Int} (H : slices_IndexFuncSS.sh k a0 a1 = some r) :
    Calls Tryz.prog 208 #[v_a0, v_a1] w (Rt (RP w (.int .i64 r))) := by
  unfold slices_IndexFuncSS.sh at H
  refine calls_of_W Tryz.func208 rfl (Nat.le_of_ble_eq_true rfl) Tryz.ntmps208 rfl ?_
  refine W_seq <| W_reg <| L_op (.plain rfl) rfl (ltb rfl) (X_assign (v := (.int .i64 0)) rfl) <| L_nil <| thn_n <| W_seq <| W_seq <| W_reg <| L_op (.plain rfl) rfl (ltb rfl) (X_move (v := v_a0) rfl) <| L_op (.plain rfl) rfl (ltb rfl) (X_lenR2 Tryz.underlying39 rfl f_a0) <| L_op (.plain rfl) rfl (ltb rfl) (X_move (v := (.int .i64 0)) rfl) <| L_nil <| thn_n ?_
  obtain ⟨z2, L3, C4⟩ := bind_some H
  clear H
  refine  W_cutQ (fun s0 sQ wQ => Kp [(4, 6), (8, 19)] s0 sQ ∧ Ext w wQ ∧ z2 = .inr ()) ?_ ?_
  · refine W_block <| W_loopI (fun s0 kk sQ wQ => ∃ (x8_1 : Int), Kp [(4, 6), (8, 19)] s0 sQ ∧ sQ 8 = .int .i64 x8_1 ∧ Ext w wQ ∧ loopF (slices_IndexFuncSS.b1 a0 a1) kk x8_1 = some z2) k ⟨0, (Kp.refl _ _), rfl, (Ext.refl w), L3⟩ ?_
    rintro k9 s10 w11 ⟨x8_1, K12, h15, e13, L14⟩
    cases k9 with
    | zero => exact absurd L14 (by simp [loopF])
    | succ k9 =>
      obtain ⟨t16, H, S17⟩ := loopF_succ L14
      clear L14
      unfold slices_IndexFuncSS.b1 at H
      refine W_seq <| W_reg <| L_op (.plain rfl) rfl (ltb rfl) (X_lss h15 (K12 7 rfl)) <| L_nil <| thn_n <| W_seq ?_
      rcases bif_two H with ⟨q18, H⟩ | ⟨q18, H⟩
      · refine W_true (congrArg Value.bool q18) <| W_skip <| thn_n <| W_seq <| W_block <| W_seq <| W_reg <| L_op (.plain rfl) rfl (ltb rfl) (X_move (v := (.int .i64 x8_1)) h15) <| L_op (.plain rfl) rfl (ltb rfl) (X_assign (v := (.int .i64 x8_1)) rfl) <| L_nil <| thn_n <| W_seq <| W_reg <| L_op (.plain rfl) rfl (ltb rfl) (X_move (v := v_a1) (K12 1 rfl)) <| L_op (.plain rfl) rfl (ltb rfl) (X_move (v := v_a0) (K12 0 rfl)) <| L_op (.plain rfl) rfl (ltb rfl) (X_move (v := (.int .i64 x8_1)) rfl) ?_
        obtain ⟨c19, H⟩ := bif_some H
        refine L_idx2 (.plain rfl) rfl (ltb rfl) rfl Tryz.underlying39 Tryz.sizeOf28 rfl (Rd2.ext f_a0 e13) rfl c19 <| fun p20 v22 h21 h23 => L_op (.plain rfl) rfl (ltb rfl) (X_loadAt Tryz.isAgg28 rfl h21 rfl) ?_
        obtain ⟨z24, x25, H⟩ := bind_some H
        refine L_callF (.plain rfl) rfl (ltb rfl) rfl rfl (f_a1 _ _ x25 v22 w11 e13 h23) rfl <| fun w26 e27 => L_nil <| thn_n ?_
        rcases bif_two H with ⟨q28, H⟩ | ⟨q28, H⟩
        · refine W_true (congrArg Value.bool q28) <| W_seq <| W_reg <| L_op (.plain rfl) rfl (ltb rfl) (X_move (v := (.int .i64 x8_1)) rfl) <| L_op (.plain rfl) rfl (ltb rfl) (X_assign (v := (.int .i64 x8_1)) rfl) <| L_nil <| thn_n <| W_ret <| blk_r <| thn_r <| thn_r <| blk_r <| thn_r <| thn_r <| fin_r ?_
          obtain rfl := Option.some.inj H
          obtain rfl := Option.some.inj S17
          have H := C4
          obtain rfl := Option.some.inj H
          exact fin1 rfl (Ext.trans e13 e27)
        · refine W_false (congrArg Value.bool q28) <| W_skip <| blk_n <| thn_n <| W_reg <| L_op (.plain rfl) rfl (ltb rfl) (X_add h15 rfl) <| L_op (.plain rfl) rfl (ltb rfl) (X_move (v := (.int .i64 (IntKind.wrap .i64 (x8_1 + 1)))) rfl) <| L_nil <| thn_n ?_
          obtain rfl := Option.some.inj H
          exact ⟨_, Nat.lt_succ_self _, IntKind.wrap .i64 (x8_1 + 1), (Kp.upd (Kp.upd (Kp.upd (Kp.upd (Kp.upd (Kp.upd (Kp.upd (Kp.upd (Kp.upd (Kp.upd (Kp.upd K12 rfl) rfl) rfl) rfl) rfl) rfl) rfl) rfl) rfl) rfl) rfl), rfl, (Ext.trans e13 e27), S17⟩
      · refine W_false (congrArg Value.bool q18) <| W_exit <| thn_x <| thn_x <| blk_x <| thn_n ?_
        obtain rfl := Option.some.inj H
        obtain rfl := Option.some.inj S17
        exact ⟨(Kp.upd K12 rfl), e13, rfl⟩
  · rintro s6 w5 ⟨K7, e8, y29⟩
    rw [y29] at C4
    have H := C4
    replace H : _ = some _ := H
    refine thn_n <| W_seq <| W_reg <| L_op (.plain rfl) rfl (ltb rfl) (X_assign (v := (.int .i64 (-1))) rfl) <| L_nil <| thn_n <| W_ret <| fin_r ?_
    obtain rfl := Option.some.inj H
    exact fin1 rfl e8
theorem slices_IndexFuncSS.calls {w : World} {a0 : List (List Rec)} {a1 : List Rec → Option Bool} {r : Int} {v_a0 : Value} (f_a0 : Rd2 5 encRec w v_a0 a0) {v_a1 : Value} (f_a1 : ∀ (x0 : List Rec) (r : Bool), a1 x0 = some r → ∀ (u0 : Value) (wR : World), Ext w wR → Rd 5 encRec wR u0 x0 → FnAt Tryz.prog wR v_a1 [u0] (.bool r)) (g_a1 : v_a1.cells = #[v_a1]) (h0 : a0.length ≤ 4611686018427387904) (H : (idxO a1 a0) = some r) :
    Calls Tryz.prog 208 #[v_a0, v_a1] w (Rt (RP w (.int .i64 r))) := by
  obtain ⟨k, h⟩ := slices_IndexFuncSS.eq a0 a1 h0 H
  exact slices_IndexFuncSS.walk f_a0 f_a1 g_a1 h
/-! slices.ContainsFunc(()()impl.Record,()impl.Record) -/
theorem slices_ContainsFuncSS.walk {w : World} {a0 : List (List Rec)} {a1 : List Rec → Option Bool} {v_a0 : Value} (f_a0 : Rd2 5 encRec w v_a0 a0) {v_a1 : Value} (f_a1 : ∀ (x0 : List Rec) (r : Bool), a1 x0 = some r → ∀ (u0 : Value) (wR : World), Ext w wR → Rd 5 encRec wR u0 x0 → FnAt Tryz.prog wR v_a1 [u0] (.bool r)) (g_a1 : v_a1.cells = #[v_a1]) {r : Bool} (H : slices_ContainsFuncSS.sh a0 a1 = some r) :
    Calls Tryz.prog 177 #[v_a0, v_a1] w (Rt (RP w (.bool r))) := by
  unfold slices_ContainsFuncSS.sh at H
  refine calls_of_W Tryz.func177 rfl (Nat.le_of_ble_eq_true rfl) Tryz.ntmps177 rfl ?_
  refine W_seq <| W_reg <| L_op (.plain rfl) rfl (ltb rfl) (X_assign (v := (.bool false)) rfl) <| L_nil <| thn_n <| W_seq <| W_reg <| L_op (.plain rfl) rfl (ltb rfl) (X_move (v := v_a0) rfl) <| L_op (.plain rfl) rfl (ltb rfl) (X_move (v := v_a1) rfl) ?_
  obtain ⟨c1, H⟩ := bif_some H
  obtain ⟨z2, x3, H⟩ := bind_some H
  refine L_callP (.plain rfl) rfl (ltb rfl) rfl Tryz.call208 (slices_IndexFuncSS.calls (w := w) (a0 := a0) (a1 := a1) f_a0 (fun x0 r h u0 wR kR q0 => f_a1 x0 r h u0 wR (Ext.trans (Ext.refl w) kR) q0) g_a1 (of_decide_eq_true c1) x3) rfl <| fun w4 e5 => L_op (.plain rfl) rfl (ltb rfl) (X_geq rfl rfl) <| L_op (.plain rfl) rfl (ltb rfl) (X_assign (v := (.bool (decide (0 ≤ z2)))) rfl) <| L_nil <| thn_n <| W_ret <| fin_r ?_
  obtain rfl := Option.some.inj H
  exact fin1 rfl e5
theorem slices_ContainsFuncSS.calls {w : World} {a0 : List (List Rec)} {a1 : List Rec → Option Bool} {r : Bool} {v_a0 : Value} (f_a0 : Rd2 5 encRec w v_a0 a0) {v_a1 : Value} (f_a1 : ∀ (x0 : List Rec) (r : Bool), a1 x0 = some r → ∀ (u0 : Value) (wR : World), Ext w wR → Rd 5 encRec wR u0 x0 → FnAt Tryz.prog wR v_a1 [u0] (.bool r)) (g_a1 : v_a1.cells = #[v_a1]) (h0 : a0.length ≤ 4611686018427387904) (H : (anyO a1 a0) = some r) :
    Calls Tryz.prog 177 #[v_a0, v_a1] w (Rt (RP w (.bool r))) := slices_ContainsFuncSS.walk f_a0 f_a1 g_a1 (slices_ContainsFuncSS.eq a0 a1 h0 H)
/-! impl.all(()impl.Record) -/
theorem impl_allSS.walk {w : World} {a0 : List (List Rec)} {a1 : List Rec → Option Bool} {v_a0 : Value} (f_a0 : Rd2 5 encRec w v_a0 a0) {v_a1 : Value} (f_a1 : ∀ (x0 : List Rec) (r : Bool), a1 x0 = some r → ∀ (u0 : Value) (wR : World), Ext w wR → Rd 5 encRec wR u0 x0 → FnAt Tryz.prog wR v_a1 [u0] (.bool r)) (g_a1 : v_a1.cells = #[v_a1]) {r : Bool} (H : impl_allSS.sh a0 a1 = some r) :
    Calls Tryz.prog 126 #[v_a0, v_a1] w (Rt (RP w (.bool r))) := by
  unfold impl_allSS.sh at H
  refine calls_of_W Tryz.func126 rfl (Nat.le_of_ble_eq_true rfl) Tryz.ntmps126 rfl ?_
  refine W_seq <| W_reg <| L_box (.plain rfl) rfl (ltb rfl) rfl rfl <| fun b1 w2 z3 z4 e5 k6 => L_op (.plain rfl) rfl (ltb rfl) (X_assign (v := (.bool false)) rfl) <| L_nil <| thn_n <| W_seq <| W_reg <| L_op (.plain rfl) rfl (ltb rfl) (X_move (v := v_a0) rfl) <| L_op (.plain rfl) rfl (ltb rfl) (X_makeFunc (vs := #[]) (us := #[.pointer (some ⟨b1, 0, none⟩)]) rfl rfl) ?_
  obtain ⟨c11, H⟩ := bif_some H
  obtain ⟨z12, x13, H⟩ := bind_some H
  refine L_callP (.plain rfl) rfl (ltb rfl) rfl Tryz.call177 (slices_ContainsFuncSS.calls (w := w2) (a0 := a0) (a1 := (fun (x0_ : List Rec) => ((a1 x0_).map (!·)))) (Rd2.ext f_a0 e5) (fun x0_ r h ux0_ w7 k8 hx0_ => by exact FnAt.mk Tryz.call178 (by rfl) fun w9 k10 => impl_allSS_1.calls (w := w9) (a0 := x0_) (a1 := a1) (Rd.ext hx0_ k10) (fun x0 r h u0 wR kR q0 => f_a1 x0 r h u0 wR (Ext.trans (Ext.trans (Ext.trans e5 k8) k10) kR) q0) g_a1 (Blk.ext (Blk.cs k6 g_a1) (Ext.trans k8 k10)) h) rfl (of_decide_eq_true c11) x13) rfl <| fun w14 e15 => L_op (.plain rfl) rfl (ltb rfl) (X_not rfl) <| L_op (.plain rfl) rfl (ltb rfl) (X_assign (v := (.bool (!z12))) rfl) <| L_nil <| thn_n <| W_ret <| fin_r ?_
  obtain rfl := Option.some.inj H
  exact fin1 rfl (Ext.trans e5 e15)
theorem impl_allSS.calls {w : World} {a0 : List (List Rec)} {a1 : List Rec → Option Bool} {r : Bool} {v_a0 : Value} (f_a0 : Rd2 5 encRec w v_a0 a0) {v_a1 : Value} (f_a1 : ∀ (x0 : List Rec) (r : Bool), a1 x0 = some r → ∀ (u0 : Value) (wR : World), Ext w wR → Rd 5 encRec wR u0 x0 → FnAt Tryz.prog wR v_a1 [u0] (.bool r)) (g_a1 : v_a1.cells = #[v_a1]) (h0 : a0.length ≤ 4611686018427387904) (H : (allO a1 a0) = some r) :
    Calls Tryz.prog 126 #[v_a0, v_a1] w (Rt (RP w (.bool r))) := impl_allSS.walk f_a0 f_a1 g_a1 (impl_allSS.eq a0 a1 h0 H)
/-! impl.StackOK -/
theorem impl_StackOK.walk {w : World} {a0 : List (List Rec)} (gv : GV 0 w) {v_a0 : Value} (f_a0 : Rd2 5 encRec w v_a0 a0) {r : Bool} (H : impl_StackOK.sh a0 = some r) :
    Calls Tryz.prog 83 #[v_a0] w (Rt (RP w (.bool r))) := by
  unfold impl_StackOK.sh at H
  refine calls_of_W Tryz.func83 rfl (Nat.le_of_ble_eq_true rfl) Tryz.ntmps83 rfl ?_
  refine W_seq <| W_reg <| L_op (.plain rfl) rfl (ltb rfl) (X_assign (v := (.bool false)) rfl) <| L_nil <| thn_n <| W_seq <| W_reg <| L_op (.plain rfl) rfl (ltb rfl) (X_move (v := v_a0) rfl) <| L_op (.plain rfl) rfl (ltb rfl) (X_lenR2 Tryz.underlying39 rfl f_a0) <| L_op (.plain rfl) rfl (ltb rfl) (X_leq rfl rfl) <| L_op (.plain rfl) rfl (ltb rfl) (X_move (v := (.bool (decide ((a0.length : Int) ≤ 5)))) rfl) ?_
  obtain ⟨z2, x3, H⟩ := bind_some H
  refine L_grpE 3 [(7, 10)] 9 (fun q => q = z2) ?_ ?_
  · rcases bif_two x3 with ⟨b0_, H⟩ | ⟨b0_, H⟩
    · refine L_op (.guard 3 true 6 rfl rfl (ltb rfl) (congrArg Value.bool b0_)) rfl (ltb rfl) (X_move (v := v_a0) rfl) ?_
      obtain ⟨c6, H⟩ := bif_some H
      obtain ⟨z7, x8, H⟩ := bind_some H
      refine L_callP (.guard 3 true 6 rfl rfl (ltb rfl) (congrArg Value.bool b0_)) rfl (ltb rfl) rfl Tryz.call126 (impl_allSS.calls (w := w) (a0 := a0) (a1 := (fun (x0_ : List Rec) => bif decide (x0_.length ≤ 1048576) then (bif decide (∀ x ∈ x0_, x.path.length ≤ 1048576) then (some (decide ((layerFaultL x0_).2 = 0))) else none) else none)) f_a0 (fun x0_ r h ux0_ w2 k3 hx0_ => by obtain ⟨q0, h⟩ := bif_some h; obtain ⟨q1, h⟩ := bif_some h; have h := Option.some.inj h; subst h; exact FnAt.mk Tryz.call71 (by rfl) fun w4 k5 => impl_LayerOK.calls (w := w4) (a0 := x0_) (GV.ext gv (Ext.trans k3 k5)) (Rd.ext hx0_ k5) (of_decide_eq_true q0) (of_decide_eq_true q1)) rfl (of_decide_eq_true c6) x8) rfl <| fun w9 e10 => L_op (.plain rfl) rfl (ltb rfl) (X_pick (b := true) (v := (.bool z7)) (congrArg Value.bool b0_) rfl) ?_
      obtain rfl := Option.some.inj H
      exact L_nil <| thn_n ⟨(Kp.upd (Kp.upd (Kp.upd (Kp.refl _ _) rfl) rfl) rfl), ⟨_, rfl, rfl⟩, e10⟩
    · refine L_skip rfl rfl (ltb rfl) (congrArg Value.bool b0_) rfl rfl (ltb rfl) <| L_skip rfl rfl (ltb rfl) (congrArg Value.bool b0_) rfl rfl (ltb rfl) <| L_op (.plain rfl) rfl (ltb rfl) (X_pick (b := false) (v := (.bool false)) (congrArg Value.bool b0_) rfl) ?_
      obtain rfl := Option.some.inj H
      exact L_nil <| thn_n ⟨(Kp.upd (Kp.upd (Kp.upd (Kp.refl _ _) rfl) rfl) rfl), ⟨_, rfl, rfl⟩, (Ext.refl w)⟩
  intro s11 w4 z12 K5 hq h6 e7
  rw [hq] at h6; clear hq
  refine L_op (.plain rfl) rfl (ltb rfl) (X_assign (v := (.bool z2)) h6) <| L_nil <| thn_n <| W_ret <| fin_r ?_
  obtain rfl := Option.some.inj H
  exact fin1 rfl e7
theorem impl_StackOK.calls {w : World} {a0 : List (List Rec)} (gv : GV 0 w) {v_a0 : Value} (f_a0 : Rd2 5 encRec w v_a0 a0) (h0 : a0.length ≤ 1048576) (h1 : ∀ l ∈ a0, l.length ≤ 1048576) (h2 : ∀ l ∈ a0, ∀ x ∈ l, x.path.length ≤ 1048576) :
    Calls Tryz.prog 83 #[v_a0] w (Rt (RP w (.bool (stackOK a0)))) := impl_StackOK.walk gv f_a0 (impl_StackOK.eq a0 h0 h1 h2)
/-! laws.eqRecordSS -/
theorem laws_eqRecordSS.walk {k : Nat} {w : World} {a0 : List (List Rec)} {a1 : List (List Rec)} {v_a0 : Value} (f_a0 : Rd2 5 encRec w v_a0 a0) {v_a1 : Value} (f_a1 : Rd2 5 encRec w v_a1 a1) {r : Bool} (H : laws_eqRecordSS.sh k a0 a1 = some r) :
    Calls Tryz.prog 27 #[v_a0, v_a1] w (Rt (RP w (.bool r))) := by
  unfold laws_eqRecordSS.sh at H
  refine calls_of_W Tryz.func27 rfl (Nat.le_of_ble_eq_true rfl) Tryz.ntmps27 rfl ?_
  refine W_seq <| W_reg <| L_op (.plain rfl) rfl (ltb rfl) (X_assign (v := (.bool false)) rfl) <| L_nil <| thn_n <| W_seq <| W_seq <| W_reg <| L_op (.plain rfl) rfl (ltb rfl) (X_move (v := v_a0) rfl) <| L_op (.plain rfl) rfl (ltb rfl) (X_lenR2 Tryz.underlying39 rfl f_a0) <| L_op (.plain rfl) rfl (ltb rfl) (X_move (v := v_a1) rfl) <| L_op (.plain rfl) rfl (ltb rfl) (X_lenR2 Tryz.underlying39 rfl f_a1) <| L_op (.plain rfl) rfl (ltb rfl) (X_neq rfl rfl) <| L_nil <| thn_n ?_
  rcases bif_two H with ⟨q1, H⟩ | ⟨q1, H⟩
  · refine W_true (congrArg Value.bool q1) <| W_seq <| W_reg <| L_op (.plain rfl) rfl (ltb rfl) (X_assign (v := (.bool false)) rfl) <| L_nil <| thn_n <| W_ret <| thn_r <| fin_r ?_
    obtain rfl := Option.some.inj H
    exact fin1 rfl (Ext.refl w)
  · refine W_false (congrArg Value.bool q1) <| W_skip <| thn_n <| W_seq <| W_seq <| W_reg <| L_op (.plain rfl) rfl (ltb rfl) (X_assign (v := (.int .i64 0)) rfl) <| L_nil <| thn_n ?_
    obtain ⟨z3, L4, C5⟩ := bind_some H
    clear H
    refine  W_cutQ (fun s0 sQ wQ => Kp [(4, 6), (11, 27)] s0 sQ ∧ Ext w wQ ∧ z3 = .inr ()) ?_ ?_
    · refine W_block <| W_loopI (fun s0 kk sQ wQ => ∃ (x5_2 : Int), Kp [(4, 6), (11, 27)] s0 sQ ∧ sQ 5 = .int .i64 x5_2 ∧ Ext w wQ ∧ loopF (laws_eqRecordSS.b1 a0 a1) kk x5_2 = some z3) k ⟨0, (Kp.refl _ _), rfl, (Ext.refl w), L4⟩ ?_
      rintro k10 s11 w12 ⟨x5_2, K13, h16, e14, L15⟩
      cases k10 with
      | zero => exact absurd L15 (by simp [loopF])
      | succ k10 =>
        obtain ⟨t17, H, S18⟩ := loopF_succ L15
        clear L15
        unfold laws_eqRecordSS.b1 at H
        refine W_seq <| W_seq <| W_reg <| L_op (.plain rfl) rfl (ltb rfl) (X_move (v := (.int .i64 x5_2)) h16) <| L_op (.plain rfl) rfl (ltb rfl) (X_move (v := v_a0) (K13 0 rfl)) <| L_op (.plain rfl) rfl (ltb rfl) (X_lenR2 Tryz.underlying39 rfl (Rd2.ext f_a0 e14)) <| L_op (.plain rfl) rfl (ltb rfl) (X_lss rfl rfl) <| L_nil <| thn_n ?_
        rcases bif_two H with ⟨q19, H⟩ | ⟨q19, H⟩
        · refine W_true (congrArg Value.bool q19) <| W_skip <| thn_n <| W_seq <| W_block <| W_seq ?_
          obtain ⟨c20, H⟩ := bif_some H
          obtain ⟨c25, H⟩ := bif_some H
          obtain ⟨c30, H⟩ := bif_some H
          refine W_drawM [LEq v_a0, LEq (.int .i64 x5_2), LAt2 5 encRec (gt a0 x5_2), LRd 5 encRec (gt a0 x5_2), LEq v_a1, LEq (.int .i64 x5_2), LAt2 5 encRec (gt a1 x5_2), LRd 5 encRec (gt a1 x5_2), LEq (.bool (decide ((gt a0 x5_2) = (gt a1 x5_2)))), LEq (.bool (!(decide ((gt a0 x5_2) = (gt a1 x5_2)))))] (by kernel_rfl) (by kernel_rfl) ⟨LEq.mono, LEq.mono, LAt2.mono, LRd.mono, LEq.mono, LEq.mono, LAt2.mono, LRd.mono, LEq.mono, LEq.mono, trivial⟩ ⟨?_, ?_, ?_, ?_, ?_, ?_, ?_, ?_, ?_, ?_, trivial⟩ ?_
          · intro s33 w34 e35 hf36 hd37 hu38
            exact L_op (.plain rfl) rfl (ltb rfl) (X_move (v := v_a0) ((hf36 0 rfl).trans (K13 0 rfl))) <| L_nil <| stepEnd rfl rfl (Ext.refl w34) rfl
          · intro s39 w40 e41 hf42 hd43 hu44
            exact L_op (.plain rfl) rfl (ltb rfl) (X_move (v := (.int .i64 x5_2)) ((hf42 5 rfl).trans h16)) <| L_nil <| stepEnd rfl rfl (Ext.refl w40) rfl
          · intro s45 w46 e47 hf48 hd49 hu50
            have d51 : s45 17 = v_a0 := (hd49 0 rfl)
            have d52 : s45 18 = (.int .i64 x5_2) := (hd49 1 rfl)
            have c53 := c20
            exact L_idx2 (.plain rfl) rfl (ltb rfl) rfl Tryz.underlying39 Tryz.sizeOf28 d51 (Rd2.ext f_a0 (Ext.trans e14 e47)) d52 c53 <| fun p54 v56 h55 h57 => L_nil <| stepEnd rfl rfl (Ext.refl w46) ⟨_, _, rfl, h55, h57⟩
          · intro s58 w59 e60 hf61 hd62 hu63
            obtain ⟨p64, v65, h66, h67, h68⟩ := (hd62 2 rfl)
            exact L_op (.plain rfl) rfl (ltb rfl) (X_loadAt Tryz.isAgg28 h66 h67 rfl) <| L_nil <| stepEnd rfl rfl (Ext.refl w59) h68
          · intro s69 w70 e71 hf72 hd73 hu74
            exact L_op (.plain rfl) rfl (ltb rfl) (X_move (v := v_a1) ((hf72 1 rfl).trans (K13 1 rfl))) <| L_nil <| stepEnd rfl rfl (Ext.refl w70) rfl
          · intro s75 w76 e77 hf78 hd79 hu80
            exact L_op (.plain rfl) rfl (ltb rfl) (X_move (v := (.int .i64 x5_2)) ((hf78 5 rfl).trans h16)) <| L_nil <| stepEnd rfl rfl (Ext.refl w76) rfl
          · intro s81 w82 e83 hf84 hd85 hu86
            have d87 : s81 21 = v_a1 := (hd85 4 rfl)
            have d88 : s81 22 = (.int .i64 x5_2) := (hd85 5 rfl)
            have c89 := c25
            exact L_idx2 (.plain rfl) rfl (ltb rfl) rfl Tryz.underlying39 Tryz.sizeOf28 d87 (Rd2.ext f_a1 (Ext.trans e14 e83)) d88 c89 <| fun p90 v92 h91 h93 => L_nil <| stepEnd rfl rfl (Ext.refl w82) ⟨_, _, rfl, h91, h93⟩
          · intro s94 w95 e96 hf97 hd98 hu99
            obtain ⟨p100, v101, h102, h103, h104⟩ := (hd98 6 rfl)
            exact L_op (.plain rfl) rfl (ltb rfl) (X_loadAt Tryz.isAgg28 h102 h103 rfl) <| L_nil <| stepEnd rfl rfl (Ext.refl w95) h104
          · intro s105 w106 e107 hf108 hd109 hu110
            have d111 : Rd 5 encRec w106 (s105 20) (gt a0 x5_2) := (hd109 3 rfl)
            have d112 : Rd 5 encRec w106 (s105 24) (gt a1 x5_2) := (hd109 7 rfl)
            have c113 := c30
            exact L_callP (.plain rfl) rfl (ltb rfl) rfl Tryz.call21 (laws_eqRecordS.calls (w := w106) (a0 := gt a0 x5_2) (a1 := gt a1 x5_2) d111 d112 (of_decide_eq_true c113)) rfl <| fun w114 e115 => L_nil <| stepEnd rfl rfl e115 rfl
          · intro s116 w117 e118 hf119 hd120 hu121
            have d122 : s116 25 = (.bool (decide ((gt a0 x5_2) = (gt a1 x5_2)))) := (hd120 8 rfl)
            exact L_op (.plain rfl) rfl (ltb rfl) (X_not d122) <| L_nil <| stepEnd rfl rfl (Ext.refl w117) rfl
          intro s123 w124 e125 hf126 ha127
          have K128 := Kp.ofD (kp := [(17, 27)]) rfl hf126
          have d129 : s123 26 = (.bool (!(decide ((gt a0 x5_2) = (gt a1 x5_2))))) := ha127 9 rfl
          clear ha127 hf126
          refine thn_n ?_
          rcases bif_two H with ⟨q130, H⟩ | ⟨q130, H⟩
          · refine W_true (d129.trans (congrArg Value.bool q130)) <| W_seq <| W_reg <| L_op (.plain rfl) rfl (ltb rfl) (X_assign (v := (.bool false)) rfl) <| L_nil <| thn_n <| W_ret <| blk_r <| thn_r <| thn_r <| blk_r <| thn_r <| thn_r <| fin_r ?_
            obtain rfl := Option.some.inj H
            obtain rfl := Option.some.inj S18
            have H := C5
            obtain rfl := Option.some.inj H
            exact fin1 rfl (Ext.trans e14 e125)
          · refine W_false (d129.trans (congrArg Value.bool q130)) <| W_skip <| blk_n <| thn_n <| W_reg <| L_op (.plain rfl) rfl (ltb rfl) (X_move (v := (.int .i64 x5_2)) ((K128 5 rfl).trans h16)) <| L_op (.plain rfl) rfl (ltb rfl) (X_add rfl rfl) <| L_op (.plain rfl) rfl (ltb rfl) (X_assign (v := (.int .i64 (IntKind.wrap .i64 (x5_2 + 1)))) rfl) <| L_nil <| thn_n ?_
            obtain rfl := Option.some.inj H
            exact ⟨_, Nat.lt_succ_self _, IntKind.wrap .i64 (x5_2 + 1), (Kp.upd (Kp.upd (Kp.upd (Kp.cut (Kp.upd (Kp.upd (Kp.upd (Kp.upd K13 rfl) rfl) rfl) rfl) K128 rfl) rfl) rfl) rfl), rfl, (Ext.trans e14 e125), S18⟩
        · refine W_false (congrArg Value.bool q19) <| W_exit <| thn_x <| thn_x <| blk_x <| thn_n ?_
          obtain rfl := Option.some.inj H
          obtain rfl := Option.some.inj S18
          exact ⟨(Kp.upd (Kp.upd (Kp.upd (Kp.upd K13 rfl) rfl) rfl) rfl), e14, rfl⟩
    · rintro s7 w6 ⟨K8, e9, y131⟩
      rw [y131] at C5
      have H := C5
      replace H : _ = some _ := H
      refine thn_n <| W_seq <| W_reg <| L_op (.plain rfl) rfl (ltb rfl) (X_assign (v := (.bool true)) rfl) <| L_nil <| thn_n <| W_ret <| fin_r ?_
      obtain rfl := Option.some.inj H
      exact fin1 rfl e9
theorem laws_eqRecordSS.calls {w : World} {a0 : List (List Rec)} {a1 : List (List Rec)} {v_a0 : Value} (f_a0 : Rd2 5 encRec w v_a0 a0) {v_a1 : Value} (f_a1 : Rd2 5 encRec w v_a1 a1) (h0 : a0.length ≤ 1048576) (h1 : ∀ l ∈ a0, l.length ≤ 1048576) :
    Calls Tryz.prog 27 #[v_a0, v_a1] w (Rt (RP w (.bool (decide (a0 = a1))))) := by
  obtain ⟨k, h⟩ := laws_eqRecordSS.eq a0 a1 h0 h1
  exact laws_eqRecordSS.walk f_a0 f_a1 h
/-! impl.isLongList(impl.Node) -/
theorem impl_isLongListN.walk {w : World} {a0 : List Nd} {v_a0 : Value} (f_a0 : Rd 4 encNd w v_a0 a0) {r : Bool} (H : impl_isLongListN.sh a0 = some r) :
    Calls Tryz.prog 70 #[v_a0] w (Rt (RP w (.bool r))) := by
  unfold impl_isLongListN.sh at H
  refine calls_of_W Tryz.func70 rfl (Nat.le_of_ble_eq_true rfl) Tryz.ntmps70 rfl ?_
  refine W_seq <| W_reg <| L_op (.plain rfl) rfl (ltb rfl) (X_assign (v := (.bool false)) rfl) <| L_nil <| thn_n <| W_seq <| W_reg <| L_op (.plain rfl) rfl (ltb rfl) (X_move (v := v_a0) rfl) <| L_op (.plain rfl) rfl (ltb rfl) (X_lenR Tryz.underlying30 rfl f_a0) <| L_op (.plain rfl) rfl (ltb rfl) (X_gtr rfl rfl) <| L_op (.plain rfl) rfl (ltb rfl) (X_assign (v := (.bool (decide (4096 < (a0.length : Int))))) rfl) <| L_nil <| thn_n <| W_ret <| fin_r ?_
  obtain rfl := Option.some.inj H
  exact fin1 rfl (Ext.refl w)
theorem impl_isLongListN.calls {w : World} {a0 : List Nd} {v_a0 : Value} (f_a0 : Rd 4 encNd w v_a0 a0) :
    Calls Tryz.prog 70 #[v_a0] w (Rt (RP w (.bool (decide (4096 < a0.length))))) := impl_isLongListN.walk f_a0 (impl_isLongListN.eq a0)
/-! laws.markNodeS -/
abbrev laws_markNodeS.e1 (x1_1 : Int) := (IntKind.wrap .i64 ((IntKind.wrap .i64 (x1_1 + 1)) + 1))
theorem laws_markNodeS.walk {k : Nat} {w : World} {a0 : List Nd} {a1 : Int} {v_a0 : Value} {B_a0 : Nat} {T_a0 : Nat} (o_a0 : Ow 80 4 encNd B_a0 w v_a0 a0) (l_a0 : HB v_a0 T_a0) {r : Int × List Nd} (H : laws_markNodeS.sh k a0 a1 = some r) :
    Calls Tryz.prog 29 #[v_a0, .int .i64 a1] w (Rt (RM 80 4 encNd B_a0 T_a0 w (.int .i64 r.1) v_a0 r.2)) := by
  unfold laws_markNodeS.sh at H
  refine calls_of_W Tryz.func29 rfl (Nat.le_of_ble_eq_true rfl) Tryz.ntmps29 rfl ?_
  refine W_seq <| W_reg <| L_op (.plain rfl) rfl (ltb rfl) (X_assign (v := (.int .i64 0)) rfl) <| L_nil <| thn_n <| W_seq <| W_seq <| W_reg <| L_op (.plain rfl) rfl (ltb rfl) (X_assign (v := (.int .i64 0)) rfl) <| L_nil <| thn_n ?_
  obtain ⟨z4, L5, C6⟩ := bind_some H
  clear H
  refine  W_cutQ (fun s0 sQ wQ => ∃ (x1_7 : Int) (y8 : List Nd), Kp [(1, 2), (5, 42)] s0 sQ ∧ sQ 1 = .int .i64 x1_7 ∧ Ow 80 4 encNd B_a0 wQ v_a0 y8 ∧ Gr B_a0 T_a0 w wQ ∧ z4 = .inr (x1_7, y8)) ?_ ?_
  · refine W_block <| W_loopI (fun s0 kk sQ wQ => ∃ (x1_1 : Int) (x5_2 : Int) (y3 : List Nd), Kp [(1, 2), (5, 42)] s0 sQ ∧ sQ 1 = .int .i64 x1_1 ∧ sQ 5 = .int .i64 x5_2 ∧ Ow 80 4 encNd B_a0 wQ v_a0 y3 ∧ Gr B_a0 T_a0 w wQ ∧ loopF (laws_markNodeS.b1) kk (x1_1, x5_2, y3) = some z4) k ⟨a1, 0, a0, (Kp.refl _ _), rfl, rfl, o_a0, (Gr.refl _ _ _), L5⟩ ?_
    rintro k13 s14 w15 ⟨x1_1, x5_2, y3, K16, h19, h20, h21, e17, L18⟩
    cases k13 with
    | zero => exact absurd L18 (by simp [loopF])
    | succ k13 =>
      obtain ⟨t22, H, S23⟩ := loopF_succ L18
      clear L18
      unfold laws_markNodeS.b1 at H
      refine W_seq <| W_seq <| W_reg <| L_op (.plain rfl) rfl (ltb rfl) (X_move (v := (.int .i64 x5_2)) h20) <| L_op (.plain rfl) rfl (ltb rfl) (X_move (v := v_a0) (K16 0 rfl)) <| L_op (.plain rfl) rfl (ltb rfl) (X_lenR Tryz.underlying30 rfl (Ow.rd h21)) <| L_op (.plain rfl) rfl (ltb rfl) (X_lss rfl rfl) <| L_nil <| thn_n ?_
      rcases bif_two H with ⟨q24, H⟩ | ⟨q24, H⟩
      · refine W_true (congrArg Value.bool q24) <| W_skip <| thn_n <| W_seq <| W_block <| W_seq <| W_reg <| L_op (.plain rfl) rfl (ltb rfl) (X_move (v := v_a0) (K16 0 rfl)) <| L_op (.plain rfl) rfl (ltb rfl) (X_move (v := (.int .i64 x5_2)) h20) <| L_op (.plain rfl) rfl (ltb rfl) (X_move (v := (.int .i64 x1_1)) h19) ?_
        obtain ⟨c27, H⟩ := bif_some H
        refine L_idxO (.plain rfl) rfl (ltb rfl) rfl Tryz.underlying30 Tryz.sizeOf80 rfl h21 rfl c27 <| fun p25 h26 => L_op (.plain rfl) rfl (ltb rfl) (X_fieldAddr Tryz.underlying80 rfl Tryz.sizeOf3 rfl rfl) <| L_storeO (a := (⟨x1_1, (gt y3 x5_2).path, (gt y3 x5_2).body, (gt y3 x5_2).mode⟩ : Nd)) (vs := [(.int .i64 x1_1)]) (off := 0) (.plain rfl) rfl rfl Tryz.sizeOf3 rfl h26 rfl rfl rfl rfl rfl rfl <| fun b28 w29 h30 h31 h32 o33 => L_nil <| thn_n <| W_seq <| W_reg <| L_op (.plain rfl) rfl (ltb rfl) (X_move (v := (.int .i64 x1_1)) h19) <| L_op (.plain rfl) rfl (ltb rfl) (X_add rfl rfl) <| L_op (.plain rfl) rfl (ltb rfl) (X_assign (v := (.int .i64 (IntKind.wrap .i64 (x1_1 + 1)))) rfl) <| L_nil <| thn_n <| W_seq <| W_reg <| L_op (.plain rfl) rfl (ltb rfl) (X_move (v := v_a0) (K16 0 rfl)) <| L_op (.plain rfl) rfl (ltb rfl) (X_move (v := (.int .i64 x5_2)) h20) <| L_op (.plain rfl) rfl (ltb rfl) (X_move (v := (.int .i64 (IntKind.wrap .i64 (x1_1 + 1)))) rfl) ?_
        obtain ⟨c34, H⟩ := bif_some H
        refine L_callP (.plain rfl) rfl (ltb rfl) rfl Tryz.call81 (laws_markText.calls (w := w29) (a0 := IntKind.wrap .i64 (x1_1 + 1)) (of_decide_eq_true c34)) rfl <| fun w35 e36 => L_idxO (.plain rfl) rfl (ltb rfl) rfl Tryz.underlying30 Tryz.sizeOf80 rfl (Ow.ext o33 e36) rfl (inR_setI c27) <| fun p37 h38 => L_op (.plain rfl) rfl (ltb rfl) (X_fieldAddr Tryz.underlying80 rfl Tryz.sizeOf9 rfl rfl) <| L_storeO2 (a := (⟨x1_1, (markT (IntKind.wrap .i64 (x1_1 + 1))), (gt y3 x5_2).body, (gt y3 x5_2).mode⟩ : Nd)) (vs := [(S (markT (IntKind.wrap .i64 (x1_1 + 1))))]) (off := 1) (.plain rfl) rfl rfl Tryz.sizeOf9 rfl c27 h38 rfl rfl rfl rfl rfl rfl <| fun b39 w40 h41 h42 h43 o44 => L_nil <| thn_n <| W_seq <| W_reg <| L_op (.plain rfl) rfl (ltb rfl) (X_move (v := (.int .i64 (IntKind.wrap .i64 (x1_1 + 1)))) rfl) <| L_op (.plain rfl) rfl (ltb rfl) (X_add rfl rfl) <| L_op (.plain rfl) rfl (ltb rfl) (X_assign (v := (.int .i64 (laws_markNodeS.e1 x1_1))) rfl) <| L_nil <| thn_n <| W_seq <| W_reg <| L_op (.plain rfl) rfl (ltb rfl) (X_move (v := v_a0) (K16 0 rfl)) <| L_op (.plain rfl) rfl (ltb rfl) (X_move (v := (.int .i64 x5_2)) h20) <| L_op (.plain rfl) rfl (ltb rfl) (X_move (v := (.int .i64 (laws_markNodeS.e1 x1_1))) rfl) ?_
        obtain ⟨c45, H⟩ := bif_some H
        refine L_callP (.plain rfl) rfl (ltb rfl) rfl Tryz.call81 (laws_markText.calls (w := w40) (a0 := IntKind.wrap .i64 ((IntKind.wrap .i64 (x1_1 + 1)) + 1)) (of_decide_eq_true c45)) rfl <| fun w46 e47 => L_idxO (.plain rfl) rfl (ltb rfl) rfl Tryz.underlying30 Tryz.sizeOf80 rfl (Ow.ext o44 e47) rfl (inR_setI c27) <| fun p48 h49 => L_op (.plain rfl) rfl (ltb rfl) (X_fieldAddr Tryz.underlying80 rfl Tryz.sizeOf9 rfl rfl) <| L_storeO2 (a := (⟨x1_1, (markT (IntKind.wrap .i64 (x1_1 + 1))), (markT (laws_markNodeS.e1 x1_1)), (gt y3 x5_2).mode⟩ : Nd)) (vs := [(S (markT (laws_markNodeS.e1 x1_1)))]) (off := 2) (.plain rfl) rfl rfl Tryz.sizeOf9 rfl c27 h49 rfl rfl rfl rfl rfl rfl <| fun b50 w51 h52 h53 h54 o55 => L_nil <| thn_n <| W_seq <| W_reg <| L_op (.plain rfl) rfl (ltb rfl) (X_move (v := (.int .i64 (laws_markNodeS.e1 x1_1))) rfl) <| L_op (.plain rfl) rfl (ltb rfl) (X_add rfl rfl) <| L_op (.plain rfl) rfl (ltb rfl) (X_assign rfl) <| L_nil <| thn_n <| W_seq <| W_reg <| L_op (.plain rfl) rfl (ltb rfl) (X_move (v := v_a0) (K16 0 rfl)) <| L_op (.plain rfl) rfl (ltb rfl) (X_move (v := (.int .i64 x5_2)) h20) <| L_op (.plain rfl) rfl (ltb rfl) (X_move rfl) <| L_idxO (.plain rfl) rfl (ltb rfl) rfl Tryz.underlying30 Tryz.sizeOf80 rfl o55 rfl (inR_setI c27) <| fun p56 h57 => L_op (.plain rfl) rfl (ltb rfl) (X_fieldAddr Tryz.underlying80 rfl Tryz.sizeOf3 rfl rfl) <| L_storeO2 (a := (⟨x1_1, (markT (IntKind.wrap .i64 (x1_1 + 1))), (markT (laws_markNodeS.e1 x1_1)), IntKind.wrap .i64 ((laws_markNodeS.e1 x1_1) + 1)⟩ : Nd)) (vs := [(.int .i64 (IntKind.wrap .i64 ((laws_markNodeS.e1 x1_1) + 1)))]) (off := 3) (.plain rfl) rfl rfl Tryz.sizeOf3 rfl c27 h57 rfl rfl rfl rfl rfl rfl <| fun b58 w59 h60 h61 h62 o63 => L_nil <| thn_n <| W_reg <| L_op (.plain rfl) rfl (ltb rfl) (X_move rfl) <| L_op (.plain rfl) rfl (ltb rfl) (X_add rfl rfl) <| L_op (.plain rfl) rfl (ltb rfl) (X_assign rfl) <| L_nil <| blk_n <| thn_n <| W_reg <| L_op (.plain rfl) rfl (ltb rfl) (X_move (v := (.int .i64 x5_2)) h20) <| L_op (.plain rfl) rfl (ltb rfl) (X_add rfl rfl) <| L_op (.plain rfl) rfl (ltb rfl) (X_assign (v := (.int .i64 (IntKind.wrap .i64 (x5_2 + 1)))) rfl) <| L_nil <| thn_n ?_
        obtain rfl := Option.some.inj H
        exact ⟨_, Nat.lt_succ_self _, IntKind.wrap .i64 ((IntKind.wrap .i64 ((laws_markNodeS.e1 x1_1) + 1)) + 1), IntKind.wrap .i64 (x5_2 + 1), setI y3 x5_2 (⟨x1_1, (markT (IntKind.wrap .i64 (x1_1 + 1))), (markT (laws_markNodeS.e1 x1_1)), IntKind.wrap .i64 ((laws_markNodeS.e1 x1_1) + 1)⟩ : Nd), (Kp.upd (Kp.upd (Kp.upd (Kp.upd (Kp.upd (Kp.upd (Kp.upd (Kp.upd (Kp.upd (Kp.upd (Kp.upd (Kp.upd (Kp.upd (Kp.upd (Kp.upd (Kp.upd (Kp.upd (Kp.upd (Kp.upd (Kp.upd (Kp.upd (Kp.upd (Kp.upd (Kp.upd (Kp.upd (Kp.upd (Kp.upd (Kp.upd (Kp.upd (Kp.upd (Kp.upd (Kp.upd (Kp.upd (Kp.upd (Kp.upd (Kp.upd (Kp.upd (Kp.upd (Kp.upd (Kp.upd (Kp.upd K16 rfl) rfl) rfl) rfl) rfl) rfl) rfl) rfl) rfl) rfl) rfl) rfl) rfl) rfl) rfl) rfl) rfl) rfl) rfl) rfl) rfl) rfl) rfl) rfl) rfl) rfl) rfl) rfl) rfl) rfl) rfl) rfl) rfl) rfl) rfl) rfl) rfl) rfl) rfl) rfl) rfl), rfl, rfl, o63, (Gr.trans (Gr.trans (Gr.trans (Gr.trans (Gr.trans (Gr.trans e17 (Gr.wr h32 h31 (HB.own l_a0 h30 (OP.own0 h26) (inR_pos c27)))) (Gr.ext e36)) (Gr.wr h43 h42 (HB.own l_a0 h41 (OP.own0 h38) (inR_pos (inR_setI c27))))) (Gr.ext e47)) (Gr.wr h54 h53 (HB.own l_a0 h52 (OP.own0 h49) (inR_pos (inR_setI c27))))) (Gr.wr h62 h61 (HB.own l_a0 h60 (OP.own0 h57) (inR_pos (inR_setI c27))))), S23⟩
      · refine W_false (congrArg Value.bool q24) <| W_exit <| thn_x <| thn_x <| blk_x <| thn_n ?_
        obtain rfl := Option.some.inj H
        obtain rfl := Option.some.inj S23
        exact ⟨x1_1, y3, (Kp.upd (Kp.upd (Kp.upd (Kp.upd K16 rfl) rfl) rfl) rfl), h19, h21, e17, rfl⟩
  · rintro s10 w9 ⟨x1_7, y8, K11, h64, h65, e12, y66⟩
    rw [y66] at C6
    have H := C6
    replace H : _ = some _ := H
    refine thn_n <| W_seq <| W_reg <| L_op (.plain rfl) rfl (ltb rfl) (X_move (v := (.int .i64 x1_7)) h64) <| L_op (.plain rfl) rfl (ltb rfl) (X_assign (v := (.int .i64 x1_7)) rfl) <| L_nil <| thn_n <| W_ret <| fin_r ?_
    obtain rfl := Option.some.inj H
    exact fin1m rfl e12 h65
theorem laws_markNodeS.calls {w : World} {a0 : List Nd} {a1 : Int} {v_a0 : Value} {B_a0 : Nat} {T_a0 : Nat} (o_a0 : Ow 80 4 encNd B_a0 w v_a0 a0) (l_a0 : HB v_a0 T_a0) (h0 : a0.length ≤ 1152921504606846976) (h1 : (0 : Int) ≤ a1) (h2 : (a1 : Int) ≤ 4611686018427387904 - 4 * (a0.length : Int)) :
    Calls Tryz.prog 29 #[v_a0, .int .i64 a1] w (Rt (RM 80 4 encNd B_a0 T_a0 w (.int .i64 (a1 + 4 * (a0.length : Int))) v_a0 (marksN a0.length a1))) := by
  obtain ⟨k, h⟩ := laws_markNodeS.eq a0 a1 h0 h1 h2
  exact laws_markNodeS.walk o_a0 l_a0 h
/-! laws.markRecordS -/
abbrev laws_markRecordS.e1 (x1_1 : Int) := (IntKind.wrap .i64 ((IntKind.wrap .i64 (x1_1 + 1)) + 1))
theorem laws_markRecordS.walk {k : Nat} {w : World} {a0 : List Rec} {a1 : Int} {v_a0 : Value} {B_a0 : Nat} {T_a0 : Nat} (o_a0 : Ow 78 5 encRec B_a0 w v_a0 a0) (l_a0 : HB v_a0 T_a0) {r : Int × List Rec} (H : laws_markRecordS.sh k a0 a1 = some r) :
    Calls Tryz.prog 33 #[v_a0, .int .i64 a1] w (Rt (RM 78 5 encRec B_a0 T_a0 w (.int .i64 r.1) v_a0 r.2)) := by
  unfold laws_markRecordS.sh at H
  refine calls_of_W Tryz.func33 rfl (Nat.le_of_ble_eq_true rfl) Tryz.ntmps33 rfl ?_
  refine W_seq <| W_reg <| L_op (.plain rfl) rfl (ltb rfl) (X_assign (v := (.int .i64 0)) rfl) <| L_nil <| thn_n <| W_seq <| W_seq <| W_reg <| L_op (.plain rfl) rfl (ltb rfl) (X_assign (v := (.int .i64 0)) rfl) <| L_nil <| thn_n ?_
  obtain ⟨z4, L5, C6⟩ := bind_some H
  clear H
  refine  W_cutQ (fun s0 sQ wQ => ∃ (x1_7 : Int) (y8 : List Rec), Kp [(1, 2), (5, 51)] s0 sQ ∧ sQ 1 = .int .i64 x1_7 ∧ Ow 78 5 encRec B_a0 wQ v_a0 y8 ∧ Gr B_a0 T_a0 w wQ ∧ z4 = .inr (x1_7, y8)) ?_ ?_
  · refine W_block <| W_loopI (fun s0 kk sQ wQ => ∃ (x1_1 : Int) (x5_2 : Int) (y3 : List Rec), Kp [(1, 2), (5, 51)] s0 sQ ∧ sQ 1 = .int .i64 x1_1 ∧ sQ 5 = .int .i64 x5_2 ∧ Ow 78 5 encRec B_a0 wQ v_a0 y3 ∧ Gr B_a0 T_a0 w wQ ∧ loopF (laws_markRecordS.b1) kk (x1_1, x5_2, y3) = some z4) k ⟨a1, 0, a0, (Kp.refl _ _), rfl, rfl, o_a0, (Gr.refl _ _ _), L5⟩ ?_
    rintro k13 s14 w15 ⟨x1_1, x5_2, y3, K16, h19, h20, h21, e17, L18⟩
    cases k13 with
    | zero => exact absurd L18 (by simp [loopF])
    | succ k13 =>
      obtain ⟨t22, H, S23⟩ := loopF_succ L18
      clear L18
      unfold laws_markRecordS.b1 at H
      refine W_seq <| W_seq <| W_reg <| L_op (.plain rfl) rfl (ltb rfl) (X_move (v := (.int .i64 x5_2)) h20) <| L_op (.plain rfl) rfl (ltb rfl) (X_move (v := v_a0) (K16 0 rfl)) <| L_op (.plain rfl) rfl (ltb rfl) (X_lenR Tryz.underlying28 rfl (Ow.rd h21)) <| L_op (.plain rfl) rfl (ltb rfl) (X_lss rfl rfl) <| L_nil <| thn_n ?_
      rcases bif_two H with ⟨q24, H⟩ | ⟨q24, H⟩
      · refine W_true (congrArg Value.bool q24) <| W_skip <| thn_n <| W_seq <| W_block <| W_seq <| W_reg <| L_op (.plain rfl) rfl (ltb rfl) (X_move (v := v_a0) (K16 0 rfl)) <| L_op (.plain rfl) rfl (ltb rfl) (X_move (v := (.int .i64 x5_2)) h20) <| L_op (.plain rfl) rfl (ltb rfl) (X_move (v := (.int .i64 x1_1)) h19) ?_
        obtain ⟨c27, H⟩ := bif_some H
        refine L_idxO (.plain rfl) rfl (ltb rfl) rfl Tryz.underlying28 Tryz.sizeOf78 rfl h21 rfl c27 <| fun p25 h26 => L_op (.plain rfl) rfl (ltb rfl) (X_fieldAddr Tryz.underlying78 rfl Tryz.sizeOf3 rfl rfl) <| L_storeO (a := (⟨x1_1, (gt y3 x5_2).path, (gt y3 x5_2).body, (gt y3 x5_2).mode, (gt y3 x5_2).opq⟩ : Rec)) (vs := [(.int .i64 x1_1)]) (off := 0) (.plain rfl) rfl rfl Tryz.sizeOf3 rfl h26 rfl rfl rfl rfl rfl rfl <| fun b28 w29 h30 h31 h32 o33 => L_nil <| thn_n <| W_seq <| W_reg <| L_op (.plain rfl) rfl (ltb rfl) (X_move (v := (.int .i64 x1_1)) h19) <| L_op (.plain rfl) rfl (ltb rfl) (X_add rfl rfl) <| L_op (.plain rfl) rfl (ltb rfl) (X_assign (v := (.int .i64 (IntKind.wrap .i64 (x1_1 + 1)))) rfl) <| L_nil <| thn_n <| W_seq <| W_reg <| L_op (.plain rfl) rfl (ltb rfl) (X_move (v := v_a0) (K16 0 rfl)) <| L_op (.plain rfl) rfl (ltb rfl) (X_move (v := (.int .i64 x5_2)) h20) <| L_op (.plain rfl) rfl (ltb rfl) (X_move (v := (.int .i64 (IntKind.wrap .i64 (x1_1 + 1)))) rfl) ?_
        obtain ⟨c34, H⟩ := bif_some H
        refine L_callP (.plain rfl) rfl (ltb rfl) rfl Tryz.call81 (laws_markText.calls (w := w29) (a0 := IntKind.wrap .i64 (x1_1 + 1)) (of_decide_eq_true c34)) rfl <| fun w35 e36 => L_idxO (.plain rfl) rfl (ltb rfl) rfl Tryz.underlying28 Tryz.sizeOf78 rfl (Ow.ext o33 e36) rfl (inR_setI c27) <| fun p37 h38 => L_op (.plain rfl) rfl (ltb rfl) (X_fieldAddr Tryz.underlying78 rfl Tryz.sizeOf9 rfl rfl) <| L_storeO2 (a := (⟨x1_1, (markT (IntKind.wrap .i64 (x1_1 + 1))), (gt y3 x5_2).body, (gt y3 x5_2).mode, (gt y3 x5_2).opq⟩ : Rec)) (vs := [(S (markT (IntKind.wrap .i64 (x1_1 + 1))))]) (off := 1) (.plain rfl) rfl rfl Tryz.sizeOf9 rfl c27 h38 rfl rfl rfl rfl rfl rfl <| fun b39 w40 h41 h42 h43 o44 => L_nil <| thn_n <| W_seq <| W_reg <| L_op (.plain rfl) rfl (ltb rfl) (X_move (v := (.int .i64 (IntKind.wrap .i64 (x1_1 + 1)))) rfl) <| L_op (.plain rfl) rfl (ltb rfl) (X_add rfl rfl) <| L_op (.plain rfl) rfl (ltb rfl) (X_assign (v := (.int .i64 (laws_markRecordS.e1 x1_1))) rfl) <| L_nil <| thn_n <| W_seq <| W_reg <| L_op (.plain rfl) rfl (ltb rfl) (X_move (v := v_a0) (K16 0 rfl)) <| L_op (.plain rfl) rfl (ltb rfl) (X_move (v := (.int .i64 x5_2)) h20) <| L_op (.plain rfl) rfl (ltb rfl) (X_move (v := (.int .i64 (laws_markRecordS.e1 x1_1))) rfl) ?_
        obtain ⟨c45, H⟩ := bif_some H
        refine L_callP (.plain rfl) rfl (ltb rfl) rfl Tryz.call81 (laws_markText.calls (w := w40) (a0 := IntKind.wrap .i64 ((IntKind.wrap .i64 (x1_1 + 1)) + 1)) (of_decide_eq_true c45)) rfl <| fun w46 e47 => L_idxO (.plain rfl) rfl (ltb rfl) rfl Tryz.underlying28 Tryz.sizeOf78 rfl (Ow.ext o44 e47) rfl (inR_setI c27) <| fun p48 h49 => L_op (.plain rfl) rfl (ltb rfl) (X_fieldAddr Tryz.underlying78 rfl Tryz.sizeOf9 rfl rfl) <| L_storeO2 (a := (⟨x1_1, (markT (IntKind.wrap .i64 (x1_1 + 1))), (markT (laws_markRecordS.e1 x1_1)), (gt y3 x5_2).mode, (gt y3 x5_2).opq⟩ : Rec)) (vs := [(S (markT (laws_markRecordS.e1 x1_1)))]) (off := 2) (.plain rfl) rfl rfl Tryz.sizeOf9 rfl c27 h49 rfl rfl rfl rfl rfl rfl <| fun b50 w51 h52 h53 h54 o55 => L_nil <| thn_n <| W_seq <| W_reg <| L_op (.plain rfl) rfl (ltb rfl) (X_move (v := (.int .i64 (laws_markRecordS.e1 x1_1))) rfl) <| L_op (.plain rfl) rfl (ltb rfl) (X_add rfl rfl) <| L_op (.plain rfl) rfl (ltb rfl) (X_assign rfl) <| L_nil <| thn_n <| W_seq <| W_reg <| L_op (.plain rfl) rfl (ltb rfl) (X_move (v := v_a0) (K16 0 rfl)) <| L_op (.plain rfl) rfl (ltb rfl) (X_move (v := (.int .i64 x5_2)) h20) <| L_op (.plain rfl) rfl (ltb rfl) (X_move rfl) <| L_idxO (.plain rfl) rfl (ltb rfl) rfl Tryz.underlying28 Tryz.sizeOf78 rfl o55 rfl (inR_setI c27) <| fun p56 h57 => L_op (.plain rfl) rfl (ltb rfl) (X_fieldAddr Tryz.underlying78 rfl Tryz.sizeOf3 rfl rfl) <| L_storeO2 (a := (⟨x1_1, (markT (IntKind.wrap .i64 (x1_1 + 1))), (markT (laws_markRecordS.e1 x1_1)), IntKind.wrap .i64 ((laws_markRecordS.e1 x1_1) + 1), (gt y3 x5_2).opq⟩ : Rec)) (vs := [(.int .i64 (IntKind.wrap .i64 ((laws_markRecordS.e1 x1_1) + 1)))]) (off := 3) (.plain rfl) rfl rfl Tryz.sizeOf3 rfl c27 h57 rfl rfl rfl rfl rfl rfl <| fun b58 w59 h60 h61 h62 o63 => L_nil <| thn_n <| W_seq <| W_reg <| L_op (.plain rfl) rfl (ltb rfl) (X_move rfl) <| L_op (.plain rfl) rfl (ltb rfl) (X_add rfl rfl) <| L_op (.plain rfl) rfl (ltb rfl) (X_assign rfl) <| L_nil <| thn_n <| W_seq <| W_reg <| L_op (.plain rfl) rfl (ltb rfl) (X_move (v := v_a0) (K16 0 rfl)) <| L_op (.plain rfl) rfl (ltb rfl) (X_move (v := (.int .i64 x5_2)) h20) <| L_op (.plain rfl) rfl (ltb rfl) (X_move rfl) <| L_op (.plain rfl) rfl (ltb rfl) (X_rem rfl rfl (by decide)) <| L_op (.plain rfl) rfl (ltb rfl) (X_eql rfl rfl) <| L_idxO (.plain rfl) rfl (ltb rfl) rfl Tryz.underlying28 Tryz.sizeOf78 rfl o63 rfl (inR_setI c27) <| fun p64 h65 => L_op (.plain rfl) rfl (ltb rfl) (X_fieldAddr Tryz.underlying78 rfl Tryz.sizeOf4 rfl rfl) <| L_storeO2 (a := (⟨x1_1, (markT (IntKind.wrap .i64 (x1_1 + 1))), (markT (laws_markRecordS.e1 x1_1)), IntKind.wrap .i64 ((laws_markRecordS.e1 x1_1) + 1), (decide (((IntKind.wrap .i64 ((IntKind.wrap .i64 ((laws_markRecordS.e1 x1_1) + 1)) + 1)).tmod 3) = 0))⟩ : Rec)) (vs := [(.bool (decide (((IntKind.wrap .i64 ((IntKind.wrap .i64 ((laws_markRecordS.e1 x1_1) + 1)) + 1)).tmod 3) = 0)))]) (off := 4) (.plain rfl) rfl rfl Tryz.sizeOf4 rfl c27 h65 rfl rfl rfl rfl rfl rfl <| fun b66 w67 h68 h69 h70 o71 => L_nil <| thn_n <| W_reg <| L_op (.plain rfl) rfl (ltb rfl) (X_move rfl) <| L_op (.plain rfl) rfl (ltb rfl) (X_add rfl rfl) <| L_op (.plain rfl) rfl (ltb rfl) (X_assign rfl) <| L_nil <| blk_n <| thn_n <| W_reg <| L_op (.plain rfl) rfl (ltb rfl) (X_move (v := (.int .i64 x5_2)) h20) <| L_op (.plain rfl) rfl (ltb rfl) (X_add rfl rfl) <| L_op (.plain rfl) rfl (ltb rfl) (X_assign (v := (.int .i64 (IntKind.wrap .i64 (x5_2 + 1)))) rfl) <| L_nil <| thn_n ?_
        obtain rfl := Option.some.inj H
        exact ⟨_, Nat.lt_succ_self _, IntKind.wrap .i64 ((IntKind.wrap .i64 ((IntKind.wrap .i64 ((laws_markRecordS.e1 x1_1) + 1)) + 1)) + 1), IntKind.wrap .i64 (x5_2 + 1), setI y3 x5_2 (⟨x1_1, (markT (IntKind.wrap .i64 (x1_1 + 1))), (markT (laws_markRecordS.e1 x1_1)), IntKind.wrap .i64 ((laws_markRecordS.e1 x1_1) + 1), (decide (((IntKind.wrap .i64 ((IntKind.wrap .i64 ((laws_markRecordS.e1 x1_1) + 1)) + 1)).tmod 3) = 0))⟩ : Rec), (Kp.upd (Kp.upd (Kp.upd (Kp.upd (Kp.upd (Kp.upd (Kp.upd (Kp.upd (Kp.upd (Kp.upd (Kp.upd (Kp.upd (Kp.upd (Kp.upd (Kp.upd (Kp.upd (Kp.upd (Kp.upd (Kp.upd (Kp.upd (Kp.upd (Kp.upd (Kp.upd (Kp.upd (Kp.upd (Kp.upd (Kp.upd (Kp.upd (Kp.upd (Kp.upd (Kp.upd (Kp.upd (Kp.upd (Kp.upd (Kp.upd (Kp.upd (Kp.upd (Kp.upd (Kp.upd (Kp.upd (Kp.upd (Kp.upd (Kp.upd (Kp.upd (Kp.upd (Kp.upd (Kp.upd (Kp.upd (Kp.upd (Kp.upd (Kp.upd K16 rfl) rfl) rfl) rfl) rfl) rfl) rfl) rfl) rfl) rfl) rfl) rfl) rfl) rfl) rfl) rfl) rfl) rfl) rfl) rfl) rfl) rfl) rfl) rfl) rfl) rfl) rfl) rfl) rfl) rfl) rfl) rfl) rfl) rfl) rfl) rfl) rfl) rfl) rfl) rfl) rfl) rfl) rfl) rfl) rfl) rfl) rfl) rfl) rfl) rfl) rfl), rfl, rfl, o71, (Gr.trans (Gr.trans (Gr.trans (Gr.trans (Gr.trans (Gr.trans (Gr.trans e17 (Gr.wr h32 h31 (HB.own l_a0 h30 (OP.own0 h26) (inR_pos c27)))) (Gr.ext e36)) (Gr.wr h43 h42 (HB.own l_a0 h41 (OP.own0 h38) (inR_pos (inR_setI c27))))) (Gr.ext e47)) (Gr.wr h54 h53 (HB.own l_a0 h52 (OP.own0 h49) (inR_pos (inR_setI c27))))) (Gr.wr h62 h61 (HB.own l_a0 h60 (OP.own0 h57) (inR_pos (inR_setI c27))))) (Gr.wr h70 h69 (HB.own l_a0 h68 (OP.own0 h65) (inR_pos (inR_setI c27))))), S23⟩
      · refine W_false (congrArg Value.bool q24) <| W_exit <| thn_x <| thn_x <| blk_x <| thn_n ?_
        obtain rfl := Option.some.inj H
        obtain rfl := Option.some.inj S23
        exact ⟨x1_1, y3, (Kp.upd (Kp.upd (Kp.upd (Kp.upd K16 rfl) rfl) rfl) rfl), h19, h21, e17, rfl⟩
  · rintro s10 w9 ⟨x1_7, y8, K11, h72, h73, e12, y74⟩
    rw [y74] at C6
    have H := C6
    replace H : _ = some _ := H
    refine thn_n <| W_seq <| W_reg <| L_op (.plain rfl) rfl (ltb rfl) (X_move (v := (.int .i64 x1_7)) h72) <| L_op (.plain rfl) rfl (ltb rfl) (X_assign (v := (.int .i64 x1_7)) rfl) <| L_nil <| thn_n <| W_ret <| fin_r ?_
    obtain rfl := Option.some.inj H
    exact fin1m rfl e12 h73
theorem laws_markRecordS.calls {w : World} {a0 : List Rec} {a1 : Int} {v_a0 : Value} {B_a0 : Nat} {T_a0 : Nat} (o_a0 : Ow 78 5 encRec B_a0 w v_a0 a0) (l_a0 : HB v_a0 T_a0) (h0 : a0.length ≤ 576460752303423488) (h1 : (0 : Int) ≤ a1) (h2 : (a1 : Int) ≤ 4611686018427387904 - 5 * (a0.length : Int)) :
    Calls Tryz.prog 33 #[v_a0, .int .i64 a1] w (Rt (RM 78 5 encRec B_a0 T_a0 w (.int .i64 (a1 + 5 * (a0.length : Int))) v_a0 (marksR a0.length a1))) := by
  obtain ⟨k, h⟩ := laws_markRecordS.eq a0 a1 h0 h1 h2
  exact laws_markRecordS.walk o_a0 l_a0 h
/-! impl.isLongList(()impl.Record) -/
theorem impl_isLongListSS.walk {w : World} {a0 : List (List Rec)} {v_a0 : Value} (f_a0 : Rd2 5 encRec w v_a0 a0) {r : Bool} (H : impl_isLongListSS.sh a0 = some r) :
    Calls Tryz.prog 82 #[v_a0] w (Rt (RP w (.bool r))) := by
  unfold impl_isLongListSS.sh at H
  refine calls_of_W Tryz.func82 rfl (Nat.le_of_ble_eq_true rfl) Tryz.ntmps82 rfl ?_
  refine W_seq <| W_reg <| L_op (.plain rfl) rfl (ltb rfl) (X_assign (v := (.bool false)) rfl) <| L_nil <| thn_n <| W_seq <| W_reg <| L_op (.plain rfl) rfl (ltb rfl) (X_move (v := v_a0) rfl) <| L_op (.plain rfl) rfl (ltb rfl) (X_lenR2 Tryz.underlying39 rfl f_a0) <| L_op (.plain rfl) rfl (ltb rfl) (X_gtr rfl rfl) <| L_op (.plain rfl) rfl (ltb rfl) (X_assign (v := (.bool (decide (4096 < (a0.length : Int))))) rfl) <| L_nil <| thn_n <| W_ret <| fin_r ?_
  obtain rfl := Option.some.inj H
  exact fin1 rfl (Ext.refl w)
theorem impl_isLongListSS.calls {w : World} {a0 : List (List Rec)} {v_a0 : Value} (f_a0 : Rd2 5 encRec w v_a0 a0) :
    Calls Tryz.prog 82 #[v_a0] w (Rt (RP w (.bool (decide (4096 < a0.length))))) := impl_isLongListSS.walk f_a0 (impl_isLongListSS.eq a0)
/-! spec.l04Without -/
theorem spec_l04Without.walk {k : Nat} {w : World} {a0 : List Nd} {a1 : List UInt8} {a2 : Bool} {v_a0 : Value} (f_a0 : Rd 4 encNd w v_a0 a0) {r : List Nd} (H : spec_l04Without.sh k a0 a1 a2 = some r) :
    Calls Tryz.prog 162 #[v_a0, S a1, .bool a2] w (Rt (RO 80 4 encNd w r)) := by
  unfold spec_l04Without.sh at H
  refine calls_of_W Tryz.func162 rfl (Nat.le_of_ble_eq_true rfl) Tryz.ntmps162 rfl ?_
  refine W_seq <| W_reg <| L_op (.plain rfl) rfl (ltb rfl) (X_assign (v := (.slice none 0 0)) rfl) <| L_nil <| thn_n <| W_seq <| W_reg <| L_lit (.plain rfl) rfl (ltb rfl) rfl Tryz.underlying30 Tryz.sizeOf80 Tryz.zeroValue80 rfl rfl rfl (vs := []) rfl (lit_all rfl) <| fun b1 w2 z3 z4 e5 k6 => L_op (.plain rfl) rfl (ltb rfl) (X_assign (v := (.slice (some ⟨b1, 0, none⟩) 0 0)) rfl) <| L_nil <| thn_n <| W_seq <| W_seq <| W_reg <| L_op (.plain rfl) rfl (ltb rfl) (X_assign (v := (.int .i64 0)) rfl) <| L_nil <| thn_n ?_
  obtain ⟨z10, L11, C12⟩ := bind_some H
  clear H
  refine  W_cutQ (fun s0 sQ wQ => ∃ (x7_13 : List Nd) (v14 : Value), Kp [(7, 9), (10, 44)] s0 sQ ∧ sQ 7 = v14 ∧ Ow 80 4 encNd w2.heap.size wQ v14 x7_13 ∧ Ext w2 wQ ∧ z10 = .inr x7_13) ?_ ?_
  · refine W_block <| W_loopI (fun s0 kk sQ wQ => ∃ (x7_7 : List Nd) (v8 : Value) (x8_9 : Int), Kp [(7, 9), (10, 44)] s0 sQ ∧ sQ 7 = v8 ∧ Ow 80 4 encNd w2.heap.size wQ v8 x7_7 ∧ sQ 8 = .int .i64 x8_9 ∧ Ext w2 wQ ∧ loopF (spec_l04Without.b1 a0 a1 a2) kk (x7_7, x8_9) = some z10) k ⟨([] : List Nd), (.slice (some ⟨b1, 0, none⟩) 0 0), 0, (Kp.refl _ _), rfl, (Ow.zero), rfl, (Ext.refl w2), L11⟩ ?_
    rintro k19 s20 w21 ⟨x7_7, v8, x8_9, K22, h25, h26, h27, e23, L24⟩
    cases k19 with
    | zero => exact absurd L24 (by simp [loopF])
    | succ k19 =>
      obtain ⟨t28, H, S29⟩ := loopF_succ L24
      clear L24
      unfold spec_l04Without.b1 at H
      refine W_seq <| W_seq <| W_reg <| L_op (.plain rfl) rfl (ltb rfl) (X_move (v := (.int .i64 x8_9)) h27) <| L_op (.plain rfl) rfl (ltb rfl) (X_move (v := v_a0) (K22 0 rfl)) <| L_op (.plain rfl) rfl (ltb rfl) (X_lenR Tryz.underlying30 rfl (Rd.ext f_a0 (Ext.trans e5 e23))) <| L_op (.plain rfl) rfl (ltb rfl) (X_lss rfl rfl) <| L_nil <| thn_n ?_
      rcases bif_two H with ⟨q30, H⟩ | ⟨q30, H⟩
      · refine W_true (congrArg Value.bool q30) <| W_skip <| thn_n <| W_seq <| W_block <| W_seq <| W_reg <| L_op (.plain rfl) rfl (ltb rfl) (X_move (v := v_a0) (K22 0 rfl)) <| L_op (.plain rfl) rfl (ltb rfl) (X_move (v := (.int .i64 x8_9)) h27) ?_
        obtain ⟨c31, H⟩ := bif_some H
        refine L_idx (.plain rfl) rfl (ltb rfl) rfl Tryz.underlying30 Tryz.sizeOf80 rfl (Rd.ext f_a0 (Ext.trans e5 e23)) rfl c31 <| fun p32 h33 => L_op (.plain rfl) rfl (ltb rfl) (X_fieldAddr Tryz.underlying80 rfl Tryz.sizeOf9 rfl rfl) <| L_op (.plain rfl) rfl (ltb rfl) (X_loadF Tryz.isAgg9 (j := 1) h33 rfl rfl) <| L_op (.plain rfl) rfl (ltb rfl) (X_move (v := (S a1)) (K22 1 rfl)) <| L_callP (.plain rfl) rfl (ltb rfl) rfl Tryz.call198 (spec_l01Below.calls (w := w21) (a0 := (gt a0 x8_9).path) (a1 := a1)) rfl <| fun w34 e35 => L_op (.plain rfl) rfl (ltb rfl) (X_not rfl) <| L_op (.plain rfl) rfl (ltb rfl) (X_move rfl) ?_
        obtain ⟨z37, x38, H⟩ := bind_some H
        refine L_grpE 12 [(25, 37)] 36 (fun q => q = z37) ?_ ?_
        · rcases bif_two x38 with ⟨b35_, H⟩ | ⟨b35_, H⟩
          · refine L_op (.guard 8 true 24 rfl rfl (ltb rfl) (congrArg Value.bool b35_)) rfl (ltb rfl) (X_move (v := (.bool a2)) (K22 2 rfl)) <| L_op (.guard 8 true 24 rfl rfl (ltb rfl) (congrArg Value.bool b35_)) rfl (ltb rfl) (X_not rfl) <| L_op (.guard 8 true 24 rfl rfl (ltb rfl) (congrArg Value.bool b35_)) rfl (ltb rfl) (X_move (v := (.bool (!a2))) rfl) ?_
            obtain ⟨z38, x39, H⟩ := bind_some H
            refine L_grpE 8 [(28, 36)] 35 (fun q => q = z38) ?_ ?_
            · rcases bif_two x39 with ⟨b36_, H⟩ | ⟨b36_, H⟩
              · refine L_skip rfl rfl (ltb rfl) (congrArg Value.bool b36_) rfl rfl (ltb rfl) <| L_skip rfl rfl (ltb rfl) (congrArg Value.bool b36_) rfl rfl (ltb rfl) <| L_skip rfl rfl (ltb rfl) (congrArg Value.bool b36_) rfl rfl (ltb rfl) <| L_skip rfl rfl (ltb rfl) (congrArg Value.bool b36_) rfl rfl (ltb rfl) <| L_skip rfl rfl (ltb rfl) (congrArg Value.bool b36_) rfl rfl (ltb rfl) <| L_skip rfl rfl (ltb rfl) (congrArg Value.bool b36_) rfl rfl (ltb rfl) <| L_skip rfl rfl (ltb rfl) (congrArg Value.bool b36_) rfl rfl (ltb rfl) <| L_op (.guard 8 true 24 rfl rfl (ltb rfl) (congrArg Value.bool b35_)) rfl (ltb rfl) (X_pick (b := true) (v := (.bool true)) (congrArg Value.bool b36_) rfl) ?_
                obtain rfl := Option.some.inj H
                exact L_nil <| thn_n ⟨(Kp.upd (Kp.upd (Kp.upd (Kp.upd (Kp.upd (Kp.upd (Kp.upd (Kp.upd (Kp.refl _ _) rfl) rfl) rfl) rfl) rfl) rfl) rfl) rfl), ⟨_, rfl, rfl⟩, (Ext.refl w34)⟩
              · refine L_op (.guard 11 false 27 rfl rfl (ltb rfl) (congrArg Value.bool b36_)) rfl (ltb rfl) (X_move (v := v_a0) (K22 0 rfl)) <| L_op (.guard 11 false 27 rfl rfl (ltb rfl) (congrArg Value.bool b36_)) rfl (ltb rfl) (X_move (v := (.int .i64 x8_9)) h27) ?_
                obtain ⟨c38, H⟩ := bif_some H
                refine L_idx (.guard 11 false 27 rfl rfl (ltb rfl) (congrArg Value.bool b36_)) rfl (ltb rfl) rfl Tryz.underlying30 Tryz.sizeOf80 rfl (Rd.ext f_a0 (Ext.trans (Ext.trans e5 e23) e35)) rfl c38 <| fun p39 h40 => L_op (.guard 11 false 27 rfl rfl (ltb rfl) (congrArg Value.bool b36_)) rfl (ltb rfl) (X_fieldAddr Tryz.underlying80 rfl Tryz.sizeOf9 rfl rfl) <| L_op (.guard 11 false 27 rfl rfl (ltb rfl) (congrArg Value.bool b36_)) rfl (ltb rfl) (X_loadF Tryz.isAgg9 (j := 1) h40 rfl rfl) <| L_op (.guard 11 false 27 rfl rfl (ltb rfl) (congrArg Value.bool b36_)) rfl (ltb rfl) (X_move (v := (S a1)) (K22 1 rfl)) <| L_op (.guard 11 false 27 rfl rfl (ltb rfl) (congrArg Value.bool b36_)) rfl (ltb rfl) (X_sne rfl rfl) <| L_op (.guard 8 true 24 rfl rfl (ltb rfl) (congrArg Value.bool b35_)) rfl (ltb rfl) (X_pick (b := false) (v := (.bool (!decide (((gt a0 x8_9).path) = a1)))) (congrArg Value.bool b36_) rfl) ?_
                obtain rfl := Option.some.inj H
                exact L_nil <| thn_n ⟨(Kp.upd (Kp.upd (Kp.upd (Kp.upd (Kp.upd (Kp.upd (Kp.upd (Kp.upd (Kp.refl _ _) rfl) rfl) rfl) rfl) rfl) rfl) rfl) rfl), ⟨_, rfl, rfl⟩, (Ext.refl w34)⟩
            intro s44 w40 z45 K41 hq h42 e43
            rw [hq] at h42; clear hq
            refine L_op (.plain rfl) rfl (ltb rfl) (X_pick (b := true) (v := (.bool z38)) ((K41 24 rfl).trans (congrArg Value.bool b35_)) h42) ?_
            obtain rfl := Option.some.inj H
            exact L_nil <| thn_n ⟨(Kp.upd (Kp.cut (Kp.upd (Kp.upd (Kp.upd (Kp.refl _ _) rfl) rfl) rfl) K41 rfl) rfl), ⟨_, rfl, rfl⟩, e43⟩
          · refine L_skip rfl rfl (ltb rfl) (congrArg Value.bool b35_) rfl rfl (ltb rfl) <| L_skip rfl rfl (ltb rfl) (congrArg Value.bool b35_) rfl rfl (ltb rfl) <| L_skip rfl rfl (ltb rfl) (congrArg Value.bool b35_) rfl rfl (ltb rfl) <| L_skipU rfl rfl (ltb rfl) rfl rfl (ltb rfl) <| L_skipU rfl rfl (ltb rfl) rfl rfl (ltb rfl) <| L_skipU rfl rfl (ltb rfl) rfl rfl (ltb rfl) <| L_skipU rfl rfl (ltb rfl) rfl rfl (ltb rfl) <| L_skipU rfl rfl (ltb rfl) rfl rfl (ltb rfl) <| L_skipU rfl rfl (ltb rfl) rfl rfl (ltb rfl) <| L_skipU rfl rfl (ltb rfl) rfl rfl (ltb rfl) <| L_skip rfl rfl (ltb rfl) (congrArg Value.bool b35_) rfl rfl (ltb rfl) <| L_op (.plain rfl) rfl (ltb rfl) (X_pick (b := false) (v := (.bool false)) (congrArg Value.bool b35_) rfl) ?_
            obtain rfl := Option.some.inj H
            exact L_nil <| thn_n ⟨(Kp.upd (Kp.upd (Kp.upd (Kp.upd (Kp.upd (Kp.upd (Kp.upd (Kp.upd (Kp.upd (Kp.upd (Kp.upd (Kp.upd (Kp.refl _ _) rfl) rfl) rfl) rfl) rfl) rfl) rfl) rfl) rfl) rfl) rfl) rfl), ⟨_, rfl, rfl⟩, (Ext.refl w34)⟩
        intro s46 w39 z47 K40 hq h41 e42
        rw [hq] at h41; clear hq
        refine L_nil <| thn_n ?_
        rcases bif_two H with ⟨q48, H⟩ | ⟨q48, H⟩
        · refine W_true (h41.trans (congrArg Value.bool q48)) <| W_reg <| L_op (.plain rfl) rfl (ltb rfl) (X_move (v := v8) ((K40 7 rfl).trans h25)) <| L_op (.plain rfl) rfl (ltb rfl) (X_move (v := v_a0) ((K40 0 rfl).trans (K22 0 rfl))) <| L_op (.plain rfl) rfl (ltb rfl) (X_move (v := (.int .i64 x8_9)) ((K40 8 rfl).trans h27)) ?_
          obtain ⟨c49, H⟩ := bif_some H
          refine L_idx (.plain rfl) rfl (ltb rfl) rfl Tryz.underlying30 Tryz.sizeOf80 rfl (Rd.ext f_a0 (Ext.trans (Ext.trans (Ext.trans e5 e23) e35) e42)) rfl c49 <| fun p50 h51 => L_op (.plain rfl) rfl (ltb rfl) (X_loadS Tryz.isAgg80 Tryz.sizeOf80 rfl rfl h51) <| L_lit (.plain rfl) rfl (ltb rfl) rfl Tryz.underlying30 Tryz.sizeOf80 Tryz.zeroValue80 rfl rfl rfl (vs := [(.agg (encNd (gt a0 x8_9)).toArray)]) rfl (lit_all rfl) <| fun b52 w53 z54 z55 e56 k57 => ?_
          obtain ⟨c58, H⟩ := bif_some H
          refine L_append (enc := encNd) (.plain rfl) rfl (ltb rfl) rfl El.t30 rfl rfl (Ow.ext h26 (Ext.trans (Ext.trans e35 e42) e56)) (Ow.rd (Ow.new (xs := [gt a0 x8_9]) (sz := 4) (enc := encNd) (base := w39.heap.size) k57 (Nat.le_of_eq z54) rfl (fun _ _ => by rfl) (Nat.le_of_ble_eq_true rfl))) (ones_Nd _) (of_decide_eq_true c58) ((Ext.trans (Ext.trans (Ext.trans e23 e35) e42) e56)).size <| fun v59 w60 o61 z62 g63 => L_op (.plain rfl) rfl (ltb rfl) (X_assign (v := v59) rfl) <| L_nil <| blk_n <| thn_n <| W_reg <| L_op (.plain rfl) rfl (ltb rfl) (X_move (v := (.int .i64 x8_9)) ((K40 8 rfl).trans h27)) <| L_op (.plain rfl) rfl (ltb rfl) (X_add rfl rfl) <| L_op (.plain rfl) rfl (ltb rfl) (X_assign (v := (.int .i64 (IntKind.wrap .i64 (x8_9 + 1)))) rfl) <| L_nil <| thn_n ?_
          obtain rfl := Option.some.inj H
          exact ⟨_, Nat.lt_succ_self _, x7_7 ++ ([gt a0 x8_9] : List Nd), v59, IntKind.wrap .i64 (x8_9 + 1), (Kp.upd (Kp.upd (Kp.upd (Kp.upd (Kp.upd (Kp.upd (Kp.upd (Kp.upd (Kp.upd (Kp.upd (Kp.upd (Kp.cut (Kp.upd (Kp.upd (Kp.upd (Kp.upd (Kp.upd (Kp.upd (Kp.upd (Kp.upd (Kp.upd (Kp.upd (Kp.upd (Kp.upd (Kp.upd K22 rfl) rfl) rfl) rfl) rfl) rfl) rfl) rfl) rfl) rfl) rfl) rfl) rfl) K40 rfl) rfl) rfl) rfl) rfl) rfl) rfl) rfl) rfl) rfl) rfl) rfl), rfl, o61, rfl, (g63 _ (Ext.trans (Ext.trans (Ext.trans e23 e35) e42) e56)), S29⟩
        · refine W_false (h41.trans (congrArg Value.bool q48)) <| W_skip <| blk_n <| thn_n <| W_reg <| L_op (.plain rfl) rfl (ltb rfl) (X_move (v := (.int .i64 x8_9)) ((K40 8 rfl).trans h27)) <| L_op (.plain rfl) rfl (ltb rfl) (X_add rfl rfl) <| L_op (.plain rfl) rfl (ltb rfl) (X_assign (v := (.int .i64 (IntKind.wrap .i64 (x8_9 + 1)))) rfl) <| L_nil <| thn_n ?_
          obtain rfl := Option.some.inj H
          exact ⟨_, Nat.lt_succ_self _, x7_7, v8, IntKind.wrap .i64 (x8_9 + 1), (Kp.upd (Kp.upd (Kp.upd (Kp.cut (Kp.upd (Kp.upd (Kp.upd (Kp.upd (Kp.upd (Kp.upd (Kp.upd (Kp.upd (Kp.upd (Kp.upd (Kp.upd (Kp.upd (Kp.upd K22 rfl) rfl) rfl) rfl) rfl) rfl) rfl) rfl) rfl) rfl) rfl) rfl) rfl) K40 rfl) rfl) rfl) rfl), ((K40 7 rfl).trans h25), (Ow.ext h26 (Ext.trans e35 e42)), rfl, (Ext.trans (Ext.trans e23 e35) e42), S29⟩
      · refine W_false (congrArg Value.bool q30) <| W_exit <| thn_x <| thn_x <| blk_x <| thn_n ?_
        obtain rfl := Option.some.inj H
        obtain rfl := Option.some.inj S29
        exact ⟨x7_7, v8, (Kp.upd (Kp.upd (Kp.upd (Kp.upd K22 rfl) rfl) rfl) rfl), h25, h26, e23, rfl⟩
  · rintro s16 w15 ⟨x7_13, v14, K17, h64, h65, e18, y66⟩
    rw [y66] at C12
    have H := C12
    replace H : _ = some _ := H
    refine thn_n <| W_seq <| W_reg <| L_op (.plain rfl) rfl (ltb rfl) (X_move (v := v14) h64) <| L_op (.plain rfl) rfl (ltb rfl) (X_assign (v := v14) rfl) <| L_nil <| thn_n <| W_ret <| fin_r ?_
    obtain rfl := Option.some.inj H
    exact fin1o rfl (Ext.trans e5 e18) h65 (e5).size
theorem spec_l04Without.calls {w : World} {a0 : List Nd} {a1 : List UInt8} {a2 : Bool} {v_a0 : Value} (f_a0 : Rd 4 encNd w v_a0 a0) (h0 : a0.length ≤ 1048576) :
    Calls Tryz.prog 162 #[v_a0, S a1, .bool a2] w (Rt (RO 80 4 encNd w (without a0 a1 a2))) := by
  obtain ⟨k, h⟩ := spec_l04Without.eq a0 a1 a2 h0
  exact spec_l04Without.walk f_a0 h
/-! slices.Clone(()impl.Node,impl.Node), by text -/
theorem slices_CloneN.calls {w : World} {a0 : List Nd} {v_a0 : Value} (f_a0 : Rd 4 encNd w v_a0 a0) (h0 : a0.length ≤ 1048576) :
    Calls Tryz.prog 121 #[v_a0] w (Rt (RO 80 4 encNd w a0)) := by
  obtain ⟨A, c, hv⟩ := f_a0.shape
  refine calls_of_W Tryz.func121 rfl (Nat.le_of_ble_eq_true rfl) Tryz.ntmps121 rfl ?_
  refine W_seq <| W_reg <| L_op (.plain rfl) rfl (ltb rfl) (X_assign (v := .slice none 0 0) rfl) <| L_nil <| thn_n <| W_seq <| W_seq <| W_reg <| L_op (.plain rfl) rfl (ltb rfl) (X_move (v := v_a0) rfl) <| L_op (.plain rfl) rfl (ltb rfl) (X_eqNil Tryz.underlying30 (by kernel_rfl) hv rfl) <| L_nil <| thn_n ?_
  cases A with
  | none =>
    have hn : a0 = [] := by
      obtain ⟨A', c', hv', ⟨hn, hz, _⟩, _⟩ := f_a0
      rw [hv] at hv'; injection hv' with e1 e2 e3
      have := hz e1.symm
      exact List.eq_nil_of_length_eq_zero (by omega)
    subst hn
    refine W_true rfl <| W_seq <| W_reg <| L_op (.plain rfl) rfl (ltb rfl) (X_assign (v := .slice none 0 0) rfl) <| L_nil <| thn_n <| W_ret <| thn_r <| fin_r ?_
    exact fin1o rfl (Ext.refl w) (Ow.zero (base := w.heap.size)) (Nat.le_refl _)
  | some a =>
    refine W_false rfl <| W_skip <| thn_n <| W_seq <| W_reg <| L_lit (.plain rfl) rfl (ltb rfl) rfl Tryz.underlying30 Tryz.sizeOf80 Tryz.zeroValue80 rfl rfl rfl (vs := []) rfl (lit_all rfl) <| fun b w1 z1 z2 e1 k1 => L_op (.plain rfl) rfl (ltb rfl) (X_move (v := v_a0) rfl) <|
      L_append (enc := encNd) (.plain rfl) rfl (ltb rfl) rfl El.t30 rfl rfl (Ow.zero (base := w1.heap.size) (w := w1)) (Rd.ext f_a0 e1) (ones_Nd _) (by simp; omega) (Nat.le_refl _) <| fun v2 w2 o2 z3 g2 => L_op (.plain rfl) rfl (ltb rfl) (X_assign (v := v2) rfl) <| L_nil <| thn_n <| W_ret <| fin_r ?_
    have e2 : Ext w w2 := Ext.trans e1 (g2 _ (Ext.refl w1))
    have o3 : Ow 80 4 encNd w1.heap.size w2 v2 a0 := by simpa using o2
    exact fin1o rfl e2 o3 e1.size

/-! impl.removed$1 -/
theorem impl_removed_1.walk {w : World} {a0 : Nd} {a1 : List UInt8} {b_a1 : Nat} (k_a1 : Blk w b_a1 #[(S a1)] 9) {r : Bool} (H : impl_removed_1.sh a0 a1 = some r) :
    Calls Tryz.prog 172 #[.agg (encNd a0).toArray, .pointer (some ⟨b_a1, 0, none⟩)] w (Rt (RP w (.bool r))) := by
  unfold impl_removed_1.sh at H
  refine calls_of_W Tryz.func172 rfl (Nat.le_of_ble_eq_true rfl) Tryz.ntmps172 rfl ?_
  refine W_seq <| W_reg <| L_box (.plain rfl) rfl (ltb rfl) rfl rfl <| fun b1 w2 z3 z4 e5 k6 => L_op (.plain rfl) rfl (ltb rfl) (X_assign (v := (.bool false)) rfl) <| L_nil <| thn_n <| W_seq <| W_reg <| L_op (.plain rfl) rfl (ltb rfl) (X_fieldAddr Tryz.underlying80 rfl Tryz.sizeOf9 rfl rfl) <| L_op (.plain rfl) rfl (ltb rfl) (X_loadB Tryz.isAgg9 k6 rfl rfl) <| L_op (.plain rfl) rfl (ltb rfl) (X_loadB Tryz.isAgg9 (Blk.ext k_a1 e5) rfl rfl) <| L_op (.plain rfl) rfl (ltb rfl) (X_seq rfl rfl) <| L_op (.plain rfl) rfl (ltb rfl) (X_move (v := (.bool (decide (a0.path = a1)))) rfl) ?_
  obtain ⟨z8, x9, H⟩ := bind_some H
  refine L_grpE 5 [(9, 14)] 13 (fun q => q = z8) ?_ ?_
  · rcases bif_two x9 with ⟨b6_, H⟩ | ⟨b6_, H⟩
    · refine L_skip rfl rfl (ltb rfl) (congrArg Value.bool b6_) rfl rfl (ltb rfl) <| L_skip rfl rfl (ltb rfl) (congrArg Value.bool b6_) rfl rfl (ltb rfl) <| L_skip rfl rfl (ltb rfl) (congrArg Value.bool b6_) rfl rfl (ltb rfl) <| L_skip rfl rfl (ltb rfl) (congrArg Value.bool b6_) rfl rfl (ltb rfl) <| L_op (.plain rfl) rfl (ltb rfl) (X_pick (b := true) (v := (.bool true)) (congrArg Value.bool b6_) rfl) ?_
      obtain rfl := Option.some.inj H
      exact L_nil <| thn_n ⟨(Kp.upd (Kp.upd (Kp.upd (Kp.upd (Kp.upd (Kp.refl _ _) rfl) rfl) rfl) rfl) rfl), ⟨_, rfl, rfl⟩, (Ext.refl w2)⟩
    · refine L_op (.guard 4 false 8 rfl rfl (ltb rfl) (congrArg Value.bool b6_)) rfl (ltb rfl) (X_fieldAddr Tryz.underlying80 rfl Tryz.sizeOf9 rfl rfl) <| L_op (.guard 4 false 8 rfl rfl (ltb rfl) (congrArg Value.bool b6_)) rfl (ltb rfl) (X_loadB Tryz.isAgg9 k6 rfl rfl) <| L_op (.guard 4 false 8 rfl rfl (ltb rfl) (congrArg Value.bool b6_)) rfl (ltb rfl) (X_loadB Tryz.isAgg9 (Blk.ext k_a1 e5) rfl rfl) ?_
      obtain ⟨c8, H⟩ := bif_some H
      refine L_callP (.guard 4 false 8 rfl rfl (ltb rfl) (congrArg Value.bool b6_)) rfl (ltb rfl) rfl Tryz.call173 (impl_below.calls (w := w2) (a0 := a0.path) (a1 := a1) (of_decide_eq_true c8)) rfl <| fun w9 e10 => L_op (.plain rfl) rfl (ltb rfl) (X_pick (b := false) (v := (.bool (decide (a1 = []) || belowP a0.path a1))) (congrArg Value.bool b6_) rfl) ?_
      obtain rfl := Option.some.inj H
      exact L_nil <| thn_n ⟨(Kp.upd (Kp.upd (Kp.upd (Kp.upd (Kp.upd (Kp.refl _ _) rfl) rfl) rfl) rfl) rfl), ⟨_, rfl, rfl⟩, e10⟩
  intro s14 w10 z15 K11 hq h12 e13
  rw [hq] at h12; clear hq
  refine L_op (.plain rfl) rfl (ltb rfl) (X_assign (v := (.bool z8)) h12) <| L_nil <| thn_n <| W_ret <| fin_r ?_
  obtain rfl := Option.some.inj H
  exact fin1 rfl (Ext.trans e5 e13)
theorem impl_removed_1.calls {w : World} {a0 : Nd} {a1 : List UInt8} {b_a1 : Nat} (k_a1 : Blk w b_a1 #[(S a1)] 9) (h0 : a1.length ≤ 1048576) :
    Calls Tryz.prog 172 #[.agg (encNd a0).toArray, .pointer (some ⟨b_a1, 0, none⟩)] w (Rt (RP w (.bool (decide (a0.path = a1) || (decide (a1 = []) || belowP a0.path a1))))) := impl_removed_1.walk k_a1 (impl_removed_1.eq a0 a1 h0)
/-! slices.DeleteFunc(()impl.Node,impl.Node), by text -/
theorem slices_DeleteFuncN.calls {w wF : World} {B : Nat} {v : Value} {xs : List Nd} (hO : Ow 80 4 encNd B w v xs) (kF : Ext wF w) (hF : wF.heap.size ≤ B) (hl : xs.length ≤ 1048576) {u : Value} {q : Nd → Bool}
    (hf : ∀ x, FnAt Tryz.prog wF u [.agg (encNd x).toArray] (.bool (q x))) (hu : u.cells = #[u]) :
    Calls Tryz.prog 171 #[v, u] w (Rt (fun r w' => Ext wF w' ∧ Ow 80 4 encNd B w' r (xs.filter fun x => !q x))) := by
  obtain ⟨A, c, hv⟩ := hO.rd.shape
  have hidx := idxO_some (p := fun x => some (q x)) (q := q) (l := xs) (fun _ _ => rfl)
  refine calls_of_W Tryz.func171 rfl (Nat.le_of_ble_eq_true rfl) Tryz.ntmps171 rfl ?_
  refine W_seq <| W_reg <| L_op (.plain rfl) rfl (ltb rfl) (X_assign (v := .slice none 0 0) rfl) <| L_nil <| thn_n <| W_seq <| W_reg <| L_op (.plain rfl) rfl (ltb rfl) (X_move (v := v) rfl) <| L_op (.plain rfl) rfl (ltb rfl) (X_move (v := u) rfl) <|
    L_callP (.plain rfl) rfl (ltb rfl) rfl Tryz.call169 (slices_IndexFuncN.calls (w := w) (a0 := xs) (a1 := fun x => some (q x)) hO.rd (fun x r h => by have h := Option.some.inj h; subst h; exact (hf x).ext kF) hu (by omega) hidx) rfl <| fun w1 e1 => L_op (.plain rfl) rfl (ltb rfl) (X_assign (v := .int .i64 (findI q xs)) rfl) <| L_nil <| thn_n <|
    W_seq <| W_seq <| W_reg <| L_op (.plain rfl) rfl (ltb rfl) (X_move (v := .int .i64 (findI q xs)) rfl) <| L_op (.plain rfl) rfl (ltb rfl) (X_eql rfl rfl) <| L_nil <| thn_n ?_
  have hge := findI_ge q xs
  by_cases hm : findI q xs = -1
  · have hnone : ∀ x ∈ xs, q x = false := by
      have := findI_any q xs
      rw [hm] at this
      intro x hx
      rcases bool_two (q x) with h | h
      · have h2 : xs.any q = true := List.any_eq_true.2 ⟨x, hx, h⟩
        rw [h2] at this; cases this
      · exact h
    have hfil : (xs.filter fun x => !q x) = xs := List.filter_eq_self.2 fun x hx => by rw [hnone x hx]; rfl
    refine W_true (congrArg Value.bool (decide_eq_true hm)) <| W_seq <| W_reg <| L_op (.plain rfl) rfl (ltb rfl) (X_move (v := v) rfl) <| L_op (.plain rfl) rfl (ltb rfl) (X_assign (v := v) rfl) <| L_nil <| thn_n <| W_ret <| thn_r <| fin_r ?_
    rw [hfil]
    exact ⟨_, rfl, Ext.trans kF e1, hO.ext e1⟩
  · obtain ⟨hin, hq0⟩ := findI_get q xs (by omega)
    obtain ⟨i0, hi0⟩ : ∃ i0 : Nat, findI q xs = i0 := ⟨(findI q xs).toNat, by omega⟩
    rw [hi0] at hin hq0 ⊢
    have hlt0 : i0 < xs.length := by have := inR_hi hin; omega
    have hpre : (xs.take (i0 + 1)).filter (fun x => !q x) = xs.take i0 := by
      have hfst := findI_first q xs i0 hi0
      rw [List.take_succ_eq_append_getElem hlt0, List.filter_append]
      have h1 : (xs.take i0).filter (fun x => !q x) = xs.take i0 := List.filter_eq_self.2 fun x hx => by rw [hfst x hx]; rfl
      have h2 : q xs[i0] = true := by rw [getD_gt, getD_el hlt0] at hq0; exact hq0
      rw [h1]; simp [h2]
    have hpl : ((xs.take (i0 + 1)).filter (fun x => !q x)).length = i0 := by rw [hpre]; simp; omega
    have hwi : IntKind.wrap .i64 ((i0 : Int) + 1) = ((i0 + 1 : Nat) : Int) := by rw [Int.natCast_add, Int.natCast_one]; exact Go.UL.wrap_small (by omega) (by omega)
    refine W_false (congrArg Value.bool (decide_eq_false (by omega))) <| W_skip <| thn_n <| W_seq <| W_seq <| W_reg <| L_op (.plain rfl) rfl (ltb rfl) (X_move (v := .int .i64 (i0 : Int)) rfl) <| L_op (.plain rfl) rfl (ltb rfl) (X_add rfl rfl) <|
      L_op (.plain rfl) rfl (ltb rfl) (X_assign (v := .int .i64 ((i0 + 1 : Nat) : Int)) (congrArg (Value.int .i64) hwi)) <| L_nil <| thn_n ?_
    refine W_cutQ (fun s0 σ W' => σ 0 = v ∧ Ext wF W' ∧ ∃ ys : List Nd, ys.length = xs.length ∧ σ 5 = .int .i64 ((xs.filter fun x => !q x).length : Int) ∧ Ow 80 4 encNd B W' v ys ∧ ys.take (xs.filter fun x => !q x).length = xs.filter fun x => !q x) ?_ ?_
    · refine W_block <| W_loopI (fun s0 m σ W' => σ 0 = v ∧ σ 1 = u ∧ Ext wF W' ∧ ∃ (j : Nat) (ys : List Nd), j + m = xs.length ∧ i0 < j ∧ σ 6 = .int .i64 (j : Int) ∧ ys.length = xs.length ∧ σ 5 = .int .i64 (((xs.take j).filter fun x => !q x).length : Int) ∧ ((xs.take j).filter fun x => !q x).length < j ∧ Ow 80 4 encNd B W' v ys ∧ ys.take ((xs.take j).filter fun x => !q x).length = (xs.take j).filter (fun x => !q x) ∧ ys.drop j = xs.drop j) (xs.length - (i0 + 1))
        ⟨rfl, rfl, Ext.trans kF e1, i0 + 1, xs, by omega, by omega, rfl, rfl, (congrArg (fun n : Nat => Value.int .i64 (n : Int)) hpl).symm, by omega, hO.ext e1, by rw [hpl, hpre], rfl⟩ ?_
      rintro m s1 W1 ⟨h0, h1, k1, j, ys, hjm, hij, h6, hyl, h5, hlt, hO1, htk, hdr⟩
      refine W_seq <| W_seq <| W_reg <| L_op (.plain rfl) rfl (ltb rfl) (X_move h6) <| L_op (.plain rfl) rfl (ltb rfl) (X_move h0) <| L_op (.plain rfl) rfl (ltb rfl) (X_lenR Tryz.underlying30 rfl hO1.rd) <| L_op (.plain rfl) rfl (ltb rfl) (X_lss rfl rfl) <| L_nil <| thn_n ?_
      by_cases hjl : j < xs.length
      · have hjy : j < ys.length := by omega
        have hinj : inR (j : Int) ys.length = true := inR_nat hjy
        have hyj : gt ys (j : Int) = xs[j] := by
          rw [getD_gt, getD_el hjy]
          have h2 : (ys.drop j)[0]? = (xs.drop j)[0]? := by rw [hdr]
          simp only [List.getElem?_drop, Nat.add_zero, List.getElem?_eq_getElem hjy, List.getElem?_eq_getElem hjl] at h2
          exact Option.some.inj h2
        refine W_true (congrArg Value.bool (decide_eq_true (by omega))) <| W_skip <| thn_n <| W_seq <| W_block <| W_seq <| W_reg <| L_op (.plain rfl) rfl (ltb rfl) (X_move h0) <| L_op (.plain rfl) rfl (ltb rfl) (X_move h6) <| L_idx (.plain rfl) rfl (ltb rfl) rfl Tryz.underlying30 Tryz.sizeOf80 rfl hO1.rd rfl hinj <| fun p hA =>
          L_op (.plain rfl) rfl (ltb rfl) (X_loadS (cs := encNd (gt ys (j : Int))) Tryz.isAgg80 Tryz.sizeOf80 rfl rfl hA) <| L_alloc (.plain rfl) rfl (ltb rfl) rfl Tryz.zeroValue80 <| fun b7 W2 z1 z2 e2 k2 => L_storeA (.plain rfl) rfl rfl Tryz.sizeOf80 rfl rfl rfl rfl rfl k2 <| fun W3 hw3 k3 => L_nil <| thn_n ?_
        have e3 : Ext W1 W3 := Ext.wr e2 hw3 (Nat.le_of_eq z1) (Nat.le_refl _)
        have hO3 := hO1.ext e3
        have kF3 : Ext wF W3 := Ext.trans k1 e3
        refine W_seq <| W_reg <| L_op (.plain rfl) rfl (ltb rfl) (X_move (v := u) h1) <| L_op (.plain rfl) rfl (ltb rfl) (X_loadS (cs := encNd (gt ys (j : Int))) Tryz.isAgg80 Tryz.sizeOf80 rfl rfl (Blk.at0 k3)) <| L_callF (.plain rfl) rfl (ltb rfl) rfl rfl ((hf (gt ys (j : Int))).ext kF3) rfl <| fun W4 e4 => L_op (.plain rfl) rfl (ltb rfl) (X_not rfl) <| L_nil <| thn_n ?_
        have hO4 := hO3.ext e4
        have kF4 := Ext.trans kF3 e4
        have hstep : (xs.take (j + 1)).filter (fun x => !q x) = (xs.take j).filter (fun x => !q x) ++ (if q xs[j] then [] else [xs[j]]) := by
          rw [List.take_succ_eq_append_getElem hjl, List.filter_append]
          congr 1
          rcases bool_two (q xs[j]) with h | h <;> simp [h]
        have hwj : IntKind.wrap .i64 ((j : Int) + 1) = ((j + 1 : Nat) : Int) := by rw [Int.natCast_add, Int.natCast_one]; exact Go.UL.wrap_small (by omega) (by omega)
        have hdr1 : ys.drop (j + 1) = xs.drop (j + 1) := by
          have := congrArg (List.drop 1) hdr
          simpa [List.drop_drop, Nat.add_comm] using this
        have h6' := h6
        rcases bool_two (q (gt ys (j : Int))) with hq | hq
        · refine W_false (congrArg Value.bool (by rw [hq]; rfl)) <| W_skip <| blk_n <| thn_n <| W_reg <| L_op (.plain rfl) rfl (ltb rfl) (X_move h6) <| L_op (.plain rfl) rfl (ltb rfl) (X_add rfl rfl) <| L_op (.plain rfl) rfl (ltb rfl) (X_assign (v := .int .i64 ((j + 1 : Nat) : Int)) (congrArg (Value.int .i64) hwj)) <| L_nil <| thn_n ?_
          rw [hyj] at hq
          rw [hq] at hstep
          simp only [if_true, List.append_nil] at hstep
          refine ⟨m - 1, by omega, h0, h1, kF4, j + 1, ys, by omega, by omega, rfl, hyl, by rw [hstep]; exact h5, by rw [hstep]; omega, hO4, by rw [hstep]; exact htk, hdr1⟩
        · refine W_true (congrArg Value.bool (by rw [hq]; rfl)) <| W_seq <| W_reg <| L_op (.plain rfl) rfl (ltb rfl) (X_move h0) <| L_op (.plain rfl) rfl (ltb rfl) (X_move h5) <| L_op (.plain rfl) rfl (ltb rfl) (X_loadS (cs := encNd (gt ys (j : Int))) Tryz.isAgg80 Tryz.sizeOf80 rfl rfl (Blk.at0 (k3.ext e4))) <|
            L_idxO (.plain rfl) rfl (ltb rfl) rfl Tryz.underlying30 Tryz.sizeOf80 rfl hO4 rfl (inR_nat (show ((xs.take j).filter fun x => !q x).length < ys.length by omega)) <| fun p9 h9 => ?_
          refine L_storeO (a := gt ys (j : Int)) (u := .agg (encNd (gt ys (j : Int))).toArray) (vs := encNd (gt ys (j : Int))) (off := 0) (.plain rfl) rfl rfl Tryz.sizeOf80 rfl h9 rfl rfl rfl rfl (by simp [encNd]) rfl <| fun b9 W5 hb9 hB9 hw9 hO5 => L_nil <| thn_n ?_
          have kF5 : Ext wF W5 := Ext.wr kF4 hw9 (Nat.le_trans hF hB9) (Nat.le_refl _)
          rw [hyj] at hq
          rw [hq] at hstep
          simp only [Bool.false_eq_true, if_false] at hstep
          have hw5 : IntKind.wrap .i64 ((((xs.take j).filter fun x => !q x).length : Int) + 1) = ((((xs.take j).filter fun x => !q x).length + 1 : Nat) : Int) := by rw [Int.natCast_add, Int.natCast_one]; exact Go.UL.wrap_small (by omega) (by omega)
          refine W_reg <| L_op (.plain rfl) rfl (ltb rfl) (X_move h5) <| L_op (.plain rfl) rfl (ltb rfl) (X_add rfl rfl) <| L_op (.plain rfl) rfl (ltb rfl) (X_assign (v := .int .i64 ((((xs.take j).filter fun x => !q x).length + 1 : Nat) : Int)) (congrArg (Value.int .i64) hw5)) <| L_nil <| blk_n <| thn_n <|
            W_reg <| L_op (.plain rfl) rfl (ltb rfl) (X_move h6') <| L_op (.plain rfl) rfl (ltb rfl) (X_add rfl rfl) <| L_op (.plain rfl) rfl (ltb rfl) (X_assign (v := .int .i64 ((j + 1 : Nat) : Int)) (congrArg (Value.int .i64) hwj)) <| L_nil <| thn_n ?_
          refine ⟨m - 1, by omega, h0, h1, kF5, j + 1, _, by omega, by omega, rfl, by rw [setI_len]; exact hyl, by rw [hstep]; simp; rfl, by rw [hstep]; simp; omega, hO5, ?_, ?_⟩
          · rw [hstep, hyj]
            simp only [setI, Int.toNat_natCast, List.length_append, List.length_cons, List.length_nil]
            rw [List.take_set_succ (by omega), htk]
          · simp only [setI, Int.toNat_natCast]
            rw [List.drop_set_of_lt (by omega)]; exact hdr1
      · have hje : j = xs.length := by omega
        subst hje
        rw [List.take_length] at h5 htk
        refine W_false (congrArg Value.bool (decide_eq_false (by omega))) <| W_exit <| thn_x <| thn_x <| blk_x <| thn_n ?_
        exact ⟨h0, k1, ys, hyl, h5, hO1, htk⟩
    · rintro s2 W2 ⟨h0, k2, ys, hyl, h5, hO2, htk⟩
      have hli : (xs.filter fun x => !q x).length ≤ ys.length := by rw [hyl]; exact List.length_filter_le _ _
      have hv2 : v = .slice A ys.length c := by rw [hyl]; exact hv
      have hcap : ys.length ≤ c := by obtain ⟨A', c', hv', ⟨hn, _⟩, _⟩ := hO2.rd; rw [hv2] at hv'; injection hv' with _ _ e; omega
      refine thn_n <| W_seq <| W_reg <| L_op (.plain rfl) rfl (ltb rfl) (X_move h0) <| L_op (.plain rfl) rfl (ltb rfl) (X_move h5) <|
        L_op (.plain rfl) rfl (ltb rfl) (X_sliceSl (A := A) (n := ys.length) (c := c) (l := ((xs.filter fun x => !q x).length : Int)) (h := (ys.length : Int)) Tryz.underlying30 Tryz.sizeOf80 hv2 ⟨_, rfl⟩ rfl (by omega) (by omega) (by omega)) <|
        L_clearO (enc := encNd) (zr := (⟨0, [], [], 0⟩ : Nd)) (i := (xs.filter fun x => !q x).length) (.plain rfl) rfl rfl El.t30 Tryz.zeroValue80 rfl rfl hO2 hv2 hli rfl <| fun W3 hg3 hz3 hO3 => L_nil <| thn_n ?_
      have k3 : Ext wF W3 := Below.mono (hg3 W2 (Below.refl _ _)) hF |> Below.trans k2
      have hlz : (xs.filter fun x => !q x).length ≤ (ys.take (xs.filter fun x => !q x).length ++ List.replicate (ys.length - (xs.filter fun x => !q x).length) (⟨0, [], [], 0⟩ : Nd)).length := by simp; omega
      refine W_seq <| W_reg <| L_op (.plain rfl) rfl (ltb rfl) (X_move h0) <| L_op (.plain rfl) rfl (ltb rfl) (X_move h5) <| L_takeO (.plain rfl) rfl (ltb rfl) rfl Tryz.underlying30 Tryz.sizeOf80 rfl hO3 rfl hlz <| fun r hr => L_op (.plain rfl) rfl (ltb rfl) (X_assign (v := r) rfl) <| L_nil <| thn_n <| W_ret <| fin_r ?_
      refine ⟨_, rfl, k3, ?_⟩
      have hx : (ys.take (xs.filter fun x => !q x).length ++ List.replicate (ys.length - (xs.filter fun x => !q x).length) (⟨0, [], [], 0⟩ : Nd)).take (xs.filter fun x => !q x).length = xs.filter fun x => !q x := by
        rw [htk, List.take_left]
      rw [hx] at hr
      exact hr

/-! impl.removed, by text -/
theorem impl_removed.calls {w : World} {a0 : List Nd} {a1 : List UInt8} {v_a0 : Value} (f_a0 : Rd 4 encNd w v_a0 a0) (h0 : a0.length ≤ 1048576) (h1 : a1.length ≤ 1048576) :
    Calls Tryz.prog 123 #[v_a0, S a1] w (Rt (RO 80 4 encNd w (without a0 a1 true))) := by
  refine calls_of_W Tryz.func123 rfl (Nat.le_of_ble_eq_true rfl) Tryz.ntmps123 rfl ?_
  refine W_seq <| W_reg <| L_box (.plain rfl) rfl (ltb rfl) rfl rfl <| fun b w1 z1 z2 e1 k1 => L_op (.plain rfl) rfl (ltb rfl) (X_assign (v := .slice none 0 0) rfl) <| L_nil <| thn_n <| W_seq <| W_reg <| L_op (.plain rfl) rfl (ltb rfl) (X_move (v := v_a0) rfl) <|
    L_callO (.plain rfl) rfl (ltb rfl) rfl Tryz.call121 (slices_CloneN.calls (w := w1) (a0 := a0) (f_a0.ext e1) h0) rfl <| fun v2 w2 e2 o2 => L_op (.plain rfl) rfl (ltb rfl) (X_makeFunc (vs := #[]) (us := #[.pointer (some ⟨b, 0, none⟩)]) rfl rfl) <|
    L_callA (.plain rfl) rfl (ltb rfl) rfl Tryz.call171 (slices_DeleteFuncN.calls (w := w2) (wF := w1) (B := w1.heap.size) (xs := a0) (q := fun x => decide (x.path = a1) || (decide (a1 = []) || belowP x.path a1)) o2 e2 (Nat.le_refl _) h0
      (fun x => FnAt.mk Tryz.call172 (by rfl) fun w9 k9 => impl_removed_1.calls (w := w9) (a0 := x) (a1 := a1) (k1.ext k9) h1) rfl) rfl <| fun v3 w3 h3 => ?_
  obtain ⟨e3, o3⟩ := h3
  refine L_op (.plain rfl) rfl (ltb rfl) (X_assign (v := v3) rfl) <| L_nil <| thn_n <| W_ret <| fin_r ?_
  rw [without_impl]
  exact fin1o rfl (Ext.trans e1 e3) o3 e1.size

/-! laws.heldNodeS -/
abbrev laws_heldNodeS.e1 (x1_1 : Int) := (IntKind.wrap .i64 ((IntKind.wrap .i64 (x1_1 + 1)) + 1))
theorem laws_heldNodeS.walk {k : Nat} {w : World} {a0 : List Nd} {a1 : Int} {v_a0 : Value} (f_a0 : Rd 4 encNd w v_a0 a0) {r : Int} (H : laws_heldNodeS.sh k a0 a1 = some r) :
    Calls Tryz.prog 30 #[v_a0, .int .i64 a1] w (Rt (RP w (.int .i64 r))) := by
  unfold laws_heldNodeS.sh at H
  refine calls_of_W Tryz.func30 rfl (Nat.le_of_ble_eq_true rfl) Tryz.ntmps30 rfl ?_
  refine W_seq <| W_reg <| L_op (.plain rfl) rfl (ltb rfl) (X_assign (v := (.int .i64 0)) rfl) <| L_nil <| thn_n <| W_seq <| W_seq <| W_reg <| L_op (.plain rfl) rfl (ltb rfl) (X_assign (v := (.int .i64 0)) rfl) <| L_nil <| thn_n ?_
  obtain ⟨z3, L4, C5⟩ := bind_some H
  clear H
  refine  W_cutQ (fun s0 sQ wQ => ∃ (x1_6 : Int), Kp [(1, 2), (4, 50)] s0 sQ ∧ sQ 1 = .int .i64 x1_6 ∧ Ext w wQ ∧ z3 = .inr x1_6) ?_ ?_
  · refine W_block <| W_loopI (fun s0 kk sQ wQ => ∃ (x1_1 : Int) (x5_2 : Int), Kp [(1, 2), (4, 50)] s0 sQ ∧ sQ 1 = .int .i64 x1_1 ∧ sQ 5 = .int .i64 x5_2 ∧ Ext w wQ ∧ loopF (laws_heldNodeS.b1 a0) kk (x1_1, x5_2) = some z3) k ⟨a1, 0, (Kp.refl _ _), rfl, rfl, (Ext.refl w), L4⟩ ?_
    rintro k11 s12 w13 ⟨x1_1, x5_2, K14, h17, h18, e15, L16⟩
    cases k11 with
    | zero => exact absurd L16 (by simp [loopF])
    | succ k11 =>
      obtain ⟨t19, H, S20⟩ := loopF_succ L16
      clear L16
      unfold laws_heldNodeS.b1 at H
      refine W_seq <| W_seq <| W_reg <| L_op (.plain rfl) rfl (ltb rfl) (X_move (v := (.int .i64 x5_2)) h18) <| L_op (.plain rfl) rfl (ltb rfl) (X_move (v := v_a0) (K14 0 rfl)) <| L_op (.plain rfl) rfl (ltb rfl) (X_lenR Tryz.underlying30 rfl (Rd.ext f_a0 e15)) <| L_op (.plain rfl) rfl (ltb rfl) (X_lss rfl rfl) <| L_nil <| thn_n ?_
      rcases bif_two H with ⟨q21, H⟩ | ⟨q21, H⟩
      · refine W_true (congrArg Value.bool q21) <| W_skip <| thn_n <| W_seq <| W_block <| W_seq <| W_seq <| W_reg <| L_op (.plain rfl) rfl (ltb rfl) (X_move (v := v_a0) (K14 0 rfl)) <| L_op (.plain rfl) rfl (ltb rfl) (X_move (v := (.int .i64 x5_2)) h18) ?_
        obtain ⟨c22, H⟩ := bif_some H
        refine L_idx (.plain rfl) rfl (ltb rfl) rfl Tryz.underlying30 Tryz.sizeOf80 rfl (Rd.ext f_a0 e15) rfl c22 <| fun p23 h24 => L_op (.plain rfl) rfl (ltb rfl) (X_fieldAddr Tryz.underlying80 rfl Tryz.sizeOf3 rfl rfl) <| L_op (.plain rfl) rfl (ltb rfl) (X_loadF Tryz.isAgg3 (j := 0) h24 rfl rfl) <| L_op (.plain rfl) rfl (ltb rfl) (X_move (v := (.int .i64 x1_1)) h17) <| L_op (.plain rfl) rfl (ltb rfl) (X_neq rfl rfl) <| L_nil <| thn_n ?_
        rcases bif_two H with ⟨q25, H⟩ | ⟨q25, H⟩
        · refine W_true (congrArg Value.bool q25) <| W_seq <| W_reg <| L_op (.plain rfl) rfl (ltb rfl) (X_assign (v := (.int .i64 (-1))) rfl) <| L_nil <| thn_n <| W_ret <| thn_r <| blk_r <| thn_r <| thn_r <| blk_r <| thn_r <| thn_r <| fin_r ?_
          obtain rfl := Option.some.inj H
          obtain rfl := Option.some.inj S20
          have H := C5
          obtain rfl := Option.some.inj H
          exact fin1 rfl e15
        · refine W_false (congrArg Value.bool q25) <| W_skip <| thn_n <| W_seq <| W_reg <| L_op (.plain rfl) rfl (ltb rfl) (X_move (v := (.int .i64 x1_1)) h17) <| L_op (.plain rfl) rfl (ltb rfl) (X_add rfl rfl) <| L_op (.plain rfl) rfl (ltb rfl) (X_assign (v := (.int .i64 (IntKind.wrap .i64 (x1_1 + 1)))) rfl) <| L_nil <| thn_n <| W_seq <| W_seq ?_
          obtain ⟨c26, H⟩ := bif_some H
          obtain ⟨c29, H⟩ := bif_some H
          refine W_drawM [LEq v_a0, LEq (.int .i64 x5_2), LAt0 (encNd (gt a0 x5_2)), LAt 1 (encNd (gt a0 x5_2)), LEq (S ((gt a0 x5_2).path)), LEq (.int .i64 (IntKind.wrap .i64 (x1_1 + 1))), LEq (S (markT (IntKind.wrap .i64 (x1_1 + 1)))), LEq (.bool (!decide (((gt a0 x5_2).path) = (markT (IntKind.wrap .i64 (x1_1 + 1))))))] (by kernel_rfl) (by kernel_rfl) ⟨LEq.mono, LEq.mono, LAt0.mono, LAt.mono, LEq.mono, LEq.mono, LEq.mono, LEq.mono, trivial⟩ ⟨?_, ?_, ?_, ?_, ?_, ?_, ?_, ?_, trivial⟩ ?_
          · intro s32 w33 e34 hf35 hd36 hu37
            exact L_op (.plain rfl) rfl (ltb rfl) (X_move (v := v_a0) ((hf35 0 rfl).trans (K14 0 rfl))) <| L_nil <| stepEnd rfl rfl (Ext.refl w33) rfl
          · intro s38 w39 e40 hf41 hd42 hu43
            exact L_op (.plain rfl) rfl (ltb rfl) (X_move (v := (.int .i64 x5_2)) ((hf41 5 rfl).trans h18)) <| L_nil <| stepEnd rfl rfl (Ext.refl w39) rfl
          · intro s44 w45 e46 hf47 hd48 hu49
            have d50 : s44 21 = v_a0 := (hd48 0 rfl)
            have d51 : s44 22 = (.int .i64 x5_2) := (hd48 1 rfl)
            have c52 := c26
            exact L_idx (.plain rfl) rfl (ltb rfl) rfl Tryz.underlying30 Tryz.sizeOf80 d50 (Rd.ext f_a0 (Ext.trans e15 e46)) d51 c52 <| fun p53 h54 => L_nil <| stepEnd rfl rfl (Ext.refl w45) ⟨_, rfl, h54⟩
          · intro s55 w56 e57 hf58 hd59 hu60
            obtain ⟨p61, h62, h63⟩ := (hd59 2 rfl)
            exact L_op (.plain rfl) rfl (ltb rfl) (X_fieldAddr Tryz.underlying80 rfl Tryz.sizeOf9 rfl h62) <| L_nil <| stepEnd rfl rfl (Ext.refl w56) ⟨_, rfl, h63⟩
          · intro s64 w65 e66 hf67 hd68 hu69
            obtain ⟨p70, h71, h72⟩ := (hd68 3 rfl)
            exact L_op (.plain rfl) rfl (ltb rfl) (X_loadF Tryz.isAgg9 (j := 1) h72 h71 rfl) <| L_nil <| stepEnd rfl rfl (Ext.refl w65) rfl
          · intro s73 w74 e75 hf76 hd77 hu78
            exact L_op (.plain rfl) rfl (ltb rfl) (X_move (v := (.int .i64 (IntKind.wrap .i64 (x1_1 + 1)))) (hf76 1 rfl)) <| L_nil <| stepEnd rfl rfl (Ext.refl w74) rfl
          · intro s79 w80 e81 hf82 hd83 hu84
            have d85 : s79 26 = (.int .i64 (IntKind.wrap .i64 (x1_1 + 1))) := (hd83 5 rfl)
            have c86 := c29
            exact L_callP (.plain rfl) rfl (ltb rfl) rfl Tryz.call81 (laws_markText.calls (w := w80) (a0 := IntKind.wrap .i64 (x1_1 + 1)) (of_decide_eq_true c86)) (cons2 d85 rfl) <| fun w87 e88 => L_nil <| stepEnd rfl rfl e88 rfl
          · intro s89 w90 e91 hf92 hd93 hu94
            have d95 : s89 25 = (S ((gt a0 x5_2).path)) := (hd93 4 rfl)
            have d96 : s89 27 = (S (markT (IntKind.wrap .i64 (x1_1 + 1)))) := (hd93 6 rfl)
            exact L_op (.plain rfl) rfl (ltb rfl) (X_sne d95 d96) <| L_nil <| stepEnd rfl rfl (Ext.refl w90) rfl
          intro s97 w98 e99 hf100 ha101
          have K102 := Kp.ofD (kp := [(21, 29)]) rfl hf100
          have d103 : s97 28 = (.bool (!decide (((gt a0 x5_2).path) = (markT (IntKind.wrap .i64 (x1_1 + 1)))))) := ha101 7 rfl
          clear ha101 hf100
          refine thn_n ?_
          rcases bif_two H with ⟨q104, H⟩ | ⟨q104, H⟩
          · refine W_true (d103.trans (congrArg Value.bool q104)) <| W_seq <| W_reg <| L_op (.plain rfl) rfl (ltb rfl) (X_assign (v := (.int .i64 (-1))) rfl) <| L_nil <| thn_n <| W_ret <| thn_r <| blk_r <| thn_r <| thn_r <| blk_r <| thn_r <| thn_r <| fin_r ?_
            obtain rfl := Option.some.inj H
            obtain rfl := Option.some.inj S20
            have H := C5
            obtain rfl := Option.some.inj H
            exact fin1 rfl (Ext.trans e15 e99)
          · refine W_false (d103.trans (congrArg Value.bool q104)) <| W_skip <| thn_n <| W_seq <| W_reg <| L_op (.plain rfl) rfl (ltb rfl) (X_move (v := (.int .i64 (IntKind.wrap .i64 (x1_1 + 1)))) (K102 1 rfl)) <| L_op (.plain rfl) rfl (ltb rfl) (X_add rfl rfl) <| L_op (.plain rfl) rfl (ltb rfl) (X_assign (v := (.int .i64 (laws_heldNodeS.e1 x1_1))) rfl) <| L_nil <| thn_n <| W_seq <| W_seq ?_
            obtain ⟨c105, H⟩ := bif_some H
            obtain ⟨c108, H⟩ := bif_some H
            refine W_drawM [LEq v_a0, LEq (.int .i64 x5_2), LAt0 (encNd (gt a0 x5_2)), LAt 2 (encNd (gt a0 x5_2)), LEq (S ((gt a0 x5_2).body)), LEq (.int .i64 (laws_heldNodeS.e1 x1_1)), LEq (S (markT (laws_heldNodeS.e1 x1_1))), LEq (.bool (!decide (((gt a0 x5_2).body) = (markT (laws_heldNodeS.e1 x1_1)))))] (by kernel_rfl) (by kernel_rfl) ⟨LEq.mono, LEq.mono, LAt0.mono, LAt.mono, LEq.mono, LEq.mono, LEq.mono, LEq.mono, trivial⟩ ⟨?_, ?_, ?_, ?_, ?_, ?_, ?_, ?_, trivial⟩ ?_
            · intro s111 w112 e113 hf114 hd115 hu116
              exact L_op (.plain rfl) rfl (ltb rfl) (X_move (v := v_a0) ((hf114 0 rfl).trans ((K102 0 rfl).trans (K14 0 rfl)))) <| L_nil <| stepEnd rfl rfl (Ext.refl w112) rfl
            · intro s117 w118 e119 hf120 hd121 hu122
              exact L_op (.plain rfl) rfl (ltb rfl) (X_move (v := (.int .i64 x5_2)) ((hf120 5 rfl).trans ((K102 5 rfl).trans h18))) <| L_nil <| stepEnd rfl rfl (Ext.refl w118) rfl
            · intro s123 w124 e125 hf126 hd127 hu128
              have d129 : s123 31 = v_a0 := (hd127 0 rfl)
              have d130 : s123 32 = (.int .i64 x5_2) := (hd127 1 rfl)
              have c131 := c105
              exact L_idx (.plain rfl) rfl (ltb rfl) rfl Tryz.underlying30 Tryz.sizeOf80 d129 (Rd.ext f_a0 (Ext.trans (Ext.trans e15 e99) e125)) d130 c131 <| fun p132 h133 => L_nil <| stepEnd rfl rfl (Ext.refl w124) ⟨_, rfl, h133⟩
            · intro s134 w135 e136 hf137 hd138 hu139
              obtain ⟨p140, h141, h142⟩ := (hd138 2 rfl)
              exact L_op (.plain rfl) rfl (ltb rfl) (X_fieldAddr Tryz.underlying80 rfl Tryz.sizeOf9 rfl h141) <| L_nil <| stepEnd rfl rfl (Ext.refl w135) ⟨_, rfl, h142⟩
            · intro s143 w144 e145 hf146 hd147 hu148
              obtain ⟨p149, h150, h151⟩ := (hd147 3 rfl)
              exact L_op (.plain rfl) rfl (ltb rfl) (X_loadF Tryz.isAgg9 (j := 2) h151 h150 rfl) <| L_nil <| stepEnd rfl rfl (Ext.refl w144) rfl
            · intro s152 w153 e154 hf155 hd156 hu157
              exact L_op (.plain rfl) rfl (ltb rfl) (X_move (v := (.int .i64 (laws_heldNodeS.e1 x1_1))) (hf155 1 rfl)) <| L_nil <| stepEnd rfl rfl (Ext.refl w153) rfl
            · intro s158 w159 e160 hf161 hd162 hu163
              have d164 : s158 36 = (.int .i64 (laws_heldNodeS.e1 x1_1)) := (hd162 5 rfl)
              have c165 := c108
              exact L_callP (.plain rfl) rfl (ltb rfl) rfl Tryz.call81 (laws_markText.calls (w := w159) (a0 := IntKind.wrap .i64 ((IntKind.wrap .i64 (x1_1 + 1)) + 1)) (of_decide_eq_true c165)) (cons2 d164 rfl) <| fun w166 e167 => L_nil <| stepEnd rfl rfl e167 rfl
            · intro s168 w169 e170 hf171 hd172 hu173
              have d174 : s168 35 = (S ((gt a0 x5_2).body)) := (hd172 4 rfl)
              have d175 : s168 37 = (S (markT (laws_heldNodeS.e1 x1_1))) := (hd172 6 rfl)
              exact L_op (.plain rfl) rfl (ltb rfl) (X_sne d174 d175) <| L_nil <| stepEnd rfl rfl (Ext.refl w169) rfl
            intro s176 w177 e178 hf179 ha180
            have K181 := Kp.ofD (kp := [(31, 39)]) rfl hf179
            have d182 : s176 38 = (.bool (!decide (((gt a0 x5_2).body) = (markT (laws_heldNodeS.e1 x1_1))))) := ha180 7 rfl
            clear ha180 hf179
            refine thn_n ?_
            rcases bif_two H with ⟨q183, H⟩ | ⟨q183, H⟩
            · refine W_true (d182.trans (congrArg Value.bool q183)) <| W_seq <| W_reg <| L_op (.plain rfl) rfl (ltb rfl) (X_assign (v := (.int .i64 (-1))) rfl) <| L_nil <| thn_n <| W_ret <| thn_r <| blk_r <| thn_r <| thn_r <| blk_r <| thn_r <| thn_r <| fin_r ?_
              obtain rfl := Option.some.inj H
              obtain rfl := Option.some.inj S20
              have H := C5
              obtain rfl := Option.some.inj H
              exact fin1 rfl (Ext.trans (Ext.trans e15 e99) e178)
            · refine W_false (d182.trans (congrArg Value.bool q183)) <| W_skip <| thn_n <| W_seq <| W_reg <| L_op (.plain rfl) rfl (ltb rfl) (X_move (v := (.int .i64 (laws_heldNodeS.e1 x1_1))) (K181 1 rfl)) <| L_op (.plain rfl) rfl (ltb rfl) (X_add rfl rfl) <| L_op (.plain rfl) rfl (ltb rfl) (X_assign rfl) <| L_nil <| thn_n <| W_seq <| W_seq <| W_reg <| L_op (.plain rfl) rfl (ltb rfl) (X_move (v := v_a0) ((K181 0 rfl).trans ((K102 0 rfl).trans (K14 0 rfl)))) <| L_op (.plain rfl) rfl (ltb rfl) (X_move (v := (.int .i64 x5_2)) ((K181 5 rfl).trans ((K102 5 rfl).trans h18))) ?_
              obtain ⟨c184, H⟩ := bif_some H
              refine L_idx (.plain rfl) rfl (ltb rfl) rfl Tryz.underlying30 Tryz.sizeOf80 rfl (Rd.ext f_a0 (Ext.trans (Ext.trans e15 e99) e178)) rfl c184 <| fun p185 h186 => L_op (.plain rfl) rfl (ltb rfl) (X_fieldAddr Tryz.underlying80 rfl Tryz.sizeOf3 rfl rfl) <| L_op (.plain rfl) rfl (ltb rfl) (X_loadF Tryz.isAgg3 (j := 3) h186 rfl rfl) <| L_op (.plain rfl) rfl (ltb rfl) (X_move rfl) <| L_op (.plain rfl) rfl (ltb rfl) (X_neq rfl rfl) <| L_nil <| thn_n ?_
              rcases bif_two H with ⟨q187, H⟩ | ⟨q187, H⟩
              · refine W_true (congrArg Value.bool q187) <| W_seq <| W_reg <| L_op (.plain rfl) rfl (ltb rfl) (X_assign (v := (.int .i64 (-1))) rfl) <| L_nil <| thn_n <| W_ret <| thn_r <| blk_r <| thn_r <| thn_r <| blk_r <| thn_r <| thn_r <| fin_r ?_
                obtain rfl := Option.some.inj H
                obtain rfl := Option.some.inj S20
                have H := C5
                obtain rfl := Option.some.inj H
                exact fin1 rfl (Ext.trans (Ext.trans e15 e99) e178)
              · refine W_false (congrArg Value.bool q187) <| W_skip <| thn_n <| W_reg <| L_op (.plain rfl) rfl (ltb rfl) (X_move rfl) <| L_op (.plain rfl) rfl (ltb rfl) (X_add rfl rfl) <| L_op (.plain rfl) rfl (ltb rfl) (X_assign rfl) <| L_nil <| blk_n <| thn_n <| W_reg <| L_op (.plain rfl) rfl (ltb rfl) (X_move (v := (.int .i64 x5_2)) ((K181 5 rfl).trans ((K102 5 rfl).trans h18))) <| L_op (.plain rfl) rfl (ltb rfl) (X_add rfl rfl) <| L_op (.plain rfl) rfl (ltb rfl) (X_assign (v := (.int .i64 (IntKind.wrap .i64 (x5_2 + 1)))) rfl) <| L_nil <| thn_n ?_
                obtain rfl := Option.some.inj H
                exact ⟨_, Nat.lt_succ_self _, IntKind.wrap .i64 ((IntKind.wrap .i64 ((laws_heldNodeS.e1 x1_1) + 1)) + 1), IntKind.wrap .i64 (x5_2 + 1), (Kp.upd (Kp.upd (Kp.upd (Kp.upd (Kp.upd (Kp.upd (Kp.upd (Kp.upd (Kp.upd (Kp.upd (Kp.upd (Kp.upd (Kp.upd (Kp.upd (Kp.upd (Kp.upd (Kp.cut (Kp.upd (Kp.upd (Kp.upd (Kp.cut (Kp.upd (Kp.upd (Kp.upd (Kp.upd (Kp.upd (Kp.upd (Kp.upd (Kp.upd (Kp.upd (Kp.upd (Kp.upd (Kp.upd (Kp.upd (Kp.upd K14 rfl) rfl) rfl) rfl) rfl) rfl) rfl) rfl) rfl) rfl) rfl) rfl) rfl) rfl) K102 rfl) rfl) rfl) rfl) K181 rfl) rfl) rfl) rfl) rfl) rfl) rfl) rfl) rfl) rfl) rfl) rfl) rfl) rfl) rfl) rfl) rfl), rfl, rfl, (Ext.trans (Ext.trans e15 e99) e178), S20⟩
      · refine W_false (congrArg Value.bool q21) <| W_exit <| thn_x <| thn_x <| blk_x <| thn_n ?_
        obtain rfl := Option.some.inj H
        obtain rfl := Option.some.inj S20
        exact ⟨x1_1, (Kp.upd (Kp.upd (Kp.upd (Kp.upd K14 rfl) rfl) rfl) rfl), h17, e15, rfl⟩
  · rintro s8 w7 ⟨x1_6, K9, h188, e10, y189⟩
    rw [y189] at C5
    have H := C5
    replace H : _ = some _ := H
    refine thn_n <| W_seq <| W_reg <| L_op (.plain rfl) rfl (ltb rfl) (X_move (v := (.int .i64 x1_6)) h188) <| L_op (.plain rfl) rfl (ltb rfl) (X_assign (v := (.int .i64 x1_6)) rfl) <| L_nil <| thn_n <| W_ret <| fin_r ?_
    obtain rfl := Option.some.inj H
    exact fin1 rfl e10
theorem laws_heldNodeS.calls {w : World} {a0 : List Nd} {a1 : Int} {v_a0 : Value} (f_a0 : Rd 4 encNd w v_a0 a0) (h0 : a0.length ≤ 1152921504606846976) (h1 : (0 : Int) ≤ a1) (h2 : (a1 : Int) ≤ 4611686018427387904 - 4 * (a0.length : Int)) :
    Calls Tryz.prog 30 #[v_a0, .int .i64 a1] w (Rt (RP w (.int .i64 (heldN a0 a1)))) := by
  obtain ⟨k, h⟩ := laws_heldNodeS.eq a0 a1 h0 h1 h2
  exact laws_heldNodeS.walk f_a0 h
/-! slices.BinarySearchFunc(()impl.Node,impl.Node,impl.Node) -/
abbrev slices_BinSearchN.e1 (x10_8 : Int) (x9_7 : Int) := (IntKind.wrap .i64 ((IntKind.wrap .u64 (IntKind.wrap .i64 (x9_7 + x10_8))).fdiv (2 ^ 1)))
theorem slices_BinSearchN.walk {k : Nat} {w : World} {a0 : List Nd} {a1 : Nd} {a2 : Nd → Nd → Option Int} {v_a0 : Value} (f_a0 : Rd 4 encNd w v_a0 a0) {v_a2 : Value} (f_a2 : ∀ (x0 : Nd) (x1 : Nd) (r : Int), a2 x0 x1 = some r → FnAt Tryz.prog w v_a2 [(.agg (encNd x0).toArray), (.agg (encNd x1).toArray)] (.int .i64 r)) (g_a2 : v_a2.cells = #[v_a2]) {r : Int × Bool} (H : slices_BinSearchN.sh k a0 a1 a2 = some r) :
    Calls Tryz.prog 174 #[v_a0, .agg (encNd a1).toArray, v_a2] w (Rt (RP w (.tuple #[.int .i64 r.1, .bool r.2]))) := by
  unfold slices_BinSearchN.sh at H
  refine calls_of_W Tryz.func174 rfl (Nat.le_of_ble_eq_true rfl) Tryz.ntmps174 rfl ?_
  refine W_seq <| W_reg <| L_box (.plain rfl) rfl (ltb rfl) rfl rfl <| fun b1 w2 z3 z4 e5 k6 => L_op (.plain rfl) rfl (ltb rfl) (X_assign (v := (.int .i64 0)) rfl) <| L_op (.plain rfl) rfl (ltb rfl) (X_assign (v := (.bool false)) rfl) <| L_nil <| thn_n <| W_seq <| W_reg <| L_op (.plain rfl) rfl (ltb rfl) (X_move (v := v_a0) rfl) <| L_op (.plain rfl) rfl (ltb rfl) (X_lenR Tryz.underlying30 rfl (Rd.ext f_a0 e5)) <| L_op (.plain rfl) rfl (ltb rfl) (X_assign (v := (.int .i64 (a0.length : Int))) rfl) <| L_nil <| thn_n <| W_seq <| W_reg <| L_op (.plain rfl) rfl (ltb rfl) (X_move (v := (.int .i64 (a0.length : Int))) rfl) <| L_op (.plain rfl) rfl (ltb rfl) (X_assign (v := (.int .i64 0)) rfl) <| L_op (.plain rfl) rfl (ltb rfl) (X_assign (v := (.int .i64 (a0.length : Int))) rfl) <| L_nil <| thn_n <| W_seq ?_
  obtain ⟨z9, L10, C11⟩ := bind_some H
  clear H
  refine  W_cutQ (fun s0 sQ wQ => ∃ (x9_12 : Int), Kp [(9, 12), (15, 35)] s0 sQ ∧ sQ 9 = .int .i64 x9_12 ∧ Ext w2 wQ ∧ z9 = .inr x9_12) ?_ ?_
  · refine W_block <| W_loopI (fun s0 kk sQ wQ => ∃ (x9_7 : Int) (x10_8 : Int), Kp [(9, 12), (15, 35)] s0 sQ ∧ sQ 9 = .int .i64 x9_7 ∧ sQ 10 = .int .i64 x10_8 ∧ Ext w2 wQ ∧ loopF (slices_BinSearchN.b1 a0 a1 a2) kk (x9_7, x10_8) = some z9) k ⟨0, (a0.length : Int), (Kp.refl _ _), rfl, rfl, (Ext.refl w2), L10⟩ ?_
    rintro k17 s18 w19 ⟨x9_7, x10_8, K20, h23, h24, e21, L22⟩
    cases k17 with
    | zero => exact absurd L22 (by simp [loopF])
    | succ k17 =>
      obtain ⟨t25, H, S26⟩ := loopF_succ L22
      clear L22
      unfold slices_BinSearchN.b1 at H
      refine W_seq <| W_seq <| W_reg <| L_op (.plain rfl) rfl (ltb rfl) (X_move (v := (.int .i64 x9_7)) h23) <| L_op (.plain rfl) rfl (ltb rfl) (X_move (v := (.int .i64 x10_8)) h24) <| L_op (.plain rfl) rfl (ltb rfl) (X_lss rfl rfl) <| L_nil <| thn_n ?_
      rcases bif_two H with ⟨q27, H⟩ | ⟨q27, H⟩
      · refine W_true (congrArg Value.bool q27) <| W_skip <| thn_n <| W_block <| W_seq <| W_reg <| L_op (.plain rfl) rfl (ltb rfl) (X_move (v := (.int .i64 x9_7)) h23) <| L_op (.plain rfl) rfl (ltb rfl) (X_move (v := (.int .i64 x10_8)) h24) <| L_op (.plain rfl) rfl (ltb rfl) (X_add rfl rfl) <| L_op (.plain rfl) rfl (ltb rfl) (X_convInt Tryz.underlying3 Tryz.underlying167 rfl) <| L_op (.plain rfl) rfl (ltb rfl) (X_shr (n := 1) rfl rfl rfl) <| L_op (.plain rfl) rfl (ltb rfl) (X_convInt Tryz.underlying167 Tryz.underlying3 rfl) <| L_op (.plain rfl) rfl (ltb rfl) (X_assign rfl) <| L_nil <| thn_n <| W_seq ?_
        obtain ⟨c28, H⟩ := bif_some H
        obtain ⟨z31, x32, H⟩ := bind_some H
        refine W_drawM [LEq v_a2, LEq v_a0, LEq (.int .i64 (slices_BinSearchN.e1 x10_8 x9_7)), LAt0 (encNd (gt a0 (slices_BinSearchN.e1 x10_8 x9_7))), LEq (.agg (encNd (gt a0 (slices_BinSearchN.e1 x10_8 x9_7))).toArray), LEq (.agg #[(.int .i64 a1.kind), (S a1.path), (S a1.body), (.int .i64 a1.mode)]), LEq (.int .i64 z31), LEq (.bool (decide (z31 < 0)))] (by kernel_rfl) (by kernel_rfl) ⟨LEq.mono, LEq.mono, LEq.mono, LAt0.mono, LEq.mono, LEq.mono, LEq.mono, LEq.mono, trivial⟩ ⟨?_, ?_, ?_, ?_, ?_, ?_, ?_, ?_, trivial⟩ ?_
        · intro s35 w36 e37 hf38 hd39 hu40
          exact L_op (.plain rfl) rfl (ltb rfl) (X_move (v := v_a2) ((hf38 2 rfl).trans (K20 2 rfl))) <| L_nil <| stepEnd rfl rfl (Ext.refl w36) rfl
        · intro s41 w42 e43 hf44 hd45 hu46
          exact L_op (.plain rfl) rfl (ltb rfl) (X_move (v := v_a0) ((hf44 0 rfl).trans (K20 0 rfl))) <| L_nil <| stepEnd rfl rfl (Ext.refl w42) rfl
        · intro s47 w48 e49 hf50 hd51 hu52
          exact L_op (.plain rfl) rfl (ltb rfl) (X_move (hf50 11 rfl)) <| L_nil <| stepEnd rfl rfl (Ext.refl w48) rfl
        · intro s53 w54 e55 hf56 hd57 hu58
          have d59 : s53 25 = v_a0 := (hd57 1 rfl)
          have d60 : s53 26 = (.int .i64 (slices_BinSearchN.e1 x10_8 x9_7)) := (hd57 2 rfl)
          have c61 := c28
          exact L_idx (.plain rfl) rfl (ltb rfl) rfl Tryz.underlying30 Tryz.sizeOf80 d59 (Rd.ext f_a0 (Ext.trans (Ext.trans e5 e21) e55)) d60 c61 <| fun p62 h63 => L_nil <| stepEnd rfl rfl (Ext.refl w54) ⟨_, rfl, h63⟩
        · intro s64 w65 e66 hf67 hd68 hu69
          obtain ⟨p70, h71, h72⟩ := (hd68 3 rfl)
          exact L_op (.plain rfl) rfl (ltb rfl) (X_loadS Tryz.isAgg80 Tryz.sizeOf80 rfl h71 h72) <| L_nil <| stepEnd rfl rfl (Ext.refl w65) rfl
        · intro s73 w74 e75 hf76 hd77 hu78
          exact L_op (.plain rfl) rfl (ltb rfl) (X_loadS Tryz.isAgg80 Tryz.sizeOf80 rfl ((hf76 4 rfl).trans (K20 4 rfl)) (Blk.at0 (Blk.ext k6 (Ext.trans e21 e75)))) <| L_nil <| stepEnd rfl rfl (Ext.refl w74) rfl
        · intro s79 w80 e81 hf82 hd83 hu84
          have d85 : s79 24 = v_a2 := (hd83 0 rfl)
          have d86 : s79 28 = (.agg (encNd (gt a0 (slices_BinSearchN.e1 x10_8 x9_7))).toArray) := (hd83 4 rfl)
          have d87 : s79 29 = (.agg #[(.int .i64 a1.kind), (S a1.path), (S a1.body), (.int .i64 a1.mode)]) := (hd83 5 rfl)
          exact L_callF (.plain rfl) rfl (ltb rfl) rfl d85 (FnAt.ext (f_a2 _ _ _ x32) (Ext.trans (Ext.trans e5 e21) e81)) (cons2 d86 (cons2 d87 rfl)) <| fun w90 e91 => L_nil <| stepEnd rfl rfl e91 rfl
        · intro s92 w93 e94 hf95 hd96 hu97
          have d98 : s92 30 = (.int .i64 z31) := (hd96 6 rfl)
          exact L_op (.plain rfl) rfl (ltb rfl) (X_lss d98 rfl) <| L_nil <| stepEnd rfl rfl (Ext.refl w93) rfl
        intro s99 w100 e101 hf102 ha103
        have K104 := Kp.ofD (kp := [(24, 32)]) rfl hf102
        have d105 : s99 31 = (.bool (decide (z31 < 0))) := ha103 7 rfl
        clear ha103 hf102
        refine thn_n ?_
        rcases bif_two H with ⟨q106, H⟩ | ⟨q106, H⟩
        · refine W_true (d105.trans (congrArg Value.bool q106)) <| W_reg <| L_op (.plain rfl) rfl (ltb rfl) (X_move (K104 11 rfl)) <| L_op (.plain rfl) rfl (ltb rfl) (X_add rfl rfl) <| L_op (.plain rfl) rfl (ltb rfl) (X_assign rfl) <| L_nil <| blk_n <| thn_n ?_
          obtain rfl := Option.some.inj H
          exact ⟨_, Nat.lt_succ_self _, IntKind.wrap .i64 ((slices_BinSearchN.e1 x10_8 x9_7) + 1), x10_8, (Kp.upd (Kp.upd (Kp.upd (Kp.cut (Kp.upd (Kp.upd (Kp.upd (Kp.upd (Kp.upd (Kp.upd (Kp.upd (Kp.upd (Kp.upd (Kp.upd K20 rfl) rfl) rfl) rfl) rfl) rfl) rfl) rfl) rfl) rfl) K104 rfl) rfl) rfl) rfl), rfl, ((K104 10 rfl).trans h24), (Ext.trans e21 e101), S26⟩
        · refine W_false (d105.trans (congrArg Value.bool q106)) <| W_reg <| L_op (.plain rfl) rfl (ltb rfl) (X_move (K104 11 rfl)) <| L_op (.plain rfl) rfl (ltb rfl) (X_assign rfl) <| L_nil <| blk_n <| thn_n ?_
          obtain rfl := Option.some.inj H
          exact ⟨_, Nat.lt_succ_self _, x9_7, IntKind.wrap .i64 ((IntKind.wrap .u64 (IntKind.wrap .i64 (x9_7 + x10_8))).fdiv (2 ^ 1)), (Kp.upd (Kp.upd (Kp.cut (Kp.upd (Kp.upd (Kp.upd (Kp.upd (Kp.upd (Kp.upd (Kp.upd (Kp.upd (Kp.upd (Kp.upd K20 rfl) rfl) rfl) rfl) rfl) rfl) rfl) rfl) rfl) rfl) K104 rfl) rfl) rfl), ((K104 9 rfl).trans h23), rfl, (Ext.trans e21 e101), S26⟩
      · refine W_false (congrArg Value.bool q27) <| W_exit <| thn_x <| thn_x <| blk_x <| thn_n ?_
        obtain rfl := Option.some.inj H
        obtain rfl := Option.some.inj S26
        exact ⟨x9_7, (Kp.upd (Kp.upd (Kp.upd K20 rfl) rfl) rfl), h23, e21, rfl⟩
  · rintro s14 w13 ⟨x9_12, K15, h107, e16, y108⟩
    rw [y108] at C11
    have H := C11
    replace H : _ = some _ := H
    refine thn_n <| W_seq ?_
    obtain ⟨c109, H⟩ := bif_some H
    obtain ⟨z112, x113, H⟩ := bind_some H
    refine W_drawM [LEq (.int .i64 x9_12), LEq (.int .i64 x9_12), LEq (.int .i64 (a0.length : Int)), LEq (.bool (decide (x9_12 < (a0.length : Int)))), LEq (.bool (decide (x9_12 < (a0.length : Int)))), LIf (decide (x9_12 < (a0.length : Int))) (LEq v_a2), LIf (decide (x9_12 < (a0.length : Int))) (LEq v_a0), LIf (decide (x9_12 < (a0.length : Int))) (LEq (.int .i64 x9_12)), LIf (decide (x9_12 < (a0.length : Int))) (LAt0 (encNd (gt a0 x9_12))), LIf (decide (x9_12 < (a0.length : Int))) (LEq (.agg (encNd (gt a0 x9_12)).toArray)), LIf (decide (x9_12 < (a0.length : Int))) (LEq (.agg #[(.int .i64 a1.kind), (S a1.path), (S a1.body), (.int .i64 a1.mode)])), LIf (decide (x9_12 < (a0.length : Int))) (LEq (.int .i64 z112)), LIf (decide (x9_12 < (a0.length : Int))) (LEq (.bool (decide (z112 = 0)))), LEq (.bool ((decide (x9_12 < (a0.length : Int))) && (decide (z112 = 0)))), LEq (.int .i64 x9_12), LEq (.bool ((decide (x9_12 < (a0.length : Int))) && (decide (z112 = 0))))] (by kernel_rfl) (by kernel_rfl) ⟨LEq.mono, LEq.mono, LEq.mono, LEq.mono, LEq.mono, (LIf.mono LEq.mono), (LIf.mono LEq.mono), (LIf.mono LEq.mono), (LIf.mono LAt0.mono), (LIf.mono LEq.mono), (LIf.mono LEq.mono), (LIf.mono LEq.mono), (LIf.mono LEq.mono), LEq.mono, LEq.mono, LEq.mono, trivial⟩ ⟨?_, ?_, ?_, ?_, ?_, ?_, ?_, ?_, ?_, ?_, ?_, ?_, ?_, ?_, ?_, ?_, trivial⟩ ?_
    · intro s116 w117 e118 hf119 hd120 hu121
      exact L_op (.plain rfl) rfl (ltb rfl) (X_move (v := (.int .i64 x9_12)) ((hf119 9 rfl).trans h107)) <| L_nil <| stepEnd rfl rfl (Ext.refl w117) rfl
    · intro s122 w123 e124 hf125 hd126 hu127
      exact L_op (.plain rfl) rfl (ltb rfl) (X_move (v := (.int .i64 x9_12)) ((hf125 9 rfl).trans h107)) <| L_nil <| stepEnd rfl rfl (Ext.refl w123) rfl
    · intro s128 w129 e130 hf131 hd132 hu133
      exact L_op (.plain rfl) rfl (ltb rfl) (X_move (v := (.int .i64 (a0.length : Int))) ((hf131 8 rfl).trans (K15 8 rfl))) <| L_nil <| stepEnd rfl rfl (Ext.refl w129) rfl
    · intro s134 w135 e136 hf137 hd138 hu139
      have d140 : s134 36 = (.int .i64 x9_12) := (hd138 1 rfl)
      have d141 : s134 37 = (.int .i64 (a0.length : Int)) := (hd138 2 rfl)
      exact L_op (.plain rfl) rfl (ltb rfl) (X_lss d140 d141) <| L_nil <| stepEnd rfl rfl (Ext.refl w135) rfl
    · intro s142 w143 e144 hf145 hd146 hu147
      have d148 : s142 38 = (.bool (decide (x9_12 < (a0.length : Int)))) := (hd146 3 rfl)
      exact L_op (.plain rfl) rfl (ltb rfl) (X_move (v := (.bool (decide (x9_12 < (a0.length : Int))))) d148) <| L_nil <| stepEnd rfl rfl (Ext.refl w143) rfl
    · intro s149 w150 e151 hf152 hd153 hu154
      rcases bool_two (decide (x9_12 < (a0.length : Int))) with b155 | b155
      · have g156 : (decide (x9_12 < (a0.length : Int))) = true := b155
        have d157 : s149 39 = (.bool (decide (x9_12 < (a0.length : Int)))) := (hd153 4 rfl)
        have d158 : s149 39 = (.bool (decide (x9_12 < (a0.length : Int)))) := (hd153 4 rfl)
        exact L_op (.guard 4 true 39 rfl rfl (ltb rfl) (d157.trans (congrArg Value.bool g156))) rfl (ltb rfl) (X_move (v := v_a2) ((hf152 2 rfl).trans (K15 2 rfl))) <| L_nil <| stepEnd rfl rfl (Ext.refl w150) ⟨fun _ => rfl, fun h => absurd (b155.symm.trans h) (by decide)⟩
      · have d159 : s149 39 = (.bool (decide (x9_12 < (a0.length : Int)))) := (hd153 4 rfl)
        have g160 : (decide (x9_12 < (a0.length : Int))) = false := b155
        exact L_skip rfl rfl (ltb rfl) (d159.trans (congrArg Value.bool g160)) rfl rfl (ltb rfl) <| L_nil <| stepEnd rfl rfl (Ext.refl w150) ⟨fun h => absurd (b155.symm.trans h) (by decide), fun _ => rfl⟩
    · intro s161 w162 e163 hf164 hd165 hu166
      rcases bool_two (decide (x9_12 < (a0.length : Int))) with b167 | b167
      · have g168 : (decide (x9_12 < (a0.length : Int))) = true := b167
        have d169 : s161 39 = (.bool (decide (x9_12 < (a0.length : Int)))) := (hd165 4 rfl)
        have d170 : s161 39 = (.bool (decide (x9_12 < (a0.length : Int)))) := (hd165 4 rfl)
        exact L_op (.guard 4 true 39 rfl rfl (ltb rfl) (d169.trans (congrArg Value.bool g168))) rfl (ltb rfl) (X_move (v := v_a0) ((hf164 0 rfl).trans (K15 0 rfl))) <| L_nil <| stepEnd rfl rfl (Ext.refl w162) ⟨fun _ => rfl, fun h => absurd (b167.symm.trans h) (by decide)⟩
      · have d171 : s161 39 = (.bool (decide (x9_12 < (a0.length : Int)))) := (hd165 4 rfl)
        have g172 : (decide (x9_12 < (a0.length : Int))) = false := b167
        exact L_skip rfl rfl (ltb rfl) (d171.trans (congrArg Value.bool g172)) rfl rfl (ltb rfl) <| L_nil <| stepEnd rfl rfl (Ext.refl w162) ⟨fun h => absurd (b167.symm.trans h) (by decide), fun _ => rfl⟩
    · intro s173 w174 e175 hf176 hd177 hu178
      rcases bool_two (decide (x9_12 < (a0.length : Int))) with b179 | b179
      · have g180 : (decide (x9_12 < (a0.length : Int))) = true := b179
        have d181 : s173 39 = (.bool (decide (x9_12 < (a0.length : Int)))) := (hd177 4 rfl)
        have d182 : s173 39 = (.bool (decide (x9_12 < (a0.length : Int)))) := (hd177 4 rfl)
        exact L_op (.guard 4 true 39 rfl rfl (ltb rfl) (d181.trans (congrArg Value.bool g180))) rfl (ltb rfl) (X_move (v := (.int .i64 x9_12)) ((hf176 9 rfl).trans h107)) <| L_nil <| stepEnd rfl rfl (Ext.refl w174) ⟨fun _ => rfl, fun h => absurd (b179.symm.trans h) (by decide)⟩
      · have d183 : s173 39 = (.bool (decide (x9_12 < (a0.length : Int)))) := (hd177 4 rfl)
        have g184 : (decide (x9_12 < (a0.length : Int))) = false := b179
        exact L_skip rfl rfl (ltb rfl) (d183.trans (congrArg Value.bool g184)) rfl rfl (ltb rfl) <| L_nil <| stepEnd rfl rfl (Ext.refl w174) ⟨fun h => absurd (b179.symm.trans h) (by decide), fun _ => rfl⟩
    · intro s185 w186 e187 hf188 hd189 hu190
      rcases bool_two (decide (x9_12 < (a0.length : Int))) with b191 | b191
      · have g192 : (decide (x9_12 < (a0.length : Int))) = true := b191
        have d193 : s185 39 = (.bool (decide (x9_12 < (a0.length : Int)))) := (hd189 4 rfl)
        have d194 : s185 39 = (.bool (decide (x9_12 < (a0.length : Int)))) := (hd189 4 rfl)
        have d195 : s185 41 = v_a0 := ((hd189 6 rfl).1 b191)
        have d196 : s185 42 = (.int .i64 x9_12) := ((hd189 7 rfl).1 b191)
        have c197 := imp_take b191 c109
        exact L_idx (.guard 4 true 39 rfl rfl (ltb rfl) (d193.trans (congrArg Value.bool g192))) rfl (ltb rfl) rfl Tryz.underlying30 Tryz.sizeOf80 d195 (Rd.ext f_a0 (Ext.trans (Ext.trans e5 e16) e187)) d196 c197 <| fun p198 h199 => L_nil <| stepEnd rfl rfl (Ext.refl w186) ⟨fun _ => ⟨_, rfl, h199⟩, fun h => absurd (b191.symm.trans h) (by decide)⟩
      · have d200 : s185 39 = (.bool (decide (x9_12 < (a0.length : Int)))) := (hd189 4 rfl)
        have g201 : (decide (x9_12 < (a0.length : Int))) = false := b191
        exact L_skip rfl rfl (ltb rfl) (d200.trans (congrArg Value.bool g201)) rfl rfl (ltb rfl) <| L_nil <| stepEnd rfl rfl (Ext.refl w186) ⟨fun h => absurd (b191.symm.trans h) (by decide), fun _ => rfl⟩
    · intro s202 w203 e204 hf205 hd206 hu207
      rcases bool_two (decide (x9_12 < (a0.length : Int))) with b208 | b208
      · have g209 : (decide (x9_12 < (a0.length : Int))) = true := b208
        have d210 : s202 39 = (.bool (decide (x9_12 < (a0.length : Int)))) := (hd206 4 rfl)
        have d211 : s202 39 = (.bool (decide (x9_12 < (a0.length : Int)))) := (hd206 4 rfl)
        obtain ⟨p212, h213, h214⟩ := ((hd206 8 rfl).1 b208)
        exact L_op (.guard 4 true 39 rfl rfl (ltb rfl) (d210.trans (congrArg Value.bool g209))) rfl (ltb rfl) (X_loadS Tryz.isAgg80 Tryz.sizeOf80 rfl h213 h214) <| L_nil <| stepEnd rfl rfl (Ext.refl w203) ⟨fun _ => rfl, fun h => absurd (b208.symm.trans h) (by decide)⟩
      · have d215 : s202 39 = (.bool (decide (x9_12 < (a0.length : Int)))) := (hd206 4 rfl)
        have g216 : (decide (x9_12 < (a0.length : Int))) = false := b208
        exact L_skip rfl rfl (ltb rfl) (d215.trans (congrArg Value.bool g216)) rfl rfl (ltb rfl) <| L_nil <| stepEnd rfl rfl (Ext.refl w203) ⟨fun h => absurd (b208.symm.trans h) (by decide), fun _ => rfl⟩
    · intro s217 w218 e219 hf220 hd221 hu222
      rcases bool_two (decide (x9_12 < (a0.length : Int))) with b223 | b223
      · have g224 : (decide (x9_12 < (a0.length : Int))) = true := b223
        have d225 : s217 39 = (.bool (decide (x9_12 < (a0.length : Int)))) := (hd221 4 rfl)
        have d226 : s217 39 = (.bool (decide (x9_12 < (a0.length : Int)))) := (hd221 4 rfl)
        exact L_op (.guard 4 true 39 rfl rfl (ltb rfl) (d225.trans (congrArg Value.bool g224))) rfl (ltb rfl) (X_loadS Tryz.isAgg80 Tryz.sizeOf80 rfl ((hf220 4 rfl).trans (K15 4 rfl)) (Blk.at0 (Blk.ext k6 (Ext.trans e16 e219)))) <| L_nil <| stepEnd rfl rfl (Ext.refl w218) ⟨fun _ => rfl, fun h => absurd (b223.symm.trans h) (by decide)⟩
      · have d227 : s217 39 = (.bool (decide (x9_12 < (a0.length : Int)))) := (hd221 4 rfl)
        have g228 : (decide (x9_12 < (a0.length : Int))) = false := b223
        exact L_skip rfl rfl (ltb rfl) (d227.trans (congrArg Value.bool g228)) rfl rfl (ltb rfl) <| L_nil <| stepEnd rfl rfl (Ext.refl w218) ⟨fun h => absurd (b223.symm.trans h) (by decide), fun _ => rfl⟩
    · intro s229 w230 e231 hf232 hd233 hu234
      rcases bool_two (decide (x9_12 < (a0.length : Int))) with b235 | b235
      · have g236 : (decide (x9_12 < (a0.length : Int))) = true := b235
        have d237 : s229 39 = (.bool (decide (x9_12 < (a0.length : Int)))) := (hd233 4 rfl)
        have d238 : s229 39 = (.bool (decide (x9_12 < (a0.length : Int)))) := (hd233 4 rfl)
        have d239 : s229 40 = v_a2 := ((hd233 5 rfl).1 b235)
        have d240 : s229 44 = (.agg (encNd (gt a0 x9_12)).toArray) := ((hd233 9 rfl).1 b235)
        have d241 : s229 45 = (.agg #[(.int .i64 a1.kind), (S a1.path), (S a1.body), (.int .i64 a1.mode)]) := ((hd233 10 rfl).1 b235)
        exact L_callF (.guard 4 true 39 rfl rfl (ltb rfl) (d237.trans (congrArg Value.bool g236))) rfl (ltb rfl) rfl d239 (FnAt.ext (f_a2 _ _ _ x113) (Ext.trans (Ext.trans e5 e16) e231)) (cons2 d240 (cons2 d241 rfl)) <| fun w244 e245 => L_nil <| stepEnd rfl rfl e245 ⟨fun _ => rfl, fun h => absurd (b235.symm.trans h) (by decide)⟩
      · have d246 : s229 39 = (.bool (decide (x9_12 < (a0.length : Int)))) := (hd233 4 rfl)
        have g247 : (decide (x9_12 < (a0.length : Int))) = false := b235
        exact L_skip rfl rfl (ltb rfl) (d246.trans (congrArg Value.bool g247)) rfl rfl (ltb rfl) <| L_nil <| stepEnd rfl rfl (Ext.refl w230) ⟨fun h => absurd (b235.symm.trans h) (by decide), fun _ => rfl⟩
    · intro s248 w249 e250 hf251 hd252 hu253
      rcases bool_two (decide (x9_12 < (a0.length : Int))) with b254 | b254
      · have g255 : (decide (x9_12 < (a0.length : Int))) = true := b254
        have d256 : s248 39 = (.bool (decide (x9_12 < (a0.length : Int)))) := (hd252 4 rfl)
        have d257 : s248 39 = (.bool (decide (x9_12 < (a0.length : Int)))) := (hd252 4 rfl)
        have d258 : s248 46 = (.int .i64 z112) := ((hd252 11 rfl).1 b254)
        exact L_op (.guard 4 true 39 rfl rfl (ltb rfl) (d256.trans (congrArg Value.bool g255))) rfl (ltb rfl) (X_eql d258 rfl) <| L_nil <| stepEnd rfl rfl (Ext.refl w249) ⟨fun _ => rfl, fun h => absurd (b254.symm.trans h) (by decide)⟩
      · have d259 : s248 39 = (.bool (decide (x9_12 < (a0.length : Int)))) := (hd252 4 rfl)
        have g260 : (decide (x9_12 < (a0.length : Int))) = false := b254
        exact L_skip rfl rfl (ltb rfl) (d259.trans (congrArg Value.bool g260)) rfl rfl (ltb rfl) <| L_nil <| stepEnd rfl rfl (Ext.refl w249) ⟨fun h => absurd (b254.symm.trans h) (by decide), fun _ => rfl⟩
    · intro s261 w262 e263 hf264 hd265 hu266
      rcases bool_two (decide (x9_12 < (a0.length : Int))) with b267 | b267
      · have d268 : s261 39 = (.bool (decide (x9_12 < (a0.length : Int)))) := (hd265 4 rfl)
        have d269 : s261 47 = (.bool (decide (z112 = 0))) := ((hd265 12 rfl).1 b267)
        exact L_op (.plain rfl) rfl (ltb rfl) (X_pick (b := true) (v := (.bool (decide (z112 = 0)))) (d268.trans (congrArg Value.bool b267)) d269) <| L_nil <| stepEnd rfl rfl (Ext.refl w262) (and_t b267)
      · have d270 : s261 39 = (.bool (decide (x9_12 < (a0.length : Int)))) := (hd265 4 rfl)
        exact L_op (.plain rfl) rfl (ltb rfl) (X_pick (b := false) (v := (.bool false)) (d270.trans (congrArg Value.bool b267)) rfl) <| L_nil <| stepEnd rfl rfl (Ext.refl w262) (and_f b267)
    · intro s271 w272 e273 hf274 hd275 hu276
      have d277 : s271 35 = (.int .i64 x9_12) := (hd275 0 rfl)
      exact L_op (.plain rfl) rfl (ltb rfl) (X_assign (v := (.int .i64 x9_12)) d277) <| L_nil <| stepEnd rfl rfl (Ext.refl w272) rfl
    · intro s278 w279 e280 hf281 hd282 hu283
      have d284 : s278 48 = (.bool ((decide (x9_12 < (a0.length : Int))) && (decide (z112 = 0)))) := (hd282 13 rfl)
      exact L_op (.plain rfl) rfl (ltb rfl) (X_assign (v := (.bool ((decide (x9_12 < (a0.length : Int))) && (decide (z112 = 0))))) d284) <| L_nil <| stepEnd rfl rfl (Ext.refl w279) rfl
    intro s285 w286 e287 hf288 ha289
    have K290 := Kp.ofD (kp := [(6, 8), (35, 49)]) rfl hf288
    have d291 : s285 6 = (.int .i64 x9_12) := ha289 14 rfl
    have d292 : s285 7 = (.bool ((decide (x9_12 < (a0.length : Int))) && (decide (z112 = 0)))) := ha289 15 rfl
    clear ha289 hf288
    refine thn_n <| W_ret <| fin_r ?_
    obtain rfl := Option.some.inj H
    exact fin2 d291 d292 (Ext.trans (Ext.trans e5 e16) e287)
theorem slices_BinSearchN.calls {w : World} {a0 : List Nd} {a1 : Nd} {a2 : Nd → Nd → Option Int} {r : Int × Bool} {v_a0 : Value} (f_a0 : Rd 4 encNd w v_a0 a0) {v_a2 : Value} (f_a2 : ∀ (x0 : Nd) (x1 : Nd) (r : Int), a2 x0 x1 = some r → FnAt Tryz.prog w v_a2 [(.agg (encNd x0).toArray), (.agg (encNd x1).toArray)] (.int .i64 r)) (g_a2 : v_a2.cells = #[v_a2]) (H : (slices_BinSearchN.sh 64 a0 a1 a2) = some r) :
    Calls Tryz.prog 174 #[v_a0, .agg (encNd a1).toArray, v_a2] w (Rt (RP w (.tuple #[.int .i64 r.1, .bool r.2]))) := by
  obtain ⟨k, h⟩ := slices_BinSearchN.eq a0 a1 a2 H
  exact slices_BinSearchN.walk f_a0 f_a2 g_a2 h
/-! impl.place$1 -/
theorem impl_place_1.walk {w : World} {a0 : Nd} {a1 : Nd} (gv : GV 0 w) {r : Int} (H : impl_place_1.sh a0 a1 = some r) :
    Calls Tryz.prog 175 #[.agg (encNd a0).toArray, .agg (encNd a1).toArray] w (Rt (RP w (.int .i64 r))) := by
  unfold impl_place_1.sh at H
  refine calls_of_W Tryz.func175 rfl (Nat.le_of_ble_eq_true rfl) Tryz.ntmps175 rfl ?_
  refine W_seq <| W_reg <| L_box (.plain rfl) rfl (ltb rfl) rfl rfl <| fun b1 w2 z3 z4 e5 k6 => L_box (.plain rfl) rfl (ltb rfl) rfl rfl <| fun b7 w8 z9 z10 e11 k12 => L_op (.plain rfl) rfl (ltb rfl) (X_assign (v := (.int .i64 0)) rfl) <| L_nil <| thn_n <| W_seq <| W_reg <| L_op (.plain rfl) rfl (ltb rfl) (X_fieldAddr Tryz.underlying80 rfl Tryz.sizeOf9 rfl rfl) <| L_op (.plain rfl) rfl (ltb rfl) (X_loadB Tryz.isAgg9 (Blk.ext k6 e11) rfl rfl) <| L_op (.plain rfl) rfl (ltb rfl) (X_fieldAddr Tryz.underlying80 rfl Tryz.sizeOf9 rfl rfl) <| L_op (.plain rfl) rfl (ltb rfl) (X_loadB Tryz.isAgg9 k12 rfl rfl) ?_
  obtain ⟨c13, H⟩ := bif_some H
  obtain ⟨c14, H⟩ := bif_some H
  refine L_callP (.plain rfl) rfl (ltb rfl) rfl Tryz.call128 (impl_compare.calls (w := w8) (a0 := a0.path) (a1 := a1.path) (GV.ext gv (Ext.trans e5 e11)) (of_decide_eq_true c13) (of_decide_eq_true c14)) rfl <| fun w15 e16 => L_op (.plain rfl) rfl (ltb rfl) (X_assign (v := (.int .i64 (cmpL (cut 47 a0.path) (cut 47 a1.path)))) rfl) <| L_nil <| thn_n <| W_ret <| fin_r ?_
  obtain rfl := Option.some.inj H
  exact fin1 rfl (Ext.trans (Ext.trans e5 e11) e16)
theorem impl_place_1.calls {w : World} {a0 : Nd} {a1 : Nd} (gv : GV 0 w) (h0 : a0.path.length ≤ 1048576) (h1 : a1.path.length ≤ 1048576) :
    Calls Tryz.prog 175 #[.agg (encNd a0).toArray, .agg (encNd a1).toArray] w (Rt (RP w (.int .i64 (cmpL (cut 47 a0.path) (cut 47 a1.path))))) := impl_place_1.walk gv (impl_place_1.eq a0 a1 h0 h1)
/-! slices.Insert(()impl.Node,impl.Node), by text -/
theorem slices_InsertN.calls {w : World} {B : Nat} {v : Value} {xs : List Nd} {x : Nd} {i b9 : Nat} (hO : Ow 80 4 encNd B w v xs) (hi : i ≤ xs.length) (hB : B ≤ w.heap.size) (k9 : Blk w b9 (encNd x).toArray 80) (hne : (∃ A, v = .slice A 0 0) ∨ ∀ g, v.ownBlock = some g → b9 ≠ g) (hn : xs.length ≤ 1048576) :
    Calls Tryz.prog 176 #[v, .int .i64 i, .slice (some ⟨b9, 0, none⟩) 1 1] w (Rt (fun r w' => (∀ W, Below B W w → Below B W w') ∧ Ow 80 4 encNd B w' r (insAt xs i x))) := by
  obtain ⟨A0, c0, hv0⟩ := hO.rd.shape
  have hcap : xs.length ≤ c0 := by obtain ⟨A', c', hv', ⟨hn', _⟩, _⟩ := hO.rd; rw [hv0] at hv'; injection hv' with _ _ e9; omega
  have hxl : (encNd x).length = 4 := rfl
  have hR1 : Rd 4 encNd w (.slice (some ⟨b9, 0, none⟩) 1 1) [x] := (Ow.new (xs := [x]) (sz := 4) (enc := encNd) (base := 0) k9 (Nat.zero_le _) (by simp) (fun _ _ => rfl) (Nat.le_of_ble_eq_true rfl)).rd
  refine calls_of_W Tryz.func176 rfl (Nat.le_of_ble_eq_true rfl) Tryz.ntmps176 rfl ?_
  refine W_seq <| W_reg <| L_op (.plain rfl) rfl (ltb rfl) (X_assign rfl) <| L_nil <| thn_n <| W_seq <| W_reg <| L_op (.plain rfl) rfl (ltb rfl) (X_move (v := v) rfl) <| L_op (.plain rfl) rfl (ltb rfl) (X_move (v := .int .i64 (i : Int)) rfl) <|
    L_op (.plain rfl) rfl (ltb rfl) (X_sliceSl (A := A0) (n := xs.length) (c := c0) (l := (i : Int)) (h := (xs.length : Int)) Tryz.underlying30 Tryz.sizeOf80 hv0 ⟨_, rfl⟩ rfl (by omega) (by omega) (by omega)) <| L_nil <| thn_n <|
    W_seq <| W_reg <| L_op (.plain rfl) rfl (ltb rfl) (X_move (v := .slice (some ⟨b9, 0, none⟩) 1 1) rfl) <| L_op (.plain rfl) rfl (ltb rfl) (X_len Tryz.underlying30 rfl) <| L_op (.plain rfl) rfl (ltb rfl) (X_assign rfl) <| L_nil <| thn_n <|
    W_seq <| W_seq <| W_reg <| L_op (.plain rfl) rfl (ltb rfl) (X_move (v := .int .i64 ((1 : Nat) : Int)) rfl) <| L_op (.plain rfl) rfl (ltb rfl) (X_eql rfl rfl) <| L_nil <| thn_n <| W_false (congrArg Value.bool (decide_eq_false (by decide))) <| W_skip <| thn_n <|
    W_seq <| W_reg <| L_op (.plain rfl) rfl (ltb rfl) (X_move (v := v) rfl) <| L_op (.plain rfl) rfl (ltb rfl) (X_len (A := A0) (n := xs.length) (c := c0) Tryz.underlying30 hv0) <| L_op (.plain rfl) rfl (ltb rfl) (X_assign rfl) <| L_nil <| thn_n <|
    W_seq <| W_seq <| W_reg <| L_op (.plain rfl) rfl (ltb rfl) (X_move (v := .int .i64 (i : Int)) rfl) <| L_op (.plain rfl) rfl (ltb rfl) (X_move (v := .int .i64 (xs.length : Int)) rfl) <| L_op (.plain rfl) rfl (ltb rfl) (X_eql rfl rfl) <| L_nil <| thn_n ?_
  by_cases hie : i = xs.length
  · refine W_true (congrArg Value.bool (decide_eq_true (by omega))) <| W_seq <| W_reg <| L_op (.plain rfl) rfl (ltb rfl) (X_move (v := v) rfl) <| L_op (.plain rfl) rfl (ltb rfl) (X_move (v := .slice (some ⟨b9, 0, none⟩) 1 1) rfl) <|
      L_append (enc := encNd) (.plain rfl) rfl (ltb rfl) rfl El.t30 rfl rfl hO hR1 (ones_Nd _) (by simp; omega) hB <| fun v1 w1 o1 z1 g1 => L_op (.plain rfl) rfl (ltb rfl) (X_assign (v := v1) rfl) <| L_nil <| thn_n <| W_ret <| thn_r <| fin_r ?_
    refine ⟨_, rfl, g1, ?_⟩
    have : insAt xs i x = xs ++ [x] := by simp [insAt, hie]
    rw [this]; exact o1
  obtain ⟨g, cap, cur, hv, hBg, hh, hnc, hcm, hsz, htk⟩ := hO.row (by omega)
  have hcc : A0 = some ⟨g, 0, none⟩ ∧ c0 = cap := by rw [hv] at hv0; injection hv0 with e1 _ e3; exact ⟨e1.symm, e3.symm⟩
  obtain ⟨rfl, rfl⟩ := hcc
  have hlen := hO.2.1
  have hT : ((xs.take i).flatMap encNd).length = i * 4 := by rw [flat_len encNd 4 _ (fun y hy => hlen y (List.mem_of_mem_take hy))]; simp; omega
  have hDl : ((xs.drop i).flatMap encNd).length = (xs.length - i) * 4 := by rw [flat_len encNd 4 _ (fun y hy => hlen y (List.mem_of_mem_drop hy))]; simp
  have hcur : cur.toList = (xs.take i).flatMap encNd ++ (xs.drop i).flatMap encNd ++ cur.toList.drop (xs.length * 4) := by
    rw [← List.flatMap_append, List.take_append_drop, ← htk, List.take_append_drop]
  have hcl : cur.toList.length = c0 * 4 := by simpa using hsz
  have hone1 : ∀ c ∈ encNd x, c.oneCell' = true := fun c hc => ones_Nd [x] x (by simp) c hc
  have honeD : ∀ c ∈ (xs.drop i).flatMap encNd, c.oneCell' = true := fun c hc => by
    obtain ⟨y, hy, hc⟩ := List.mem_flatMap.1 hc
    exact ones_Nd _ y hy c hc
  have hil : (insAt xs i x).length = xs.length + 1 := insAt_len xs i x hi
  have hlen2 : ∀ y ∈ insAt xs i x, (encNd y).length = 4 := fun y _ => rfl
  have hsrcX : ∀ {W : World}, Blk W b9 (encNd x).toArray 80 → ∀ j u, (encNd x)[j]? = some u → W.cell? ((⟨b9, 0, none⟩ : Addr).add j) = some u := fun {W} k j u hj => by
    rw [add_none, Nat.zero_add, k.cell]; simpa using hj
  have hgetD : ∀ j u, ((xs.drop i).flatMap encNd)[j]? = some u → cur.toList[i * 4 + j]? = some u := fun j u hj => by
    have hj' : j < ((xs.drop i).flatMap encNd).length := (List.getElem?_eq_some_iff.1 hj).1
    rw [hcur, List.append_assoc, List.getElem?_append_right (by omega), hT, Nat.add_sub_cancel_left, List.getElem?_append_left hj', hj]
  have hsrcD : ∀ {W : World}, Blk W g cur 80 → ∀ j u, ((xs.drop i).flatMap encNd)[j]? = some u → W.cell? ((⟨g, 0 + i * 4, none⟩ : Addr).add j) = some u := fun {W} k j u hj => by
    rw [add_none, k.cell, Nat.zero_add]
    have := hgetD j u hj
    simpa using this
  have hw : IntKind.wrap .i64 ((xs.length : Int) + ((1 : Nat) : Int)) = ((xs.length + 1 : Nat) : Int) := by rw [Int.natCast_add]; exact Go.UL.wrap_small (by omega) (by omega)
  have hwi : IntKind.wrap .i64 ((i : Int) + ((1 : Nat) : Int)) = ((i + 1 : Nat) : Int) := by rw [Int.natCast_add]; exact Go.UL.wrap_small (by omega) (by omega)
  have hgw : g < w.heap.size := (Array.getElem?_eq_some_iff.1 hh).1
  refine W_false (congrArg Value.bool (decide_eq_false (by omega))) <| W_skip <| thn_n <| W_seq <| W_seq <| W_reg <| L_op (.plain rfl) rfl (ltb rfl) (X_move (v := .int .i64 (xs.length : Int)) rfl) <| L_op (.plain rfl) rfl (ltb rfl) (X_move (v := .int .i64 ((1 : Nat) : Int)) rfl) <|
    L_op (.plain rfl) rfl (ltb rfl) (Ex.cast (X_add rfl rfl) (congrArg (Value.int .i64) hw)) <| L_op (.plain rfl) rfl (ltb rfl) (X_move (v := v) rfl) <| L_op (.plain rfl) rfl (ltb rfl) (X_cap Tryz.underlying30 hv) <| L_op (.plain rfl) rfl (ltb rfl) (X_gtr rfl rfl) <| L_nil <| thn_n ?_
  by_cases hroom : c0 < xs.length + 1
  · -- no room: a new block
    obtain ⟨k, hk⟩ : ∃ k, i + k = xs.length + 1 := ⟨xs.length + 1 - i, by omega⟩
    have hw2 : IntKind.wrap .i64 (((xs.length + 1 : Nat) : Int) - (i : Int)) = (k : Int) := by rw [Go.UL.wrap_small (by omega) (by omega)]; omega
    have hc0 : c0 = xs.length := by omega
    refine W_true (congrArg Value.bool (decide_eq_true (by omega))) <| W_seq <| W_reg <| L_op (.plain rfl) rfl (ltb rfl) (X_move (v := v) rfl) <| L_op (.plain rfl) rfl (ltb rfl) (X_move (v := .int .i64 (i : Int)) rfl) <|
      L_op (.plain rfl) rfl (ltb rfl) (Ex.cast (v' := .slice (some ⟨g, 0, none⟩) i c0) (X_sliceG (l := 0) (h := i) Tryz.underlying30 Tryz.sizeOf80 hv rfl ⟨_, rfl⟩ (.inr rfl) (Nat.zero_le _) (by omega)) (by simp)) <|
      L_op (.plain rfl) rfl (ltb rfl) (X_move (v := .int .i64 (xs.length : Int)) rfl) <| L_op (.plain rfl) rfl (ltb rfl) (X_move (v := .int .i64 ((1 : Nat) : Int)) rfl) <| L_op (.plain rfl) rfl (ltb rfl) (Ex.cast (X_add rfl rfl) (congrArg (Value.int .i64) hw)) <| L_op (.plain rfl) rfl (ltb rfl) (X_move (v := .int .i64 (i : Int)) rfl) <|
      L_op (.plain rfl) rfl (ltb rfl) (Ex.cast (X_sub rfl rfl) (congrArg (Value.int .i64) hw2)) <|
      L_appendZ (olds := (xs.take i).flatMap encNd) (.plain rfl) rfl (ltb rfl) rfl El.t30 Tryz.underlying3 rfl rfl (run_firstCells_some w.drew 4 i ⟨g, 0, none⟩ i c0 _ hT (fun j u hj => ?_)) hT (by omega) (by omega) (by omega) <| fun b w1 C zs hb e1 hC1 hC2 hCl k1 => L_op (.plain rfl) rfl (ltb rfl) (X_assign rfl) <| L_nil <| thn_n ?_
    · have hj' : j < ((xs.take i).flatMap encNd).length := (List.getElem?_eq_some_iff.1 hj).1
      have kd : Blk w.drew g cur 80 := Blk.ext hh (Ext.drew w)
      rw [add_none, kd.cell, Nat.zero_add]
      have : cur.toList[j]? = some u := by rw [hcur, List.append_assoc, List.getElem?_append_left hj', hj]
      simpa using this
    have hBb : B ≤ b := by omega
    have hgb : g ≠ b := by omega
    have hzl : zs.length = C * 4 - i * 4 := by simp only [List.length_append, hT] at hCl; omega
    have hCs : (xs.length + 1) * 4 ≤ C * 4 := Nat.mul_le_mul_right _ (by omega)
    have hmin1 : Nat.min 1 (i + k - i) = 1 := Nat.min_eq_left (by omega)
    refine W_seq <| W_reg <| L_op (.plain rfl) rfl (ltb rfl) (X_move (v := .slice (some ⟨b, 0, none⟩) (i + k) C) rfl) <| L_op (.plain rfl) rfl (ltb rfl) (X_move (v := .int .i64 (i : Int)) rfl) <|
      L_op (.plain rfl) rfl (ltb rfl) (X_sliceG (l := i) (h := i + k) Tryz.underlying30 Tryz.sizeOf80 rfl ⟨_, rfl⟩ rfl (.inl (by omega)) (by omega) hC1) <| L_op (.plain rfl) rfl (ltb rfl) (X_move (v := .slice (some ⟨b9, 0, none⟩) 1 1) rfl) <|
      L_copyB (cs := encNd x) (.plain rfl) rfl (ltb rfl) rfl Tryz.underlying30 Tryz.sizeOf80 k1 rfl rfl (by rw [hmin1]; rfl) (hsrcX (k9.ext e1)) (by simp only [List.size_toArray, hCl, hxl]; omega) hone1 <| fun w2 hw2' k2 => L_nil <| thn_n ?_
    have e2 : Ext w w2 := Ext.wr e1 hw2' (Nat.le_of_eq hb) (Nat.le_refl _)
    have hh2 : Blk w2 g cur 80 := Blk.ext hh e2
    have hlr : ((List.take (0 + i * 4) ((List.flatMap encNd (List.take i xs)) ++ zs)) ++ encNd x ++ List.drop (0 + i * 4 + (encNd x).length) ((List.flatMap encNd (List.take i xs)) ++ zs)).length = C * 4 := by
      simp only [List.length_append, List.length_take, List.length_drop, hT, hxl, hzl]; omega
    have hmin2 : Nat.min (xs.length - i) (i + k - (i + 1)) = xs.length - i := Nat.min_eq_left (by omega)
    refine W_seq <| W_drawR (B := B) [LEq (.slice (some ⟨b, 0, none⟩) (i + k) C), LEq (.int .i64 (i : Int)), LEq (.int .i64 ((1 : Nat) : Int)), LEq (.int .i64 ((i + 1 : Nat) : Int)), LEq (.slice (some ⟨b, 0 + (i + 1) * 4, none⟩) (i + k - (i + 1)) (C - (i + 1))), LEq v, LEq (.int .i64 (i : Int)), LEq (.slice (some ⟨g, 0 + i * 4, none⟩) (xs.length - i) (c0 - i)),
        fun _ W => ∃ row, Blk W b row 80 ∧ row.toList = (xs.take i).flatMap encNd ++ (encNd x ++ (xs.drop i).flatMap encNd) ++ zs.drop (4 + ((xs.drop i).flatMap encNd).length)]
      [⟨true, true, true, false, []⟩, ⟨true, true, true, false, []⟩, ⟨true, true, true, false, []⟩, ⟨true, true, true, false, [1, 2]⟩, ⟨true, true, true, false, [0, 3]⟩, ⟨true, true, true, false, []⟩, ⟨true, true, true, false, []⟩, ⟨true, true, true, false, [5, 6]⟩, ⟨false, false, true, true, [4, 7]⟩]
      [(8, 0, [4]), (8, 1, [4, 3]), (8, 2, [4, 3]), (8, 3, [4]), (8, 4, []), (8, 5, [7]), (8, 6, [7]), (8, 7, [])] (by kernel_rfl) (by kernel_rfl) (Nat.le_trans hB e2.size)
      ⟨⟨LEq.rig.mono, fun _ => LEq.rig⟩, ⟨LEq.rig.mono, fun _ => LEq.rig⟩, ⟨LEq.rig.mono, fun _ => LEq.rig⟩, ⟨LEq.rig.mono, fun _ => LEq.rig⟩, ⟨LEq.rig.mono, fun _ => LEq.rig⟩, ⟨LEq.rig.mono, fun _ => LEq.rig⟩, ⟨LEq.rig.mono, fun _ => LEq.rig⟩, ⟨LEq.rig.mono, fun _ => LEq.rig⟩, ⟨fun _ _ _ k9 ⟨row, h1, h2⟩ => ⟨row, h1.ext k9, h2⟩, noR⟩, trivial⟩
      ⟨?_, ?_, ?_, ?_, ?_, ?_, ?_, ?_, ?_, trivial⟩ ?_
    · intro s9 w9 hb9 hx9 hf9 hd9 hu9
      exact L_op (.plain rfl) rfl (ltb rfl) (X_move (hf9 9 rfl)) <| L_nil <| stepS rfl rfl rfl (Ext.refl _) rfl
    · intro s9 w9 hb9 hx9 hf9 hd9 hu9
      exact L_op (.plain rfl) rfl (ltb rfl) (X_move (hf9 1 rfl)) <| L_nil <| stepS rfl rfl rfl (Ext.refl _) rfl
    · intro s9 w9 hb9 hx9 hf9 hd9 hu9
      exact L_op (.plain rfl) rfl (ltb rfl) (X_move (hf9 7 rfl)) <| L_nil <| stepS rfl rfl rfl (Ext.refl _) rfl
    · intro s9 w9 hb9 hx9 hf9 hd9 hu9
      exact L_op (.plain rfl) rfl (ltb rfl) (Ex.cast (X_add (hd9 1 rfl) (hd9 2 rfl)) (congrArg (Value.int .i64) hwi)) <| L_nil <| stepS rfl rfl rfl (Ext.refl _) rfl
    · intro s9 w9 hb9 hx9 hf9 hd9 hu9
      exact L_op (.plain rfl) rfl (ltb rfl) (X_sliceG (l := i + 1) (h := i + k) Tryz.underlying30 Tryz.sizeOf80 (hd9 0 rfl) ⟨_, hd9 3 rfl⟩ rfl (.inl (by omega)) (by omega) hC1) <| L_nil <| stepS rfl rfl rfl (Ext.refl _) rfl
    · intro s9 w9 hb9 hx9 hf9 hd9 hu9
      exact L_op (.plain rfl) rfl (ltb rfl) (X_move (hf9 0 rfl)) <| L_nil <| stepS rfl rfl rfl (Ext.refl _) rfl
    · intro s9 w9 hb9 hx9 hf9 hd9 hu9
      exact L_op (.plain rfl) rfl (ltb rfl) (X_move (hf9 1 rfl)) <| L_nil <| stepS rfl rfl rfl (Ext.refl _) rfl
    · intro s9 w9 hb9 hx9 hf9 hd9 hu9
      exact L_op (.plain rfl) rfl (ltb rfl) (X_sliceG (l := i) (h := xs.length) Tryz.underlying30 Tryz.sizeOf80 ((hd9 5 rfl).trans hv) ⟨_, hd9 6 rfl⟩ rfl (.inl (by omega)) hi (by omega)) <| L_nil <| stepS rfl rfl rfl (Ext.refl _) rfl
    · intro s9 w9 hb9 hx9 hf9 hd9 hu9
      have e9 : Ext w2 w9 := hx9 rfl
      refine L_copyB (cs := (xs.drop i).flatMap encNd) (.plain rfl) rfl (ltb rfl) rfl Tryz.underlying30 Tryz.sizeOf80 (k2.ext e9) (hd9 4 rfl) (hd9 7 rfl) (by rw [hmin2, hDl]) (hsrcD (hh2.ext e9)) (by simp only [List.size_toArray, hlr, hDl]; omega) honeD <| fun w3 hw3 k3 => L_nil <| stepH rfl rfl rfl (hw3.below hBb) ⟨_, k3, ?_⟩
      have hz : 4 ≤ zs.length := by omega
      have := ins_grow (T := (xs.take i).flatMap encNd) (X := encNd x) (D := (xs.drop i).flatMap encNd) (Z := zs) hT hxl hz
      simp only [Nat.zero_add] at this ⊢
      rw [show (i + 1) * 4 = i * 4 + 4 by omega]
      exact this
    · intro s3 w3 hb3 hf3 ha3
      obtain ⟨row, k3, hrow⟩ := ha3 8 rfl rfl
      refine thn_n <| W_seq <| W_reg <| L_op (.plain rfl) rfl (ltb rfl) (X_move (v := .slice (some ⟨b, 0, none⟩) (i + k) C) (hf3 9 rfl)) <| L_op (.plain rfl) rfl (ltb rfl) (X_assign rfl) <| L_nil <| thn_n <| W_ret <| thn_r <| fin_r ?_
      refine ⟨_, rfl, fun W hW => ?_, ?_⟩
      · exact Below.trans (Below.trans (Below.trans hW (e1.mono hB)) (hw2'.below hBb)) hb3
      · have hrl : row.toList.length = C * 4 := by
          rw [hrow]; simp only [List.length_append, List.length_drop, hT, hxl, hDl, hzl]; omega
        have := Ow.of_row (C := C) (ys := insAt xs i x) (R := zs.drop (4 + ((xs.drop i).flatMap encNd).length)) (row := row.toList) hBb (by simpa using k3) (by rw [ins_flat]; exact hrow) hlen2 (by omega) hC2 hrl
        rw [hil, ← hk] at this
        exact this
  · -- room: in place
    have hw3 : IntKind.wrap .i64 ((xs.length : Int) + ((1 : Nat) : Int)) = ((xs.length + 1 : Nat) : Int) := hw
    have hne9 : b9 ≠ g := by
      rcases hne with ⟨A, hA⟩ | hne
      · rw [hv] at hA; injection hA with _ hl0 _; omega
      · exact hne g (by rw [hv]; rfl)
    refine W_false (congrArg Value.bool (decide_eq_false (by omega))) <| W_skip <| thn_n <| W_seq <| W_reg <| L_op (.plain rfl) rfl (ltb rfl) (X_move (v := v) rfl) <| L_op (.plain rfl) rfl (ltb rfl) (X_move (v := .int .i64 (xs.length : Int)) rfl) <| L_op (.plain rfl) rfl (ltb rfl) (X_move (v := .int .i64 ((1 : Nat) : Int)) rfl) <|
      L_op (.plain rfl) rfl (ltb rfl) (Ex.cast (X_add rfl rfl) (congrArg (Value.int .i64) hw)) <| L_op (.plain rfl) rfl (ltb rfl) (Ex.cast (v' := .slice (some ⟨g, 0, none⟩) (xs.length + 1) c0) (X_sliceG (l := 0) (h := xs.length + 1) Tryz.underlying30 Tryz.sizeOf80 hv rfl ⟨_, rfl⟩ (.inr rfl) (Nat.zero_le _) (by omega)) (by simp)) <|
      L_op (.plain rfl) rfl (ltb rfl) (X_assign rfl) <| L_nil <| thn_n <| W_seq <| W_seq <| W_reg <| L_op (.plain rfl) rfl (ltb rfl) (X_move (v := .slice (some ⟨b9, 0, none⟩) 1 1) rfl) <| L_op (.plain rfl) rfl (ltb rfl) (X_move (v := .slice (some ⟨g, 0, none⟩) (xs.length + 1) c0) rfl) <| L_op (.plain rfl) rfl (ltb rfl) (X_move (v := .int .i64 (i : Int)) rfl) <|
      L_op (.plain rfl) rfl (ltb rfl) (X_move (v := .int .i64 ((1 : Nat) : Int)) rfl) <| L_op (.plain rfl) rfl (ltb rfl) (Ex.cast (X_add rfl rfl) (congrArg (Value.int .i64) hwi)) <|
      L_op (.plain rfl) rfl (ltb rfl) (X_sliceG (l := i + 1) (h := xs.length + 1) Tryz.underlying30 Tryz.sizeOf80 rfl ⟨_, rfl⟩ rfl (.inl (by omega)) (by omega) (by omega)) <|
      L_op (.plain rfl) rfl (ltb rfl) (X_ext (vs := #[.slice (some ⟨b9, 0, none⟩) 1 1, .slice (some ⟨g, 0 + (i + 1) * 4, none⟩) (xs.length + 1 - (i + 1)) (c0 - (i + 1))]) rfl (v := .bool false) ?_) <|
      L_op (.plain rfl) rfl (ltb rfl) (X_not rfl) <| L_nil <| thn_n <| W_true rfl ?_
    · rw [run_callFunc_extern Tryz.func206 (by kernel_rfl) (by kernel_rfl) (by kernel_rfl) (e := Extern.SlicesOverlaps.overlaps #[30, 30] #[4]) (by kernel_rfl),
        Lib.run_overlaps_apart w 30 4 80 Tryz.underlying30 4 Tryz.sizeOf80 ⟨b9, 0, none⟩ ⟨g, 0 + (i + 1) * 4, none⟩ 1 1 _ _ hne9 80 80 _ _ k9.shape (Blk.shape (cs := cur) hh) (by omega) k9.frozen k9.frozen]
      rfl
    have hmin2 : Nat.min (xs.length + 1 - i) (xs.length + 1 - (i + 1)) = xs.length - i := (Nat.min_eq_right (by omega)).trans (by omega)
    have hcs : (xs.length + 1) * 4 ≤ c0 * 4 := Nat.mul_le_mul_right _ (by omega)
    refine W_seq <| W_drawR (B := B) [LEq (.slice (some ⟨g, 0, none⟩) (xs.length + 1) c0), LEq (.int .i64 (i : Int)), LEq (.int .i64 ((1 : Nat) : Int)), LEq (.int .i64 ((i + 1 : Nat) : Int)), LEq (.slice (some ⟨g, 0 + (i + 1) * 4, none⟩) (xs.length + 1 - (i + 1)) (c0 - (i + 1))), LEq (.slice (some ⟨g, 0, none⟩) (xs.length + 1) c0), LEq (.int .i64 (i : Int)), LEq (.slice (some ⟨g, 0 + i * 4, none⟩) (xs.length + 1 - i) (c0 - i)),
        fun _ W => Blk W g (List.take (0 + (i + 1) * 4) cur.toList ++ (xs.drop i).flatMap encNd ++ List.drop (0 + (i + 1) * 4 + ((xs.drop i).flatMap encNd).length) cur.toList).toArray 80 ∧ Blk W b9 (encNd x).toArray 80]
      [⟨true, true, true, false, []⟩, ⟨true, true, true, false, []⟩, ⟨true, true, true, false, []⟩, ⟨true, true, true, false, [1, 2]⟩, ⟨true, true, true, false, [0, 3]⟩, ⟨true, true, true, false, []⟩, ⟨true, true, true, false, []⟩, ⟨true, true, true, false, [5, 6]⟩, ⟨false, false, true, true, [4, 7]⟩]
      [(8, 0, [4]), (8, 1, [4, 3]), (8, 2, [4, 3]), (8, 3, [4]), (8, 4, []), (8, 5, [7]), (8, 6, [7]), (8, 7, [])] (by kernel_rfl) (by kernel_rfl) hB
      ⟨⟨LEq.rig.mono, fun _ => LEq.rig⟩, ⟨LEq.rig.mono, fun _ => LEq.rig⟩, ⟨LEq.rig.mono, fun _ => LEq.rig⟩, ⟨LEq.rig.mono, fun _ => LEq.rig⟩, ⟨LEq.rig.mono, fun _ => LEq.rig⟩, ⟨LEq.rig.mono, fun _ => LEq.rig⟩, ⟨LEq.rig.mono, fun _ => LEq.rig⟩, ⟨LEq.rig.mono, fun _ => LEq.rig⟩, ⟨fun _ _ _ k9 ⟨h1, h2⟩ => ⟨h1.ext k9, h2.ext k9⟩, noR⟩, trivial⟩
      ⟨?_, ?_, ?_, ?_, ?_, ?_, ?_, ?_, ?_, trivial⟩ ?_
    · intro s9 w9 hb9 hx9 hf9 hd9 hu9
      exact L_op (.plain rfl) rfl (ltb rfl) (X_move (hf9 0 rfl)) <| L_nil <| stepS rfl rfl rfl (Ext.refl _) rfl
    · intro s9 w9 hb9 hx9 hf9 hd9 hu9
      exact L_op (.plain rfl) rfl (ltb rfl) (X_move (hf9 1 rfl)) <| L_nil <| stepS rfl rfl rfl (Ext.refl _) rfl
    · intro s9 w9 hb9 hx9 hf9 hd9 hu9
      exact L_op (.plain rfl) rfl (ltb rfl) (X_move (hf9 7 rfl)) <| L_nil <| stepS rfl rfl rfl (Ext.refl _) rfl
    · intro s9 w9 hb9 hx9 hf9 hd9 hu9
      exact L_op (.plain rfl) rfl (ltb rfl) (Ex.cast (X_add (hd9 1 rfl) (hd9 2 rfl)) (congrArg (Value.int .i64) hwi)) <| L_nil <| stepS rfl rfl rfl (Ext.refl _) rfl
    · intro s9 w9 hb9 hx9 hf9 hd9 hu9
      exact L_op (.plain rfl) rfl (ltb rfl) (X_sliceG (l := i + 1) (h := xs.length + 1) Tryz.underlying30 Tryz.sizeOf80 (hd9 0 rfl) ⟨_, hd9 3 rfl⟩ rfl (.inl (by omega)) (by omega) (by omega)) <| L_nil <| stepS rfl rfl rfl (Ext.refl _) rfl
    · intro s9 w9 hb9 hx9 hf9 hd9 hu9
      exact L_op (.plain rfl) rfl (ltb rfl) (X_move (hf9 0 rfl)) <| L_nil <| stepS rfl rfl rfl (Ext.refl _) rfl
    · intro s9 w9 hb9 hx9 hf9 hd9 hu9
      exact L_op (.plain rfl) rfl (ltb rfl) (X_move (hf9 1 rfl)) <| L_nil <| stepS rfl rfl rfl (Ext.refl _) rfl
    · intro s9 w9 hb9 hx9 hf9 hd9 hu9
      exact L_op (.plain rfl) rfl (ltb rfl) (X_sliceG (l := i) (h := xs.length + 1) Tryz.underlying30 Tryz.sizeOf80 (hd9 5 rfl) ⟨_, hd9 6 rfl⟩ rfl (.inl (by omega)) (by omega) (by omega)) <| L_nil <| stepS rfl rfl rfl (Ext.refl _) rfl
    · intro s9 w9 hb9 hx9 hf9 hd9 hu9
      have e9 : Ext w w9 := hx9 rfl
      exact L_copyB (cs := (xs.drop i).flatMap encNd) (.plain rfl) rfl (ltb rfl) rfl Tryz.underlying30 Tryz.sizeOf80 (Blk.ext hh e9) (hd9 4 rfl) (hd9 7 rfl) (by rw [hmin2, hDl]) (hsrcD (Blk.ext hh e9)) (by rw [hDl, hsz]; omega) honeD <| fun w3 hw3 k3 => L_nil <| stepH rfl rfl rfl (hw3.below hBg) ⟨k3, hw3.blk (k9.ext e9) hne9⟩
    · intro s3 w3 hb3 hf3 ha3
      obtain ⟨k3, k93⟩ := ha3 8 rfl rfl
      have hmin1 : Nat.min 1 (xs.length + 1 - i) = 1 := Nat.min_eq_left (by omega)
      have hsz3 : (List.take (0 + (i + 1) * 4) cur.toList ++ (xs.drop i).flatMap encNd ++ List.drop (0 + (i + 1) * 4 + ((xs.drop i).flatMap encNd).length) cur.toList).length = c0 * 4 := by
        simp only [List.length_append, List.length_take, List.length_drop, hDl, hcl]; omega
      refine thn_n <| W_seq <| W_reg <| L_op (.plain rfl) rfl (ltb rfl) (X_move (v := .slice (some ⟨g, 0, none⟩) (xs.length + 1) c0) (hf3 0 rfl)) <| L_op (.plain rfl) rfl (ltb rfl) (X_move (v := .int .i64 (i : Int)) (hf3 1 rfl)) <|
        L_op (.plain rfl) rfl (ltb rfl) (X_sliceG (l := i) (h := xs.length + 1) Tryz.underlying30 Tryz.sizeOf80 rfl ⟨_, rfl⟩ rfl (.inl (by omega)) (by omega) (by omega)) <| L_op (.plain rfl) rfl (ltb rfl) (X_move (v := .slice (some ⟨b9, 0, none⟩) 1 1) (hf3 2 rfl)) <|
        L_copyB (cs := encNd x) (.plain rfl) rfl (ltb rfl) rfl Tryz.underlying30 Tryz.sizeOf80 k3 rfl rfl (by rw [hmin1]; rfl) (hsrcX k93) (by simp only [List.size_toArray, hsz3, hxl]; omega) hone1 <| fun w4 hw4 k4 => L_nil <| thn_n <|
        W_seq <| W_reg <| L_op (.plain rfl) rfl (ltb rfl) (X_move (v := .slice (some ⟨g, 0, none⟩) (xs.length + 1) c0) (hf3 0 rfl)) <| L_op (.plain rfl) rfl (ltb rfl) (X_assign rfl) <| L_nil <| thn_n <| W_ret <| thn_r <| fin_r ?_
      refine ⟨_, rfl, fun W hW => ?_, ?_⟩
      · exact Below.trans (Below.trans hW hb3) (hw4.below hBg)
      · have hz : 4 ≤ (cur.toList.drop (xs.length * 4)).length := by simp only [List.length_drop, hcl]; omega
        have h5 := ins_room (T := (xs.take i).flatMap encNd) (X := encNd x) (D := (xs.drop i).flatMap encNd) (R := cur.toList.drop (xs.length * 4)) hT hxl hz
        rw [← hcur, show i * 4 + 4 = (i + 1) * 4 by omega] at h5
        simp only [Nat.zero_add] at k4
        rw [h5] at k4
        have hrl : ((xs.take i).flatMap encNd ++ (encNd x ++ (xs.drop i).flatMap encNd) ++ (cur.toList.drop (xs.length * 4)).drop 4).length = c0 * 4 := by
          simp only [List.length_append, List.length_drop, hT, hxl, hDl, hcl]; omega
        have := Ow.of_row (C := c0) (ys := insAt xs i x) (R := (cur.toList.drop (xs.length * 4)).drop 4) hBg k4 (by rw [ins_flat]) hlen2 (by omega) hcm hrl
        rw [hil] at this
        exact this

/-! impl.place, by text -/
theorem insAt_less {t : List Nd} {n : Nd} (h : riseN t = true) : insAt t (lessC t n.path) n = placeL t n := by
  obtain ⟨h1, h2⟩ := less_split (p := n.path) (riseN_rise h)
  unfold insAt placeL; rw [h1, h2]
theorem impl_place.calls {w : World} {a0 : List Nd} {a1 : Nd} {v_a0 : Value} (gv : GV 0 w) (f_a0 : Rd 4 encNd w v_a0 a0) (h0 : a0.length ≤ 1048575) (h1 : riseN a0 = true) (h2 : ∀ x ∈ a0, x.path.length ≤ 1048576) (h3 : a1.path.length ≤ 1048576) :
    Calls Tryz.prog 124 #[v_a0, .agg (encNd a1).toArray] w (Rt (RO 80 4 encNd w (placeL a0 a1))) := by
  obtain ⟨fd, hbs⟩ := binS_run h0 h1 h2 h3
  have hle := lessC_le a0 a1.path
  refine calls_of_W Tryz.func124 rfl (Nat.le_of_ble_eq_true rfl) Tryz.ntmps124 rfl ?_
  refine W_seq <| W_reg <| L_box (.plain rfl) rfl (ltb rfl) rfl rfl <| fun b3 w1 z1 z2 e1 k1 => L_op (.plain rfl) rfl (ltb rfl) (X_assign (v := .slice none 0 0) rfl) <| L_nil <| thn_n <| W_seq <| W_reg <| L_op (.plain rfl) rfl (ltb rfl) (X_move (v := v_a0) rfl) <| L_op (.plain rfl) rfl (ltb rfl) (X_loadS (cs := encNd a1) Tryz.isAgg80 Tryz.sizeOf80 rfl rfl (Blk.at0 k1)) <|
    L_callP (.plain rfl) rfl (ltb rfl) rfl Tryz.call174 (slices_BinSearchN.calls (w := w1) (a0 := a0) (a1 := a1) (a2 := cmpN) (v_a2 := .func (.func 175) #[] #[]) (f_a0.ext e1) (fun x0 x1 r h => ?_) rfl hbs) rfl <| fun w2 e2 => L_op (.plain rfl) rfl (ltb rfl) (X_move rfl) <| L_op (.plain rfl) rfl (ltb rfl) (X_extract rfl rfl) <| L_op (.plain rfl) rfl (ltb rfl) (X_extract rfl rfl) <| L_op (.plain rfl) rfl (ltb rfl) (X_assign (v := .int .i64 (lessC a0 a1.path : Int)) rfl) <| L_op (.plain rfl) rfl (ltb rfl) (X_assign rfl) <| L_nil <| thn_n ?_
  · obtain ⟨q0, q1, rfl⟩ := cmpN_some h
    exact FnAt.mk Tryz.call175 (by rfl) fun w9 k9 => impl_place_1.calls (w := w9) (a0 := x0) (a1 := x1) (GV.ext gv (Ext.trans e1 k9)) q0 q1
  have f2 : Rd 4 encNd w2 v_a0 a0 := f_a0.ext (Ext.trans e1 e2)
  have k2 := k1.ext e2
  refine W_seq <| W_drawP (B := w2.heap.size) [LEq v_a0, LOw 80 4 encNd w2.heap.size a0, LEq (.int .i64 (lessC a0 a1.path : Int)), LEq (.agg (encNd a1).toArray), fun v W => ∃ b, v = .slice (some ⟨b, 0, none⟩) 1 1 ∧ Blk W b (encNd a1).toArray 80, LOw 80 4 encNd w2.heap.size (placeL a0 a1), LOw 80 4 encNd w2.heap.size (placeL a0 a1)]
    [⟨true, true, true, false, []⟩, ⟨true, false, true, false, [0]⟩, ⟨true, true, true, false, []⟩, ⟨true, true, true, false, []⟩, ⟨true, false, true, false, [3]⟩, ⟨false, false, true, false, [1, 2, 4]⟩, ⟨true, false, false, true, [5]⟩]
    [(5, 0, [1]), (5, 1, []), (5, 2, []), (5, 3, [4]), (5, 4, []), (6, 5, [])] 1 4 5 Apart (by kernel_rfl) (by kernel_rfl) (by kernel_rfl) (by kernel_rfl) (Nat.le_refl _)
    ⟨⟨LEq.rig.mono, fun _ => LEq.rig⟩, ⟨LOw.mono, noR⟩, ⟨LEq.rig.mono, fun _ => LEq.rig⟩, ⟨LEq.rig.mono, fun _ => LEq.rig⟩, ⟨fun _ _ _ k ⟨b, h1, h2⟩ => ⟨b, h1, h2.ext k⟩, noR⟩, ⟨LOw.mono, noR⟩, ⟨LOw.mono, noR⟩, trivial⟩
    ⟨?_, ?_, ?_, ?_, ?_, ?_, ?_, trivial⟩ ?_
  · intro s9 w9 c9 hb9 hx9 hf9 hd9 hu9 hp9 hq9 hD9
    exact L_op (.plain rfl) rfl (ltb rfl) (X_move (hf9 0 rfl)) <| L_nil <| stepPS0 rfl rfl rfl (Ext.refl _) rfl rfl rfl
  · intro s9 w9 c9 hb9 hx9 hf9 hd9 hu9 hp9 hq9 hD9
    have e9 : Ext w2 w9 := hx9 rfl
    have h13 : s9 13 = v_a0 := hd9 0 rfl
    refine L_callO (.plain rfl) rfl (ltb rfl) rfl Tryz.call121 (slices_CloneN.calls (w := w9) (a0 := a0) (f2.ext e9) (by omega)) (cons2 h13 rfl) <| fun v14 w10 e10 o14 => L_nil <| stepPp rfl rfl rfl e10 (Ow.base o14 e9.size) (fun hc => ?_) rfl
    obtain ⟨b, hb, kb⟩ := hp9 rfl hc
    obtain ⟨h9 | ⟨h9, _⟩, _⟩ := o14
    · refine .inr fun g b' hg hb' => ?_
      have hlt := (h9.lt g hg).1
      have hb2 : s9 17 = .slice (some ⟨b, 0, none⟩) 1 1 := hb
      have hb'' : (s9 17).ownBlock = some b' := hb'
      rw [hb2] at hb''
      have : b = b' := Option.some.inj hb''
      have := kb.lt
      omega
    · exact .inl h9
  · intro s9 w9 c9 hb9 hx9 hf9 hd9 hu9 hp9 hq9 hD9
    exact L_op (.plain rfl) rfl (ltb rfl) (X_move (hf9 5 rfl)) <| L_nil <| stepPS0 rfl rfl rfl (Ext.refl _) rfl rfl rfl
  · intro s9 w9 c9 hb9 hx9 hf9 hd9 hu9 hp9 hq9 hD9
    have e9 : Ext w2 w9 := hx9 rfl
    exact L_op (.plain rfl) rfl (ltb rfl) (X_loadS (cs := encNd a1) Tryz.isAgg80 Tryz.sizeOf80 rfl (hf9 3 rfl) (Blk.at0 (k2.ext e9))) <| L_nil <| stepPS0 rfl rfl rfl (Ext.refl _) rfl rfl rfl
  · intro s9 w9 c9 hb9 hx9 hf9 hd9 hu9 hp9 hq9 hD9
    have e9 : Ext w2 w9 := hx9 rfl
    have h16 : s9 16 = .agg (encNd a1).toArray := hd9 3 rfl
    refine L_lit (.plain rfl) rfl (ltb rfl) rfl Tryz.underlying30 Tryz.sizeOf80 Tryz.zeroValue80 rfl rfl rfl (vs := [.agg (encNd a1).toArray]) (cons2 h16 rfl) (lit_all rfl) <| fun b17 w10 z17 z17' e10 k17 => L_nil <| stepPq rfl rfl rfl e10 ⟨b17, rfl, k17⟩ rfl (fun hc => ?_)
    have o14 : Ow 80 4 encNd w2.heap.size w9 (s9 14) a0 := hq9 rfl hc
    rcases o14.hb with h9 | h9
    · exact .inl h9
    · refine .inr fun g b' hg hb' => ?_
      have hlt := h9 g hg
      have : b17 = b' := Option.some.inj hb'
      omega
  · intro s9 w9 c9 hb9 hx9 hf9 hd9 hu9 hp9 hq9 hD9
    have e9 : Ext w2 w9 := hx9 rfl
    have o14 : Ow 80 4 encNd w2.heap.size w9 (s9 14) a0 := hd9 1 rfl
    have h15 : s9 15 = .int .i64 (lessC a0 a1.path : Int) := hd9 2 rfl
    obtain ⟨b17, h17, k17⟩ := hd9 4 rfl
    have h17' : s9 17 = .slice (some ⟨b17, 0, none⟩) 1 1 := h17
    have hD : Apart (s9 14) (s9 17) := hD9 rfl rfl
    refine L_callA (.plain rfl) rfl (ltb rfl) rfl Tryz.call176 (slices_InsertN.calls (w := w9) (x := a1) (i := lessC a0 a1.path) o14 hle e9.size k17 (hD.imp (fun h => h) fun h g hg => h g b17 hg (by rw [h17']; rfl)) (by omega)) (cons2 rfl (cons2 h15 (cons2 h17' rfl))) <| fun v18 w10 h18 => ?_
    obtain ⟨g18, o18⟩ := h18
    refine L_nil <| stepPH0 rfl rfl rfl (g18 _ (Below.refl _ _)) (show Ow 80 4 encNd w2.heap.size w10 v18 (placeL a0 a1) from ?_) rfl rfl
    rw [← insAt_less h1]; exact o18
  · intro s9 w9 c9 hb9 hx9 hf9 hd9 hu9 hp9 hq9 hD9
    exact L_op (.plain rfl) rfl (ltb rfl) (X_assign rfl) <| L_nil <| stepPS0 rfl rfl rfl (Ext.refl _) (hd9 5 rfl) rfl rfl
  · intro s3 w3 hb3 hf3 ha3
    have o4 : Ow 80 4 encNd w2.heap.size w3 (s3 4) (placeL a0 a1) := ha3 6 rfl rfl
    refine thn_n <| W_ret <| fin_r ?_
    have e3 : Ext w w2 := Ext.trans e1 e2
    exact fin1o rfl (Ext.trans e3 hb3) o4 e3.size

/-! spec.l04Put -/
abbrev spec_l04Put.e1 (a0 : List Nd) (a1 : Nd) (x5_11 : Int) := ((([] : List Nd) ++ (sub a0 0 x5_11)) ++ ([a1] : List Nd))
theorem spec_l04Put.walk {k : Nat} {w : World} {a0 : List Nd} {a1 : Nd} {v_a0 : Value} (f_a0 : Rd 4 encNd w v_a0 a0) {r : List Nd} (H : spec_l04Put.sh k a0 a1 = some r) :
    Calls Tryz.prog 163 #[v_a0, .agg (encNd a1).toArray] w (Rt (RO 80 4 encNd w r)) := by
  unfold spec_l04Put.sh at H
  refine calls_of_W Tryz.func163 rfl (Nat.le_of_ble_eq_true rfl) Tryz.ntmps163 rfl ?_
  refine W_seq <| W_reg <| L_box (.plain rfl) rfl (ltb rfl) rfl rfl <| fun b1 w2 z3 z4 e5 k6 => L_op (.plain rfl) rfl (ltb rfl) (X_assign (v := (.slice none 0 0)) rfl) <| L_nil <| thn_n <| W_seq <| W_reg <| L_op (.plain rfl) rfl (ltb rfl) (X_assign (v := (.int .i64 0)) rfl) <| L_nil <| thn_n <| W_seq ?_
  obtain ⟨z8, L9, C10⟩ := bind_some H
  clear H
  refine  W_cutQ (fun s0 sQ wQ => ∃ (x5_11 : Int), Kp [(5, 6), (7, 23)] s0 sQ ∧ sQ 5 = .int .i64 x5_11 ∧ Ext w2 wQ ∧ z8 = .inr x5_11) ?_ ?_
  · refine W_block <| W_loopI (fun s0 kk sQ wQ => ∃ (x5_7 : Int), Kp [(5, 6), (7, 23)] s0 sQ ∧ sQ 5 = .int .i64 x5_7 ∧ Ext w2 wQ ∧ loopF (spec_l04Put.b1 a0 a1) kk x5_7 = some z8) k ⟨0, (Kp.refl _ _), rfl, (Ext.refl w2), L9⟩ ?_
    rintro k16 s17 w18 ⟨x5_7, K19, h22, e20, L21⟩
    cases k16 with
    | zero => exact absurd L21 (by simp [loopF])
    | succ k16 =>
      obtain ⟨t23, H, S24⟩ := loopF_succ L21
      clear L21
      unfold spec_l04Put.b1 at H
      refine W_seq <| W_seq ?_
      obtain ⟨c25, H⟩ := bif_some H
      obtain ⟨c28, H⟩ := bif_some H
      obtain ⟨c29, H⟩ := bif_some H
      refine W_drawM [LEq (.int .i64 x5_7), LEq v_a0, LEq (.int .i64 (a0.length : Int)), LEq (.bool (decide (x5_7 < (a0.length : Int)))), LEq (.bool (decide (x5_7 < (a0.length : Int)))), LIf (decide (x5_7 < (a0.length : Int))) (LEq v_a0), LIf (decide (x5_7 < (a0.length : Int))) (LEq (.int .i64 x5_7)), LIf (decide (x5_7 < (a0.length : Int))) (LAt0 (encNd (gt a0 x5_7))), LIf (decide (x5_7 < (a0.length : Int))) (LAt 1 (encNd (gt a0 x5_7))), LIf (decide (x5_7 < (a0.length : Int))) (LEq (S ((gt a0 x5_7).path))), LIf (decide (x5_7 < (a0.length : Int))) (LEq (.pointer (some ⟨b1, 1, none⟩))), LIf (decide (x5_7 < (a0.length : Int))) (LEq (S a1.path)), LIf (decide (x5_7 < (a0.length : Int))) (LEq (.bool (lessL (cut 47 ((gt a0 x5_7).path)) (cut 47 a1.path)))), LEq (.bool ((decide (x5_7 < (a0.length : Int))) && (lessL (cut 47 ((gt a0 x5_7).path)) (cut 47 a1.path))))] (by kernel_rfl) (by kernel_rfl) ⟨LEq.mono, LEq.mono, LEq.mono, LEq.mono, LEq.mono, (LIf.mono LEq.mono), (LIf.mono LEq.mono), (LIf.mono LAt0.mono), (LIf.mono LAt.mono), (LIf.mono LEq.mono), (LIf.mono LEq.mono), (LIf.mono LEq.mono), (LIf.mono LEq.mono), LEq.mono, trivial⟩ ⟨?_, ?_, ?_, ?_, ?_, ?_, ?_, ?_, ?_, ?_, ?_, ?_, ?_, ?_, trivial⟩ ?_
      · intro s32 w33 e34 hf35 hd36 hu37
        exact L_op (.plain rfl) rfl (ltb rfl) (X_move (v := (.int .i64 x5_7)) ((hf35 5 rfl).trans h22)) <| L_nil <| stepEnd rfl rfl (Ext.refl w33) rfl
      · intro s38 w39 e40 hf41 hd42 hu43
        exact L_op (.plain rfl) rfl (ltb rfl) (X_move (v := v_a0) ((hf41 0 rfl).trans (K19 0 rfl))) <| L_nil <| stepEnd rfl rfl (Ext.refl w39) rfl
      · intro s44 w45 e46 hf47 hd48 hu49
        have d50 : s44 8 = v_a0 := (hd48 1 rfl)
        exact L_op (.plain rfl) rfl (ltb rfl) (X_lenR Tryz.underlying30 d50 (Rd.ext f_a0 (Ext.trans (Ext.trans e5 e20) e46))) <| L_nil <| stepEnd rfl rfl (Ext.refl w45) rfl
      · intro s51 w52 e53 hf54 hd55 hu56
        have d57 : s51 7 = (.int .i64 x5_7) := (hd55 0 rfl)
        have d58 : s51 9 = (.int .i64 (a0.length : Int)) := (hd55 2 rfl)
        exact L_op (.plain rfl) rfl (ltb rfl) (X_lss d57 d58) <| L_nil <| stepEnd rfl rfl (Ext.refl w52) rfl
      · intro s59 w60 e61 hf62 hd63 hu64
        have d65 : s59 10 = (.bool (decide (x5_7 < (a0.length : Int)))) := (hd63 3 rfl)
        exact L_op (.plain rfl) rfl (ltb rfl) (X_move (v := (.bool (decide (x5_7 < (a0.length : Int))))) d65) <| L_nil <| stepEnd rfl rfl (Ext.refl w60) rfl
      · intro s66 w67 e68 hf69 hd70 hu71
        rcases bool_two (decide (x5_7 < (a0.length : Int))) with b72 | b72
        · have g73 : (decide (x5_7 < (a0.length : Int))) = true := b72
          have d74 : s66 11 = (.bool (decide (x5_7 < (a0.length : Int)))) := (hd70 4 rfl)
          have d75 : s66 11 = (.bool (decide (x5_7 < (a0.length : Int)))) := (hd70 4 rfl)
          exact L_op (.guard 4 true 11 rfl rfl (ltb rfl) (d74.trans (congrArg Value.bool g73))) rfl (ltb rfl) (X_move (v := v_a0) ((hf69 0 rfl).trans (K19 0 rfl))) <| L_nil <| stepEnd rfl rfl (Ext.refl w67) ⟨fun _ => rfl, fun h => absurd (b72.symm.trans h) (by decide)⟩
        · have d76 : s66 11 = (.bool (decide (x5_7 < (a0.length : Int)))) := (hd70 4 rfl)
          have g77 : (decide (x5_7 < (a0.length : Int))) = false := b72
          exact L_skip rfl rfl (ltb rfl) (d76.trans (congrArg Value.bool g77)) rfl rfl (ltb rfl) <| L_nil <| stepEnd rfl rfl (Ext.refl w67) ⟨fun h => absurd (b72.symm.trans h) (by decide), fun _ => rfl⟩
      · intro s78 w79 e80 hf81 hd82 hu83
        rcases bool_two (decide (x5_7 < (a0.length : Int))) with b84 | b84
        · have g85 : (decide (x5_7 < (a0.length : Int))) = true := b84
          have d86 : s78 11 = (.bool (decide (x5_7 < (a0.length : Int)))) := (hd82 4 rfl)
          have d87 : s78 11 = (.bool (decide (x5_7 < (a0.length : Int)))) := (hd82 4 rfl)
          exact L_op (.guard 4 true 11 rfl rfl (ltb rfl) (d86.trans (congrArg Value.bool g85))) rfl (ltb rfl) (X_move (v := (.int .i64 x5_7)) ((hf81 5 rfl).trans h22)) <| L_nil <| stepEnd rfl rfl (Ext.refl w79) ⟨fun _ => rfl, fun h => absurd (b84.symm.trans h) (by decide)⟩
        · have d88 : s78 11 = (.bool (decide (x5_7 < (a0.length : Int)))) := (hd82 4 rfl)
          have g89 : (decide (x5_7 < (a0.length : Int))) = false := b84
          exact L_skip rfl rfl (ltb rfl) (d88.trans (congrArg Value.bool g89)) rfl rfl (ltb rfl) <| L_nil <| stepEnd rfl rfl (Ext.refl w79) ⟨fun h => absurd (b84.symm.trans h) (by decide), fun _ => rfl⟩
      · intro s90 w91 e92 hf93 hd94 hu95
        rcases bool_two (decide (x5_7 < (a0.length : Int))) with b96 | b96
        · have g97 : (decide (x5_7 < (a0.length : Int))) = true := b96
          have d98 : s90 11 = (.bool (decide (x5_7 < (a0.length : Int)))) := (hd94 4 rfl)
          have d99 : s90 11 = (.bool (decide (x5_7 < (a0.length : Int)))) := (hd94 4 rfl)
          have d100 : s90 12 = v_a0 := ((hd94 5 rfl).1 b96)
          have d101 : s90 13 = (.int .i64 x5_7) := ((hd94 6 rfl).1 b96)
          have c102 := imp_take b96 c25
          exact L_idx (.guard 4 true 11 rfl rfl (ltb rfl) (d98.trans (congrArg Value.bool g97))) rfl (ltb rfl) rfl Tryz.underlying30 Tryz.sizeOf80 d100 (Rd.ext f_a0 (Ext.trans (Ext.trans e5 e20) e92)) d101 c102 <| fun p103 h104 => L_nil <| stepEnd rfl rfl (Ext.refl w91) ⟨fun _ => ⟨_, rfl, h104⟩, fun h => absurd (b96.symm.trans h) (by decide)⟩
        · have d105 : s90 11 = (.bool (decide (x5_7 < (a0.length : Int)))) := (hd94 4 rfl)
          have g106 : (decide (x5_7 < (a0.length : Int))) = false := b96
          exact L_skip rfl rfl (ltb rfl) (d105.trans (congrArg Value.bool g106)) rfl rfl (ltb rfl) <| L_nil <| stepEnd rfl rfl (Ext.refl w91) ⟨fun h => absurd (b96.symm.trans h) (by decide), fun _ => rfl⟩
      · intro s107 w108 e109 hf110 hd111 hu112
        rcases bool_two (decide (x5_7 < (a0.length : Int))) with b113 | b113
        · have g114 : (decide (x5_7 < (a0.length : Int))) = true := b113
          have d115 : s107 11 = (.bool (decide (x5_7 < (a0.length : Int)))) := (hd111 4 rfl)
          have d116 : s107 11 = (.bool (decide (x5_7 < (a0.length : Int)))) := (hd111 4 rfl)
          obtain ⟨p117, h118, h119⟩ := ((hd111 7 rfl).1 b113)
          exact L_op (.guard 4 true 11 rfl rfl (ltb rfl) (d115.trans (congrArg Value.bool g114))) rfl (ltb rfl) (X_fieldAddr Tryz.underlying80 rfl Tryz.sizeOf9 rfl h118) <| L_nil <| stepEnd rfl rfl (Ext.refl w108) ⟨fun _ => ⟨_, rfl, h119⟩, fun h => absurd (b113.symm.trans h) (by decide)⟩
        · have d120 : s107 11 = (.bool (decide (x5_7 < (a0.length : Int)))) := (hd111 4 rfl)
          have g121 : (decide (x5_7 < (a0.length : Int))) = false := b113
          exact L_skip rfl rfl (ltb rfl) (d120.trans (congrArg Value.bool g121)) rfl rfl (ltb rfl) <| L_nil <| stepEnd rfl rfl (Ext.refl w108) ⟨fun h => absurd (b113.symm.trans h) (by decide), fun _ => rfl⟩
      · intro s122 w123 e124 hf125 hd126 hu127
        rcases bool_two (decide (x5_7 < (a0.length : Int))) with b128 | b128
        · have g129 : (decide (x5_7 < (a0.length : Int))) = true := b128
          have d130 : s122 11 = (.bool (decide (x5_7 < (a0.length : Int)))) := (hd126 4 rfl)
          have d131 : s122 11 = (.bool (decide (x5_7 < (a0.length : Int)))) := (hd126 4 rfl)
          obtain ⟨p132, h133, h134⟩ := ((hd126 8 rfl).1 b128)
          exact L_op (.guard 4 true 11 rfl rfl (ltb rfl) (d130.trans (congrArg Value.bool g129))) rfl (ltb rfl) (X_loadF Tryz.isAgg9 (j := 1) h134 h133 rfl) <| L_nil <| stepEnd rfl rfl (Ext.refl w123) ⟨fun _ => rfl, fun h => absurd (b128.symm.trans h) (by decide)⟩
        · have d135 : s122 11 = (.bool (decide (x5_7 < (a0.length : Int)))) := (hd126 4 rfl)
          have g136 : (decide (x5_7 < (a0.length : Int))) = false := b128
          exact L_skip rfl rfl (ltb rfl) (d135.trans (congrArg Value.bool g136)) rfl rfl (ltb rfl) <| L_nil <| stepEnd rfl rfl (Ext.refl w123) ⟨fun h => absurd (b128.symm.trans h) (by decide), fun _ => rfl⟩
      · intro s137 w138 e139 hf140 hd141 hu142
        rcases bool_two (decide (x5_7 < (a0.length : Int))) with b143 | b143
        · have g144 : (decide (x5_7 < (a0.length : Int))) = true := b143
          have d145 : s137 11 = (.bool (decide (x5_7 < (a0.length : Int)))) := (hd141 4 rfl)
          have d146 : s137 11 = (.bool (decide (x5_7 < (a0.length : Int)))) := (hd141 4 rfl)
          exact L_op (.guard 4 true 11 rfl rfl (ltb rfl) (d145.trans (congrArg Value.bool g144))) rfl (ltb rfl) (X_fieldAddr Tryz.underlying80 rfl Tryz.sizeOf9 rfl ((hf140 3 rfl).trans (K19 3 rfl))) <| L_nil <| stepEnd rfl rfl (Ext.refl w138) ⟨fun _ => rfl, fun h => absurd (b143.symm.trans h) (by decide)⟩
        · have d147 : s137 11 = (.bool (decide (x5_7 < (a0.length : Int)))) := (hd141 4 rfl)
          have g148 : (decide (x5_7 < (a0.length : Int))) = false := b143
          exact L_skip rfl rfl (ltb rfl) (d147.trans (congrArg Value.bool g148)) rfl rfl (ltb rfl) <| L_nil <| stepEnd rfl rfl (Ext.refl w138) ⟨fun h => absurd (b143.symm.trans h) (by decide), fun _ => rfl⟩
      · intro s149 w150 e151 hf152 hd153 hu154
        rcases bool_two (decide (x5_7 < (a0.length : Int))) with b155 | b155
        · have g156 : (decide (x5_7 < (a0.length : Int))) = true := b155
          have d157 : s149 11 = (.bool (decide (x5_7 < (a0.length : Int)))) := (hd153 4 rfl)
          have d158 : s149 11 = (.bool (decide (x5_7 < (a0.length : Int)))) := (hd153 4 rfl)
          have d159 : s149 17 = (.pointer (some ⟨b1, 1, none⟩)) := ((hd153 10 rfl).1 b155)
          exact L_op (.guard 4 true 11 rfl rfl (ltb rfl) (d157.trans (congrArg Value.bool g156))) rfl (ltb rfl) (X_loadB Tryz.isAgg9 (Blk.ext k6 (Ext.trans e20 e151)) d159 rfl) <| L_nil <| stepEnd rfl rfl (Ext.refl w150) ⟨fun _ => rfl, fun h => absurd (b155.symm.trans h) (by decide)⟩
        · have d160 : s149 11 = (.bool (decide (x5_7 < (a0.length : Int)))) := (hd153 4 rfl)
          have g161 : (decide (x5_7 < (a0.length : Int))) = false := b155
          exact L_skip rfl rfl (ltb rfl) (d160.trans (congrArg Value.bool g161)) rfl rfl (ltb rfl) <| L_nil <| stepEnd rfl rfl (Ext.refl w150) ⟨fun h => absurd (b155.symm.trans h) (by decide), fun _ => rfl⟩
      · intro s162 w163 e164 hf165 hd166 hu167
        rcases bool_two (decide (x5_7 < (a0.length : Int))) with b168 | b168
        · have g169 : (decide (x5_7 < (a0.length : Int))) = true := b168
          have d170 : s162 11 = (.bool (decide (x5_7 < (a0.length : Int)))) := (hd166 4 rfl)
          have d171 : s162 11 = (.bool (decide (x5_7 < (a0.length : Int)))) := (hd166 4 rfl)
          have d172 : s162 16 = (S ((gt a0 x5_7).path)) := ((hd166 9 rfl).1 b168)
          have d173 : s162 18 = (S a1.path) := ((hd166 11 rfl).1 b168)
          have c174 := imp_take b168 c28
          have c175 := imp_take b168 c29
          exact L_callP (.guard 4 true 11 rfl rfl (ltb rfl) (d170.trans (congrArg Value.bool g169))) rfl (ltb rfl) rfl Tryz.call112 (spec_l01Less.calls (w := w163) (a0 := (gt a0 x5_7).path) (a1 := a1.path) (of_decide_eq_true c174) (of_decide_eq_true c175)) (cons2 d172 (cons2 d173 rfl)) <| fun w176 e177 => L_nil <| stepEnd rfl rfl e177 ⟨fun _ => rfl, fun h => absurd (b168.symm.trans h) (by decide)⟩
        · have d178 : s162 11 = (.bool (decide (x5_7 < (a0.length : Int)))) := (hd166 4 rfl)
          have g179 : (decide (x5_7 < (a0.length : Int))) = false := b168
          exact L_skip rfl rfl (ltb rfl) (d178.trans (congrArg Value.bool g179)) rfl rfl (ltb rfl) <| L_nil <| stepEnd rfl rfl (Ext.refl w163) ⟨fun h => absurd (b168.symm.trans h) (by decide), fun _ => rfl⟩
      · intro s180 w181 e182 hf183 hd184 hu185
        rcases bool_two (decide (x5_7 < (a0.length : Int))) with b186 | b186
        · have d187 : s180 11 = (.bool (decide (x5_7 < (a0.length : Int)))) := (hd184 4 rfl)
          have d188 : s180 19 = (.bool (lessL (cut 47 ((gt a0 x5_7).path)) (cut 47 a1.path))) := ((hd184 12 rfl).1 b186)
          exact L_op (.plain rfl) rfl (ltb rfl) (X_pick (b := true) (v := (.bool (lessL (cut 47 ((gt a0 x5_7).path)) (cut 47 a1.path)))) (d187.trans (congrArg Value.bool b186)) d188) <| L_nil <| stepEnd rfl rfl (Ext.refl w181) (and_t b186)
        · have d189 : s180 11 = (.bool (decide (x5_7 < (a0.length : Int)))) := (hd184 4 rfl)
          exact L_op (.plain rfl) rfl (ltb rfl) (X_pick (b := false) (v := (.bool false)) (d189.trans (congrArg Value.bool b186)) rfl) <| L_nil <| stepEnd rfl rfl (Ext.refl w181) (and_f b186)
      intro s190 w191 e192 hf193 ha194
      have K195 := Kp.ofD (kp := [(7, 21)]) rfl hf193
      have d196 : s190 20 = (.bool ((decide (x5_7 < (a0.length : Int))) && (lessL (cut 47 ((gt a0 x5_7).path)) (cut 47 a1.path)))) := ha194 13 rfl
      clear ha194 hf193
      refine thn_n ?_
      rcases bif_two H with ⟨q197, H⟩ | ⟨q197, H⟩
      · refine W_true (d196.trans (congrArg Value.bool q197)) <| W_skip <| thn_n <| W_block <| W_reg <| L_op (.plain rfl) rfl (ltb rfl) (X_move (v := (.int .i64 x5_7)) ((K195 5 rfl).trans h22)) <| L_op (.plain rfl) rfl (ltb rfl) (X_add rfl rfl) <| L_op (.plain rfl) rfl (ltb rfl) (X_assign (v := (.int .i64 (IntKind.wrap .i64 (x5_7 + 1)))) rfl) <| L_nil <| blk_n <| thn_n ?_
        obtain rfl := Option.some.inj H
        exact ⟨_, Nat.lt_succ_self _, IntKind.wrap .i64 (x5_7 + 1), (Kp.upd (Kp.upd (Kp.upd (Kp.cut K19 K195 rfl) rfl) rfl) rfl), rfl, (Ext.trans e20 e192), S24⟩
      · refine W_false (d196.trans (congrArg Value.bool q197)) <| W_exit <| thn_x <| thn_x <| blk_x <| thn_n ?_
        obtain rfl := Option.some.inj H
        obtain rfl := Option.some.inj S24
        exact ⟨x5_7, (Kp.cut K19 K195 rfl), ((K195 5 rfl).trans h22), (Ext.trans e20 e192), rfl⟩
  · rintro s13 w12 ⟨x5_11, K14, h198, e15, y199⟩
    rw [y199] at C10
    have H := C10
    replace H : _ = some _ := H
    refine thn_n <| W_seq <| W_reg <| L_op (.plain rfl) rfl (ltb rfl) (X_move (v := v_a0) (K14 0 rfl)) <| L_op (.plain rfl) rfl (ltb rfl) (X_move (v := (.int .i64 x5_11)) h198) ?_
    obtain ⟨c200, H⟩ := bif_some H
    refine L_sub (.plain rfl) rfl (ltb rfl) rfl Tryz.underlying30 Tryz.sizeOf80 rfl (Rd.ext f_a0 (Ext.trans e5 e15)) (l := x5_11) (h := (a0.length : Int)) ⟨_, rfl⟩ rfl c200 <| fun v201 h202 => L_op (.plain rfl) rfl (ltb rfl) (X_assign (v := v201) rfl) <| L_nil <| thn_n <| W_seq <| W_seq ?_
    obtain ⟨c203, H⟩ := bif_some H
    refine W_drawM [LEq (.int .i64 x5_11), LEq v_a0, LEq (.int .i64 (a0.length : Int)), LEq (.bool (decide (x5_11 < (a0.length : Int)))), LEq (.bool (decide (x5_11 < (a0.length : Int)))), LIf (decide (x5_11 < (a0.length : Int))) (LEq v_a0), LIf (decide (x5_11 < (a0.length : Int))) (LEq (.int .i64 x5_11)), LIf (decide (x5_11 < (a0.length : Int))) (LAt0 (encNd (gt a0 x5_11))), LIf (decide (x5_11 < (a0.length : Int))) (LAt 1 (encNd (gt a0 x5_11))), LIf (decide (x5_11 < (a0.length : Int))) (LEq (S ((gt a0 x5_11).path))), LIf (decide (x5_11 < (a0.length : Int))) (LEq (.pointer (some ⟨b1, 1, none⟩))), LIf (decide (x5_11 < (a0.length : Int))) (LEq (S a1.path)), LIf (decide (x5_11 < (a0.length : Int))) (LEq (.bool (decide (((gt a0 x5_11).path) = a1.path)))), LEq (.bool ((decide (x5_11 < (a0.length : Int))) && (decide (((gt a0 x5_11).path) = a1.path))))] (by kernel_rfl) (by kernel_rfl) ⟨LEq.mono, LEq.mono, LEq.mono, LEq.mono, LEq.mono, (LIf.mono LEq.mono), (LIf.mono LEq.mono), (LIf.mono LAt0.mono), (LIf.mono LAt.mono), (LIf.mono LEq.mono), (LIf.mono LEq.mono), (LIf.mono LEq.mono), (LIf.mono LEq.mono), LEq.mono, trivial⟩ ⟨?_, ?_, ?_, ?_, ?_, ?_, ?_, ?_, ?_, ?_, ?_, ?_, ?_, ?_, trivial⟩ ?_
    · intro s206 w207 e208 hf209 hd210 hu211
      exact L_op (.plain rfl) rfl (ltb rfl) (X_move (v := (.int .i64 x5_11)) ((hf209 5 rfl).trans h198)) <| L_nil <| stepEnd rfl rfl (Ext.refl w207) rfl
    · intro s212 w213 e214 hf215 hd216 hu217
      exact L_op (.plain rfl) rfl (ltb rfl) (X_move (v := v_a0) ((hf215 0 rfl).trans (K14 0 rfl))) <| L_nil <| stepEnd rfl rfl (Ext.refl w213) rfl
    · intro s218 w219 e220 hf221 hd222 hu223
      have d224 : s218 27 = v_a0 := (hd222 1 rfl)
      exact L_op (.plain rfl) rfl (ltb rfl) (X_lenR Tryz.underlying30 d224 (Rd.ext f_a0 (Ext.trans (Ext.trans e5 e15) e220))) <| L_nil <| stepEnd rfl rfl (Ext.refl w219) rfl
    · intro s225 w226 e227 hf228 hd229 hu230
      have d231 : s225 26 = (.int .i64 x5_11) := (hd229 0 rfl)
      have d232 : s225 28 = (.int .i64 (a0.length : Int)) := (hd229 2 rfl)
      exact L_op (.plain rfl) rfl (ltb rfl) (X_lss d231 d232) <| L_nil <| stepEnd rfl rfl (Ext.refl w226) rfl
    · intro s233 w234 e235 hf236 hd237 hu238
      have d239 : s233 29 = (.bool (decide (x5_11 < (a0.length : Int)))) := (hd237 3 rfl)
      exact L_op (.plain rfl) rfl (ltb rfl) (X_move (v := (.bool (decide (x5_11 < (a0.length : Int))))) d239) <| L_nil <| stepEnd rfl rfl (Ext.refl w234) rfl
    · intro s240 w241 e242 hf243 hd244 hu245
      rcases bool_two (decide (x5_11 < (a0.length : Int))) with b246 | b246
      · have g247 : (decide (x5_11 < (a0.length : Int))) = true := b246
        have d248 : s240 30 = (.bool (decide (x5_11 < (a0.length : Int)))) := (hd244 4 rfl)
        have d249 : s240 30 = (.bool (decide (x5_11 < (a0.length : Int)))) := (hd244 4 rfl)
        exact L_op (.guard 4 true 30 rfl rfl (ltb rfl) (d248.trans (congrArg Value.bool g247))) rfl (ltb rfl) (X_move (v := v_a0) ((hf243 0 rfl).trans (K14 0 rfl))) <| L_nil <| stepEnd rfl rfl (Ext.refl w241) ⟨fun _ => rfl, fun h => absurd (b246.symm.trans h) (by decide)⟩
      · have d250 : s240 30 = (.bool (decide (x5_11 < (a0.length : Int)))) := (hd244 4 rfl)
        have g251 : (decide (x5_11 < (a0.length : Int))) = false := b246
        exact L_skip rfl rfl (ltb rfl) (d250.trans (congrArg Value.bool g251)) rfl rfl (ltb rfl) <| L_nil <| stepEnd rfl rfl (Ext.refl w241) ⟨fun h => absurd (b246.symm.trans h) (by decide), fun _ => rfl⟩
    · intro s252 w253 e254 hf255 hd256 hu257
      rcases bool_two (decide (x5_11 < (a0.length : Int))) with b258 | b258
      · have g259 : (decide (x5_11 < (a0.length : Int))) = true := b258
        have d260 : s252 30 = (.bool (decide (x5_11 < (a0.length : Int)))) := (hd256 4 rfl)
        have d261 : s252 30 = (.bool (decide (x5_11 < (a0.length : Int)))) := (hd256 4 rfl)
        exact L_op (.guard 4 true 30 rfl rfl (ltb rfl) (d260.trans (congrArg Value.bool g259))) rfl (ltb rfl) (X_move (v := (.int .i64 x5_11)) ((hf255 5 rfl).trans h198)) <| L_nil <| stepEnd rfl rfl (Ext.refl w253) ⟨fun _ => rfl, fun h => absurd (b258.symm.trans h) (by decide)⟩
      · have d262 : s252 30 = (.bool (decide (x5_11 < (a0.length : Int)))) := (hd256 4 rfl)
        have g263 : (decide (x5_11 < (a0.length : Int))) = false := b258
        exact L_skip rfl rfl (ltb rfl) (d262.trans (congrArg Value.bool g263)) rfl rfl (ltb rfl) <| L_nil <| stepEnd rfl rfl (Ext.refl w253) ⟨fun h => absurd (b258.symm.trans h) (by decide), fun _ => rfl⟩
    · intro s264 w265 e266 hf267 hd268 hu269
      rcases bool_two (decide (x5_11 < (a0.length : Int))) with b270 | b270
      · have g271 : (decide (x5_11 < (a0.length : Int))) = true := b270
        have d272 : s264 30 = (.bool (decide (x5_11 < (a0.length : Int)))) := (hd268 4 rfl)
        have d273 : s264 30 = (.bool (decide (x5_11 < (a0.length : Int)))) := (hd268 4 rfl)
        have d274 : s264 31 = v_a0 := ((hd268 5 rfl).1 b270)
        have d275 : s264 32 = (.int .i64 x5_11) := ((hd268 6 rfl).1 b270)
        have c276 := imp_take b270 c203
        exact L_idx (.guard 4 true 30 rfl rfl (ltb rfl) (d272.trans (congrArg Value.bool g271))) rfl (ltb rfl) rfl Tryz.underlying30 Tryz.sizeOf80 d274 (Rd.ext f_a0 (Ext.trans (Ext.trans e5 e15) e266)) d275 c276 <| fun p277 h278 => L_nil <| stepEnd rfl rfl (Ext.refl w265) ⟨fun _ => ⟨_, rfl, h278⟩, fun h => absurd (b270.symm.trans h) (by decide)⟩
      · have d279 : s264 30 = (.bool (decide (x5_11 < (a0.length : Int)))) := (hd268 4 rfl)
        have g280 : (decide (x5_11 < (a0.length : Int))) = false := b270
        exact L_skip rfl rfl (ltb rfl) (d279.trans (congrArg Value.bool g280)) rfl rfl (ltb rfl) <| L_nil <| stepEnd rfl rfl (Ext.refl w265) ⟨fun h => absurd (b270.symm.trans h) (by decide), fun _ => rfl⟩
    · intro s281 w282 e283 hf284 hd285 hu286
      rcases bool_two (decide (x5_11 < (a0.length : Int))) with b287 | b287
      · have g288 : (decide (x5_11 < (a0.length : Int))) = true := b287
        have d289 : s281 30 = (.bool (decide (x5_11 < (a0.length : Int)))) := (hd285 4 rfl)
        have d290 : s281 30 = (.bool (decide (x5_11 < (a0.length : Int)))) := (hd285 4 rfl)
        obtain ⟨p291, h292, h293⟩ := ((hd285 7 rfl).1 b287)
        exact L_op (.guard 4 true 30 rfl rfl (ltb rfl) (d289.trans (congrArg Value.bool g288))) rfl (ltb rfl) (X_fieldAddr Tryz.underlying80 rfl Tryz.sizeOf9 rfl h292) <| L_nil <| stepEnd rfl rfl (Ext.refl w282) ⟨fun _ => ⟨_, rfl, h293⟩, fun h => absurd (b287.symm.trans h) (by decide)⟩
      · have d294 : s281 30 = (.bool (decide (x5_11 < (a0.length : Int)))) := (hd285 4 rfl)
        have g295 : (decide (x5_11 < (a0.length : Int))) = false := b287
        exact L_skip rfl rfl (ltb rfl) (d294.trans (congrArg Value.bool g295)) rfl rfl (ltb rfl) <| L_nil <| stepEnd rfl rfl (Ext.refl w282) ⟨fun h => absurd (b287.symm.trans h) (by decide), fun _ => rfl⟩
    · intro s296 w297 e298 hf299 hd300 hu301
      rcases bool_two (decide (x5_11 < (a0.length : Int))) with b302 | b302
      · have g303 : (decide (x5_11 < (a0.length : Int))) = true := b302
        have d304 : s296 30 = (.bool (decide (x5_11 < (a0.length : Int)))) := (hd300 4 rfl)
        have d305 : s296 30 = (.bool (decide (x5_11 < (a0.length : Int)))) := (hd300 4 rfl)
        obtain ⟨p306, h307, h308⟩ := ((hd300 8 rfl).1 b302)
        exact L_op (.guard 4 true 30 rfl rfl (ltb rfl) (d304.trans (congrArg Value.bool g303))) rfl (ltb rfl) (X_loadF Tryz.isAgg9 (j := 1) h308 h307 rfl) <| L_nil <| stepEnd rfl rfl (Ext.refl w297) ⟨fun _ => rfl, fun h => absurd (b302.symm.trans h) (by decide)⟩
      · have d309 : s296 30 = (.bool (decide (x5_11 < (a0.length : Int)))) := (hd300 4 rfl)
        have g310 : (decide (x5_11 < (a0.length : Int))) = false := b302
        exact L_skip rfl rfl (ltb rfl) (d309.trans (congrArg Value.bool g310)) rfl rfl (ltb rfl) <| L_nil <| stepEnd rfl rfl (Ext.refl w297) ⟨fun h => absurd (b302.symm.trans h) (by decide), fun _ => rfl⟩
    · intro s311 w312 e313 hf314 hd315 hu316
      rcases bool_two (decide (x5_11 < (a0.length : Int))) with b317 | b317
      · have g318 : (decide (x5_11 < (a0.length : Int))) = true := b317
        have d319 : s311 30 = (.bool (decide (x5_11 < (a0.length : Int)))) := (hd315 4 rfl)
        have d320 : s311 30 = (.bool (decide (x5_11 < (a0.length : Int)))) := (hd315 4 rfl)
        exact L_op (.guard 4 true 30 rfl rfl (ltb rfl) (d319.trans (congrArg Value.bool g318))) rfl (ltb rfl) (X_fieldAddr Tryz.underlying80 rfl Tryz.sizeOf9 rfl ((hf314 3 rfl).trans (K14 3 rfl))) <| L_nil <| stepEnd rfl rfl (Ext.refl w312) ⟨fun _ => rfl, fun h => absurd (b317.symm.trans h) (by decide)⟩
      · have d321 : s311 30 = (.bool (decide (x5_11 < (a0.length : Int)))) := (hd315 4 rfl)
        have g322 : (decide (x5_11 < (a0.length : Int))) = false := b317
        exact L_skip rfl rfl (ltb rfl) (d321.trans (congrArg Value.bool g322)) rfl rfl (ltb rfl) <| L_nil <| stepEnd rfl rfl (Ext.refl w312) ⟨fun h => absurd (b317.symm.trans h) (by decide), fun _ => rfl⟩
    · intro s323 w324 e325 hf326 hd327 hu328
      rcases bool_two (decide (x5_11 < (a0.length : Int))) with b329 | b329
      · have g330 : (decide (x5_11 < (a0.length : Int))) = true := b329
        have d331 : s323 30 = (.bool (decide (x5_11 < (a0.length : Int)))) := (hd327 4 rfl)
        have d332 : s323 30 = (.bool (decide (x5_11 < (a0.length : Int)))) := (hd327 4 rfl)
        have d333 : s323 36 = (.pointer (some ⟨b1, 1, none⟩)) := ((hd327 10 rfl).1 b329)
        exact L_op (.guard 4 true 30 rfl rfl (ltb rfl) (d331.trans (congrArg Value.bool g330))) rfl (ltb rfl) (X_loadB Tryz.isAgg9 (Blk.ext k6 (Ext.trans e15 e325)) d333 rfl) <| L_nil <| stepEnd rfl rfl (Ext.refl w324) ⟨fun _ => rfl, fun h => absurd (b329.symm.trans h) (by decide)⟩
      · have d334 : s323 30 = (.bool (decide (x5_11 < (a0.length : Int)))) := (hd327 4 rfl)
        have g335 : (decide (x5_11 < (a0.length : Int))) = false := b329
        exact L_skip rfl rfl (ltb rfl) (d334.trans (congrArg Value.bool g335)) rfl rfl (ltb rfl) <| L_nil <| stepEnd rfl rfl (Ext.refl w324) ⟨fun h => absurd (b329.symm.trans h) (by decide), fun _ => rfl⟩
    · intro s336 w337 e338 hf339 hd340 hu341
      rcases bool_two (decide (x5_11 < (a0.length : Int))) with b342 | b342
      · have g343 : (decide (x5_11 < (a0.length : Int))) = true := b342
        have d344 : s336 30 = (.bool (decide (x5_11 < (a0.length : Int)))) := (hd340 4 rfl)
        have d345 : s336 30 = (.bool (decide (x5_11 < (a0.length : Int)))) := (hd340 4 rfl)
        have d346 : s336 35 = (S ((gt a0 x5_11).path)) := ((hd340 9 rfl).1 b342)
        have d347 : s336 37 = (S a1.path) := ((hd340 11 rfl).1 b342)
        exact L_op (.guard 4 true 30 rfl rfl (ltb rfl) (d344.trans (congrArg Value.bool g343))) rfl (ltb rfl) (X_seq d346 d347) <| L_nil <| stepEnd rfl rfl (Ext.refl w337) ⟨fun _ => rfl, fun h => absurd (b342.symm.trans h) (by decide)⟩
      · have d348 : s336 30 = (.bool (decide (x5_11 < (a0.length : Int)))) := (hd340 4 rfl)
        have g349 : (decide (x5_11 < (a0.length : Int))) = false := b342
        exact L_skip rfl rfl (ltb rfl) (d348.trans (congrArg Value.bool g349)) rfl rfl (ltb rfl) <| L_nil <| stepEnd rfl rfl (Ext.refl w337) ⟨fun h => absurd (b342.symm.trans h) (by decide), fun _ => rfl⟩
    · intro s350 w351 e352 hf353 hd354 hu355
      rcases bool_two (decide (x5_11 < (a0.length : Int))) with b356 | b356
      · have d357 : s350 30 = (.bool (decide (x5_11 < (a0.length : Int)))) := (hd354 4 rfl)
        have d358 : s350 38 = (.bool (decide (((gt a0 x5_11).path) = a1.path))) := ((hd354 12 rfl).1 b356)
        exact L_op (.plain rfl) rfl (ltb rfl) (X_pick (b := true) (v := (.bool (decide (((gt a0 x5_11).path) = a1.path)))) (d357.trans (congrArg Value.bool b356)) d358) <| L_nil <| stepEnd rfl rfl (Ext.refl w351) (and_t b356)
      · have d359 : s350 30 = (.bool (decide (x5_11 < (a0.length : Int)))) := (hd354 4 rfl)
        exact L_op (.plain rfl) rfl (ltb rfl) (X_pick (b := false) (v := (.bool false)) (d359.trans (congrArg Value.bool b356)) rfl) <| L_nil <| stepEnd rfl rfl (Ext.refl w351) (and_f b356)
    intro s360 w361 e362 hf363 ha364
    have K365 := Kp.ofD (kp := [(26, 40)]) rfl hf363
    have d366 : s360 39 = (.bool ((decide (x5_11 < (a0.length : Int))) && (decide (((gt a0 x5_11).path) = a1.path)))) := ha364 13 rfl
    clear ha364 hf363
    refine thn_n ?_
    rcases bif_two H with ⟨q367, H⟩ | ⟨q367, H⟩
    · refine W_true (d366.trans (congrArg Value.bool q367)) <| W_reg <| L_op (.plain rfl) rfl (ltb rfl) (X_move (v := v_a0) ((K365 0 rfl).trans (K14 0 rfl))) <| L_op (.plain rfl) rfl (ltb rfl) (X_move (v := (.int .i64 x5_11)) ((K365 5 rfl).trans h198)) <| L_op (.plain rfl) rfl (ltb rfl) (X_add rfl rfl) ?_
      obtain ⟨c368, H⟩ := bif_some H
      refine L_sub (.plain rfl) rfl (ltb rfl) rfl Tryz.underlying30 Tryz.sizeOf80 rfl (Rd.ext f_a0 (Ext.trans (Ext.trans e5 e15) e362)) (l := IntKind.wrap .i64 (x5_11 + 1)) (h := (a0.length : Int)) ⟨_, rfl⟩ rfl c368 <| fun v369 h370 => L_op (.plain rfl) rfl (ltb rfl) (X_assign (v := v369) rfl) <| L_nil <| thn_n <| W_seq ?_
      obtain ⟨c377, H⟩ := bif_some H
      obtain ⟨c380, H⟩ := bif_some H
      obtain ⟨c392, H⟩ := bif_some H
      obtain ⟨c398, H⟩ := bif_some H
      refine W_drawR (B := w361.heap.size) [LEmp, LEq v_a0, LEq (.int .i64 x5_11), LRdW w361 4 encNd (sub a0 0 x5_11), LOw 80 4 encNd w361.heap.size (([] : List Nd) ++ (sub a0 0 x5_11)), LEq (.agg #[(.int .i64 a1.kind), (S a1.path), (S a1.body), (.int .i64 a1.mode)]), LRd 4 encNd ([a1] : List Nd), LOw 80 4 encNd w361.heap.size (spec_l04Put.e1 a0 a1 x5_11), LEq v369, LOw 80 4 encNd w361.heap.size ((spec_l04Put.e1 a0 a1 x5_11) ++ (sub a0 (IntKind.wrap .i64 (x5_11 + 1)) (a0.length : Int))), LOw 80 4 encNd w361.heap.size ((spec_l04Put.e1 a0 a1 x5_11) ++ (sub a0 (IntKind.wrap .i64 (x5_11 + 1)) (a0.length : Int)))] [⟨true, true, true, false, []⟩, ⟨true, true, true, false, []⟩, ⟨true, true, true, false, []⟩, ⟨true, true, true, false, [1, 2]⟩, ⟨true, false, true, false, [0, 3]⟩, ⟨true, true, true, false, []⟩, ⟨true, false, true, false, [5]⟩, ⟨false, false, true, false, [4, 6]⟩, ⟨true, true, false, false, []⟩, ⟨false, false, false, false, [7, 8]⟩, ⟨true, false, false, true, [9]⟩] [(7, 0, [4]), (9, 0, [7, 4]), (7, 1, [4, 3]), (9, 1, [7, 4, 3]), (7, 2, [4, 3]), (9, 2, [7, 4, 3]), (7, 3, [4]), (9, 3, [7, 4]), (7, 4, []), (9, 4, [7]), (7, 5, [6]), (9, 5, [7, 6]), (7, 6, []), (9, 6, [7]), (9, 7, []), (10, 7, []), (10, 9, [])] (by kernel_rfl) (by kernel_rfl) (Nat.le_refl _) ⟨⟨LEmp.rig.mono, fun _ => LEmp.rig⟩, ⟨LEq.rig.mono, fun _ => LEq.rig⟩, ⟨LEq.rig.mono, fun _ => LEq.rig⟩, ⟨LRdW.rig.mono, fun _ => LRdW.rig⟩, ⟨LOw.mono, noR⟩, ⟨LEq.rig.mono, fun _ => LEq.rig⟩, ⟨LRd.mono, noR⟩, ⟨LOw.mono, noR⟩, ⟨LEq.rig.mono, fun _ => LEq.rig⟩, ⟨LOw.mono, noR⟩, ⟨LOw.mono, noR⟩, trivial⟩ ⟨?_, ?_, ?_, ?_, ?_, ?_, ?_, ?_, ?_, ?_, ?_, trivial⟩ ?_
      · intro s404 w405 hb406 hx407 hf408 hd409 hu410
        have e411 : Ext w361 w405 := hx407 rfl
        exact L_lit (.plain rfl) rfl (ltb rfl) rfl Tryz.underlying30 Tryz.sizeOf80 Tryz.zeroValue80 rfl rfl rfl (vs := []) rfl (lit_all rfl) <| fun b412 w413 z414 z415 e416 k417 => L_nil <| stepS rfl rfl rfl e416 ⟨_, rfl⟩
      · intro s418 w419 hb420 hx421 hf422 hd423 hu424
        have e425 : Ext w361 w419 := hx421 rfl
        exact L_op (.plain rfl) rfl (ltb rfl) (X_move (v := v_a0) ((hf422 0 rfl).trans ((K365 0 rfl).trans (K14 0 rfl)))) <| L_nil <| stepS rfl rfl rfl (Ext.refl w419) rfl
      · intro s426 w427 hb428 hx429 hf430 hd431 hu432
        have e433 : Ext w361 w427 := hx429 rfl
        exact L_op (.plain rfl) rfl (ltb rfl) (X_move (v := (.int .i64 x5_11)) ((hf430 5 rfl).trans ((K365 5 rfl).trans h198))) <| L_nil <| stepS rfl rfl rfl (Ext.refl w427) rfl
      · intro s434 w435 hb436 hx437 hf438 hd439 hu440
        have e441 : Ext w361 w435 := hx437 rfl
        have d442 : s434 45 = v_a0 := (hd439 1 rfl)
        have d443 : s434 46 = (.int .i64 x5_11) := (hd439 2 rfl)
        have c444 := c377
        exact L_sub (.plain rfl) rfl (ltb rfl) rfl Tryz.underlying30 Tryz.sizeOf80 d442 (Rd.ext f_a0 (Ext.trans (Ext.trans e5 e15) e362)) (l := 0) (h := x5_11) rfl ⟨_, d443⟩ c444 <| fun v445 h446 => L_nil <| stepS rfl rfl rfl (Ext.refl w435) h446
      · intro s447 w448 hb449 hx450 hf451 hd452 hu453
        have e454 : Ext w361 w448 := hx450 rfl
        obtain ⟨b455, h456⟩ := (hd452 0 rfl)
        have d457 : Rd 4 encNd w361 (s447 47) (sub a0 0 x5_11) := (hd452 3 rfl)
        have c458 := c380
        exact L_append (enc := encNd) (.plain rfl) rfl (ltb rfl) rfl El.t30 h456 rfl (Ow.zero (base := w448.heap.size) (w := w448)) (Rd.ext d457 e454) (ones_Nd _) (of_decide_eq_true c458) (Nat.le_refl _) <| fun v459 w460 o461 z462 g463 => L_nil <| stepS rfl rfl rfl (g463 _ (Ext.refl w448)) (Ow.base o461 e454.size)
      · intro s464 w465 hb466 hx467 hf468 hd469 hu470
        have e471 : Ext w361 w465 := hx467 rfl
        exact L_op (.plain rfl) rfl (ltb rfl) (X_loadS Tryz.isAgg80 Tryz.sizeOf80 rfl ((hf468 3 rfl).trans ((K365 3 rfl).trans (K14 3 rfl))) (Blk.at0 (Blk.ext k6 (Ext.trans (Ext.trans e15 e362) e471)))) <| L_nil <| stepS rfl rfl rfl (Ext.refl w465) rfl
      · intro s472 w473 hb474 hx475 hf476 hd477 hu478
        have e479 : Ext w361 w473 := hx475 rfl
        have d480 : s472 49 = (.agg #[(.int .i64 a1.kind), (S a1.path), (S a1.body), (.int .i64 a1.mode)]) := (hd477 5 rfl)
        exact L_lit (.plain rfl) rfl (ltb rfl) rfl Tryz.underlying30 Tryz.sizeOf80 Tryz.zeroValue80 rfl rfl rfl (vs := [(.agg #[(.int .i64 a1.kind), (S a1.path), (S a1.body), (.int .i64 a1.mode)])]) (cons2 d480 rfl) (lit_all rfl) <| fun b481 w482 z483 z484 e485 k486 => L_nil <| stepS rfl rfl rfl e485 (Ow.rd (Ow.new (xs := [a1]) (sz := 4) (enc := encNd) (base := w473.heap.size) k486 (Nat.le_of_eq z483) rfl (fun _ _ => by rfl) (Nat.le_of_ble_eq_true rfl)))
      · intro s487 w488 hb489 hx490 hf491 hd492 hu493
        have e494 : Ext w361 w488 := hx490 rfl
        have d495 : Ow 80 4 encNd w361.heap.size w488 (s487 48) (([] : List Nd) ++ (sub a0 0 x5_11)) := (hd492 4 rfl)
        have d496 : Rd 4 encNd w488 (s487 50) ([a1] : List Nd) := (hd492 6 rfl)
        have c497 := c392
        exact L_append (enc := encNd) (.plain rfl) rfl (ltb rfl) rfl El.t30 rfl rfl d495 d496 (ones_Nd _) (of_decide_eq_true c497) (e494).size <| fun v498 w499 o500 z501 g502 => L_nil <| stepH rfl rfl rfl (g502 _ (Below.refl _ _)) o500
      · intro s503 w504 hb505 hx506 hf507 hd508 hu509
        have e510 : Ext w361 w504 := Below.trans (Ext.refl w361) hb505
        exact L_op (.plain rfl) rfl (ltb rfl) (X_move (v := v369) (hf507 6 rfl)) <| L_nil <| stepS rfl rfl rfl (Ext.refl w504) rfl
      · intro s511 w512 hb513 hx514 hf515 hd516 hu517
        have e518 : Ext w361 w512 := Below.trans (Ext.refl w361) hb513
        have d519 : Ow 80 4 encNd w361.heap.size w512 (s511 51) (spec_l04Put.e1 a0 a1 x5_11) := (hd516 7 rfl)
        have d520 : s511 52 = v369 := (hd516 8 rfl)
        have c521 := c398
        exact L_append (enc := encNd) (.plain rfl) rfl (ltb rfl) rfl El.t30 rfl d520 d519 (Rd.ext h370 e518) (ones_Nd _) (of_decide_eq_true c521) (e518).size <| fun v522 w523 o524 z525 g526 => L_nil <| stepH rfl rfl rfl (g526 _ (Below.refl _ _)) o524
      · intro s527 w528 hb529 hx530 hf531 hd532 hu533
        have e534 : Ext w361 w528 := Below.trans (Ext.refl w361) hb529
        have d535 : Ow 80 4 encNd w361.heap.size w528 (s527 53) ((spec_l04Put.e1 a0 a1 x5_11) ++ (sub a0 (IntKind.wrap .i64 (x5_11 + 1)) (a0.length : Int))) := (hd532 9 rfl)
        exact L_op (.plain rfl) rfl (ltb rfl) (X_assign (v := (s527 53)) rfl) <| L_nil <| stepS rfl rfl rfl (Ext.refl w528) d535
      intro s536 w537 hb538 hf540 ha541
      have K542 := Kp.ofD (kp := [(4, 5), (44, 54)]) rfl hf540
      have e539 : Ext w361 w537 := hb538
      have d543 : Ow 80 4 encNd w361.heap.size w537 (s536 4) ((spec_l04Put.e1 a0 a1 x5_11) ++ (sub a0 (IntKind.wrap .i64 (x5_11 + 1)) (a0.length : Int))) := ha541 10 rfl rfl
      clear ha541 hf540
      refine thn_n <| W_ret <| fin_r ?_
      obtain rfl := Option.some.inj H
      exact fin1o rfl (Ext.trans (Ext.trans (Ext.trans e5 e15) e362) e539) d543 ((Ext.trans (Ext.trans e5 e15) e362)).size
    · refine W_false (d366.trans (congrArg Value.bool q367)) <| W_skip <| thn_n <| W_seq ?_
      obtain ⟨c550, H⟩ := bif_some H
      obtain ⟨c553, H⟩ := bif_some H
      obtain ⟨c565, H⟩ := bif_some H
      obtain ⟨c571, H⟩ := bif_some H
      refine W_drawR (B := w361.heap.size) [LEmp, LEq v_a0, LEq (.int .i64 x5_11), LRdW w361 4 encNd (sub a0 0 x5_11), LOw 80 4 encNd w361.heap.size (([] : List Nd) ++ (sub a0 0 x5_11)), LEq (.agg #[(.int .i64 a1.kind), (S a1.path), (S a1.body), (.int .i64 a1.mode)]), LRd 4 encNd ([a1] : List Nd), LOw 80 4 encNd w361.heap.size (spec_l04Put.e1 a0 a1 x5_11), LEq v201, LOw 80 4 encNd w361.heap.size ((spec_l04Put.e1 a0 a1 x5_11) ++ (sub a0 x5_11 (a0.length : Int))), LOw 80 4 encNd w361.heap.size ((spec_l04Put.e1 a0 a1 x5_11) ++ (sub a0 x5_11 (a0.length : Int)))] [⟨true, true, true, false, []⟩, ⟨true, true, true, false, []⟩, ⟨true, true, true, false, []⟩, ⟨true, true, true, false, [1, 2]⟩, ⟨true, false, true, false, [0, 3]⟩, ⟨true, true, true, false, []⟩, ⟨true, false, true, false, [5]⟩, ⟨false, false, true, false, [4, 6]⟩, ⟨true, true, false, false, []⟩, ⟨false, false, false, false, [7, 8]⟩, ⟨true, false, false, true, [9]⟩] [(7, 0, [4]), (9, 0, [7, 4]), (7, 1, [4, 3]), (9, 1, [7, 4, 3]), (7, 2, [4, 3]), (9, 2, [7, 4, 3]), (7, 3, [4]), (9, 3, [7, 4]), (7, 4, []), (9, 4, [7]), (7, 5, [6]), (9, 5, [7, 6]), (7, 6, []), (9, 6, [7]), (9, 7, []), (10, 7, []), (10, 9, [])] (by kernel_rfl) (by kernel_rfl) (Nat.le_refl _) ⟨⟨LEmp.rig.mono, fun _ => LEmp.rig⟩, ⟨LEq.rig.mono, fun _ => LEq.rig⟩, ⟨LEq.rig.mono, fun _ => LEq.rig⟩, ⟨LRdW.rig.mono, fun _ => LRdW.rig⟩, ⟨LOw.mono, noR⟩, ⟨LEq.rig.mono, fun _ => LEq.rig⟩, ⟨LRd.mono, noR⟩, ⟨LOw.mono, noR⟩, ⟨LEq.rig.mono, fun _ => LEq.rig⟩, ⟨LOw.mono, noR⟩, ⟨LOw.mono, noR⟩, trivial⟩ ⟨?_, ?_, ?_, ?_, ?_, ?_, ?_, ?_, ?_, ?_, ?_, trivial⟩ ?_
      · intro s577 w578 hb579 hx580 hf581 hd582 hu583
        have e584 : Ext w361 w578 := hx580 rfl
        exact L_lit (.plain rfl) rfl (ltb rfl) rfl Tryz.underlying30 Tryz.sizeOf80 Tryz.zeroValue80 rfl rfl rfl (vs := []) rfl (lit_all rfl) <| fun b585 w586 z587 z588 e589 k590 => L_nil <| stepS rfl rfl rfl e589 ⟨_, rfl⟩
      · intro s591 w592 hb593 hx594 hf595 hd596 hu597
        have e598 : Ext w361 w592 := hx594 rfl
        exact L_op (.plain rfl) rfl (ltb rfl) (X_move (v := v_a0) ((hf595 0 rfl).trans ((K365 0 rfl).trans (K14 0 rfl)))) <| L_nil <| stepS rfl rfl rfl (Ext.refl w592) rfl
      · intro s599 w600 hb601 hx602 hf603 hd604 hu605
        have e606 : Ext w361 w600 := hx602 rfl
        exact L_op (.plain rfl) rfl (ltb rfl) (X_move (v := (.int .i64 x5_11)) ((hf603 5 rfl).trans ((K365 5 rfl).trans h198))) <| L_nil <| stepS rfl rfl rfl (Ext.refl w600) rfl
      · intro s607 w608 hb609 hx610 hf611 hd612 hu613
        have e614 : Ext w361 w608 := hx610 rfl
        have d615 : s607 45 = v_a0 := (hd612 1 rfl)
        have d616 : s607 46 = (.int .i64 x5_11) := (hd612 2 rfl)
        have c617 := c550
        exact L_sub (.plain rfl) rfl (ltb rfl) rfl Tryz.underlying30 Tryz.sizeOf80 d615 (Rd.ext f_a0 (Ext.trans (Ext.trans e5 e15) e362)) (l := 0) (h := x5_11) rfl ⟨_, d616⟩ c617 <| fun v618 h619 => L_nil <| stepS rfl rfl rfl (Ext.refl w608) h619
      · intro s620 w621 hb622 hx623 hf624 hd625 hu626
        have e627 : Ext w361 w621 := hx623 rfl
        obtain ⟨b628, h629⟩ := (hd625 0 rfl)
        have d630 : Rd 4 encNd w361 (s620 47) (sub a0 0 x5_11) := (hd625 3 rfl)
        have c631 := c553
        exact L_append (enc := encNd) (.plain rfl) rfl (ltb rfl) rfl El.t30 h629 rfl (Ow.zero (base := w621.heap.size) (w := w621)) (Rd.ext d630 e627) (ones_Nd _) (of_decide_eq_true c631) (Nat.le_refl _) <| fun v632 w633 o634 z635 g636 => L_nil <| stepS rfl rfl rfl (g636 _ (Ext.refl w621)) (Ow.base o634 e627.size)
      · intro s637 w638 hb639 hx640 hf641 hd642 hu643
        have e644 : Ext w361 w638 := hx640 rfl
        exact L_op (.plain rfl) rfl (ltb rfl) (X_loadS Tryz.isAgg80 Tryz.sizeOf80 rfl ((hf641 3 rfl).trans ((K365 3 rfl).trans (K14 3 rfl))) (Blk.at0 (Blk.ext k6 (Ext.trans (Ext.trans e15 e362) e644)))) <| L_nil <| stepS rfl rfl rfl (Ext.refl w638) rfl
      · intro s645 w646 hb647 hx648 hf649 hd650 hu651
        have e652 : Ext w361 w646 := hx648 rfl
        have d653 : s645 49 = (.agg #[(.int .i64 a1.kind), (S a1.path), (S a1.body), (.int .i64 a1.mode)]) := (hd650 5 rfl)
        exact L_lit (.plain rfl) rfl (ltb rfl) rfl Tryz.underlying30 Tryz.sizeOf80 Tryz.zeroValue80 rfl rfl rfl (vs := [(.agg #[(.int .i64 a1.kind), (S a1.path), (S a1.body), (.int .i64 a1.mode)])]) (cons2 d653 rfl) (lit_all rfl) <| fun b654 w655 z656 z657 e658 k659 => L_nil <| stepS rfl rfl rfl e658 (Ow.rd (Ow.new (xs := [a1]) (sz := 4) (enc := encNd) (base := w646.heap.size) k659 (Nat.le_of_eq z656) rfl (fun _ _ => by rfl) (Nat.le_of_ble_eq_true rfl)))
      · intro s660 w661 hb662 hx663 hf664 hd665 hu666
        have e667 : Ext w361 w661 := hx663 rfl
        have d668 : Ow 80 4 encNd w361.heap.size w661 (s660 48) (([] : List Nd) ++ (sub a0 0 x5_11)) := (hd665 4 rfl)
        have d669 : Rd 4 encNd w661 (s660 50) ([a1] : List Nd) := (hd665 6 rfl)
        have c670 := c565
        exact L_append (enc := encNd) (.plain rfl) rfl (ltb rfl) rfl El.t30 rfl rfl d668 d669 (ones_Nd _) (of_decide_eq_true c670) (e667).size <| fun v671 w672 o673 z674 g675 => L_nil <| stepH rfl rfl rfl (g675 _ (Below.refl _ _)) o673
      · intro s676 w677 hb678 hx679 hf680 hd681 hu682
        have e683 : Ext w361 w677 := Below.trans (Ext.refl w361) hb678
        exact L_op (.plain rfl) rfl (ltb rfl) (X_move (v := v201) ((hf680 6 rfl).trans (K365 6 rfl))) <| L_nil <| stepS rfl rfl rfl (Ext.refl w677) rfl
      · intro s684 w685 hb686 hx687 hf688 hd689 hu690
        have e691 : Ext w361 w685 := Below.trans (Ext.refl w361) hb686
        have d692 : Ow 80 4 encNd w361.heap.size w685 (s684 51) (spec_l04Put.e1 a0 a1 x5_11) := (hd689 7 rfl)
        have d693 : s684 52 = v201 := (hd689 8 rfl)
        have c694 := c571
        exact L_append (enc := encNd) (.plain rfl) rfl (ltb rfl) rfl El.t30 rfl d693 d692 (Rd.ext h202 (Ext.trans e362 e691)) (ones_Nd _) (of_decide_eq_true c694) (e691).size <| fun v695 w696 o697 z698 g699 => L_nil <| stepH rfl rfl rfl (g699 _ (Below.refl _ _)) o697
      · intro s700 w701 hb702 hx703 hf704 hd705 hu706
        have e707 : Ext w361 w701 := Below.trans (Ext.refl w361) hb702
        have d708 : Ow 80 4 encNd w361.heap.size w701 (s700 53) ((spec_l04Put.e1 a0 a1 x5_11) ++ (sub a0 x5_11 (a0.length : Int))) := (hd705 9 rfl)
        exact L_op (.plain rfl) rfl (ltb rfl) (X_assign (v := (s700 53)) rfl) <| L_nil <| stepS rfl rfl rfl (Ext.refl w701) d708
      intro s709 w710 hb711 hf713 ha714
      have K715 := Kp.ofD (kp := [(4, 5), (44, 54)]) rfl hf713
      have e712 : Ext w361 w710 := hb711
      have d716 : Ow 80 4 encNd w361.heap.size w710 (s709 4) ((spec_l04Put.e1 a0 a1 x5_11) ++ (sub a0 x5_11 (a0.length : Int))) := ha714 10 rfl rfl
      clear ha714 hf713
      refine thn_n <| W_ret <| fin_r ?_
      obtain rfl := Option.some.inj H
      exact fin1o rfl (Ext.trans (Ext.trans (Ext.trans e5 e15) e362) e712) d716 ((Ext.trans (Ext.trans e5 e15) e362)).size
theorem spec_l04Put.calls {w : World} {a0 : List Nd} {a1 : Nd} {v_a0 : Value} (f_a0 : Rd 4 encNd w v_a0 a0) (h0 : a0.length ≤ 1000000) (h1 : ∀ x ∈ a0, x.path.length ≤ 1048576) (h2 : a1.path.length ≤ 1048576) :
    Calls Tryz.prog 163 #[v_a0, .agg (encNd a1).toArray] w (Rt (RO 80 4 encNd w (putN a0 a1))) := by
  obtain ⟨k, h⟩ := spec_l04Put.eq a0 a1 h0 h1 h2
  exact spec_l04Put.walk f_a0 h
/-! spec.l04Node -/
theorem spec_l04Node.walk {w : World} {a0 : Rec} {r : Nd} (H : spec_l04Node.sh a0 = some r) :
    Calls Tryz.prog 164 #[.agg (encRec a0).toArray] w (Rt (RP w (.agg (encNd r).toArray))) := by
  unfold spec_l04Node.sh at H
  refine calls_of_WG Tryz.func164 rfl (Nat.le_of_ble_eq_true rfl) Tryz.ntmps164 ?_
  refine W_seq <| W_reg <| L_box (.plain rfl) rfl (ltb rfl) rfl rfl <| fun b1 w2 z3 z4 e5 k6 => L_alloc (.plain rfl) rfl (ltb rfl) rfl Tryz.zeroValue80 <| fun b7 w8 z9 z10 e11 k12 => L_nil <| thn_n <| W_seq <| W_reg <| L_op (.plain rfl) rfl (ltb rfl) (X_fieldAddr Tryz.underlying78 rfl Tryz.sizeOf3 rfl rfl) <| L_op (.plain rfl) rfl (ltb rfl) (X_loadB Tryz.isAgg3 (Blk.ext k6 e11) rfl rfl) <| L_op (.plain rfl) rfl (ltb rfl) (X_fieldAddr Tryz.underlying78 rfl Tryz.sizeOf9 rfl rfl) <| L_op (.plain rfl) rfl (ltb rfl) (X_loadB Tryz.isAgg9 (Blk.ext k6 e11) rfl rfl) <| L_op (.plain rfl) rfl (ltb rfl) (X_fieldAddr Tryz.underlying78 rfl Tryz.sizeOf9 rfl rfl) <| L_op (.plain rfl) rfl (ltb rfl) (X_loadB Tryz.isAgg9 (Blk.ext k6 e11) rfl rfl) <| L_op (.plain rfl) rfl (ltb rfl) (X_fieldAddr Tryz.underlying78 rfl Tryz.sizeOf3 rfl rfl) <| L_op (.plain rfl) rfl (ltb rfl) (X_loadB Tryz.isAgg3 (Blk.ext k6 e11) rfl rfl) <| L_op (.plain rfl) rfl (ltb rfl) (X_build1 (vs := [(0, (.int .i64 a0.kind)), (1, (S a0.path)), (2, (S a0.body)), (3, (.int .i64 a0.mode))]) (pl := #[(0, 1), (1, 1), (2, 1), (3, 1)]) Tryz.underlying80 Tryz.zeroValue80 rfl (fun _ => by kernel_rfl) rfl rfl rfl) <| L_storeA (.plain rfl) rfl rfl Tryz.sizeOf80 rfl rfl rfl rfl rfl k12 <| fun w13 h14 k15 => L_nil <| thn_n <| W_ret <| finG_r ?_
  obtain rfl := Option.some.inj H
  exact finC1 rfl rfl k15 Tryz.isAgg80 Tryz.sizeOf80 rfl (Ext.trans e5 (Below.trans e11 (Wr.below h14 (Nat.le_of_eq z9))))
theorem spec_l04Node.calls {w : World} {a0 : Rec} :
    Calls Tryz.prog 164 #[.agg (encRec a0).toArray] w (Rt (RP w (.agg (encNd (ndOf a0)).toArray))) := spec_l04Node.walk (spec_l04Node.eq a0)
/-! spec.l05Do -/
theorem spec_l05Do.walk {w : World} {a0 : List Nd} {a1 : Rec} {v_a0 : Value} (f_a0 : Rd 4 encNd w v_a0 a0) {r : List Nd} (H : spec_l05Do.sh a0 a1 = some r) :
    Calls Tryz.prog 115 #[v_a0, .agg (encRec a1).toArray] w (Rt (RO 80 4 encNd w r)) := by
  unfold spec_l05Do.sh at H
  refine calls_of_W Tryz.func115 rfl (Nat.le_of_ble_eq_true rfl) Tryz.ntmps115 rfl ?_
  refine W_seq <| W_reg <| L_box (.plain rfl) rfl (ltb rfl) rfl rfl <| fun b1 w2 z3 z4 e5 k6 => L_op (.plain rfl) rfl (ltb rfl) (X_assign (v := (.slice none 0 0)) rfl) <| L_nil <| thn_n <| W_seq <| W_reg <| L_op (.plain rfl) rfl (ltb rfl) (X_move (v := v_a0) rfl) <| L_op (.plain rfl) rfl (ltb rfl) (X_fieldAddr Tryz.underlying78 rfl Tryz.sizeOf9 rfl rfl) <| L_op (.plain rfl) rfl (ltb rfl) (X_loadB Tryz.isAgg9 k6 rfl rfl) ?_
  obtain ⟨c7, H⟩ := bif_some H
  refine L_callP (.plain rfl) rfl (ltb rfl) rfl Tryz.call114 (spec_l04At.calls (w := w2) (a0 := a0) (a1 := a1.path) (Rd.ext f_a0 e5) (of_decide_eq_true c7)) rfl <| fun w8 e9 => L_op (.plain rfl) rfl (ltb rfl) (X_assign (v := (.int .i64 (findN a0 a1.path))) rfl) <| L_nil <| thn_n <| W_seq <| W_seq <| W_reg <| L_op (.plain rfl) rfl (ltb rfl) (X_fieldAddr Tryz.underlying78 rfl Tryz.sizeOf3 rfl rfl) <| L_op (.plain rfl) rfl (ltb rfl) (X_loadB Tryz.isAgg3 (Blk.ext k6 e9) rfl rfl) <| L_op (.plain rfl) rfl (ltb rfl) (X_eql rfl rfl) <| L_nil <| thn_n ?_
  rcases bif_two H with ⟨q10, H⟩ | ⟨q10, H⟩
  · refine W_true (congrArg Value.bool q10) <| W_seq <| W_reg <| L_op (.plain rfl) rfl (ltb rfl) (X_move (v := v_a0) rfl) <| L_op (.plain rfl) rfl (ltb rfl) (X_fieldAddr Tryz.underlying78 rfl Tryz.sizeOf9 rfl rfl) <| L_op (.plain rfl) rfl (ltb rfl) (X_loadB Tryz.isAgg9 (Blk.ext k6 e9) rfl rfl) ?_
    obtain ⟨c11, H⟩ := bif_some H
    refine L_callO (.plain rfl) rfl (ltb rfl) rfl Tryz.call162 (spec_l04Without.calls (w := w8) (a0 := a0) (a1 := a1.path) (a2 := true) (Rd.ext f_a0 (Ext.trans e5 e9)) (of_decide_eq_true c11)) rfl <| fun v14 w12 e13 o15 => L_op (.plain rfl) rfl (ltb rfl) (X_assign (v := v14) rfl) <| L_nil <| thn_n <| W_ret <| thn_r <| fin_r ?_
    obtain rfl := Option.some.inj H
    exact fin1o rfl (Ext.trans (Ext.trans e5 e9) e13) o15 ((Ext.trans e5 e9)).size
  · refine W_false (congrArg Value.bool q10) <| W_skip <| thn_n <| W_seq <| W_seq <| W_reg <| L_op (.plain rfl) rfl (ltb rfl) (X_fieldAddr Tryz.underlying78 rfl Tryz.sizeOf3 rfl rfl) <| L_op (.plain rfl) rfl (ltb rfl) (X_loadB Tryz.isAgg3 (Blk.ext k6 e9) rfl rfl) <| L_op (.plain rfl) rfl (ltb rfl) (X_neq rfl rfl) <| L_op (.plain rfl) rfl (ltb rfl) (X_move (v := (.bool (!decide (a1.kind = 3)))) rfl) <| L_grp 3 [(21, 24)] 23 (.bool ((!decide (a1.kind = 3)) || a1.opq)) ?_ ?_
    · rcases bool_two (!decide (a1.kind = 3)) with b15_ | b15_
      · exact L_skip rfl rfl (ltb rfl) (congrArg Value.bool b15_) rfl rfl (ltb rfl) <| L_skip rfl rfl (ltb rfl) (congrArg Value.bool b15_) rfl rfl (ltb rfl) <| L_op (.plain rfl) rfl (ltb rfl) (X_pick (b := true) (v := (.bool true)) (congrArg Value.bool b15_) rfl) <| L_nil <| thn_n ⟨(Kp.upd (Kp.upd (Kp.upd (Kp.refl _ _) rfl) rfl) rfl), (or_t b15_), (Ext.refl w8)⟩
      · exact L_op (.guard 3 false 20 rfl rfl (ltb rfl) (congrArg Value.bool b15_)) rfl (ltb rfl) (X_fieldAddr Tryz.underlying78 rfl Tryz.sizeOf4 rfl rfl) <| L_op (.guard 3 false 20 rfl rfl (ltb rfl) (congrArg Value.bool b15_)) rfl (ltb rfl) (X_loadB Tryz.isAgg4 (Blk.ext k6 e9) rfl rfl) <| L_op (.plain rfl) rfl (ltb rfl) (X_pick (b := false) (v := (.bool a1.opq)) (congrArg Value.bool b15_) rfl) <| L_nil <| thn_n ⟨(Kp.upd (Kp.upd (Kp.upd (Kp.refl _ _) rfl) rfl) rfl), (or_f b15_), (Ext.refl w8)⟩
    intro s21 w17 K18 h19 e20
    refine L_op (.plain rfl) rfl (ltb rfl) (X_move (v := (.bool ((!decide (a1.kind = 3)) || a1.opq))) h19) ?_
    obtain ⟨z23, x24, H⟩ := bind_some H
    refine L_grpE 11 [(25, 36)] 35 (fun q => q = z23) ?_ ?_
    · rcases bif_two x24 with ⟨b21_, H⟩ | ⟨b21_, H⟩
      · refine L_skip rfl rfl (ltb rfl) (congrArg Value.bool b21_) rfl rfl (ltb rfl) <| L_skip rfl rfl (ltb rfl) (congrArg Value.bool b21_) rfl rfl (ltb rfl) <| L_skip rfl rfl (ltb rfl) (congrArg Value.bool b21_) rfl rfl (ltb rfl) <| L_skipU rfl rfl (ltb rfl) rfl rfl (ltb rfl) <| L_skipU rfl rfl (ltb rfl) rfl rfl (ltb rfl) <| L_skipU rfl rfl (ltb rfl) rfl rfl (ltb rfl) <| L_skipU rfl rfl (ltb rfl) rfl rfl (ltb rfl) <| L_skipU rfl rfl (ltb rfl) rfl rfl (ltb rfl) <| L_skipU rfl rfl (ltb rfl) rfl rfl (ltb rfl) <| L_skip rfl rfl (ltb rfl) (congrArg Value.bool b21_) rfl rfl (ltb rfl) <| L_op (.plain rfl) rfl (ltb rfl) (X_pick (b := true) (v := (.bool true)) (congrArg Value.bool b21_) rfl) ?_
        obtain rfl := Option.some.inj H
        exact L_nil <| thn_n ⟨(Kp.upd (Kp.upd (Kp.upd (Kp.upd (Kp.upd (Kp.upd (Kp.upd (Kp.upd (Kp.upd (Kp.upd (Kp.upd (Kp.refl _ _) rfl) rfl) rfl) rfl) rfl) rfl) rfl) rfl) rfl) rfl) rfl), ⟨_, rfl, rfl⟩, (Ext.refl w17)⟩
      · refine L_op (.guard 7 false 24 rfl rfl (ltb rfl) (congrArg Value.bool b21_)) rfl (ltb rfl) (X_move (v := (.int .i64 (findN a0 a1.path))) (K18 5 rfl)) <| L_op (.guard 7 false 24 rfl rfl (ltb rfl) (congrArg Value.bool b21_)) rfl (ltb rfl) (X_geq rfl rfl) <| L_op (.guard 7 false 24 rfl rfl (ltb rfl) (congrArg Value.bool b21_)) rfl (ltb rfl) (X_move (v := (.bool (decide (0 ≤ (findN a0 a1.path))))) rfl) ?_
        obtain ⟨z24, x25, H⟩ := bind_some H
        refine L_grpE 7 [(28, 35)] 34 (fun q => q = z24) ?_ ?_
        · rcases bif_two x25 with ⟨b22_, H⟩ | ⟨b22_, H⟩
          · refine L_op (.guard 10 true 27 rfl rfl (ltb rfl) (congrArg Value.bool b22_)) rfl (ltb rfl) (X_move (v := v_a0) (K18 0 rfl)) <| L_op (.guard 10 true 27 rfl rfl (ltb rfl) (congrArg Value.bool b22_)) rfl (ltb rfl) (X_move (v := (.int .i64 (findN a0 a1.path))) (K18 5 rfl)) ?_
            obtain ⟨c24, H⟩ := bif_some H
            refine L_idx (.guard 10 true 27 rfl rfl (ltb rfl) (congrArg Value.bool b22_)) rfl (ltb rfl) rfl Tryz.underlying30 Tryz.sizeOf80 rfl (Rd.ext f_a0 (Ext.trans (Ext.trans e5 e9) e20)) rfl c24 <| fun p25 h26 => L_op (.guard 10 true 27 rfl rfl (ltb rfl) (congrArg Value.bool b22_)) rfl (ltb rfl) (X_fieldAddr Tryz.underlying80 rfl Tryz.sizeOf3 rfl rfl) <| L_op (.guard 10 true 27 rfl rfl (ltb rfl) (congrArg Value.bool b22_)) rfl (ltb rfl) (X_loadF Tryz.isAgg3 (j := 0) h26 rfl rfl) <| L_op (.guard 10 true 27 rfl rfl (ltb rfl) (congrArg Value.bool b22_)) rfl (ltb rfl) (X_neq rfl rfl) <| L_op (.guard 7 false 24 rfl rfl (ltb rfl) (congrArg Value.bool b21_)) rfl (ltb rfl) (X_pick (b := true) (v := (.bool (!decide (((gt a0 (findN a0 a1.path)).kind) = 3)))) (congrArg Value.bool b22_) rfl) ?_
            obtain rfl := Option.some.inj H
            exact L_nil <| thn_n ⟨(Kp.upd (Kp.upd (Kp.upd (Kp.upd (Kp.upd (Kp.upd (Kp.upd (Kp.refl _ _) rfl) rfl) rfl) rfl) rfl) rfl) rfl), ⟨_, rfl, rfl⟩, (Ext.refl w17)⟩
          · refine L_skip rfl rfl (ltb rfl) (congrArg Value.bool b22_) rfl rfl (ltb rfl) <| L_skip rfl rfl (ltb rfl) (congrArg Value.bool b22_) rfl rfl (ltb rfl) <| L_skip rfl rfl (ltb rfl) (congrArg Value.bool b22_) rfl rfl (ltb rfl) <| L_skip rfl rfl (ltb rfl) (congrArg Value.bool b22_) rfl rfl (ltb rfl) <| L_skip rfl rfl (ltb rfl) (congrArg Value.bool b22_) rfl rfl (ltb rfl) <| L_skip rfl rfl (ltb rfl) (congrArg Value.bool b22_) rfl rfl (ltb rfl) <| L_op (.guard 7 false 24 rfl rfl (ltb rfl) (congrArg Value.bool b21_)) rfl (ltb rfl) (X_pick (b := false) (v := (.bool false)) (congrArg Value.bool b22_) rfl) ?_
            obtain rfl := Option.some.inj H
            exact L_nil <| thn_n ⟨(Kp.upd (Kp.upd (Kp.upd (Kp.upd (Kp.upd (Kp.upd (Kp.upd (Kp.refl _ _) rfl) rfl) rfl) rfl) rfl) rfl) rfl), ⟨_, rfl, rfl⟩, (Ext.refl w17)⟩
        intro s30 w26 z31 K27 hq h28 e29
        rw [hq] at h28; clear hq
        refine L_op (.plain rfl) rfl (ltb rfl) (X_pick (b := false) (v := (.bool z24)) ((K27 24 rfl).trans (congrArg Value.bool b21_)) h28) ?_
        obtain rfl := Option.some.inj H
        exact L_nil <| thn_n ⟨(Kp.upd (Kp.cut (Kp.upd (Kp.upd (Kp.upd (Kp.refl _ _) rfl) rfl) rfl) K27 rfl) rfl), ⟨_, rfl, rfl⟩, e29⟩
    intro s32 w25 z33 K26 hq h27 e28
    rw [hq] at h27; clear hq
    refine L_nil <| thn_n ?_
    rcases bif_two H with ⟨q34, H⟩ | ⟨q34, H⟩
    · refine W_true (h27.trans (congrArg Value.bool q34)) <| W_reg <| L_op (.plain rfl) rfl (ltb rfl) (X_move (v := v_a0) ((K26 0 rfl).trans (K18 0 rfl))) <| L_op (.plain rfl) rfl (ltb rfl) (X_fieldAddr Tryz.underlying78 rfl Tryz.sizeOf9 rfl ((K26 3 rfl).trans (K18 3 rfl))) <| L_op (.plain rfl) rfl (ltb rfl) (X_loadB Tryz.isAgg9 (Blk.ext k6 (Ext.trans (Ext.trans e9 e20) e28)) rfl rfl) ?_
      obtain ⟨c35, H⟩ := bif_some H
      refine L_callO (.plain rfl) rfl (ltb rfl) rfl Tryz.call162 (spec_l04Without.calls (w := w25) (a0 := a0) (a1 := a1.path) (a2 := false) (Rd.ext f_a0 (Ext.trans (Ext.trans (Ext.trans e5 e9) e20) e28)) (of_decide_eq_true c35)) rfl <| fun v38 w36 e37 o39 => L_op (.plain rfl) rfl (ltb rfl) (X_assign (v := v38) rfl) <| L_nil <| thn_n <| W_seq <| W_reg <| L_op (.plain rfl) rfl (ltb rfl) (X_move (v := v38) rfl) <| L_op (.plain rfl) rfl (ltb rfl) (X_loadS Tryz.isAgg78 Tryz.sizeOf78 rfl ((K26 3 rfl).trans (K18 3 rfl)) (Blk.at0 (Blk.ext k6 (Ext.trans (Ext.trans (Ext.trans e9 e20) e28) e37)))) <| L_callP (.plain rfl) rfl (ltb rfl) rfl Tryz.call164 (spec_l04Node.calls (w := w36) (a0 := a1)) rfl <| fun w40 e41 => ?_
      obtain ⟨c42, H⟩ := bif_some H
      obtain ⟨c43, H⟩ := bif_some H
      obtain ⟨c44, H⟩ := bif_some H
      refine L_callO (.plain rfl) rfl (ltb rfl) rfl Tryz.call163 (spec_l04Put.calls (w := w40) (a0 := (without a0 a1.path false)) (a1 := (ndOf a1)) (Ow.rd (Ow.ext o39 e41)) (of_decide_eq_true c42) (of_decide_eq_true c43) (of_decide_eq_true c44)) rfl <| fun v47 w45 e46 o48 => L_op (.plain rfl) rfl (ltb rfl) (X_assign (v := v47) rfl) <| L_nil <| thn_n <| W_ret <| fin_r ?_
      obtain rfl := Option.some.inj H
      exact fin1o rfl (Ext.trans (Ext.trans (Ext.trans (Ext.trans (Ext.trans (Ext.trans e5 e9) e20) e28) e37) e41) e46) o48 ((Ext.trans (Ext.trans (Ext.trans (Ext.trans (Ext.trans e5 e9) e20) e28) e37) e41)).size
    · refine W_false (h27.trans (congrArg Value.bool q34)) <| W_skip <| thn_n <| W_seq <| W_reg <| L_op (.plain rfl) rfl (ltb rfl) (X_move (v := v_a0) ((K26 0 rfl).trans (K18 0 rfl))) <| L_op (.plain rfl) rfl (ltb rfl) (X_loadS Tryz.isAgg78 Tryz.sizeOf78 rfl ((K26 3 rfl).trans (K18 3 rfl)) (Blk.at0 (Blk.ext k6 (Ext.trans (Ext.trans e9 e20) e28)))) <| L_callP (.plain rfl) rfl (ltb rfl) rfl Tryz.call164 (spec_l04Node.calls (w := w25) (a0 := a1)) rfl <| fun w49 e50 => ?_
      obtain ⟨c51, H⟩ := bif_some H
      obtain ⟨c52, H⟩ := bif_some H
      obtain ⟨c53, H⟩ := bif_some H
      refine L_callO (.plain rfl) rfl (ltb rfl) rfl Tryz.call163 (spec_l04Put.calls (w := w49) (a0 := a0) (a1 := (ndOf a1)) (Rd.ext f_a0 (Ext.trans (Ext.trans (Ext.trans (Ext.trans e5 e9) e20) e28) e50)) (of_decide_eq_true c51) (of_decide_eq_true c52) (of_decide_eq_true c53)) rfl <| fun v56 w54 e55 o57 => L_op (.plain rfl) rfl (ltb rfl) (X_assign (v := v56) rfl) <| L_nil <| thn_n <| W_ret <| fin_r ?_
      obtain rfl := Option.some.inj H
      exact fin1o rfl (Ext.trans (Ext.trans (Ext.trans (Ext.trans (Ext.trans e5 e9) e20) e28) e50) e55) o57 ((Ext.trans (Ext.trans (Ext.trans (Ext.trans e5 e9) e20) e28) e50)).size
theorem spec_l05Do.calls {w : World} {a0 : List Nd} {a1 : Rec} {v_a0 : Value} (f_a0 : Rd 4 encNd w v_a0 a0) (h0 : a0.length ≤ 1000000) (h1 : ∀ x ∈ a0, x.path.length ≤ 1048576) (h2 : a1.path.length ≤ 1048576) :
    Calls Tryz.prog 115 #[v_a0, .agg (encRec a1).toArray] w (Rt (RO 80 4 encNd w (doS a0 a1))) := spec_l05Do.walk f_a0 (spec_l05Do.eq a0 a1 h0 h1 h2)
/-! spec.l05Apply -/
theorem spec_l05Apply.walk {k : Nat} {w : World} {a0 : List Rec} {a1 : List Nd} {v_a0 : Value} (f_a0 : Rd 5 encRec w v_a0 a0) {v_a1 : Value} (f_a1 : Rd 4 encNd w v_a1 a1) {r : List Nd} (H : spec_l05Apply.sh k a0 a1 = some r) :
    Calls Tryz.prog 65 #[v_a0, v_a1] w (Rt (RO 80 4 encNd w r)) := by
  unfold spec_l05Apply.sh at H
  refine calls_of_W Tryz.func65 rfl (Nat.le_of_ble_eq_true rfl) Tryz.ntmps65 rfl ?_
  refine W_seq <| W_reg <| L_op (.plain rfl) rfl (ltb rfl) (X_assign (v := (.slice none 0 0)) rfl) <| L_nil <| thn_n <| W_seq <| W_reg <| L_lit (.plain rfl) rfl (ltb rfl) rfl Tryz.underlying30 Tryz.sizeOf80 Tryz.zeroValue80 rfl rfl rfl (vs := []) rfl (lit_all rfl) <| fun b1 w2 z3 z4 e5 k6 => L_op (.plain rfl) rfl (ltb rfl) (X_move (v := v_a1) rfl) ?_
  obtain ⟨c7, H⟩ := bif_some H
  refine L_append (enc := encNd) (.plain rfl) rfl (ltb rfl) rfl El.t30 rfl rfl (Ow.zero (base := w2.heap.size) (w := w2)) (Rd.ext f_a1 e5) (ones_Nd _) (of_decide_eq_true c7) (Nat.le_refl _) <| fun v8 w9 o10 z11 g12 => L_op (.plain rfl) rfl (ltb rfl) (X_assign (v := v8) rfl) <| L_nil <| thn_n <| W_seq <| W_seq <| W_reg <| L_op (.plain rfl) rfl (ltb rfl) (X_assign (v := (.int .i64 0)) rfl) <| L_nil <| thn_n ?_
  obtain ⟨z16, L17, C18⟩ := bind_some H
  clear H
  refine  W_cutQ (fun s0 sQ wQ => ∃ (x1_19 : List Nd) (v20 : Value), Kp [(1, 2), (5, 6), (9, 21)] s0 sQ ∧ sQ 1 = v20 ∧ Ow 80 4 encNd w2.heap.size wQ v20 x1_19 ∧ Ext w9 wQ ∧ z16 = .inr x1_19) ?_ ?_
  · refine W_block <| W_loopI (fun s0 kk sQ wQ => ∃ (x1_13 : List Nd) (v14 : Value) (x5_15 : Int), Kp [(1, 2), (5, 6), (9, 21)] s0 sQ ∧ sQ 1 = v14 ∧ Ow 80 4 encNd w2.heap.size wQ v14 x1_13 ∧ sQ 5 = .int .i64 x5_15 ∧ Ext w9 wQ ∧ loopF (spec_l05Apply.b1 a0) kk (x1_13, x5_15) = some z16) k ⟨([] : List Nd) ++ a1, v8, 0, (Kp.refl _ _), rfl, o10, rfl, (Ext.refl w9), L17⟩ ?_
    rintro k25 s26 w27 ⟨x1_13, v14, x5_15, K28, h31, h32, h33, e29, L30⟩
    cases k25 with
    | zero => exact absurd L30 (by simp [loopF])
    | succ k25 =>
      obtain ⟨t34, H, S35⟩ := loopF_succ L30
      clear L30
      unfold spec_l05Apply.b1 at H
      refine W_seq <| W_seq <| W_reg <| L_op (.plain rfl) rfl (ltb rfl) (X_move (v := (.int .i64 x5_15)) h33) <| L_op (.plain rfl) rfl (ltb rfl) (X_move (v := v_a0) (K28 0 rfl)) <| L_op (.plain rfl) rfl (ltb rfl) (X_lenR Tryz.underlying28 rfl (Rd.ext f_a0 (Ext.trans (Ext.trans e5 (g12 _ (Ext.refl w2))) e29))) <| L_op (.plain rfl) rfl (ltb rfl) (X_lss rfl rfl) <| L_nil <| thn_n ?_
      rcases bif_two H with ⟨q36, H⟩ | ⟨q36, H⟩
      · refine W_true (congrArg Value.bool q36) <| W_skip <| thn_n <| W_seq <| W_block <| W_reg <| L_op (.plain rfl) rfl (ltb rfl) (X_move (v := v14) h31) <| L_op (.plain rfl) rfl (ltb rfl) (X_move (v := v_a0) (K28 0 rfl)) <| L_op (.plain rfl) rfl (ltb rfl) (X_move (v := (.int .i64 x5_15)) h33) ?_
        obtain ⟨c37, H⟩ := bif_some H
        refine L_idx (.plain rfl) rfl (ltb rfl) rfl Tryz.underlying28 Tryz.sizeOf78 rfl (Rd.ext f_a0 (Ext.trans (Ext.trans e5 (g12 _ (Ext.refl w2))) e29)) rfl c37 <| fun p38 h39 => L_op (.plain rfl) rfl (ltb rfl) (X_loadS Tryz.isAgg78 Tryz.sizeOf78 rfl rfl h39) ?_
        obtain ⟨c40, H⟩ := bif_some H
        obtain ⟨c41, H⟩ := bif_some H
        obtain ⟨c42, H⟩ := bif_some H
        refine L_callO (.plain rfl) rfl (ltb rfl) rfl Tryz.call115 (spec_l05Do.calls (w := w27) (a0 := x1_13) (a1 := gt a0 x5_15) (Ow.rd h32) (of_decide_eq_true c40) (of_decide_eq_true c41) (of_decide_eq_true c42)) rfl <| fun v45 w43 e44 o46 => L_op (.plain rfl) rfl (ltb rfl) (X_assign (v := v45) rfl) <| L_nil <| blk_n <| thn_n <| W_reg <| L_op (.plain rfl) rfl (ltb rfl) (X_move (v := (.int .i64 x5_15)) h33) <| L_op (.plain rfl) rfl (ltb rfl) (X_add rfl rfl) <| L_op (.plain rfl) rfl (ltb rfl) (X_assign (v := (.int .i64 (IntKind.wrap .i64 (x5_15 + 1)))) rfl) <| L_nil <| thn_n ?_
        obtain rfl := Option.some.inj H
        exact ⟨_, Nat.lt_succ_self _, (doS x1_13 (gt a0 x5_15)), v45, IntKind.wrap .i64 (x5_15 + 1), (Kp.upd (Kp.upd (Kp.upd (Kp.upd (Kp.upd (Kp.upd (Kp.upd (Kp.upd (Kp.upd (Kp.upd (Kp.upd (Kp.upd (Kp.upd (Kp.upd K28 rfl) rfl) rfl) rfl) rfl) rfl) rfl) rfl) rfl) rfl) rfl) rfl) rfl) rfl), rfl, (Ow.base o46 (Ext.trans (g12 _ (Ext.refl w2)) e29).size), rfl, (Ext.trans e29 e44), S35⟩
      · refine W_false (congrArg Value.bool q36) <| W_exit <| thn_x <| thn_x <| blk_x <| thn_n ?_
        obtain rfl := Option.some.inj H
        obtain rfl := Option.some.inj S35
        exact ⟨x1_13, v14, (Kp.upd (Kp.upd (Kp.upd (Kp.upd K28 rfl) rfl) rfl) rfl), h31, h32, e29, rfl⟩
  · rintro s22 w21 ⟨x1_19, v20, K23, h47, h48, e24, y49⟩
    rw [y49] at C18
    have H := C18
    replace H : _ = some _ := H
    refine thn_n <| W_seq <| W_reg <| L_op (.plain rfl) rfl (ltb rfl) (X_move (v := v20) h47) <| L_op (.plain rfl) rfl (ltb rfl) (X_assign (v := v20) rfl) <| L_nil <| thn_n <| W_ret <| fin_r ?_
    obtain rfl := Option.some.inj H
    exact fin1o rfl (Ext.trans (Ext.trans e5 (g12 _ (Ext.refl w2))) e24) h48 (e5).size
theorem spec_l05Apply.calls {w : World} {a0 : List Rec} {a1 : List Nd} {v_a0 : Value} (f_a0 : Rd 5 encRec w v_a0 a0) {v_a1 : Value} (f_a1 : Rd 4 encNd w v_a1 a1) (h0 : a0.length ≤ 16) (h1 : a1.length ≤ 1000) (h2 : okT a0 a1 = true) :
    Calls Tryz.prog 65 #[v_a0, v_a1] w (Rt (RO 80 4 encNd w (applyL a0 a1))) := by
  obtain ⟨k, h⟩ := spec_l05Apply.eq a0 a1 h0 h1 h2
  exact spec_l05Apply.walk f_a0 f_a1 h
/-! (impl.Record).node -/
theorem impl_Record_node.walk {w : World} {a0 : Rec} {r : Nd} (H : impl_Record_node.sh a0 = some r) :
    Calls Tryz.prog 125 #[.agg (encRec a0).toArray] w (Rt (RP w (.agg (encNd r).toArray))) := by
  unfold impl_Record_node.sh at H
  refine calls_of_WG Tryz.func125 rfl (Nat.le_of_ble_eq_true rfl) Tryz.ntmps125 ?_
  refine W_seq <| W_reg <| L_box (.plain rfl) rfl (ltb rfl) rfl rfl <| fun b1 w2 z3 z4 e5 k6 => L_alloc (.plain rfl) rfl (ltb rfl) rfl Tryz.zeroValue80 <| fun b7 w8 z9 z10 e11 k12 => L_nil <| thn_n <| W_seq <| W_reg <| L_op (.plain rfl) rfl (ltb rfl) (X_fieldAddr Tryz.underlying78 rfl Tryz.sizeOf3 rfl rfl) <| L_op (.plain rfl) rfl (ltb rfl) (X_loadB Tryz.isAgg3 (Blk.ext k6 e11) rfl rfl) <| L_op (.plain rfl) rfl (ltb rfl) (X_fieldAddr Tryz.underlying78 rfl Tryz.sizeOf9 rfl rfl) <| L_op (.plain rfl) rfl (ltb rfl) (X_loadB Tryz.isAgg9 (Blk.ext k6 e11) rfl rfl) <| L_op (.plain rfl) rfl (ltb rfl) (X_fieldAddr Tryz.underlying78 rfl Tryz.sizeOf9 rfl rfl) <| L_op (.plain rfl) rfl (ltb rfl) (X_loadB Tryz.isAgg9 (Blk.ext k6 e11) rfl rfl) <| L_op (.plain rfl) rfl (ltb rfl) (X_fieldAddr Tryz.underlying78 rfl Tryz.sizeOf3 rfl rfl) <| L_op (.plain rfl) rfl (ltb rfl) (X_loadB Tryz.isAgg3 (Blk.ext k6 e11) rfl rfl) <| L_op (.plain rfl) rfl (ltb rfl) (X_build1 (vs := [(0, (.int .i64 a0.kind)), (1, (S a0.path)), (2, (S a0.body)), (3, (.int .i64 a0.mode))]) (pl := #[(0, 1), (1, 1), (2, 1), (3, 1)]) Tryz.underlying80 Tryz.zeroValue80 rfl (fun _ => by kernel_rfl) rfl rfl rfl) <| L_storeA (.plain rfl) rfl rfl Tryz.sizeOf80 rfl rfl rfl rfl rfl k12 <| fun w13 h14 k15 => L_nil <| thn_n <| W_ret <| finG_r ?_
  obtain rfl := Option.some.inj H
  exact finC1 rfl rfl k15 Tryz.isAgg80 Tryz.sizeOf80 rfl (Ext.trans e5 (Below.trans e11 (Wr.below h14 (Nat.le_of_eq z9))))
theorem impl_Record_node.calls {w : World} {a0 : Rec} :
    Calls Tryz.prog 125 #[.agg (encRec a0).toArray] w (Rt (RP w (.agg (encNd (ndOf a0)).toArray))) := impl_Record_node.walk (impl_Record_node.eq a0)
end Go.Proofs.YthpjkenkbfkdhaaGreatDoor
