/- The walks, by program (wip/tools). -/
import Derived.Test.YtilogldgepaeiabDoorProg
import Derived.Test.YtilogldgepaeiabDoorAWB
set_option linter.unusedVariables false
set_option maxRecDepth 10000
namespace Go.Proofs.YtilogldgepaeiabDoor
open Go.UL Go.RowKit
/-! impl.TreeOK -/
abbrev impl_TreeOK.e1 (a0 : List Nd) (x7_1 : Int) := (((decide (24 ≤ x7_1)) || (!(nodeOK (gt a0 x7_1)))) || ((decide (0 < x7_1)) && (!(pathLess ((gt a0 (IntKind.wrap .i64 (x7_1 - 1))).path) ((gt a0 x7_1).path)))))
abbrev impl_TreeOK.e2 (a0 : List Nd) (x7_1 : Int) := ((decide (24 ≤ x7_1)) || (!(nodeOK (gt a0 x7_1))))
abbrev impl_TreeOK.e3 (a0 : List Nd) (x7_1 : Int) := ((!(impl_TreeOK.e2 a0 x7_1)) && (decide (0 < x7_1)))
abbrev impl_TreeOK.e4 (a0 : List Nd) (x7_1 : Int) := (pathLess ((gt a0 (IntKind.wrap .i64 (x7_1 - 1))).path) ((gt a0 x7_1).path))
theorem impl_TreeOK.walk {k : Nat} {w : World} {a0 : List Nd} (gv : GV 0 w) {v_a0 : Value} (f_a0 : Rd 4 encNd w v_a0 a0) {r : Bool} (H : impl_TreeOK.sh k a0 = some r) :
    Calls Tryd.prog 77 #[v_a0] w (Rt (RP w (.bool r))) := by
  unfold impl_TreeOK.sh at H
  refine calls_of_W Tryd.func77 rfl (Nat.le_of_ble_eq_true rfl) Tryd.ntmps77 rfl ?_
  refine W_seq <| W_reg <| L_op (.plain rfl) rfl (ltb rfl) (X_assign (v := (.bool false)) rfl) <| L_nil <| thn_n <| W_seq <| W_seq <| W_reg <| L_op (.plain rfl) rfl (ltb rfl) (X_move (v := v_a0) rfl) <| L_op (.plain rfl) rfl (ltb rfl) (X_lenR Tryd.underlying43 rfl f_a0) <| L_op (.plain rfl) rfl (ltb rfl) (X_move (v := (.int .i64 0)) rfl) <| L_nil <| thn_n ?_
  obtain ⟨z2, L3, C4⟩ := bind_some H
  clear H
  refine  W_cutQ (fun s0 sQ wQ => Kp [(2, 5), (7, 46)] s0 sQ ∧ Ext w wQ ∧ z2 = .inr ()) ?_ ?_
  · refine W_block <| W_loopI (fun s0 kk sQ wQ => ∃ (x7_1 : Int), Kp [(2, 5), (7, 46)] s0 sQ ∧ sQ 7 = .int .i64 x7_1 ∧ Ext w wQ ∧ loopF (impl_TreeOK.b1 a0) kk x7_1 = some z2) k ⟨0, (Kp.refl _ _), rfl, (Ext.refl w), L3⟩ ?_
    rintro k9 s10 w11 ⟨x7_1, K12, h15, e13, L14⟩
    cases k9 with
    | zero => exact absurd L14 (by simp [loopF])
    | succ k9 =>
      obtain ⟨t16, H, S17⟩ := loopF_succ L14
      clear L14
      unfold impl_TreeOK.b1 at H
      refine W_seq <| W_reg <| L_op (.plain rfl) rfl (ltb rfl) (X_lss h15 (K12 6 rfl)) <| L_nil <| thn_n <| W_seq ?_
      rcases bif_two H with ⟨q18, H⟩ | ⟨q18, H⟩
      · refine W_true (congrArg Value.bool q18) <| W_skip <| thn_n <| W_seq <| W_block <| W_seq <| W_reg <| L_op (.plain rfl) rfl (ltb rfl) (X_move (v := (.int .i64 x7_1)) h15) ?_
        obtain ⟨c19, H⟩ := bif_some H
        refine L_idx (.plain rfl) rfl (ltb rfl) rfl Tryd.underlying43 Tryd.sizeOf40 (K12 5 rfl) (Rd.ext f_a0 e13) h15 c19 <| fun p20 h21 => L_op (.plain rfl) rfl (ltb rfl) (X_loadS Tryd.isAgg40 Tryd.sizeOf40 rfl rfl h21) <| L_alloc (.plain rfl) rfl (ltb rfl) rfl Tryd.zeroValue40 <| fun b22 w23 z24 z25 e26 k27 => L_op (.plain rfl) rfl (ltb rfl) (X_assign (v := (.int .i64 x7_1)) rfl) <| L_storeA (.plain rfl) rfl rfl Tryd.sizeOf40 rfl rfl rfl rfl rfl k27 <| fun w28 h29 k30 => L_nil <| thn_n <| W_seq ?_
        obtain ⟨c33, H⟩ := bif_some H
        obtain ⟨c38, H⟩ := bif_some H
        obtain ⟨c41, H⟩ := bif_some H
        obtain ⟨c44, H⟩ := bif_some H
        refine W_drawM [LEq (.int .i64 x7_1), LEq (.bool (decide (24 ≤ x7_1))), LEq (.bool (decide (24 ≤ x7_1))), LIf (!(decide (24 ≤ x7_1))) (LEq (.agg #[(.int .i64 ((gt a0 x7_1).kind)), (S ((gt a0 x7_1).path)), (S ((gt a0 x7_1).body)), (.int .i64 ((gt a0 x7_1).mode))])), LIf (!(decide (24 ≤ x7_1))) (LEq (.bool (nodeOK (gt a0 x7_1)))), LIf (!(decide (24 ≤ x7_1))) (LEq (.bool (!(nodeOK (gt a0 x7_1))))), LEq (.bool (impl_TreeOK.e2 a0 x7_1)), LEq (.bool (impl_TreeOK.e2 a0 x7_1)), LIf (!(impl_TreeOK.e2 a0 x7_1)) (LEq (.int .i64 x7_1)), LIf (!(impl_TreeOK.e2 a0 x7_1)) (LEq (.bool (decide (0 < x7_1)))), LIf (!(impl_TreeOK.e2 a0 x7_1)) (LEq (.bool (decide (0 < x7_1)))), LIf (impl_TreeOK.e3 a0 x7_1) (LEq v_a0), LIf (impl_TreeOK.e3 a0 x7_1) (LEq (.int .i64 x7_1)), LIf (impl_TreeOK.e3 a0 x7_1) (LEq (.int .i64 (IntKind.wrap .i64 (x7_1 - 1)))), LIf (impl_TreeOK.e3 a0 x7_1) (LAt0 (encNd (gt a0 (IntKind.wrap .i64 (x7_1 - 1))))), LIf (impl_TreeOK.e3 a0 x7_1) (LAt 1 (encNd (gt a0 (IntKind.wrap .i64 (x7_1 - 1))))), LIf (impl_TreeOK.e3 a0 x7_1) (LEq (S ((gt a0 (IntKind.wrap .i64 (x7_1 - 1))).path))), LIf (impl_TreeOK.e3 a0 x7_1) (LEq (.pointer (some ⟨b22, 1, none⟩))), LIf (impl_TreeOK.e3 a0 x7_1) (LEq (S ((gt a0 x7_1).path))), LIf (impl_TreeOK.e3 a0 x7_1) (LEq (.bool (impl_TreeOK.e4 a0 x7_1))), LIf (impl_TreeOK.e3 a0 x7_1) (LEq (.bool (!(impl_TreeOK.e4 a0 x7_1)))), LIf (!(impl_TreeOK.e2 a0 x7_1)) (LEq (.bool ((decide (0 < x7_1)) && (!(impl_TreeOK.e4 a0 x7_1))))), LEq (.bool (impl_TreeOK.e1 a0 x7_1)), LEq (.bool (impl_TreeOK.e1 a0 x7_1)), LIf (!(impl_TreeOK.e1 a0 x7_1)) (LEq v_a0), LIf (!(impl_TreeOK.e1 a0 x7_1)) (LEq (.int .i64 x7_1)), LIf (!(impl_TreeOK.e1 a0 x7_1)) (LRd 4 encNd (sub a0 0 x7_1)), LIf (!(impl_TreeOK.e1 a0 x7_1)) (LEq (.pointer (some ⟨b22, 1, none⟩))), LIf (!(impl_TreeOK.e1 a0 x7_1)) (LEq (S ((gt a0 x7_1).path))), LIf (!(impl_TreeOK.e1 a0 x7_1)) (LEq (S (parentP ((gt a0 x7_1).path)))), LIf (!(impl_TreeOK.e1 a0 x7_1)) (LEq (.bool (isDirN (sub a0 0 x7_1) (parentP ((gt a0 x7_1).path))))), LIf (!(impl_TreeOK.e1 a0 x7_1)) (LEq (.bool (!(isDirN (sub a0 0 x7_1) (parentP ((gt a0 x7_1).path)))))), LEq (.bool ((impl_TreeOK.e1 a0 x7_1) || (!(isDirN (sub a0 0 x7_1) (parentP ((gt a0 x7_1).path))))))] (by kernel_rfl) (by kernel_rfl) ⟨LEq.mono, LEq.mono, LEq.mono, (LIf.mono LEq.mono), (LIf.mono LEq.mono), (LIf.mono LEq.mono), LEq.mono, LEq.mono, (LIf.mono LEq.mono), (LIf.mono LEq.mono), (LIf.mono LEq.mono), (LIf.mono LEq.mono), (LIf.mono LEq.mono), (LIf.mono LEq.mono), (LIf.mono LAt0.mono), (LIf.mono LAt.mono), (LIf.mono LEq.mono), (LIf.mono LEq.mono), (LIf.mono LEq.mono), (LIf.mono LEq.mono), (LIf.mono LEq.mono), (LIf.mono LEq.mono), LEq.mono, LEq.mono, (LIf.mono LEq.mono), (LIf.mono LEq.mono), (LIf.mono LRd.mono), (LIf.mono LEq.mono), (LIf.mono LEq.mono), (LIf.mono LEq.mono), (LIf.mono LEq.mono), (LIf.mono LEq.mono), LEq.mono, trivial⟩ ⟨?_, ?_, ?_, ?_, ?_, ?_, ?_, ?_, ?_, ?_, ?_, ?_, ?_, ?_, ?_, ?_, ?_, ?_, ?_, ?_, ?_, ?_, ?_, ?_, ?_, ?_, ?_, ?_, ?_, ?_, ?_, ?_, ?_, trivial⟩ ?_
        · intro s47 w48 e49 hf50 hd51 hu52
          exact L_op (.plain rfl) rfl (ltb rfl) (X_move (v := (.int .i64 x7_1)) (hf50 3 rfl)) <| L_nil <| stepEnd rfl rfl (Ext.refl w48) rfl
        · intro s53 w54 e55 hf56 hd57 hu58
          have d59 : s53 12 = (.int .i64 x7_1) := (hd57 0 rfl)
          exact L_op (.plain rfl) rfl (ltb rfl) (X_geq d59 rfl) <| L_nil <| stepEnd rfl rfl (Ext.refl w54) rfl
        · intro s60 w61 e62 hf63 hd64 hu65
          have d66 : s60 13 = (.bool (decide (24 ≤ x7_1))) := (hd64 1 rfl)
          exact L_op (.plain rfl) rfl (ltb rfl) (X_move (v := (.bool (decide (24 ≤ x7_1)))) d66) <| L_nil <| stepEnd rfl rfl (Ext.refl w61) rfl
        · intro s67 w68 e69 hf70 hd71 hu72
          rcases bool_two (!(decide (24 ≤ x7_1))) with b73 | b73
          · have g74 : (decide (24 ≤ x7_1)) = false := (not_f b73)
            have d75 : s67 14 = (.bool (decide (24 ≤ x7_1))) := (hd71 2 rfl)
            have d76 : s67 14 = (.bool (decide (24 ≤ x7_1))) := (hd71 2 rfl)
            exact L_op (.guard 2 false 14 rfl rfl (ltb rfl) (d75.trans (congrArg Value.bool g74))) rfl (ltb rfl) (X_loadS Tryd.isAgg40 Tryd.sizeOf40 rfl (hf70 4 rfl) (Blk.at0 (Blk.ext k30 e69))) <| L_nil <| stepEnd rfl rfl (Ext.refl w68) ⟨fun _ => rfl, fun h => absurd (b73.symm.trans h) (by decide)⟩
          · have d77 : s67 14 = (.bool (decide (24 ≤ x7_1))) := (hd71 2 rfl)
            have g78 : (decide (24 ≤ x7_1)) = true := (not_ff b73)
            exact L_skip rfl rfl (ltb rfl) (d77.trans (congrArg Value.bool g78)) rfl rfl (ltb rfl) <| L_nil <| stepEnd rfl rfl (Ext.refl w68) ⟨fun h => absurd (b73.symm.trans h) (by decide), fun _ => rfl⟩
        · intro s79 w80 e81 hf82 hd83 hu84
          rcases bool_two (!(decide (24 ≤ x7_1))) with b85 | b85
          · have g86 : (decide (24 ≤ x7_1)) = false := (not_f b85)
            have d87 : s79 14 = (.bool (decide (24 ≤ x7_1))) := (hd83 2 rfl)
            have d88 : s79 14 = (.bool (decide (24 ≤ x7_1))) := (hd83 2 rfl)
            have d89 : s79 15 = (.agg #[(.int .i64 ((gt a0 x7_1).kind)), (S ((gt a0 x7_1).path)), (S ((gt a0 x7_1).body)), (.int .i64 ((gt a0 x7_1).mode))]) := ((hd83 3 rfl).1 (not_mk (not_f b85)))
            exact L_callP (.guard 2 false 14 rfl rfl (ltb rfl) (d87.trans (congrArg Value.bool g86))) rfl (ltb rfl) rfl Tryd.call116 (impl_nodeOK.calls (w := w80) (a0 := (gt a0 x7_1)) (GV.ext gv (Ext.trans (Ext.trans e13 (Below.trans e26 (Wr.below h29 (Nat.le_of_eq z24)))) e81))) (cons2 d89 rfl) <| fun w90 e91 => L_nil <| stepEnd rfl rfl e91 ⟨fun _ => rfl, fun h => absurd (b85.symm.trans h) (by decide)⟩
          · have d92 : s79 14 = (.bool (decide (24 ≤ x7_1))) := (hd83 2 rfl)
            have g93 : (decide (24 ≤ x7_1)) = true := (not_ff b85)
            exact L_skip rfl rfl (ltb rfl) (d92.trans (congrArg Value.bool g93)) rfl rfl (ltb rfl) <| L_nil <| stepEnd rfl rfl (Ext.refl w80) ⟨fun h => absurd (b85.symm.trans h) (by decide), fun _ => rfl⟩
        · intro s94 w95 e96 hf97 hd98 hu99
          rcases bool_two (!(decide (24 ≤ x7_1))) with b100 | b100
          · have g101 : (decide (24 ≤ x7_1)) = false := (not_f b100)
            have d102 : s94 14 = (.bool (decide (24 ≤ x7_1))) := (hd98 2 rfl)
            have d103 : s94 14 = (.bool (decide (24 ≤ x7_1))) := (hd98 2 rfl)
            have d104 : s94 16 = (.bool (nodeOK (gt a0 x7_1))) := ((hd98 4 rfl).1 (not_mk (not_f b100)))
            exact L_op (.guard 2 false 14 rfl rfl (ltb rfl) (d102.trans (congrArg Value.bool g101))) rfl (ltb rfl) (X_not d104) <| L_nil <| stepEnd rfl rfl (Ext.refl w95) ⟨fun _ => rfl, fun h => absurd (b100.symm.trans h) (by decide)⟩
          · have d105 : s94 14 = (.bool (decide (24 ≤ x7_1))) := (hd98 2 rfl)
            have g106 : (decide (24 ≤ x7_1)) = true := (not_ff b100)
            exact L_skip rfl rfl (ltb rfl) (d105.trans (congrArg Value.bool g106)) rfl rfl (ltb rfl) <| L_nil <| stepEnd rfl rfl (Ext.refl w95) ⟨fun h => absurd (b100.symm.trans h) (by decide), fun _ => rfl⟩
        · intro s107 w108 e109 hf110 hd111 hu112
          rcases bool_two (decide (24 ≤ x7_1)) with b113 | b113
          · have d114 : s107 14 = (.bool (decide (24 ≤ x7_1))) := (hd111 2 rfl)
            exact L_op (.plain rfl) rfl (ltb rfl) (X_pick (b := true) (v := (.bool true)) (d114.trans (congrArg Value.bool b113)) rfl) <| L_nil <| stepEnd rfl rfl (Ext.refl w108) (or_t b113)
          · have d115 : s107 14 = (.bool (decide (24 ≤ x7_1))) := (hd111 2 rfl)
            have d116 : s107 17 = (.bool (!(nodeOK (gt a0 x7_1)))) := ((hd111 5 rfl).1 (not_mk b113))
            exact L_op (.plain rfl) rfl (ltb rfl) (X_pick (b := false) (v := (.bool (!(nodeOK (gt a0 x7_1))))) (d115.trans (congrArg Value.bool b113)) d116) <| L_nil <| stepEnd rfl rfl (Ext.refl w108) (or_f b113)
        · intro s117 w118 e119 hf120 hd121 hu122
          have d123 : s117 18 = (.bool (impl_TreeOK.e2 a0 x7_1)) := (hd121 6 rfl)
          exact L_op (.plain rfl) rfl (ltb rfl) (X_move (v := (.bool (impl_TreeOK.e2 a0 x7_1))) d123) <| L_nil <| stepEnd rfl rfl (Ext.refl w118) rfl
        · intro s124 w125 e126 hf127 hd128 hu129
          rcases bool_two (!(impl_TreeOK.e2 a0 x7_1)) with b130 | b130
          · have g131 : (impl_TreeOK.e2 a0 x7_1) = false := (not_f b130)
            have d132 : s124 19 = (.bool (impl_TreeOK.e2 a0 x7_1)) := (hd128 7 rfl)
            have d133 : s124 19 = (.bool (impl_TreeOK.e2 a0 x7_1)) := (hd128 7 rfl)
            exact L_op (.guard 7 false 19 rfl rfl (ltb rfl) (d132.trans (congrArg Value.bool g131))) rfl (ltb rfl) (X_move (v := (.int .i64 x7_1)) (hf127 3 rfl)) <| L_nil <| stepEnd rfl rfl (Ext.refl w125) ⟨fun _ => rfl, fun h => absurd (b130.symm.trans h) (by decide)⟩
          · have d134 : s124 19 = (.bool (impl_TreeOK.e2 a0 x7_1)) := (hd128 7 rfl)
            have g135 : (impl_TreeOK.e2 a0 x7_1) = true := (not_ff b130)
            exact L_skip rfl rfl (ltb rfl) (d134.trans (congrArg Value.bool g135)) rfl rfl (ltb rfl) <| L_nil <| stepEnd rfl rfl (Ext.refl w125) ⟨fun h => absurd (b130.symm.trans h) (by decide), fun _ => rfl⟩
        · intro s136 w137 e138 hf139 hd140 hu141
          rcases bool_two (!(impl_TreeOK.e2 a0 x7_1)) with b142 | b142
          · have g143 : (impl_TreeOK.e2 a0 x7_1) = false := (not_f b142)
            have d144 : s136 19 = (.bool (impl_TreeOK.e2 a0 x7_1)) := (hd140 7 rfl)
            have d145 : s136 19 = (.bool (impl_TreeOK.e2 a0 x7_1)) := (hd140 7 rfl)
            have d146 : s136 20 = (.int .i64 x7_1) := ((hd140 8 rfl).1 (not_mk (not_f b142)))
            exact L_op (.guard 7 false 19 rfl rfl (ltb rfl) (d144.trans (congrArg Value.bool g143))) rfl (ltb rfl) (X_gtr d146 rfl) <| L_nil <| stepEnd rfl rfl (Ext.refl w137) ⟨fun _ => rfl, fun h => absurd (b142.symm.trans h) (by decide)⟩
          · have d147 : s136 19 = (.bool (impl_TreeOK.e2 a0 x7_1)) := (hd140 7 rfl)
            have g148 : (impl_TreeOK.e2 a0 x7_1) = true := (not_ff b142)
            exact L_skip rfl rfl (ltb rfl) (d147.trans (congrArg Value.bool g148)) rfl rfl (ltb rfl) <| L_nil <| stepEnd rfl rfl (Ext.refl w137) ⟨fun h => absurd (b142.symm.trans h) (by decide), fun _ => rfl⟩
        · intro s149 w150 e151 hf152 hd153 hu154
          rcases bool_two (!(impl_TreeOK.e2 a0 x7_1)) with b155 | b155
          · have g156 : (impl_TreeOK.e2 a0 x7_1) = false := (not_f b155)
            have d157 : s149 19 = (.bool (impl_TreeOK.e2 a0 x7_1)) := (hd153 7 rfl)
            have d158 : s149 19 = (.bool (impl_TreeOK.e2 a0 x7_1)) := (hd153 7 rfl)
            have d159 : s149 21 = (.bool (decide (0 < x7_1))) := ((hd153 9 rfl).1 (not_mk (not_f b155)))
            exact L_op (.guard 7 false 19 rfl rfl (ltb rfl) (d157.trans (congrArg Value.bool g156))) rfl (ltb rfl) (X_move (v := (.bool (decide (0 < x7_1)))) d159) <| L_nil <| stepEnd rfl rfl (Ext.refl w150) ⟨fun _ => rfl, fun h => absurd (b155.symm.trans h) (by decide)⟩
          · have d160 : s149 19 = (.bool (impl_TreeOK.e2 a0 x7_1)) := (hd153 7 rfl)
            have g161 : (impl_TreeOK.e2 a0 x7_1) = true := (not_ff b155)
            exact L_skip rfl rfl (ltb rfl) (d160.trans (congrArg Value.bool g161)) rfl rfl (ltb rfl) <| L_nil <| stepEnd rfl rfl (Ext.refl w150) ⟨fun h => absurd (b155.symm.trans h) (by decide), fun _ => rfl⟩
        · intro s162 w163 e164 hf165 hd166 hu167
          rcases bool_two (impl_TreeOK.e3 a0 x7_1) with b168 | b168
          · have g169 : (decide (0 < x7_1)) = true := (and_r b168)
            have d170 : s162 22 = (.bool (decide (0 < x7_1))) := ((hd166 10 rfl).1 (not_mk (not_f (and_l b168))))
            have d171 : s162 22 = (.bool (decide (0 < x7_1))) := ((hd166 10 rfl).1 (not_mk (not_f (and_l b168))))
            exact L_op (.guard 10 true 22 rfl rfl (ltb rfl) (d170.trans (congrArg Value.bool g169))) rfl (ltb rfl) (X_move (v := v_a0) ((hf165 0 rfl).trans (K12 0 rfl))) <| L_nil <| stepEnd rfl rfl (Ext.refl w163) ⟨fun _ => rfl, fun h => absurd (b168.symm.trans h) (by decide)⟩
          · rcases bool_two (!(impl_TreeOK.e2 a0 x7_1)) with b172 | b172
            · have d173 : s162 22 = (.bool (decide (0 < x7_1))) := ((hd166 10 rfl).1 (not_mk (not_f b172)))
              have g174 : (decide (0 < x7_1)) = false := (and_fr b168 b172)
              exact L_skip rfl rfl (ltb rfl) (d173.trans (congrArg Value.bool g174)) rfl rfl (ltb rfl) <| L_nil <| stepEnd rfl rfl (Ext.refl w163) ⟨fun h => absurd (b168.symm.trans h) (by decide), fun _ => rfl⟩
            · exact L_skipU rfl rfl (ltb rfl) ((hd166 10 rfl).2 b172) rfl (ltb rfl) <| L_nil <| stepEnd rfl rfl (Ext.refl w163) ⟨fun h => absurd (b168.symm.trans h) (by decide), fun _ => rfl⟩
        · intro s175 w176 e177 hf178 hd179 hu180
          rcases bool_two (impl_TreeOK.e3 a0 x7_1) with b181 | b181
          · have g182 : (decide (0 < x7_1)) = true := (and_r b181)
            have d183 : s175 22 = (.bool (decide (0 < x7_1))) := ((hd179 10 rfl).1 (not_mk (not_f (and_l b181))))
            have d184 : s175 22 = (.bool (decide (0 < x7_1))) := ((hd179 10 rfl).1 (not_mk (not_f (and_l b181))))
            exact L_op (.guard 10 true 22 rfl rfl (ltb rfl) (d183.trans (congrArg Value.bool g182))) rfl (ltb rfl) (X_move (v := (.int .i64 x7_1)) (hf178 3 rfl)) <| L_nil <| stepEnd rfl rfl (Ext.refl w176) ⟨fun _ => rfl, fun h => absurd (b181.symm.trans h) (by decide)⟩
          · rcases bool_two (!(impl_TreeOK.e2 a0 x7_1)) with b185 | b185
            · have d186 : s175 22 = (.bool (decide (0 < x7_1))) := ((hd179 10 rfl).1 (not_mk (not_f b185)))
              have g187 : (decide (0 < x7_1)) = false := (and_fr b181 b185)
              exact L_skip rfl rfl (ltb rfl) (d186.trans (congrArg Value.bool g187)) rfl rfl (ltb rfl) <| L_nil <| stepEnd rfl rfl (Ext.refl w176) ⟨fun h => absurd (b181.symm.trans h) (by decide), fun _ => rfl⟩
            · exact L_skipU rfl rfl (ltb rfl) ((hd179 10 rfl).2 b185) rfl (ltb rfl) <| L_nil <| stepEnd rfl rfl (Ext.refl w176) ⟨fun h => absurd (b181.symm.trans h) (by decide), fun _ => rfl⟩
        · intro s188 w189 e190 hf191 hd192 hu193
          rcases bool_two (impl_TreeOK.e3 a0 x7_1) with b194 | b194
          · have g195 : (decide (0 < x7_1)) = true := (and_r b194)
            have d196 : s188 22 = (.bool (decide (0 < x7_1))) := ((hd192 10 rfl).1 (not_mk (not_f (and_l b194))))
            have d197 : s188 22 = (.bool (decide (0 < x7_1))) := ((hd192 10 rfl).1 (not_mk (not_f (and_l b194))))
            have d198 : s188 24 = (.int .i64 x7_1) := ((hd192 12 rfl).1 (and_mk (not_mk (not_f (and_l b194))) (and_r b194)))
            exact L_op (.guard 10 true 22 rfl rfl (ltb rfl) (d196.trans (congrArg Value.bool g195))) rfl (ltb rfl) (X_sub d198 rfl) <| L_nil <| stepEnd rfl rfl (Ext.refl w189) ⟨fun _ => rfl, fun h => absurd (b194.symm.trans h) (by decide)⟩
          · rcases bool_two (!(impl_TreeOK.e2 a0 x7_1)) with b199 | b199
            · have d200 : s188 22 = (.bool (decide (0 < x7_1))) := ((hd192 10 rfl).1 (not_mk (not_f b199)))
              have g201 : (decide (0 < x7_1)) = false := (and_fr b194 b199)
              exact L_skip rfl rfl (ltb rfl) (d200.trans (congrArg Value.bool g201)) rfl rfl (ltb rfl) <| L_nil <| stepEnd rfl rfl (Ext.refl w189) ⟨fun h => absurd (b194.symm.trans h) (by decide), fun _ => rfl⟩
            · exact L_skipU rfl rfl (ltb rfl) ((hd192 10 rfl).2 b199) rfl (ltb rfl) <| L_nil <| stepEnd rfl rfl (Ext.refl w189) ⟨fun h => absurd (b194.symm.trans h) (by decide), fun _ => rfl⟩
        · intro s202 w203 e204 hf205 hd206 hu207
          rcases bool_two (impl_TreeOK.e3 a0 x7_1) with b208 | b208
          · have g209 : (decide (0 < x7_1)) = true := (and_r b208)
            have d210 : s202 22 = (.bool (decide (0 < x7_1))) := ((hd206 10 rfl).1 (not_mk (not_f (and_l b208))))
            have d211 : s202 22 = (.bool (decide (0 < x7_1))) := ((hd206 10 rfl).1 (not_mk (not_f (and_l b208))))
            have d212 : s202 23 = v_a0 := ((hd206 11 rfl).1 (and_mk (not_mk (not_f (and_l b208))) (and_r b208)))
            have d213 : s202 25 = (.int .i64 (IntKind.wrap .i64 (x7_1 - 1))) := ((hd206 13 rfl).1 (and_mk (not_mk (not_f (and_l b208))) (and_r b208)))
            have c214 := imp_take b208 c33
            exact L_idx (.guard 10 true 22 rfl rfl (ltb rfl) (d210.trans (congrArg Value.bool g209))) rfl (ltb rfl) rfl Tryd.underlying43 Tryd.sizeOf40 d212 (Rd.ext f_a0 (Ext.trans (Ext.trans e13 (Below.trans e26 (Wr.below h29 (Nat.le_of_eq z24)))) e204)) d213 c214 <| fun p215 h216 => L_nil <| stepEnd rfl rfl (Ext.refl w203) ⟨fun _ => ⟨_, rfl, h216⟩, fun h => absurd (b208.symm.trans h) (by decide)⟩
          · rcases bool_two (!(impl_TreeOK.e2 a0 x7_1)) with b217 | b217
            · have d218 : s202 22 = (.bool (decide (0 < x7_1))) := ((hd206 10 rfl).1 (not_mk (not_f b217)))
              have g219 : (decide (0 < x7_1)) = false := (and_fr b208 b217)
              exact L_skip rfl rfl (ltb rfl) (d218.trans (congrArg Value.bool g219)) rfl rfl (ltb rfl) <| L_nil <| stepEnd rfl rfl (Ext.refl w203) ⟨fun h => absurd (b208.symm.trans h) (by decide), fun _ => rfl⟩
            · exact L_skipU rfl rfl (ltb rfl) ((hd206 10 rfl).2 b217) rfl (ltb rfl) <| L_nil <| stepEnd rfl rfl (Ext.refl w203) ⟨fun h => absurd (b208.symm.trans h) (by decide), fun _ => rfl⟩
        · intro s220 w221 e222 hf223 hd224 hu225
          rcases bool_two (impl_TreeOK.e3 a0 x7_1) with b226 | b226
          · have g227 : (decide (0 < x7_1)) = true := (and_r b226)
            have d228 : s220 22 = (.bool (decide (0 < x7_1))) := ((hd224 10 rfl).1 (not_mk (not_f (and_l b226))))
            have d229 : s220 22 = (.bool (decide (0 < x7_1))) := ((hd224 10 rfl).1 (not_mk (not_f (and_l b226))))
            obtain ⟨p230, h231, h232⟩ := ((hd224 14 rfl).1 (and_mk (not_mk (not_f (and_l b226))) (and_r b226)))
            exact L_op (.guard 10 true 22 rfl rfl (ltb rfl) (d228.trans (congrArg Value.bool g227))) rfl (ltb rfl) (X_fieldAddr Tryd.underlying40 rfl Tryd.sizeOf9 rfl h231) <| L_nil <| stepEnd rfl rfl (Ext.refl w221) ⟨fun _ => ⟨_, rfl, h232⟩, fun h => absurd (b226.symm.trans h) (by decide)⟩
          · rcases bool_two (!(impl_TreeOK.e2 a0 x7_1)) with b233 | b233
            · have d234 : s220 22 = (.bool (decide (0 < x7_1))) := ((hd224 10 rfl).1 (not_mk (not_f b233)))
              have g235 : (decide (0 < x7_1)) = false := (and_fr b226 b233)
              exact L_skip rfl rfl (ltb rfl) (d234.trans (congrArg Value.bool g235)) rfl rfl (ltb rfl) <| L_nil <| stepEnd rfl rfl (Ext.refl w221) ⟨fun h => absurd (b226.symm.trans h) (by decide), fun _ => rfl⟩
            · exact L_skipU rfl rfl (ltb rfl) ((hd224 10 rfl).2 b233) rfl (ltb rfl) <| L_nil <| stepEnd rfl rfl (Ext.refl w221) ⟨fun h => absurd (b226.symm.trans h) (by decide), fun _ => rfl⟩
        · intro s236 w237 e238 hf239 hd240 hu241
          rcases bool_two (impl_TreeOK.e3 a0 x7_1) with b242 | b242
          · have g243 : (decide (0 < x7_1)) = true := (and_r b242)
            have d244 : s236 22 = (.bool (decide (0 < x7_1))) := ((hd240 10 rfl).1 (not_mk (not_f (and_l b242))))
            have d245 : s236 22 = (.bool (decide (0 < x7_1))) := ((hd240 10 rfl).1 (not_mk (not_f (and_l b242))))
            obtain ⟨p246, h247, h248⟩ := ((hd240 15 rfl).1 (and_mk (not_mk (not_f (and_l b242))) (and_r b242)))
            exact L_op (.guard 10 true 22 rfl rfl (ltb rfl) (d244.trans (congrArg Value.bool g243))) rfl (ltb rfl) (X_loadF Tryd.isAgg9 (j := 1) h248 h247 rfl) <| L_nil <| stepEnd rfl rfl (Ext.refl w237) ⟨fun _ => rfl, fun h => absurd (b242.symm.trans h) (by decide)⟩
          · rcases bool_two (!(impl_TreeOK.e2 a0 x7_1)) with b249 | b249
            · have d250 : s236 22 = (.bool (decide (0 < x7_1))) := ((hd240 10 rfl).1 (not_mk (not_f b249)))
              have g251 : (decide (0 < x7_1)) = false := (and_fr b242 b249)
              exact L_skip rfl rfl (ltb rfl) (d250.trans (congrArg Value.bool g251)) rfl rfl (ltb rfl) <| L_nil <| stepEnd rfl rfl (Ext.refl w237) ⟨fun h => absurd (b242.symm.trans h) (by decide), fun _ => rfl⟩
            · exact L_skipU rfl rfl (ltb rfl) ((hd240 10 rfl).2 b249) rfl (ltb rfl) <| L_nil <| stepEnd rfl rfl (Ext.refl w237) ⟨fun h => absurd (b242.symm.trans h) (by decide), fun _ => rfl⟩
        · intro s252 w253 e254 hf255 hd256 hu257
          rcases bool_two (impl_TreeOK.e3 a0 x7_1) with b258 | b258
          · have g259 : (decide (0 < x7_1)) = true := (and_r b258)
            have d260 : s252 22 = (.bool (decide (0 < x7_1))) := ((hd256 10 rfl).1 (not_mk (not_f (and_l b258))))
            have d261 : s252 22 = (.bool (decide (0 < x7_1))) := ((hd256 10 rfl).1 (not_mk (not_f (and_l b258))))
            exact L_op (.guard 10 true 22 rfl rfl (ltb rfl) (d260.trans (congrArg Value.bool g259))) rfl (ltb rfl) (X_fieldAddr Tryd.underlying40 rfl Tryd.sizeOf9 rfl (hf255 4 rfl)) <| L_nil <| stepEnd rfl rfl (Ext.refl w253) ⟨fun _ => rfl, fun h => absurd (b258.symm.trans h) (by decide)⟩
          · rcases bool_two (!(impl_TreeOK.e2 a0 x7_1)) with b262 | b262
            · have d263 : s252 22 = (.bool (decide (0 < x7_1))) := ((hd256 10 rfl).1 (not_mk (not_f b262)))
              have g264 : (decide (0 < x7_1)) = false := (and_fr b258 b262)
              exact L_skip rfl rfl (ltb rfl) (d263.trans (congrArg Value.bool g264)) rfl rfl (ltb rfl) <| L_nil <| stepEnd rfl rfl (Ext.refl w253) ⟨fun h => absurd (b258.symm.trans h) (by decide), fun _ => rfl⟩
            · exact L_skipU rfl rfl (ltb rfl) ((hd256 10 rfl).2 b262) rfl (ltb rfl) <| L_nil <| stepEnd rfl rfl (Ext.refl w253) ⟨fun h => absurd (b258.symm.trans h) (by decide), fun _ => rfl⟩
        · intro s265 w266 e267 hf268 hd269 hu270
          rcases bool_two (impl_TreeOK.e3 a0 x7_1) with b271 | b271
          · have g272 : (decide (0 < x7_1)) = true := (and_r b271)
            have d273 : s265 22 = (.bool (decide (0 < x7_1))) := ((hd269 10 rfl).1 (not_mk (not_f (and_l b271))))
            have d274 : s265 22 = (.bool (decide (0 < x7_1))) := ((hd269 10 rfl).1 (not_mk (not_f (and_l b271))))
            have d275 : s265 29 = (.pointer (some ⟨b22, 1, none⟩)) := ((hd269 17 rfl).1 (and_mk (not_mk (not_f (and_l b271))) (and_r b271)))
            exact L_op (.guard 10 true 22 rfl rfl (ltb rfl) (d273.trans (congrArg Value.bool g272))) rfl (ltb rfl) (X_loadB Tryd.isAgg9 (Blk.ext k30 e267) d275 rfl) <| L_nil <| stepEnd rfl rfl (Ext.refl w266) ⟨fun _ => rfl, fun h => absurd (b271.symm.trans h) (by decide)⟩
          · rcases bool_two (!(impl_TreeOK.e2 a0 x7_1)) with b276 | b276
            · have d277 : s265 22 = (.bool (decide (0 < x7_1))) := ((hd269 10 rfl).1 (not_mk (not_f b276)))
              have g278 : (decide (0 < x7_1)) = false := (and_fr b271 b276)
              exact L_skip rfl rfl (ltb rfl) (d277.trans (congrArg Value.bool g278)) rfl rfl (ltb rfl) <| L_nil <| stepEnd rfl rfl (Ext.refl w266) ⟨fun h => absurd (b271.symm.trans h) (by decide), fun _ => rfl⟩
            · exact L_skipU rfl rfl (ltb rfl) ((hd269 10 rfl).2 b276) rfl (ltb rfl) <| L_nil <| stepEnd rfl rfl (Ext.refl w266) ⟨fun h => absurd (b271.symm.trans h) (by decide), fun _ => rfl⟩
        · intro s279 w280 e281 hf282 hd283 hu284
          rcases bool_two (impl_TreeOK.e3 a0 x7_1) with b285 | b285
          · have g286 : (decide (0 < x7_1)) = true := (and_r b285)
            have d287 : s279 22 = (.bool (decide (0 < x7_1))) := ((hd283 10 rfl).1 (not_mk (not_f (and_l b285))))
            have d288 : s279 22 = (.bool (decide (0 < x7_1))) := ((hd283 10 rfl).1 (not_mk (not_f (and_l b285))))
            have d289 : s279 28 = (S ((gt a0 (IntKind.wrap .i64 (x7_1 - 1))).path)) := ((hd283 16 rfl).1 (and_mk (not_mk (not_f (and_l b285))) (and_r b285)))
            have d290 : s279 30 = (S ((gt a0 x7_1).path)) := ((hd283 18 rfl).1 (and_mk (not_mk (not_f (and_l b285))) (and_r b285)))
            exact L_callP (.guard 10 true 22 rfl rfl (ltb rfl) (d287.trans (congrArg Value.bool g286))) rfl (ltb rfl) rfl Tryd.call117 (impl_PathLess.calls (w := w280) (a0 := (gt a0 (IntKind.wrap .i64 (x7_1 - 1))).path) (a1 := (gt a0 x7_1).path) (GV.ext gv (Ext.trans (Ext.trans e13 (Below.trans e26 (Wr.below h29 (Nat.le_of_eq z24)))) e281))) (cons2 d289 (cons2 d290 rfl)) <| fun w291 e292 => L_nil <| stepEnd rfl rfl e292 ⟨fun _ => rfl, fun h => absurd (b285.symm.trans h) (by decide)⟩
          · rcases bool_two (!(impl_TreeOK.e2 a0 x7_1)) with b293 | b293
            · have d294 : s279 22 = (.bool (decide (0 < x7_1))) := ((hd283 10 rfl).1 (not_mk (not_f b293)))
              have g295 : (decide (0 < x7_1)) = false := (and_fr b285 b293)
              exact L_skip rfl rfl (ltb rfl) (d294.trans (congrArg Value.bool g295)) rfl rfl (ltb rfl) <| L_nil <| stepEnd rfl rfl (Ext.refl w280) ⟨fun h => absurd (b285.symm.trans h) (by decide), fun _ => rfl⟩
            · exact L_skipU rfl rfl (ltb rfl) ((hd283 10 rfl).2 b293) rfl (ltb rfl) <| L_nil <| stepEnd rfl rfl (Ext.refl w280) ⟨fun h => absurd (b285.symm.trans h) (by decide), fun _ => rfl⟩
        · intro s296 w297 e298 hf299 hd300 hu301
          rcases bool_two (impl_TreeOK.e3 a0 x7_1) with b302 | b302
          · have g303 : (decide (0 < x7_1)) = true := (and_r b302)
            have d304 : s296 22 = (.bool (decide (0 < x7_1))) := ((hd300 10 rfl).1 (not_mk (not_f (and_l b302))))
            have d305 : s296 22 = (.bool (decide (0 < x7_1))) := ((hd300 10 rfl).1 (not_mk (not_f (and_l b302))))
            have d306 : s296 31 = (.bool (impl_TreeOK.e4 a0 x7_1)) := ((hd300 19 rfl).1 (and_mk (not_mk (not_f (and_l b302))) (and_r b302)))
            exact L_op (.guard 10 true 22 rfl rfl (ltb rfl) (d304.trans (congrArg Value.bool g303))) rfl (ltb rfl) (X_not d306) <| L_nil <| stepEnd rfl rfl (Ext.refl w297) ⟨fun _ => rfl, fun h => absurd (b302.symm.trans h) (by decide)⟩
          · rcases bool_two (!(impl_TreeOK.e2 a0 x7_1)) with b307 | b307
            · have d308 : s296 22 = (.bool (decide (0 < x7_1))) := ((hd300 10 rfl).1 (not_mk (not_f b307)))
              have g309 : (decide (0 < x7_1)) = false := (and_fr b302 b307)
              exact L_skip rfl rfl (ltb rfl) (d308.trans (congrArg Value.bool g309)) rfl rfl (ltb rfl) <| L_nil <| stepEnd rfl rfl (Ext.refl w297) ⟨fun h => absurd (b302.symm.trans h) (by decide), fun _ => rfl⟩
            · exact L_skipU rfl rfl (ltb rfl) ((hd300 10 rfl).2 b307) rfl (ltb rfl) <| L_nil <| stepEnd rfl rfl (Ext.refl w297) ⟨fun h => absurd (b302.symm.trans h) (by decide), fun _ => rfl⟩
        · intro s310 w311 e312 hf313 hd314 hu315
          rcases bool_two (!(impl_TreeOK.e2 a0 x7_1)) with b316 | b316
          · have g317 : (impl_TreeOK.e2 a0 x7_1) = false := (not_f b316)
            have d318 : s310 19 = (.bool (impl_TreeOK.e2 a0 x7_1)) := (hd314 7 rfl)
            rcases bool_two (decide (0 < x7_1)) with b319 | b319
            · have d320 : s310 22 = (.bool (decide (0 < x7_1))) := ((hd314 10 rfl).1 (not_mk (not_f b316)))
              have d321 : s310 32 = (.bool (!(impl_TreeOK.e4 a0 x7_1))) := ((hd314 20 rfl).1 (and_mk (not_mk (not_f b316)) b319))
              exact L_op (.guard 7 false 19 rfl rfl (ltb rfl) (d318.trans (congrArg Value.bool g317))) rfl (ltb rfl) (X_pick (b := true) (v := (.bool (!(impl_TreeOK.e4 a0 x7_1)))) (d320.trans (congrArg Value.bool b319)) d321) <| L_nil <| stepEnd rfl rfl (Ext.refl w311) ⟨fun _ => (and_t b319), fun h => absurd (b316.symm.trans h) (by decide)⟩
            · have d322 : s310 22 = (.bool (decide (0 < x7_1))) := ((hd314 10 rfl).1 (not_mk (not_f b316)))
              exact L_op (.guard 7 false 19 rfl rfl (ltb rfl) (d318.trans (congrArg Value.bool g317))) rfl (ltb rfl) (X_pick (b := false) (v := (.bool false)) (d322.trans (congrArg Value.bool b319)) rfl) <| L_nil <| stepEnd rfl rfl (Ext.refl w311) ⟨fun _ => (and_f b319), fun h => absurd (b316.symm.trans h) (by decide)⟩
          · have d323 : s310 19 = (.bool (impl_TreeOK.e2 a0 x7_1)) := (hd314 7 rfl)
            have g324 : (impl_TreeOK.e2 a0 x7_1) = true := (not_ff b316)
            exact L_skip rfl rfl (ltb rfl) (d323.trans (congrArg Value.bool g324)) rfl rfl (ltb rfl) <| L_nil <| stepEnd rfl rfl (Ext.refl w311) ⟨fun h => absurd (b316.symm.trans h) (by decide), fun _ => rfl⟩
        · intro s325 w326 e327 hf328 hd329 hu330
          rcases bool_two (impl_TreeOK.e2 a0 x7_1) with b331 | b331
          · have d332 : s325 19 = (.bool (impl_TreeOK.e2 a0 x7_1)) := (hd329 7 rfl)
            exact L_op (.plain rfl) rfl (ltb rfl) (X_pick (b := true) (v := (.bool true)) (d332.trans (congrArg Value.bool b331)) rfl) <| L_nil <| stepEnd rfl rfl (Ext.refl w326) (or_t b331)
          · have d333 : s325 19 = (.bool (impl_TreeOK.e2 a0 x7_1)) := (hd329 7 rfl)
            have d334 : s325 33 = (.bool ((decide (0 < x7_1)) && (!(impl_TreeOK.e4 a0 x7_1)))) := ((hd329 21 rfl).1 (not_mk b331))
            exact L_op (.plain rfl) rfl (ltb rfl) (X_pick (b := false) (v := (.bool ((decide (0 < x7_1)) && (!(impl_TreeOK.e4 a0 x7_1))))) (d333.trans (congrArg Value.bool b331)) d334) <| L_nil <| stepEnd rfl rfl (Ext.refl w326) (or_f b331)
        · intro s335 w336 e337 hf338 hd339 hu340
          have d341 : s335 34 = (.bool (impl_TreeOK.e1 a0 x7_1)) := (hd339 22 rfl)
          exact L_op (.plain rfl) rfl (ltb rfl) (X_move d341) <| L_nil <| stepEnd rfl rfl (Ext.refl w336) rfl
        · intro s342 w343 e344 hf345 hd346 hu347
          rcases bool_two (!(impl_TreeOK.e1 a0 x7_1)) with b348 | b348
          · have g349 : (impl_TreeOK.e1 a0 x7_1) = false := (not_f b348)
            have d350 : s342 35 = (.bool (impl_TreeOK.e1 a0 x7_1)) := (hd346 23 rfl)
            have d351 : s342 35 = (.bool (impl_TreeOK.e1 a0 x7_1)) := (hd346 23 rfl)
            exact L_op (.guard 23 false 35 rfl rfl (ltb rfl) (d350.trans (congrArg Value.bool g349))) rfl (ltb rfl) (X_move (v := v_a0) ((hf345 0 rfl).trans (K12 0 rfl))) <| L_nil <| stepEnd rfl rfl (Ext.refl w343) ⟨fun _ => rfl, fun h => absurd (b348.symm.trans h) (by decide)⟩
          · have d352 : s342 35 = (.bool (impl_TreeOK.e1 a0 x7_1)) := (hd346 23 rfl)
            have g353 : (impl_TreeOK.e1 a0 x7_1) = true := (not_ff b348)
            exact L_skip rfl rfl (ltb rfl) (d352.trans (congrArg Value.bool g353)) rfl rfl (ltb rfl) <| L_nil <| stepEnd rfl rfl (Ext.refl w343) ⟨fun h => absurd (b348.symm.trans h) (by decide), fun _ => rfl⟩
        · intro s354 w355 e356 hf357 hd358 hu359
          rcases bool_two (!(impl_TreeOK.e1 a0 x7_1)) with b360 | b360
          · have g361 : (impl_TreeOK.e1 a0 x7_1) = false := (not_f b360)
            have d362 : s354 35 = (.bool (impl_TreeOK.e1 a0 x7_1)) := (hd358 23 rfl)
            have d363 : s354 35 = (.bool (impl_TreeOK.e1 a0 x7_1)) := (hd358 23 rfl)
            exact L_op (.guard 23 false 35 rfl rfl (ltb rfl) (d362.trans (congrArg Value.bool g361))) rfl (ltb rfl) (X_move (v := (.int .i64 x7_1)) (hf357 3 rfl)) <| L_nil <| stepEnd rfl rfl (Ext.refl w355) ⟨fun _ => rfl, fun h => absurd (b360.symm.trans h) (by decide)⟩
          · have d364 : s354 35 = (.bool (impl_TreeOK.e1 a0 x7_1)) := (hd358 23 rfl)
            have g365 : (impl_TreeOK.e1 a0 x7_1) = true := (not_ff b360)
            exact L_skip rfl rfl (ltb rfl) (d364.trans (congrArg Value.bool g365)) rfl rfl (ltb rfl) <| L_nil <| stepEnd rfl rfl (Ext.refl w355) ⟨fun h => absurd (b360.symm.trans h) (by decide), fun _ => rfl⟩
        · intro s366 w367 e368 hf369 hd370 hu371
          rcases bool_two (!(impl_TreeOK.e1 a0 x7_1)) with b372 | b372
          · have g373 : (impl_TreeOK.e1 a0 x7_1) = false := (not_f b372)
            have d374 : s366 35 = (.bool (impl_TreeOK.e1 a0 x7_1)) := (hd370 23 rfl)
            have d375 : s366 35 = (.bool (impl_TreeOK.e1 a0 x7_1)) := (hd370 23 rfl)
            have d376 : s366 36 = v_a0 := ((hd370 24 rfl).1 (not_mk (not_f b372)))
            have d377 : s366 37 = (.int .i64 x7_1) := ((hd370 25 rfl).1 (not_mk (not_f b372)))
            have c378 := imp_take b372 c38
            exact L_sub (.guard 23 false 35 rfl rfl (ltb rfl) (d374.trans (congrArg Value.bool g373))) rfl (ltb rfl) rfl Tryd.underlying43 Tryd.sizeOf40 d376 (Rd.ext f_a0 (Ext.trans (Ext.trans e13 (Below.trans e26 (Wr.below h29 (Nat.le_of_eq z24)))) e368)) (l := 0) (h := x7_1) rfl ⟨_, d377⟩ c378 <| fun v379 h380 => L_nil <| stepEnd rfl rfl (Ext.refl w367) ⟨fun _ => h380, fun h => absurd (b372.symm.trans h) (by decide)⟩
          · have d381 : s366 35 = (.bool (impl_TreeOK.e1 a0 x7_1)) := (hd370 23 rfl)
            have g382 : (impl_TreeOK.e1 a0 x7_1) = true := (not_ff b372)
            exact L_skip rfl rfl (ltb rfl) (d381.trans (congrArg Value.bool g382)) rfl rfl (ltb rfl) <| L_nil <| stepEnd rfl rfl (Ext.refl w367) ⟨fun h => absurd (b372.symm.trans h) (by decide), fun _ => rfl⟩
        · intro s383 w384 e385 hf386 hd387 hu388
          rcases bool_two (!(impl_TreeOK.e1 a0 x7_1)) with b389 | b389
          · have g390 : (impl_TreeOK.e1 a0 x7_1) = false := (not_f b389)
            have d391 : s383 35 = (.bool (impl_TreeOK.e1 a0 x7_1)) := (hd387 23 rfl)
            have d392 : s383 35 = (.bool (impl_TreeOK.e1 a0 x7_1)) := (hd387 23 rfl)
            exact L_op (.guard 23 false 35 rfl rfl (ltb rfl) (d391.trans (congrArg Value.bool g390))) rfl (ltb rfl) (X_fieldAddr Tryd.underlying40 rfl Tryd.sizeOf9 rfl (hf386 4 rfl)) <| L_nil <| stepEnd rfl rfl (Ext.refl w384) ⟨fun _ => rfl, fun h => absurd (b389.symm.trans h) (by decide)⟩
          · have d393 : s383 35 = (.bool (impl_TreeOK.e1 a0 x7_1)) := (hd387 23 rfl)
            have g394 : (impl_TreeOK.e1 a0 x7_1) = true := (not_ff b389)
            exact L_skip rfl rfl (ltb rfl) (d393.trans (congrArg Value.bool g394)) rfl rfl (ltb rfl) <| L_nil <| stepEnd rfl rfl (Ext.refl w384) ⟨fun h => absurd (b389.symm.trans h) (by decide), fun _ => rfl⟩
        · intro s395 w396 e397 hf398 hd399 hu400
          rcases bool_two (!(impl_TreeOK.e1 a0 x7_1)) with b401 | b401
          · have g402 : (impl_TreeOK.e1 a0 x7_1) = false := (not_f b401)
            have d403 : s395 35 = (.bool (impl_TreeOK.e1 a0 x7_1)) := (hd399 23 rfl)
            have d404 : s395 35 = (.bool (impl_TreeOK.e1 a0 x7_1)) := (hd399 23 rfl)
            have d405 : s395 39 = (.pointer (some ⟨b22, 1, none⟩)) := ((hd399 27 rfl).1 (not_mk (not_f b401)))
            exact L_op (.guard 23 false 35 rfl rfl (ltb rfl) (d403.trans (congrArg Value.bool g402))) rfl (ltb rfl) (X_loadB Tryd.isAgg9 (Blk.ext k30 e397) d405 rfl) <| L_nil <| stepEnd rfl rfl (Ext.refl w396) ⟨fun _ => rfl, fun h => absurd (b401.symm.trans h) (by decide)⟩
          · have d406 : s395 35 = (.bool (impl_TreeOK.e1 a0 x7_1)) := (hd399 23 rfl)
            have g407 : (impl_TreeOK.e1 a0 x7_1) = true := (not_ff b401)
            exact L_skip rfl rfl (ltb rfl) (d406.trans (congrArg Value.bool g407)) rfl rfl (ltb rfl) <| L_nil <| stepEnd rfl rfl (Ext.refl w396) ⟨fun h => absurd (b401.symm.trans h) (by decide), fun _ => rfl⟩
        · intro s408 w409 e410 hf411 hd412 hu413
          rcases bool_two (!(impl_TreeOK.e1 a0 x7_1)) with b414 | b414
          · have g415 : (impl_TreeOK.e1 a0 x7_1) = false := (not_f b414)
            have d416 : s408 35 = (.bool (impl_TreeOK.e1 a0 x7_1)) := (hd412 23 rfl)
            have d417 : s408 35 = (.bool (impl_TreeOK.e1 a0 x7_1)) := (hd412 23 rfl)
            have d418 : s408 40 = (S ((gt a0 x7_1).path)) := ((hd412 28 rfl).1 (not_mk (not_f b414)))
            have c419 := imp_take b414 c41
            exact L_callP (.guard 23 false 35 rfl rfl (ltb rfl) (d416.trans (congrArg Value.bool g415))) rfl (ltb rfl) rfl Tryd.call93 (impl_parent.calls (w := w409) (a0 := (gt a0 x7_1).path) (of_decide_eq_true c419)) (cons2 d418 rfl) <| fun w420 e421 => L_nil <| stepEnd rfl rfl e421 ⟨fun _ => rfl, fun h => absurd (b414.symm.trans h) (by decide)⟩
          · have d422 : s408 35 = (.bool (impl_TreeOK.e1 a0 x7_1)) := (hd412 23 rfl)
            have g423 : (impl_TreeOK.e1 a0 x7_1) = true := (not_ff b414)
            exact L_skip rfl rfl (ltb rfl) (d422.trans (congrArg Value.bool g423)) rfl rfl (ltb rfl) <| L_nil <| stepEnd rfl rfl (Ext.refl w409) ⟨fun h => absurd (b414.symm.trans h) (by decide), fun _ => rfl⟩
        · intro s424 w425 e426 hf427 hd428 hu429
          rcases bool_two (!(impl_TreeOK.e1 a0 x7_1)) with b430 | b430
          · have g431 : (impl_TreeOK.e1 a0 x7_1) = false := (not_f b430)
            have d432 : s424 35 = (.bool (impl_TreeOK.e1 a0 x7_1)) := (hd428 23 rfl)
            have d433 : s424 35 = (.bool (impl_TreeOK.e1 a0 x7_1)) := (hd428 23 rfl)
            have d434 : Rd 4 encNd w425 (s424 38) (sub a0 0 x7_1) := ((hd428 26 rfl).1 (not_mk (not_f b430)))
            have d435 : s424 41 = (S (parentP ((gt a0 x7_1).path))) := ((hd428 29 rfl).1 (not_mk (not_f b430)))
            have c436 := imp_take b430 c44
            exact L_callP (.guard 23 false 35 rfl rfl (ltb rfl) (d432.trans (congrArg Value.bool g431))) rfl (ltb rfl) rfl Tryd.call118 (impl_isDir.calls (w := w425) (a0 := sub a0 0 x7_1) (a1 := (parentP ((gt a0 x7_1).path))) d434 (of_decide_eq_true c436)) (cons2 rfl (cons2 d435 rfl)) <| fun w437 e438 => L_nil <| stepEnd rfl rfl e438 ⟨fun _ => rfl, fun h => absurd (b430.symm.trans h) (by decide)⟩
          · have d439 : s424 35 = (.bool (impl_TreeOK.e1 a0 x7_1)) := (hd428 23 rfl)
            have g440 : (impl_TreeOK.e1 a0 x7_1) = true := (not_ff b430)
            exact L_skip rfl rfl (ltb rfl) (d439.trans (congrArg Value.bool g440)) rfl rfl (ltb rfl) <| L_nil <| stepEnd rfl rfl (Ext.refl w425) ⟨fun h => absurd (b430.symm.trans h) (by decide), fun _ => rfl⟩
        · intro s441 w442 e443 hf444 hd445 hu446
          rcases bool_two (!(impl_TreeOK.e1 a0 x7_1)) with b447 | b447
          · have g448 : (impl_TreeOK.e1 a0 x7_1) = false := (not_f b447)
            have d449 : s441 35 = (.bool (impl_TreeOK.e1 a0 x7_1)) := (hd445 23 rfl)
            have d450 : s441 35 = (.bool (impl_TreeOK.e1 a0 x7_1)) := (hd445 23 rfl)
            have d451 : s441 42 = (.bool (isDirN (sub a0 0 x7_1) (parentP ((gt a0 x7_1).path)))) := ((hd445 30 rfl).1 (not_mk (not_f b447)))
            exact L_op (.guard 23 false 35 rfl rfl (ltb rfl) (d449.trans (congrArg Value.bool g448))) rfl (ltb rfl) (X_not d451) <| L_nil <| stepEnd rfl rfl (Ext.refl w442) ⟨fun _ => rfl, fun h => absurd (b447.symm.trans h) (by decide)⟩
          · have d452 : s441 35 = (.bool (impl_TreeOK.e1 a0 x7_1)) := (hd445 23 rfl)
            have g453 : (impl_TreeOK.e1 a0 x7_1) = true := (not_ff b447)
            exact L_skip rfl rfl (ltb rfl) (d452.trans (congrArg Value.bool g453)) rfl rfl (ltb rfl) <| L_nil <| stepEnd rfl rfl (Ext.refl w442) ⟨fun h => absurd (b447.symm.trans h) (by decide), fun _ => rfl⟩
        · intro s454 w455 e456 hf457 hd458 hu459
          rcases bool_two (impl_TreeOK.e1 a0 x7_1) with b460 | b460
          · have d461 : s454 35 = (.bool (impl_TreeOK.e1 a0 x7_1)) := (hd458 23 rfl)
            exact L_op (.plain rfl) rfl (ltb rfl) (X_pick (b := true) (v := (.bool true)) (d461.trans (congrArg Value.bool b460)) rfl) <| L_nil <| stepEnd rfl rfl (Ext.refl w455) (or_t b460)
          · have d462 : s454 35 = (.bool (impl_TreeOK.e1 a0 x7_1)) := (hd458 23 rfl)
            have d463 : s454 43 = (.bool (!(isDirN (sub a0 0 x7_1) (parentP ((gt a0 x7_1).path))))) := ((hd458 31 rfl).1 (not_mk b460))
            exact L_op (.plain rfl) rfl (ltb rfl) (X_pick (b := false) (v := (.bool (!(isDirN (sub a0 0 x7_1) (parentP ((gt a0 x7_1).path)))))) (d462.trans (congrArg Value.bool b460)) d463) <| L_nil <| stepEnd rfl rfl (Ext.refl w455) (or_f b460)
        intro s464 w465 e466 hf467 ha468
        have K469 := Kp.ofD (kp := [(12, 45)]) rfl hf467
        have d470 : s464 44 = (.bool ((impl_TreeOK.e1 a0 x7_1) || (!(isDirN (sub a0 0 x7_1) (parentP ((gt a0 x7_1).path)))))) := ha468 32 rfl
        clear ha468 hf467
        refine thn_n ?_
        rcases bif_two H with ⟨q471, H⟩ | ⟨q471, H⟩
        · refine W_true (d470.trans (congrArg Value.bool q471)) <| W_seq <| W_reg <| L_op (.plain rfl) rfl (ltb rfl) (X_assign (v := (.bool false)) rfl) <| L_nil <| thn_n <| W_ret <| blk_r <| thn_r <| thn_r <| blk_r <| thn_r <| thn_r <| fin_r ?_
          obtain rfl := Option.some.inj H
          obtain rfl := Option.some.inj S17
          have H := C4
          obtain rfl := Option.some.inj H
          exact fin1 rfl (Ext.trans (Ext.trans e13 (Below.trans e26 (Wr.below h29 (Nat.le_of_eq z24)))) e466)
        · refine W_false (d470.trans (congrArg Value.bool q471)) <| W_skip <| blk_n <| thn_n <| W_reg <| L_op (.plain rfl) rfl (ltb rfl) (X_add ((K469 7 rfl).trans h15) rfl) <| L_op (.plain rfl) rfl (ltb rfl) (X_move (v := (.int .i64 (IntKind.wrap .i64 (x7_1 + 1)))) rfl) <| L_nil <| thn_n ?_
          obtain rfl := Option.some.inj H
          exact ⟨_, Nat.lt_succ_self _, IntKind.wrap .i64 (x7_1 + 1), (Kp.upd (Kp.upd (Kp.cut (Kp.upd (Kp.upd (Kp.upd (Kp.upd (Kp.upd (Kp.upd K12 rfl) rfl) rfl) rfl) rfl) rfl) K469 rfl) rfl) rfl), rfl, (Ext.trans (Ext.trans e13 (Below.trans e26 (Wr.below h29 (Nat.le_of_eq z24)))) e466), S17⟩
      · refine W_false (congrArg Value.bool q18) <| W_exit <| thn_x <| thn_x <| blk_x <| thn_n ?_
        obtain rfl := Option.some.inj H
        obtain rfl := Option.some.inj S17
        exact ⟨(Kp.upd K12 rfl), e13, rfl⟩
  · rintro s6 w5 ⟨K7, e8, y472⟩
    rw [y472] at C4
    have H := C4
    replace H : _ = some _ := H
    refine thn_n <| W_seq <| W_reg <| L_op (.plain rfl) rfl (ltb rfl) (X_assign (v := (.bool true)) rfl) <| L_nil <| thn_n <| W_ret <| fin_r ?_
    obtain rfl := Option.some.inj H
    exact fin1 rfl e8
theorem impl_TreeOK.calls {w : World} {a0 : List Nd} (gv : GV 0 w) {v_a0 : Value} (f_a0 : Rd 4 encNd w v_a0 a0) (h0 : a0.length ≤ 1048576) (h1 : ∀ x ∈ a0, x.path.length ≤ 1048576) :
    Calls Tryd.prog 77 #[v_a0] w (Rt (RP w (.bool (treeOK a0)))) := by
  obtain ⟨k, h⟩ := impl_TreeOK.eq a0 h0 h1
  exact impl_TreeOK.walk gv f_a0 h
/-! spec.l03Under -/
theorem spec_l03Under.walk {k : Nat} {w : World} {a0 : List Rec} {a1 : List UInt8} {v_a0 : Value} (f_a0 : Rd 5 encRec w v_a0 a0) {r : Bool} (H : spec_l03Under.sh k a0 a1 = some r) :
    Calls Tryd.prog 59 #[v_a0, S a1] w (Rt (RP w (.bool r))) := by
  unfold spec_l03Under.sh at H
  refine calls_of_W Tryd.func59 rfl (Nat.le_of_ble_eq_true rfl) Tryd.ntmps59 rfl ?_
  refine W_seq <| W_reg <| L_op (.plain rfl) rfl (ltb rfl) (X_assign (v := (.bool false)) rfl) <| L_nil <| thn_n <| W_seq <| W_seq <| W_reg <| L_op (.plain rfl) rfl (ltb rfl) (X_move (v := (S a1)) rfl) ?_
  obtain ⟨c1, H⟩ := bif_some H
  refine L_callP (.plain rfl) rfl (ltb rfl) rfl Tryd.call101 (spec_l01Parent.calls (w := w) (a0 := a1) (of_decide_eq_true c1)) rfl <| fun w2 e3 => L_op (.plain rfl) rfl (ltb rfl) (X_assign (v := (S (parentP a1))) rfl) <| L_nil <| thn_n ?_
  obtain ⟨z5, L6, C7⟩ := bind_some H
  clear H
  refine  W_cutQ (fun s0 sQ wQ => Kp [(4, 7), (9, 25)] s0 sQ ∧ Ext w2 wQ ∧ z5 = .inr ()) ?_ ?_
  · refine W_block <| W_loopI (fun s0 kk sQ wQ => ∃ (x5_4 : List UInt8), Kp [(4, 7), (9, 25)] s0 sQ ∧ sQ 5 = S x5_4 ∧ Ext w2 wQ ∧ loopF (spec_l03Under.b1 a0) kk x5_4 = some z5) k ⟨(parentP a1), (Kp.refl _ _), rfl, (Ext.refl w2), L6⟩ ?_
    rintro k12 s13 w14 ⟨x5_4, K15, h18, e16, L17⟩
    cases k12 with
    | zero => exact absurd L17 (by simp [loopF])
    | succ k12 =>
      obtain ⟨t19, H, S20⟩ := loopF_succ L17
      clear L17
      unfold spec_l03Under.b1 at H
      refine W_seq <| W_seq <| W_reg <| L_op (.plain rfl) rfl (ltb rfl) (X_move (v := (S x5_4)) h18) <| L_op (.plain rfl) rfl (ltb rfl) (X_sne rfl rfl) <| L_nil <| thn_n ?_
      rcases bif_two H with ⟨q21, H⟩ | ⟨q21, H⟩
      · refine W_true (congrArg Value.bool q21) <| W_skip <| thn_n <| W_seq <| W_block <| W_seq <| W_reg <| L_op (.plain rfl) rfl (ltb rfl) (X_move (v := v_a0) (K15 0 rfl)) <| L_op (.plain rfl) rfl (ltb rfl) (X_move (v := (S x5_4)) h18) ?_
        obtain ⟨c22, H⟩ := bif_some H
        refine L_callP (.plain rfl) rfl (ltb rfl) rfl Tryd.call102 (spec_l03At.calls (w := w14) (a0 := a0) (a1 := x5_4) (Rd.ext f_a0 (Ext.trans e3 e16)) (of_decide_eq_true c22)) rfl <| fun w23 e24 => L_op (.plain rfl) rfl (ltb rfl) (X_assign (v := (.int .i64 (findR a0 x5_4))) rfl) <| L_nil <| thn_n <| W_seq <| W_reg <| L_op (.plain rfl) rfl (ltb rfl) (X_move (v := (.int .i64 (findR a0 x5_4))) rfl) <| L_op (.plain rfl) rfl (ltb rfl) (X_geq rfl rfl) <| L_op (.plain rfl) rfl (ltb rfl) (X_move (v := (.bool (decide (0 ≤ (findR a0 x5_4))))) rfl) ?_
        obtain ⟨z26, x27, H⟩ := bind_some H
        refine L_grpE 6 [(19, 25)] 24 (fun q => q = z26) ?_ ?_
        · rcases bif_two x27 with ⟨b24_, H⟩ | ⟨b24_, H⟩
          · refine L_op (.guard 2 true 18 rfl rfl (ltb rfl) (congrArg Value.bool b24_)) rfl (ltb rfl) (X_move (v := v_a0) (K15 0 rfl)) <| L_op (.guard 2 true 18 rfl rfl (ltb rfl) (congrArg Value.bool b24_)) rfl (ltb rfl) (X_move (v := (.int .i64 (findR a0 x5_4))) rfl) ?_
            obtain ⟨c26, H⟩ := bif_some H
            refine L_idx (.guard 2 true 18 rfl rfl (ltb rfl) (congrArg Value.bool b24_)) rfl (ltb rfl) rfl Tryd.underlying26 Tryd.sizeOf74 rfl (Rd.ext f_a0 (Ext.trans (Ext.trans e3 e16) e24)) rfl c26 <| fun p27 h28 => L_op (.guard 2 true 18 rfl rfl (ltb rfl) (congrArg Value.bool b24_)) rfl (ltb rfl) (X_fieldAddr Tryd.underlying74 rfl Tryd.sizeOf4 rfl rfl) <| L_op (.guard 2 true 18 rfl rfl (ltb rfl) (congrArg Value.bool b24_)) rfl (ltb rfl) (X_loadF Tryd.isAgg4 (j := 4) h28 rfl rfl) <| L_op (.plain rfl) rfl (ltb rfl) (X_pick (b := true) (v := (.bool ((gt a0 (findR a0 x5_4)).opq))) (congrArg Value.bool b24_) rfl) ?_
            obtain rfl := Option.some.inj H
            exact L_nil <| thn_n ⟨(Kp.upd (Kp.upd (Kp.upd (Kp.upd (Kp.upd (Kp.upd (Kp.refl _ _) rfl) rfl) rfl) rfl) rfl) rfl), ⟨_, rfl, rfl⟩, (Ext.refl w23)⟩
          · refine L_skip rfl rfl (ltb rfl) (congrArg Value.bool b24_) rfl rfl (ltb rfl) <| L_skip rfl rfl (ltb rfl) (congrArg Value.bool b24_) rfl rfl (ltb rfl) <| L_skip rfl rfl (ltb rfl) (congrArg Value.bool b24_) rfl rfl (ltb rfl) <| L_skip rfl rfl (ltb rfl) (congrArg Value.bool b24_) rfl rfl (ltb rfl) <| L_skip rfl rfl (ltb rfl) (congrArg Value.bool b24_) rfl rfl (ltb rfl) <| L_op (.plain rfl) rfl (ltb rfl) (X_pick (b := false) (v := (.bool false)) (congrArg Value.bool b24_) rfl) ?_
            obtain rfl := Option.some.inj H
            exact L_nil <| thn_n ⟨(Kp.upd (Kp.upd (Kp.upd (Kp.upd (Kp.upd (Kp.upd (Kp.refl _ _) rfl) rfl) rfl) rfl) rfl) rfl), ⟨_, rfl, rfl⟩, (Ext.refl w23)⟩
        intro s32 w28 z33 K29 hq h30 e31
        rw [hq] at h30; clear hq
        refine L_nil <| thn_n ?_
        rcases bif_two H with ⟨q34, H⟩ | ⟨q34, H⟩
        · refine W_true (h30.trans (congrArg Value.bool q34)) <| W_seq <| W_reg <| L_op (.plain rfl) rfl (ltb rfl) (X_assign (v := (.bool true)) rfl) <| L_nil <| thn_n <| W_ret <| blk_r <| thn_r <| thn_r <| blk_r <| thn_r <| thn_r <| fin_r ?_
          obtain rfl := Option.some.inj H
          obtain rfl := Option.some.inj S20
          have H := C7
          obtain rfl := Option.some.inj H
          exact fin1 rfl (Ext.trans (Ext.trans (Ext.trans e3 e16) e24) e31)
        · refine W_false (h30.trans (congrArg Value.bool q34)) <| W_skip <| blk_n <| thn_n <| W_reg <| L_op (.plain rfl) rfl (ltb rfl) (X_move (v := (S x5_4)) ((K29 5 rfl).trans h18)) ?_
          obtain ⟨c35, H⟩ := bif_some H
          refine L_callP (.plain rfl) rfl (ltb rfl) rfl Tryd.call101 (spec_l01Parent.calls (w := w28) (a0 := x5_4) (of_decide_eq_true c35)) rfl <| fun w36 e37 => L_op (.plain rfl) rfl (ltb rfl) (X_assign (v := (S (parentP x5_4))) rfl) <| L_nil <| thn_n ?_
          obtain rfl := Option.some.inj H
          exact ⟨_, Nat.lt_succ_self _, (parentP x5_4), (Kp.upd (Kp.upd (Kp.upd (Kp.cut (Kp.upd (Kp.upd (Kp.upd (Kp.upd (Kp.upd (Kp.upd (Kp.upd (Kp.upd (Kp.upd K15 rfl) rfl) rfl) rfl) rfl) rfl) rfl) rfl) rfl) K29 rfl) rfl) rfl) rfl), rfl, (Ext.trans (Ext.trans (Ext.trans e16 e24) e31) e37), S20⟩
      · refine W_false (congrArg Value.bool q21) <| W_exit <| thn_x <| thn_x <| blk_x <| thn_n ?_
        obtain rfl := Option.some.inj H
        obtain rfl := Option.some.inj S20
        exact ⟨(Kp.upd (Kp.upd K15 rfl) rfl), e16, rfl⟩
  · rintro s9 w8 ⟨K10, e11, y38⟩
    rw [y38] at C7
    have H := C7
    replace H : _ = some _ := H
    refine thn_n <| W_seq <| W_reg <| L_op (.plain rfl) rfl (ltb rfl) (X_assign (v := (.bool false)) rfl) <| L_nil <| thn_n <| W_ret <| fin_r ?_
    obtain rfl := Option.some.inj H
    exact fin1 rfl (Ext.trans e3 e11)
theorem spec_l03Under.calls {w : World} {a0 : List Rec} {a1 : List UInt8} {v_a0 : Value} (f_a0 : Rd 5 encRec w v_a0 a0) (h0 : a0.length ≤ 1048576) (h1 : a1.length ≤ 1048576) :
    Calls Tryd.prog 59 #[v_a0, S a1] w (Rt (RP w (.bool (underO a0 a1)))) := by
  obtain ⟨k, h⟩ := spec_l03Under.eq a0 a1 h0 h1
  exact spec_l03Under.walk f_a0 h
/-! impl.ancestors -/
theorem impl_ancestors.walk {k : Nat} {w : World} {a0 : List UInt8} {r : List (List UInt8)} (H : impl_ancestors.sh k a0 = some r) :
    Calls Tryd.prog 119 #[S a0] w (Rt (RO 9 1 encS w r)) := by
  unfold impl_ancestors.sh at H
  refine calls_of_W Tryd.func119 rfl (Nat.le_of_ble_eq_true rfl) Tryd.ntmps119 rfl ?_
  refine W_seq <| W_reg <| L_op (.plain rfl) rfl (ltb rfl) (X_assign (v := (.slice none 0 0)) rfl) <| L_nil <| thn_n <| W_seq <| W_reg <| L_lit (.plain rfl) rfl (ltb rfl) rfl Tryd.underlying57 Tryd.sizeOf9 Tryd.zeroValue9 rfl rfl rfl (vs := []) rfl (lit_all rfl) <| fun b1 w2 z3 z4 e5 k6 => L_op (.plain rfl) rfl (ltb rfl) (X_assign (v := (.slice (some ⟨b1, 0, none⟩) 0 0)) rfl) <| L_nil <| thn_n <| W_seq <| W_seq <| W_reg <| L_op (.plain rfl) rfl (ltb rfl) (X_move (v := (S a0)) rfl) ?_
  obtain ⟨c7, H⟩ := bif_some H
  refine L_callP (.plain rfl) rfl (ltb rfl) rfl Tryd.call93 (impl_parent.calls (w := w2) (a0 := a0) (of_decide_eq_true c7)) rfl <| fun w8 e9 => L_op (.plain rfl) rfl (ltb rfl) (X_assign (v := (S (parentP a0))) rfl) <| L_nil <| thn_n ?_
  obtain ⟨z13, L14, C15⟩ := bind_some H
  clear H
  refine  W_cutQ (fun s0 sQ wQ => ∃ (x3_16 : List (List UInt8)) (v17 : Value), Kp [(0, 1), (3, 4), (7, 15)] s0 sQ ∧ sQ 3 = v17 ∧ Own 9 1 encS w8.heap.size wQ v17 x3_16 ∧ Ext w8 wQ ∧ z13 = .inr x3_16) ?_ ?_
  · refine W_block <| W_loopI (fun s0 kk sQ wQ => ∃ (x0_10 : List UInt8) (x3_11 : List (List UInt8)) (v12 : Value), Kp [(0, 1), (3, 4), (7, 15)] s0 sQ ∧ sQ 0 = S x0_10 ∧ sQ 3 = v12 ∧ Own 9 1 encS w8.heap.size wQ v12 x3_11 ∧ Ext w8 wQ ∧ loopF (impl_ancestors.b1) kk (x0_10, x3_11) = some z13) k ⟨(parentP a0), ([] : List (List UInt8)), (.slice (some ⟨b1, 0, none⟩) 0 0), (Kp.refl _ _), rfl, rfl, (Own.zero), (Ext.refl w8), L14⟩ ?_
    rintro k22 s23 w24 ⟨x0_10, x3_11, v12, K25, h28, h29, h30, e26, L27⟩
    cases k22 with
    | zero => exact absurd L27 (by simp [loopF])
    | succ k22 =>
      obtain ⟨t31, H, S32⟩ := loopF_succ L27
      clear L27
      unfold impl_ancestors.b1 at H
      refine W_seq <| W_seq <| W_reg <| L_op (.plain rfl) rfl (ltb rfl) (X_move (v := (S x0_10)) h28) <| L_op (.plain rfl) rfl (ltb rfl) (X_sne rfl rfl) <| L_nil <| thn_n ?_
      rcases bif_two H with ⟨q33, H⟩ | ⟨q33, H⟩
      · refine W_true (congrArg Value.bool q33) <| W_skip <| thn_n <| W_seq <| W_block <| W_reg <| L_op (.plain rfl) rfl (ltb rfl) (X_move (v := v12) h29) <| L_op (.plain rfl) rfl (ltb rfl) (X_move (v := (S x0_10)) h28) <| L_lit (.plain rfl) rfl (ltb rfl) rfl Tryd.underlying57 Tryd.sizeOf9 Tryd.zeroValue9 rfl rfl rfl (vs := [(S x0_10)]) rfl (lit_all rfl) <| fun b34 w35 z36 z37 e38 k39 => ?_
        obtain ⟨c40, H⟩ := bif_some H
        refine L_append (enc := encS) (.plain rfl) rfl (ltb rfl) rfl El.t57 rfl rfl (Own.ext h30 e38) (Own.rd (Own.new (xs := [x0_10]) (sz := 1) (enc := encS) (base := w24.heap.size) k39 (Nat.le_of_eq z36) rfl (fun _ _ => by rfl) (Nat.le_of_ble_eq_true rfl))) (ones_S _) (of_decide_eq_true c40) ((Ext.trans e26 e38)).size <| fun v41 w42 o43 z44 g45 => L_op (.plain rfl) rfl (ltb rfl) (X_assign (v := v41) rfl) <| L_nil <| blk_n <| thn_n <| W_reg <| L_op (.plain rfl) rfl (ltb rfl) (X_move (v := (S x0_10)) h28) ?_
        obtain ⟨c46, H⟩ := bif_some H
        refine L_callP (.plain rfl) rfl (ltb rfl) rfl Tryd.call93 (impl_parent.calls (w := w42) (a0 := x0_10) (of_decide_eq_true c46)) rfl <| fun w47 e48 => L_op (.plain rfl) rfl (ltb rfl) (X_assign (v := (S (parentP x0_10))) rfl) <| L_nil <| thn_n ?_
        obtain rfl := Option.some.inj H
        exact ⟨_, Nat.lt_succ_self _, (parentP x0_10), x3_11 ++ ([x0_10] : List (List UInt8)), v41, (Kp.upd (Kp.upd (Kp.upd (Kp.upd (Kp.upd (Kp.upd (Kp.upd (Kp.upd (Kp.upd (Kp.upd K25 rfl) rfl) rfl) rfl) rfl) rfl) rfl) rfl) rfl) rfl), rfl, rfl, (Own.ext o43 e48), (Ext.trans (g45 _ (Ext.trans e26 e38)) e48), S32⟩
      · refine W_false (congrArg Value.bool q33) <| W_exit <| thn_x <| thn_x <| blk_x <| thn_n ?_
        obtain rfl := Option.some.inj H
        obtain rfl := Option.some.inj S32
        exact ⟨x3_11, v12, (Kp.upd (Kp.upd K25 rfl) rfl), h29, h30, e26, rfl⟩
  · rintro s19 w18 ⟨x3_16, v17, K20, h49, h50, e21, y51⟩
    rw [y51] at C15
    have H := C15
    replace H : _ = some _ := H
    refine thn_n <| W_seq <| W_reg <| L_op (.plain rfl) rfl (ltb rfl) (X_move (v := v17) h49) <| L_op (.plain rfl) rfl (ltb rfl) (X_assign (v := v17) rfl) <| L_nil <| thn_n <| W_ret <| fin_r ?_
    obtain rfl := Option.some.inj H
    exact fin1o rfl (Ext.trans (Ext.trans e5 e9) e21) h50 ((Ext.trans e5 e9)).size
theorem impl_ancestors.calls {w : World} {a0 : List UInt8} (h0 : a0.length ≤ 1048576) :
    Calls Tryd.prog 119 #[S a0] w (Rt (RO 9 1 encS w (ancs a0))) := by
  obtain ⟨k, h⟩ := impl_ancestors.eq a0 h0
  exact impl_ancestors.walk h
/-! impl.above$1 -/
theorem impl_above_1.walk {w : World} {a0 : List UInt8} {a1 : List Rec} {a2 : Rec → Option Bool} {v_a1 : Value} (f_a1 : Rd 5 encRec w v_a1 a1) (g_a1 : v_a1.cells = #[v_a1]) {b_a1 : Nat} (k_a1 : Blk w b_a1 #[v_a1] 26) {v_a2 : Value} (f_a2 : ∀ (x0 : Rec) (r : Bool), a2 x0 = some r → FnAt Tryd.prog w v_a2 [(.agg (encRec x0).toArray)] (.bool r)) (g_a2 : v_a2.cells = #[v_a2]) {b_a2 : Nat} (k_a2 : Blk w b_a2 #[v_a2] 105) {r : Bool} (H : impl_above_1.sh a0 a1 a2 = some r) :
    Calls Tryd.prog 140 #[S a0, .pointer (some ⟨b_a1, 0, none⟩), .pointer (some ⟨b_a2, 0, none⟩)] w (Rt (RP w (.bool r))) := by
  unfold impl_above_1.sh at H
  refine calls_of_W Tryd.func140 rfl (Nat.le_of_ble_eq_true rfl) Tryd.ntmps140 rfl ?_
  refine W_seq <| W_reg <| L_op (.plain rfl) rfl (ltb rfl) (X_assign (v := (.bool false)) rfl) <| L_nil <| thn_n <| W_seq <| W_reg <| L_op (.plain rfl) rfl (ltb rfl) (X_loadB Tryd.isAgg26 k_a1 rfl rfl) <| L_op (.plain rfl) rfl (ltb rfl) (X_move (v := (S a0)) rfl) ?_
  obtain ⟨c1, H⟩ := bif_some H
  refine L_callP (.plain rfl) rfl (ltb rfl) rfl Tryd.call141 (impl_find.calls (w := w) (a0 := a1) (a1 := a0) f_a1 (of_decide_eq_true c1)) rfl <| fun w2 e3 => L_op (.plain rfl) rfl (ltb rfl) (X_assign (v := (.int .i64 (findR a1 a0))) rfl) <| L_nil <| thn_n <| W_seq ?_
  obtain ⟨c4, H⟩ := bif_some H
  obtain ⟨z7, x8, H⟩ := bind_some H
  refine W_drawM [LEq (.int .i64 (findR a1 a0)), LEq (.bool (decide (0 ≤ (findR a1 a0)))), LEq (.bool (decide (0 ≤ (findR a1 a0)))), LIf (decide (0 ≤ (findR a1 a0))) (LEq v_a2), LIf (decide (0 ≤ (findR a1 a0))) (LEq v_a1), LIf (decide (0 ≤ (findR a1 a0))) (LEq (.int .i64 (findR a1 a0))), LIf (decide (0 ≤ (findR a1 a0))) (LAt0 (encRec (gt a1 (findR a1 a0)))), LIf (decide (0 ≤ (findR a1 a0))) (LEq (.agg (encRec (gt a1 (findR a1 a0))).toArray)), LIf (decide (0 ≤ (findR a1 a0))) (LEq (.bool z7)), LEq (.bool ((decide (0 ≤ (findR a1 a0))) && z7)), LEq (.bool ((decide (0 ≤ (findR a1 a0))) && z7))] (by kernel_rfl) (by kernel_rfl) ⟨LEq.mono, LEq.mono, LEq.mono, (LIf.mono LEq.mono), (LIf.mono LEq.mono), (LIf.mono LEq.mono), (LIf.mono LAt0.mono), (LIf.mono LEq.mono), (LIf.mono LEq.mono), LEq.mono, LEq.mono, trivial⟩ ⟨?_, ?_, ?_, ?_, ?_, ?_, ?_, ?_, ?_, ?_, ?_, trivial⟩ ?_
  · intro s11 w12 e13 hf14 hd15 hu16
    exact L_op (.plain rfl) rfl (ltb rfl) (X_move (v := (.int .i64 (findR a1 a0))) (hf14 5 rfl)) <| L_nil <| stepEnd rfl rfl (Ext.refl w12) rfl
  · intro s17 w18 e19 hf20 hd21 hu22
    have d23 : s17 9 = (.int .i64 (findR a1 a0)) := (hd21 0 rfl)
    exact L_op (.plain rfl) rfl (ltb rfl) (X_geq d23 rfl) <| L_nil <| stepEnd rfl rfl (Ext.refl w18) rfl
  · intro s24 w25 e26 hf27 hd28 hu29
    have d30 : s24 10 = (.bool (decide (0 ≤ (findR a1 a0)))) := (hd28 1 rfl)
    exact L_op (.plain rfl) rfl (ltb rfl) (X_move (v := (.bool (decide (0 ≤ (findR a1 a0))))) d30) <| L_nil <| stepEnd rfl rfl (Ext.refl w25) rfl
  · intro s31 w32 e33 hf34 hd35 hu36
    rcases bool_two (decide (0 ≤ (findR a1 a0))) with b37 | b37
    · have g38 : (decide (0 ≤ (findR a1 a0))) = true := b37
      have d39 : s31 11 = (.bool (decide (0 ≤ (findR a1 a0)))) := (hd35 2 rfl)
      have d40 : s31 11 = (.bool (decide (0 ≤ (findR a1 a0)))) := (hd35 2 rfl)
      exact L_op (.guard 2 true 11 rfl rfl (ltb rfl) (d39.trans (congrArg Value.bool g38))) rfl (ltb rfl) (X_loadB Tryd.isAgg105 (Blk.ext k_a2 (Ext.trans e3 e33)) (hf34 2 rfl) rfl) <| L_nil <| stepEnd rfl rfl (Ext.refl w32) ⟨fun _ => rfl, fun h => absurd (b37.symm.trans h) (by decide)⟩
    · have d41 : s31 11 = (.bool (decide (0 ≤ (findR a1 a0)))) := (hd35 2 rfl)
      have g42 : (decide (0 ≤ (findR a1 a0))) = false := b37
      exact L_skip rfl rfl (ltb rfl) (d41.trans (congrArg Value.bool g42)) rfl rfl (ltb rfl) <| L_nil <| stepEnd rfl rfl (Ext.refl w32) ⟨fun h => absurd (b37.symm.trans h) (by decide), fun _ => rfl⟩
  · intro s43 w44 e45 hf46 hd47 hu48
    rcases bool_two (decide (0 ≤ (findR a1 a0))) with b49 | b49
    · have g50 : (decide (0 ≤ (findR a1 a0))) = true := b49
      have d51 : s43 11 = (.bool (decide (0 ≤ (findR a1 a0)))) := (hd47 2 rfl)
      have d52 : s43 11 = (.bool (decide (0 ≤ (findR a1 a0)))) := (hd47 2 rfl)
      exact L_op (.guard 2 true 11 rfl rfl (ltb rfl) (d51.trans (congrArg Value.bool g50))) rfl (ltb rfl) (X_loadB Tryd.isAgg26 (Blk.ext k_a1 (Ext.trans e3 e45)) (hf46 1 rfl) rfl) <| L_nil <| stepEnd rfl rfl (Ext.refl w44) ⟨fun _ => rfl, fun h => absurd (b49.symm.trans h) (by decide)⟩
    · have d53 : s43 11 = (.bool (decide (0 ≤ (findR a1 a0)))) := (hd47 2 rfl)
      have g54 : (decide (0 ≤ (findR a1 a0))) = false := b49
      exact L_skip rfl rfl (ltb rfl) (d53.trans (congrArg Value.bool g54)) rfl rfl (ltb rfl) <| L_nil <| stepEnd rfl rfl (Ext.refl w44) ⟨fun h => absurd (b49.symm.trans h) (by decide), fun _ => rfl⟩
  · intro s55 w56 e57 hf58 hd59 hu60
    rcases bool_two (decide (0 ≤ (findR a1 a0))) with b61 | b61
    · have g62 : (decide (0 ≤ (findR a1 a0))) = true := b61
      have d63 : s55 11 = (.bool (decide (0 ≤ (findR a1 a0)))) := (hd59 2 rfl)
      have d64 : s55 11 = (.bool (decide (0 ≤ (findR a1 a0)))) := (hd59 2 rfl)
      exact L_op (.guard 2 true 11 rfl rfl (ltb rfl) (d63.trans (congrArg Value.bool g62))) rfl (ltb rfl) (X_move (v := (.int .i64 (findR a1 a0))) (hf58 5 rfl)) <| L_nil <| stepEnd rfl rfl (Ext.refl w56) ⟨fun _ => rfl, fun h => absurd (b61.symm.trans h) (by decide)⟩
    · have d65 : s55 11 = (.bool (decide (0 ≤ (findR a1 a0)))) := (hd59 2 rfl)
      have g66 : (decide (0 ≤ (findR a1 a0))) = false := b61
      exact L_skip rfl rfl (ltb rfl) (d65.trans (congrArg Value.bool g66)) rfl rfl (ltb rfl) <| L_nil <| stepEnd rfl rfl (Ext.refl w56) ⟨fun h => absurd (b61.symm.trans h) (by decide), fun _ => rfl⟩
  · intro s67 w68 e69 hf70 hd71 hu72
    rcases bool_two (decide (0 ≤ (findR a1 a0))) with b73 | b73
    · have g74 : (decide (0 ≤ (findR a1 a0))) = true := b73
      have d75 : s67 11 = (.bool (decide (0 ≤ (findR a1 a0)))) := (hd71 2 rfl)
      have d76 : s67 11 = (.bool (decide (0 ≤ (findR a1 a0)))) := (hd71 2 rfl)
      have d77 : s67 13 = v_a1 := ((hd71 4 rfl).1 b73)
      have d78 : s67 14 = (.int .i64 (findR a1 a0)) := ((hd71 5 rfl).1 b73)
      have c79 := imp_take b73 c4
      exact L_idx (.guard 2 true 11 rfl rfl (ltb rfl) (d75.trans (congrArg Value.bool g74))) rfl (ltb rfl) rfl Tryd.underlying26 Tryd.sizeOf74 d77 (Rd.ext f_a1 (Ext.trans e3 e69)) d78 c79 <| fun p80 h81 => L_nil <| stepEnd rfl rfl (Ext.refl w68) ⟨fun _ => ⟨_, rfl, h81⟩, fun h => absurd (b73.symm.trans h) (by decide)⟩
    · have d82 : s67 11 = (.bool (decide (0 ≤ (findR a1 a0)))) := (hd71 2 rfl)
      have g83 : (decide (0 ≤ (findR a1 a0))) = false := b73
      exact L_skip rfl rfl (ltb rfl) (d82.trans (congrArg Value.bool g83)) rfl rfl (ltb rfl) <| L_nil <| stepEnd rfl rfl (Ext.refl w68) ⟨fun h => absurd (b73.symm.trans h) (by decide), fun _ => rfl⟩
  · intro s84 w85 e86 hf87 hd88 hu89
    rcases bool_two (decide (0 ≤ (findR a1 a0))) with b90 | b90
    · have g91 : (decide (0 ≤ (findR a1 a0))) = true := b90
      have d92 : s84 11 = (.bool (decide (0 ≤ (findR a1 a0)))) := (hd88 2 rfl)
      have d93 : s84 11 = (.bool (decide (0 ≤ (findR a1 a0)))) := (hd88 2 rfl)
      obtain ⟨p94, h95, h96⟩ := ((hd88 6 rfl).1 b90)
      exact L_op (.guard 2 true 11 rfl rfl (ltb rfl) (d92.trans (congrArg Value.bool g91))) rfl (ltb rfl) (X_loadS Tryd.isAgg74 Tryd.sizeOf74 rfl h95 h96) <| L_nil <| stepEnd rfl rfl (Ext.refl w85) ⟨fun _ => rfl, fun h => absurd (b90.symm.trans h) (by decide)⟩
    · have d97 : s84 11 = (.bool (decide (0 ≤ (findR a1 a0)))) := (hd88 2 rfl)
      have g98 : (decide (0 ≤ (findR a1 a0))) = false := b90
      exact L_skip rfl rfl (ltb rfl) (d97.trans (congrArg Value.bool g98)) rfl rfl (ltb rfl) <| L_nil <| stepEnd rfl rfl (Ext.refl w85) ⟨fun h => absurd (b90.symm.trans h) (by decide), fun _ => rfl⟩
  · intro s99 w100 e101 hf102 hd103 hu104
    rcases bool_two (decide (0 ≤ (findR a1 a0))) with b105 | b105
    · have g106 : (decide (0 ≤ (findR a1 a0))) = true := b105
      have d107 : s99 11 = (.bool (decide (0 ≤ (findR a1 a0)))) := (hd103 2 rfl)
      have d108 : s99 11 = (.bool (decide (0 ≤ (findR a1 a0)))) := (hd103 2 rfl)
      have d109 : s99 12 = v_a2 := ((hd103 3 rfl).1 b105)
      have d110 : s99 16 = (.agg (encRec (gt a1 (findR a1 a0))).toArray) := ((hd103 7 rfl).1 b105)
      exact L_callF (.guard 2 true 11 rfl rfl (ltb rfl) (d107.trans (congrArg Value.bool g106))) rfl (ltb rfl) rfl d109 (FnAt.ext (f_a2 _ _ x8) (Ext.trans e3 e101)) (cons2 d110 rfl) <| fun w113 e114 => L_nil <| stepEnd rfl rfl e114 ⟨fun _ => rfl, fun h => absurd (b105.symm.trans h) (by decide)⟩
    · have d115 : s99 11 = (.bool (decide (0 ≤ (findR a1 a0)))) := (hd103 2 rfl)
      have g116 : (decide (0 ≤ (findR a1 a0))) = false := b105
      exact L_skip rfl rfl (ltb rfl) (d115.trans (congrArg Value.bool g116)) rfl rfl (ltb rfl) <| L_nil <| stepEnd rfl rfl (Ext.refl w100) ⟨fun h => absurd (b105.symm.trans h) (by decide), fun _ => rfl⟩
  · intro s117 w118 e119 hf120 hd121 hu122
    rcases bool_two (decide (0 ≤ (findR a1 a0))) with b123 | b123
    · have d124 : s117 11 = (.bool (decide (0 ≤ (findR a1 a0)))) := (hd121 2 rfl)
      have d125 : s117 17 = (.bool z7) := ((hd121 8 rfl).1 b123)
      exact L_op (.plain rfl) rfl (ltb rfl) (X_pick (b := true) (v := (.bool z7)) (d124.trans (congrArg Value.bool b123)) d125) <| L_nil <| stepEnd rfl rfl (Ext.refl w118) (and_t b123)
    · have d126 : s117 11 = (.bool (decide (0 ≤ (findR a1 a0)))) := (hd121 2 rfl)
      exact L_op (.plain rfl) rfl (ltb rfl) (X_pick (b := false) (v := (.bool false)) (d126.trans (congrArg Value.bool b123)) rfl) <| L_nil <| stepEnd rfl rfl (Ext.refl w118) (and_f b123)
  · intro s127 w128 e129 hf130 hd131 hu132
    have d133 : s127 18 = (.bool ((decide (0 ≤ (findR a1 a0))) && z7)) := (hd131 9 rfl)
    exact L_op (.plain rfl) rfl (ltb rfl) (X_assign (v := (.bool ((decide (0 ≤ (findR a1 a0))) && z7))) d133) <| L_nil <| stepEnd rfl rfl (Ext.refl w128) rfl
  intro s134 w135 e136 hf137 ha138
  have K139 := Kp.ofD (kp := [(4, 5), (9, 19)]) rfl hf137
  have d140 : s134 4 = (.bool ((decide (0 ≤ (findR a1 a0))) && z7)) := ha138 10 rfl
  clear ha138 hf137
  refine thn_n <| W_ret <| fin_r ?_
  obtain rfl := Option.some.inj H
  exact fin1 d140 (Ext.trans e3 e136)
theorem impl_above_1.calls {w : World} {a0 : List UInt8} {a1 : List Rec} {a2 : Rec → Option Bool} {r : Bool} {v_a1 : Value} (f_a1 : Rd 5 encRec w v_a1 a1) (g_a1 : v_a1.cells = #[v_a1]) {b_a1 : Nat} (k_a1 : Blk w b_a1 #[v_a1] 26) {v_a2 : Value} (f_a2 : ∀ (x0 : Rec) (r : Bool), a2 x0 = some r → FnAt Tryd.prog w v_a2 [(.agg (encRec x0).toArray)] (.bool r)) (g_a2 : v_a2.cells = #[v_a2]) {b_a2 : Nat} (k_a2 : Blk w b_a2 #[v_a2] 105) (h0 : a1.length ≤ 1048576) (H : (aboveO a1 a2 a0) = some r) :
    Calls Tryd.prog 140 #[S a0, .pointer (some ⟨b_a1, 0, none⟩), .pointer (some ⟨b_a2, 0, none⟩)] w (Rt (RP w (.bool r))) := impl_above_1.walk f_a1 g_a1 k_a1 f_a2 g_a2 k_a2 (impl_above_1.eq a0 a1 a2 h0 H)
/-! impl.above -/
theorem impl_above.walk {w : World} {a0 : List Rec} {a1 : List UInt8} {a2 : Rec → Option Bool} {v_a0 : Value} (f_a0 : Rd 5 encRec w v_a0 a0) {v_a2 : Value} (f_a2 : ∀ (x0 : Rec) (r : Bool), a2 x0 = some r → FnAt Tryd.prog w v_a2 [(.agg (encRec x0).toArray)] (.bool r)) (g_a2 : v_a2.cells = #[v_a2]) {r : Bool} (H : impl_above.sh a0 a1 a2 = some r) :
    Calls Tryd.prog 108 #[v_a0, S a1, v_a2] w (Rt (RP w (.bool r))) := by
  unfold impl_above.sh at H
  refine calls_of_W Tryd.func108 rfl (Nat.le_of_ble_eq_true rfl) Tryd.ntmps108 rfl ?_
  refine W_seq <| W_reg <| L_box (.plain rfl) rfl (ltb rfl) rfl rfl <| fun b1 w2 z3 z4 e5 k6 => L_box (.plain rfl) rfl (ltb rfl) rfl rfl <| fun b7 w8 z9 z10 e11 k12 => L_op (.plain rfl) rfl (ltb rfl) (X_assign (v := (.bool false)) rfl) <| L_nil <| thn_n <| W_seq <| W_reg <| L_op (.plain rfl) rfl (ltb rfl) (X_move (v := (S a1)) rfl) ?_
  obtain ⟨c13, H⟩ := bif_some H
  refine L_callO (.plain rfl) rfl (ltb rfl) rfl Tryd.call119 (impl_ancestors.calls (w := w8) (a0 := a1) (of_decide_eq_true c13)) rfl <| fun v16 w14 e15 o17 => L_op (.plain rfl) rfl (ltb rfl) (X_makeFunc (vs := #[]) (us := #[.pointer (some ⟨b1, 0, none⟩), .pointer (some ⟨b7, 0, none⟩)]) rfl rfl) ?_
  obtain ⟨c22, H⟩ := bif_some H
  obtain ⟨z23, x24, H⟩ := bind_some H
  refine L_callP (.plain rfl) rfl (ltb rfl) rfl Tryd.call135 (slices_ContainsFuncS.calls (w := w14) (a0 := (ancs a1)) (a1 := (fun (x0_ : List UInt8) => bif decide (a0.length ≤ 1048576) then (aboveO a0 a2 x0_) else none)) (Own.rd o17) (fun x0_ r h => by obtain ⟨q0, h⟩ := bif_some h; exact FnAt.mk Tryd.call140 (by rfl) fun w20 k21 => impl_above_1.calls (w := w20) (a0 := x0_) (a1 := a0) (a2 := a2) (Rd.ext f_a0 (Ext.trans (Ext.trans (Ext.trans e5 e11) e15) k21)) (Rd.cs (Rd.ext f_a0 e5)) (Blk.ext (Blk.cs k6 (Rd.cs (Rd.ext f_a0 e5))) (Ext.trans (Ext.trans e11 e15) k21)) (fun x0 r h => FnAt.ext (f_a2 x0 r h) (Ext.trans (Ext.trans (Ext.trans e5 e11) e15) k21)) g_a2 (Blk.ext (Blk.cs k12 g_a2) (Ext.trans e15 k21)) (of_decide_eq_true q0) h) rfl (of_decide_eq_true c22) x24) rfl <| fun w25 e26 => L_op (.plain rfl) rfl (ltb rfl) (X_assign (v := (.bool z23)) rfl) <| L_nil <| thn_n <| W_ret <| fin_r ?_
  obtain rfl := Option.some.inj H
  exact fin1 rfl (Ext.trans (Ext.trans (Ext.trans e5 e11) e15) e26)
theorem impl_above.calls {w : World} {a0 : List Rec} {a1 : List UInt8} {a2 : Rec → Option Bool} {r : Bool} {v_a0 : Value} (f_a0 : Rd 5 encRec w v_a0 a0) {v_a2 : Value} (f_a2 : ∀ (x0 : Rec) (r : Bool), a2 x0 = some r → FnAt Tryd.prog w v_a2 [(.agg (encRec x0).toArray)] (.bool r)) (g_a2 : v_a2.cells = #[v_a2]) (h0 : a0.length ≤ 1048576) (h1 : a1.length ≤ 1048576) (H : (anyO (aboveO a0 a2) (ancs a1)) = some r) :
    Calls Tryd.prog 108 #[v_a0, S a1, v_a2] w (Rt (RP w (.bool r))) := impl_above.walk f_a0 f_a2 g_a2 (impl_above.eq a0 a1 a2 h0 h1 H)
/-! impl.underOpaque$1 -/
theorem impl_underOpaque_1.walk {w : World} {a0 : Rec} {r : Bool} (H : impl_underOpaque_1.sh a0 = some r) :
    Calls Tryd.prog 109 #[.agg (encRec a0).toArray] w (Rt (RP w (.bool r))) := by
  unfold impl_underOpaque_1.sh at H
  refine calls_of_W Tryd.func109 rfl (Nat.le_of_ble_eq_true rfl) Tryd.ntmps109 rfl ?_
  refine W_seq <| W_reg <| L_box (.plain rfl) rfl (ltb rfl) rfl rfl <| fun b1 w2 z3 z4 e5 k6 => L_op (.plain rfl) rfl (ltb rfl) (X_assign (v := (.bool false)) rfl) <| L_nil <| thn_n <| W_seq <| W_reg <| L_op (.plain rfl) rfl (ltb rfl) (X_fieldAddr Tryd.underlying74 rfl Tryd.sizeOf4 rfl rfl) <| L_op (.plain rfl) rfl (ltb rfl) (X_loadB Tryd.isAgg4 k6 rfl rfl) <| L_op (.plain rfl) rfl (ltb rfl) (X_assign (v := (.bool a0.opq)) rfl) <| L_nil <| thn_n <| W_ret <| fin_r ?_
  obtain rfl := Option.some.inj H
  exact fin1 rfl e5
theorem impl_underOpaque_1.calls {w : World} {a0 : Rec} :
    Calls Tryd.prog 109 #[.agg (encRec a0).toArray] w (Rt (RP w (.bool a0.opq))) := impl_underOpaque_1.walk (impl_underOpaque_1.eq a0)
/-! impl.underOpaque -/
theorem impl_underOpaque.walk {w : World} {a0 : List Rec} {a1 : List UInt8} {v_a0 : Value} (f_a0 : Rd 5 encRec w v_a0 a0) {r : Bool} (H : impl_underOpaque.sh a0 a1 = some r) :
    Calls Tryd.prog 66 #[v_a0, S a1] w (Rt (RP w (.bool r))) := by
  unfold impl_underOpaque.sh at H
  refine calls_of_W Tryd.func66 rfl (Nat.le_of_ble_eq_true rfl) Tryd.ntmps66 rfl ?_
  refine W_seq <| W_reg <| L_op (.plain rfl) rfl (ltb rfl) (X_assign (v := (.bool false)) rfl) <| L_nil <| thn_n <| W_seq <| W_reg <| L_op (.plain rfl) rfl (ltb rfl) (X_move (v := v_a0) rfl) <| L_op (.plain rfl) rfl (ltb rfl) (X_move (v := (S a1)) rfl) ?_
  obtain ⟨c5, H⟩ := bif_some H
  obtain ⟨c6, H⟩ := bif_some H
  obtain ⟨z7, x8, H⟩ := bind_some H
  refine L_callP (.plain rfl) rfl (ltb rfl) rfl Tryd.call108 (impl_above.calls (w := w) (a0 := a0) (a1 := a1) (a2 := (fun (x0_ : Rec) => some x0_.opq)) f_a0 (fun x0_ r h => by have h := Option.some.inj h; subst h; exact FnAt.mk Tryd.call109 (by rfl) fun w3 k4 => impl_underOpaque_1.calls (w := w3) (a0 := x0_)) rfl (of_decide_eq_true c5) (of_decide_eq_true c6) x8) rfl <| fun w9 e10 => L_op (.plain rfl) rfl (ltb rfl) (X_assign (v := (.bool z7)) rfl) <| L_nil <| thn_n <| W_ret <| fin_r ?_
  obtain rfl := Option.some.inj H
  exact fin1 rfl e10
theorem impl_underOpaque.calls {w : World} {a0 : List Rec} {a1 : List UInt8} {v_a0 : Value} (f_a0 : Rd 5 encRec w v_a0 a0) (h0 : a0.length ≤ 1048576) (h1 : a1.length ≤ 1048576) :
    Calls Tryd.prog 66 #[v_a0, S a1] w (Rt (RP w (.bool (underO a0 a1)))) := impl_underOpaque.walk f_a0 (impl_underOpaque.eq a0 a1 h0 h1)
/-! spec.UnderOpaque -/
theorem spec_UnderOpaque.walk {w : World} {a0 : List Rec} {a1 : List UInt8} {v_a0 : Value} (f_a0 : Rd 5 encRec w v_a0 a0) {r : Bool × Int} (H : spec_UnderOpaque.sh a0 a1 = some r) :
    Calls Tryd.prog 16 #[v_a0, S a1] w (Rt (RP w (.tuple #[.bool r.1, .int .i64 r.2]))) := by
  unfold spec_UnderOpaque.sh at H
  refine calls_of_W Tryd.func16 rfl (Nat.le_of_ble_eq_true rfl) Tryd.ntmps16 rfl ?_
  refine W_seq <| W_reg <| L_op (.plain rfl) rfl (ltb rfl) (X_assign (v := (.bool false)) rfl) <| L_op (.plain rfl) rfl (ltb rfl) (X_assign (v := (.int .i64 0)) rfl) <| L_nil <| thn_n <| W_seq <| W_seq <| W_reg <| L_op (.plain rfl) rfl (ltb rfl) (X_move (v := v_a0) rfl) <| L_op (.plain rfl) rfl (ltb rfl) (X_lenR Tryd.underlying26 rfl f_a0) <| L_op (.plain rfl) rfl (ltb rfl) (X_gtr rfl rfl) <| L_op (.plain rfl) rfl (ltb rfl) (X_move (v := (.bool (decide (4096 < (a0.length : Int))))) rfl) <| L_grp 4 [(10, 14)] 13 (.bool ((decide (4096 < (a0.length : Int))) || (decide (65536 < (a1.length : Int))))) ?_ ?_
  · rcases bool_two (decide (4096 < (a0.length : Int))) with b0_ | b0_
    · exact L_skip rfl rfl (ltb rfl) (congrArg Value.bool b0_) rfl rfl (ltb rfl) <| L_skip rfl rfl (ltb rfl) (congrArg Value.bool b0_) rfl rfl (ltb rfl) <| L_skip rfl rfl (ltb rfl) (congrArg Value.bool b0_) rfl rfl (ltb rfl) <| L_op (.plain rfl) rfl (ltb rfl) (X_pick (b := true) (v := (.bool true)) (congrArg Value.bool b0_) rfl) <| L_nil <| thn_n ⟨(Kp.upd (Kp.upd (Kp.upd (Kp.upd (Kp.refl _ _) rfl) rfl) rfl) rfl), (or_t b0_), (Ext.refl w)⟩
    · exact L_op (.guard 3 false 9 rfl rfl (ltb rfl) (congrArg Value.bool b0_)) rfl (ltb rfl) (X_move (v := (S a1)) rfl) <| L_op (.guard 3 false 9 rfl rfl (ltb rfl) (congrArg Value.bool b0_)) rfl (ltb rfl) (X_lenS Tryd.underlying9 rfl) <| L_op (.guard 3 false 9 rfl rfl (ltb rfl) (congrArg Value.bool b0_)) rfl (ltb rfl) (X_gtr rfl rfl) <| L_op (.plain rfl) rfl (ltb rfl) (X_pick (b := false) (v := (.bool (decide (65536 < (a1.length : Int))))) (congrArg Value.bool b0_) rfl) <| L_nil <| thn_n ⟨(Kp.upd (Kp.upd (Kp.upd (Kp.upd (Kp.refl _ _) rfl) rfl) rfl) rfl), (or_f b0_), (Ext.refl w)⟩
  intro s6 w2 K3 h4 e5
  refine L_nil <| thn_n ?_
  rcases bif_two H with ⟨q7, H⟩ | ⟨q7, H⟩
  · refine W_true (h4.trans (congrArg Value.bool q7)) <| W_seq <| W_reg <| L_op (.plain rfl) rfl (ltb rfl) (X_assign (v := (.bool false)) rfl) <| L_op (.plain rfl) rfl (ltb rfl) (X_assign (v := (.int .i64 2)) rfl) <| L_nil <| thn_n <| W_ret <| thn_r <| fin_r ?_
    obtain rfl := Option.some.inj H
    exact fin2 rfl rfl e5
  · refine W_false (h4.trans (congrArg Value.bool q7)) <| W_skip <| thn_n <| W_seq <| W_seq <| W_reg <| L_op (.plain rfl) rfl (ltb rfl) (X_move (v := v_a0) (K3 0 rfl)) ?_
    obtain ⟨c8, H⟩ := bif_some H
    obtain ⟨c9, H⟩ := bif_some H
    refine L_callP (.plain rfl) rfl (ltb rfl) rfl Tryd.call57 (spec_l03OK.calls (w := w2) (a0 := a0) (Rd.ext f_a0 e5) (of_decide_eq_true c8) (of_decide_eq_true c9)) rfl <| fun w10 e11 => L_op (.plain rfl) rfl (ltb rfl) (X_not rfl) <| L_nil <| thn_n ?_
    rcases bif_two H with ⟨q12, H⟩ | ⟨q12, H⟩
    · refine W_true (congrArg Value.bool q12) <| W_seq <| W_reg <| L_op (.plain rfl) rfl (ltb rfl) (X_assign (v := (.bool false)) rfl) <| L_op (.plain rfl) rfl (ltb rfl) (X_assign (v := (.int .i64 1)) rfl) <| L_nil <| thn_n <| W_ret <| thn_r <| fin_r ?_
      obtain rfl := Option.some.inj H
      exact fin2 rfl rfl (Ext.trans e5 e11)
    · refine W_false (congrArg Value.bool q12) <| W_skip <| thn_n <| W_seq <| W_seq <| W_reg <| L_op (.plain rfl) rfl (ltb rfl) (X_move (v := (S a1)) (K3 1 rfl)) <| L_callP (.plain rfl) rfl (ltb rfl) rfl Tryd.call58 (spec_l01OK.calls (w := w10) (a0 := a1)) rfl <| fun w13 e14 => L_op (.plain rfl) rfl (ltb rfl) (X_not rfl) <| L_nil <| thn_n ?_
      rcases bif_two H with ⟨q15, H⟩ | ⟨q15, H⟩
      · refine W_true (congrArg Value.bool q15) <| W_seq <| W_reg <| L_op (.plain rfl) rfl (ltb rfl) (X_assign (v := (.bool false)) rfl) <| L_op (.plain rfl) rfl (ltb rfl) (X_assign (v := (.int .i64 10)) rfl) <| L_nil <| thn_n <| W_ret <| thn_r <| fin_r ?_
        obtain rfl := Option.some.inj H
        exact fin2 rfl rfl (Ext.trans (Ext.trans e5 e11) e14)
      · refine W_false (congrArg Value.bool q15) <| W_skip <| thn_n <| W_seq <| W_reg <| L_op (.plain rfl) rfl (ltb rfl) (X_move (v := v_a0) (K3 0 rfl)) <| L_op (.plain rfl) rfl (ltb rfl) (X_move (v := (S a1)) (K3 1 rfl)) ?_
        obtain ⟨c16, H⟩ := bif_some H
        obtain ⟨c17, H⟩ := bif_some H
        refine L_callP (.plain rfl) rfl (ltb rfl) rfl Tryd.call59 (spec_l03Under.calls (w := w13) (a0 := a0) (a1 := a1) (Rd.ext f_a0 (Ext.trans (Ext.trans e5 e11) e14)) (of_decide_eq_true c16) (of_decide_eq_true c17)) rfl <| fun w18 e19 => L_op (.plain rfl) rfl (ltb rfl) (X_assign (v := (.bool (underO a0 a1))) rfl) <| L_op (.plain rfl) rfl (ltb rfl) (X_assign (v := (.int .i64 0)) rfl) <| L_nil <| thn_n <| W_ret <| fin_r ?_
        obtain rfl := Option.some.inj H
        exact fin2 rfl rfl (Ext.trans (Ext.trans (Ext.trans e5 e11) e14) e19)
theorem spec_UnderOpaque.calls {w : World} {a0 : List Rec} {a1 : List UInt8} {v_a0 : Value} (f_a0 : Rd 5 encRec w v_a0 a0) (h0 : a0.length ≤ 1048576) (h1 : ∀ x ∈ a0, x.path.length ≤ 1048576) :
    Calls Tryd.prog 16 #[v_a0, S a1] w (Rt (RP w (.tuple #[.bool ((underOpq a0 a1).1), .int .i64 ((underOpq a0 a1).2)]))) := spec_UnderOpaque.walk f_a0 (spec_UnderOpaque.eq a0 a1 h0 h1)
/-! impl.UnderOpaque -/
theorem impl_UnderOpaque.walk {w : World} {a0 : List Rec} {a1 : List UInt8} (gv : GV 0 w) {v_a0 : Value} (f_a0 : Rd 5 encRec w v_a0 a0) {r : Bool × Int} (H : impl_UnderOpaque.sh a0 a1 = some r) :
    Calls Tryd.prog 18 #[v_a0, S a1] w (Rt (RP w (.tuple #[.bool r.1, .int .i64 r.2]))) := by
  unfold impl_UnderOpaque.sh at H
  refine calls_of_W Tryd.func18 rfl (Nat.le_of_ble_eq_true rfl) Tryd.ntmps18 rfl ?_
  refine W_seq <| W_reg <| L_op (.plain rfl) rfl (ltb rfl) (X_assign (v := (.bool false)) rfl) <| L_op (.plain rfl) rfl (ltb rfl) (X_assign (v := (.int .i64 0)) rfl) <| L_nil <| thn_n <| W_seq <| W_seq <| W_reg <| L_op (.plain rfl) rfl (ltb rfl) (X_move (v := (S a1)) rfl) <| L_lit (.plain rfl) rfl (ltb rfl) rfl Tryd.underlying57 Tryd.sizeOf9 Tryd.zeroValue9 rfl rfl rfl (vs := [(S a1)]) rfl (lit_all rfl) <| fun b1 w2 z3 z4 e5 k6 => ?_
  obtain ⟨c7, H⟩ := bif_some H
  refine L_callP (.plain rfl) rfl (ltb rfl) rfl Tryd.call62 (impl_isLong.calls (w := w2) (a0 := ([a1] : List (List UInt8))) (Own.rd (Own.new (xs := [a1]) (sz := 1) (enc := encS) (base := w.heap.size) k6 (Nat.le_of_eq z3) rfl (fun _ _ => by rfl) (Nat.le_of_ble_eq_true rfl))) (of_decide_eq_true c7)) rfl <| fun w8 e9 => L_op (.plain rfl) rfl (ltb rfl) (X_move rfl) <| L_grp 3 [(11, 14)] 13 (.bool ((([a1] : List (List UInt8)).any fun t => decide (65536 < t.length)) || (decide (4096 < a0.length)))) ?_ ?_
  · rcases bool_two (([a1] : List (List UInt8)).any fun t => decide (65536 < t.length)) with b9_ | b9_
    · exact L_skip rfl rfl (ltb rfl) (congrArg Value.bool b9_) rfl rfl (ltb rfl) <| L_skip rfl rfl (ltb rfl) (congrArg Value.bool b9_) rfl rfl (ltb rfl) <| L_op (.plain rfl) rfl (ltb rfl) (X_pick (b := true) (v := (.bool true)) (congrArg Value.bool b9_) rfl) <| L_nil <| thn_n ⟨(Kp.upd (Kp.upd (Kp.upd (Kp.refl _ _) rfl) rfl) rfl), (or_t b9_), (Ext.refl w8)⟩
    · exact L_op (.guard 3 false 10 rfl rfl (ltb rfl) (congrArg Value.bool b9_)) rfl (ltb rfl) (X_move (v := v_a0) rfl) <| L_callP (.guard 3 false 10 rfl rfl (ltb rfl) (congrArg Value.bool b9_)) rfl (ltb rfl) rfl Tryd.call63 (impl_isLongListR.calls (w := w8) (a0 := a0) (Rd.ext f_a0 (Ext.trans e5 e9))) rfl <| fun w11 e12 => L_op (.plain rfl) rfl (ltb rfl) (X_pick (b := false) (v := (.bool (decide (4096 < a0.length)))) (congrArg Value.bool b9_) rfl) <| L_nil <| thn_n ⟨(Kp.upd (Kp.upd (Kp.upd (Kp.refl _ _) rfl) rfl) rfl), (or_f b9_), e12⟩
  intro s15 w11 K12 h13 e14
  refine L_op (.plain rfl) rfl (ltb rfl) (X_mkiface Tryd.underlying4 rfl h13) <| L_op (.plain rfl) rfl (ltb rfl) (X_mkiface Tryd.underlying3 rfl rfl) <| L_op (.plain rfl) rfl (ltb rfl) (X_move (v := v_a0) (K12 0 rfl)) ?_
  obtain ⟨c16, H⟩ := bif_some H
  obtain ⟨c17, H⟩ := bif_some H
  refine L_callP (.plain rfl) rfl (ltb rfl) rfl Tryd.call64 (impl_LayerOK.calls (w := w11) (a0 := a0) (GV.ext gv (Ext.trans (Ext.trans e5 e9) e14)) (Rd.ext f_a0 (Ext.trans (Ext.trans e5 e9) e14)) (of_decide_eq_true c16) (of_decide_eq_true c17)) rfl <| fun w18 e19 => L_op (.plain rfl) rfl (ltb rfl) (X_not rfl) <| L_op (.plain rfl) rfl (ltb rfl) (X_mkiface Tryd.underlying4 rfl rfl) <| L_op (.plain rfl) rfl (ltb rfl) (X_mkiface Tryd.underlying3 rfl rfl) <| L_op (.plain rfl) rfl (ltb rfl) (X_move (v := (S a1)) (K12 1 rfl)) <| L_callP (.plain rfl) rfl (ltb rfl) rfl Tryd.call65 (impl_PathOK.calls (w := w18) (a0 := a1) (GV.ext gv (Ext.trans (Ext.trans (Ext.trans e5 e9) e14) e19))) rfl <| fun w20 e21 => L_op (.plain rfl) rfl (ltb rfl) (X_not rfl) <| L_op (.plain rfl) rfl (ltb rfl) (X_mkiface Tryd.underlying4 rfl rfl) <| L_op (.plain rfl) rfl (ltb rfl) (X_mkiface Tryd.underlying3 rfl rfl) <| L_lit (.plain rfl) rfl (ltb rfl) rfl Tryd.underlying99 Tryd.sizeOf20 Tryd.zeroValue20 rfl rfl rfl (vs := [(.iface 4 (.bool ((([a1] : List (List UInt8)).any fun t => decide (65536 < t.length)) || (decide (4096 < a0.length))))), (.iface 3 (.int .i64 2)), (.iface 4 (.bool (!(decide ((layerFaultL a0).2 = 0))))), (.iface 3 (.int .i64 1)), (.iface 4 (.bool (!(pathOK a1)))), (.iface 3 (.int .i64 10))]) rfl (lit_all rfl) <| fun b22 w23 z24 z25 e26 k27 => ?_
  obtain ⟨c28, H⟩ := bif_some H
  obtain ⟨z31, x32, H⟩ := bind_some H
  replace x32 := Option.some.inj x32
  refine L_callP (.plain rfl) rfl (ltb rfl) rfl Tryd.call61 (impl_first.calls (w := w23) (a0 := ([.inl ((([a1] : List (List UInt8)).any fun t => decide (65536 < t.length)) || (decide (4096 < a0.length))), .inr 2, .inl (!(decide ((layerFaultL a0).2 = 0))), .inr 1, .inl (!(pathOK a1)), .inr 10] : List (Bool ⊕ Int))) (Own.rd (Own.new (xs := [.inl ((([a1] : List (List UInt8)).any fun t => decide (65536 < t.length)) || (decide (4096 < a0.length))), .inr 2, .inl (!(decide ((layerFaultL a0).2 = 0))), .inr 1, .inl (!(pathOK a1)), .inr 10]) (sz := 1) (enc := (encAny 4 3)) (base := w20.heap.size) k27 (Nat.le_of_eq z24) rfl (fun _ _ => by first | rfl | exact encAny_len _ _ _) (Nat.le_of_ble_eq_true rfl))) (of_decide_eq_true c28)) rfl <| fun w29 e30 => L_op (.plain rfl) rfl (ltb rfl) (X_assign (v := (.int .i64 z31)) (congrArg (Value.int .i64) x32)) <| L_nil <| thn_n <| W_seq <| W_reg <| L_op (.plain rfl) rfl (ltb rfl) (X_move (v := (.int .i64 z31)) rfl) <| L_op (.plain rfl) rfl (ltb rfl) (X_neq rfl rfl) <| L_nil <| thn_n ?_
  rcases bif_two H with ⟨q33, H⟩ | ⟨q33, H⟩
  · refine W_true (congrArg Value.bool q33) <| W_seq <| W_reg <| L_op (.plain rfl) rfl (ltb rfl) (X_move (v := (.int .i64 z31)) rfl) <| L_op (.plain rfl) rfl (ltb rfl) (X_assign (v := (.bool false)) rfl) <| L_op (.plain rfl) rfl (ltb rfl) (X_assign (v := (.int .i64 z31)) rfl) <| L_nil <| thn_n <| W_ret <| thn_r <| fin_r ?_
    obtain rfl := Option.some.inj H
    exact fin2 rfl rfl (Ext.trans (Ext.trans (Ext.trans (Ext.trans (Ext.trans (Ext.trans e5 e9) e14) e19) e21) e26) e30)
  · refine W_false (congrArg Value.bool q33) <| W_skip <| thn_n <| W_seq <| W_reg <| L_op (.plain rfl) rfl (ltb rfl) (X_move (v := v_a0) (K12 0 rfl)) <| L_op (.plain rfl) rfl (ltb rfl) (X_move (v := (S a1)) (K12 1 rfl)) ?_
    obtain ⟨c34, H⟩ := bif_some H
    obtain ⟨c35, H⟩ := bif_some H
    refine L_callP (.plain rfl) rfl (ltb rfl) rfl Tryd.call66 (impl_underOpaque.calls (w := w29) (a0 := a0) (a1 := a1) (Rd.ext f_a0 (Ext.trans (Ext.trans (Ext.trans (Ext.trans (Ext.trans (Ext.trans e5 e9) e14) e19) e21) e26) e30)) (of_decide_eq_true c34) (of_decide_eq_true c35)) rfl <| fun w36 e37 => L_op (.plain rfl) rfl (ltb rfl) (X_assign (v := (.bool (underO a0 a1))) rfl) <| L_op (.plain rfl) rfl (ltb rfl) (X_assign (v := (.int .i64 0)) rfl) <| L_nil <| thn_n <| W_ret <| fin_r ?_
    obtain rfl := Option.some.inj H
    exact fin2 rfl rfl (Ext.trans (Ext.trans (Ext.trans (Ext.trans (Ext.trans (Ext.trans (Ext.trans e5 e9) e14) e19) e21) e26) e30) e37)
theorem impl_UnderOpaque.calls {w : World} {a0 : List Rec} {a1 : List UInt8} (gv : GV 0 w) {v_a0 : Value} (f_a0 : Rd 5 encRec w v_a0 a0) (h0 : a0.length ≤ 1048576) (h1 : ∀ x ∈ a0, x.path.length ≤ 1048576) :
    Calls Tryd.prog 18 #[v_a0, S a1] w (Rt (RP w (.tuple #[.bool ((underOpq a0 a1).1), .int .i64 ((underOpq a0 a1).2)]))) := impl_UnderOpaque.walk gv f_a0 (impl_UnderOpaque.eq a0 a1 h0 h1)
/-! laws.FnExactUnderOpaque -/
theorem law_UnderOpaque.walk {w : World} {a0 : List Rec} {a1 : List UInt8} (gv : GV 0 w) {v_a0 : Value} (f_a0 : Rd 5 encRec w v_a0 a0) {r : Bool} (H : law_UnderOpaque.sh a0 a1 = some r) :
    Calls Tryd.prog 3 #[v_a0, S a1] w (Rt (RP w (.bool r))) := by
  unfold law_UnderOpaque.sh at H
  refine calls_of_W Tryd.func3 rfl (Nat.le_of_ble_eq_true rfl) Tryd.ntmps3 rfl ?_
  refine W_seq <| W_reg <| L_op (.plain rfl) rfl (ltb rfl) (X_assign (v := (.bool false)) rfl) <| L_nil <| thn_n <| W_seq <| W_seq <| W_reg <| L_op (.plain rfl) rfl (ltb rfl) (X_move (v := (S a1)) rfl) <| L_op (.plain rfl) rfl (ltb rfl) (X_lenS Tryd.underlying9 rfl) <| L_op (.plain rfl) rfl (ltb rfl) (X_gtr rfl rfl) <| L_nil <| thn_n ?_
  rcases bif_two H with ⟨q1, H⟩ | ⟨q1, H⟩
  · refine W_true (congrArg Value.bool q1) <| W_seq <| W_reg <| L_op (.plain rfl) rfl (ltb rfl) (X_assign (v := (.bool true)) rfl) <| L_nil <| thn_n <| W_ret <| thn_r <| fin_r ?_
    obtain rfl := Option.some.inj H
    exact fin1 rfl (Ext.refl w)
  · refine W_false (congrArg Value.bool q1) <| W_skip <| thn_n <| W_seq <| W_reg <| L_op (.plain rfl) rfl (ltb rfl) (X_assign (v := (.int .i64 1048576)) rfl) <| L_nil <| thn_n <| W_seq <| W_reg <| L_op (.plain rfl) rfl (ltb rfl) (X_move (v := v_a0) rfl) <| L_op (.plain rfl) rfl (ltb rfl) (X_move (v := (.int .i64 1048576)) rfl) ?_
    obtain ⟨c2, H⟩ := bif_some H
    obtain ⟨c3, H⟩ := bif_some H
    obtain ⟨c4, H⟩ := bif_some H
    obtain ⟨c5, H⟩ := bif_some H
    refine L_callP (.plain rfl) rfl (ltb rfl) rfl Tryd.call15 (laws_szRecordS.calls (w := w) (a0 := a0) (a1 := 1048576) f_a0 (of_decide_eq_true c2) (of_decide_eq_true c3) (of_decide_eq_true c4) (of_decide_eq_true c5)) rfl <| fun w6 e7 => L_op (.plain rfl) rfl (ltb rfl) (X_assign (v := (.int .i64 (szRecS a0 1048576))) rfl) <| L_nil <| thn_n <| W_seq <| W_seq <| W_reg <| L_op (.plain rfl) rfl (ltb rfl) (X_move (v := (.int .i64 (szRecS a0 1048576))) rfl) <| L_op (.plain rfl) rfl (ltb rfl) (X_lss rfl rfl) <| L_nil <| thn_n ?_
    rcases bif_two H with ⟨q8, H⟩ | ⟨q8, H⟩
    · refine W_true (congrArg Value.bool q8) <| W_seq <| W_reg <| L_op (.plain rfl) rfl (ltb rfl) (X_assign (v := (.bool true)) rfl) <| L_nil <| thn_n <| W_ret <| thn_r <| fin_r ?_
      obtain rfl := Option.some.inj H
      exact fin1 rfl e7
    · refine W_false (congrArg Value.bool q8) <| W_skip <| thn_n <| W_seq <| W_reg <| L_op (.plain rfl) rfl (ltb rfl) (X_move (v := v_a0) rfl) ?_
      obtain ⟨c9, H⟩ := bif_some H
      refine L_callO (.plain rfl) rfl (ltb rfl) rfl Tryd.call17 (laws_toRecordS.calls (w := w6) (a0 := a0) (Rd.ext f_a0 e7) (of_decide_eq_true c9)) rfl <| fun v12 w10 e11 o13 => L_op (.plain rfl) rfl (ltb rfl) (X_move (v := (S a1)) rfl) ?_
      obtain ⟨c14, H⟩ := bif_some H
      obtain ⟨c15, H⟩ := bif_some H
      refine L_callP (.plain rfl) rfl (ltb rfl) rfl Tryd.call16 (spec_UnderOpaque.calls (w := w10) (a0 := a0) (a1 := a1) (Own.rd o13) (of_decide_eq_true c14) (of_decide_eq_true c15)) rfl <| fun w16 e17 => L_op (.plain rfl) rfl (ltb rfl) (X_move rfl) <| L_op (.plain rfl) rfl (ltb rfl) (X_extract (v := (.bool ((underOpq a0 a1).1))) rfl rfl) <| L_op (.plain rfl) rfl (ltb rfl) (X_extract (v := (.int .i64 ((underOpq a0 a1).2))) rfl rfl) <| L_op (.plain rfl) rfl (ltb rfl) (X_assign (v := (.bool ((underOpq a0 a1).1))) rfl) <| L_op (.plain rfl) rfl (ltb rfl) (X_assign (v := (.int .i64 ((underOpq a0 a1).2))) rfl) <| L_nil <| thn_n <| W_seq <| W_reg <| L_op (.plain rfl) rfl (ltb rfl) (X_move (v := v_a0) rfl) ?_
      obtain ⟨c18, H⟩ := bif_some H
      refine L_callO (.plain rfl) rfl (ltb rfl) rfl Tryd.call17 (laws_toRecordS.calls (w := w16) (a0 := a0) (Rd.ext f_a0 (Ext.trans (Ext.trans e7 e11) e17)) (of_decide_eq_true c18)) rfl <| fun v21 w19 e20 o22 => L_op (.plain rfl) rfl (ltb rfl) (X_assign (v := v21) rfl) <| L_nil <| thn_n <| W_seq <| W_reg <| L_op (.plain rfl) rfl (ltb rfl) (X_move (v := v21) rfl) <| L_op (.plain rfl) rfl (ltb rfl) (X_move (v := (S a1)) rfl) ?_
      obtain ⟨c23, H⟩ := bif_some H
      obtain ⟨c24, H⟩ := bif_some H
      refine L_callP (.plain rfl) rfl (ltb rfl) rfl Tryd.call18 (impl_UnderOpaque.calls (w := w19) (a0 := a0) (a1 := a1) (GV.ext gv (Ext.trans (Ext.trans (Ext.trans e7 e11) e17) e20)) (Own.rd o22) (of_decide_eq_true c23) (of_decide_eq_true c24)) rfl <| fun w25 e26 => L_op (.plain rfl) rfl (ltb rfl) (X_move rfl) <| L_op (.plain rfl) rfl (ltb rfl) (X_extract (v := (.bool ((underOpq a0 a1).1))) rfl rfl) <| L_op (.plain rfl) rfl (ltb rfl) (X_extract (v := (.int .i64 ((underOpq a0 a1).2))) rfl rfl) <| L_op (.plain rfl) rfl (ltb rfl) (X_assign (v := (.bool ((underOpq a0 a1).1))) rfl) <| L_op (.plain rfl) rfl (ltb rfl) (X_assign (v := (.int .i64 ((underOpq a0 a1).2))) rfl) <| L_nil <| thn_n <| W_seq <| W_seq <| W_reg <| L_op (.plain rfl) rfl (ltb rfl) (X_move (v := (.bool ((underOpq a0 a1).1))) rfl) <| L_op (.plain rfl) rfl (ltb rfl) (X_move (v := (.bool ((underOpq a0 a1).1))) rfl) <| L_op (.plain rfl) rfl (ltb rfl) (X_bne Tryd.underlying4 rfl rfl) <| L_op (.plain rfl) rfl (ltb rfl) (X_move (v := (.bool (!decide (((underOpq a0 a1).1) = ((underOpq a0 a1).1))))) rfl) <| L_grp 4 [(38, 42)] 41 (.bool ((!decide (((underOpq a0 a1).1) = ((underOpq a0 a1).1))) || (!decide (((underOpq a0 a1).2) = ((underOpq a0 a1).2))))) ?_ ?_
      · rcases bool_two (!decide (((underOpq a0 a1).1) = ((underOpq a0 a1).1))) with b26_ | b26_
        · exact L_skip rfl rfl (ltb rfl) (congrArg Value.bool b26_) rfl rfl (ltb rfl) <| L_skip rfl rfl (ltb rfl) (congrArg Value.bool b26_) rfl rfl (ltb rfl) <| L_skip rfl rfl (ltb rfl) (congrArg Value.bool b26_) rfl rfl (ltb rfl) <| L_op (.plain rfl) rfl (ltb rfl) (X_pick (b := true) (v := (.bool true)) (congrArg Value.bool b26_) rfl) <| L_nil <| thn_n ⟨(Kp.upd (Kp.upd (Kp.upd (Kp.upd (Kp.refl _ _) rfl) rfl) rfl) rfl), (or_t b26_), (Ext.refl w25)⟩
        · exact L_op (.guard 3 false 37 rfl rfl (ltb rfl) (congrArg Value.bool b26_)) rfl (ltb rfl) (X_move (v := (.int .i64 ((underOpq a0 a1).2))) rfl) <| L_op (.guard 3 false 37 rfl rfl (ltb rfl) (congrArg Value.bool b26_)) rfl (ltb rfl) (X_move (v := (.int .i64 ((underOpq a0 a1).2))) rfl) <| L_op (.guard 3 false 37 rfl rfl (ltb rfl) (congrArg Value.bool b26_)) rfl (ltb rfl) (X_neq rfl rfl) <| L_op (.plain rfl) rfl (ltb rfl) (X_pick (b := false) (v := (.bool (!decide (((underOpq a0 a1).2) = ((underOpq a0 a1).2))))) (congrArg Value.bool b26_) rfl) <| L_nil <| thn_n ⟨(Kp.upd (Kp.upd (Kp.upd (Kp.upd (Kp.refl _ _) rfl) rfl) rfl) rfl), (or_f b26_), (Ext.refl w25)⟩
      intro s32 w28 K29 h30 e31
      refine L_nil <| thn_n ?_
      rcases bif_two H with ⟨q33, H⟩ | ⟨q33, H⟩
      · refine W_true (h30.trans (congrArg Value.bool q33)) <| W_seq <| W_reg <| L_op (.plain rfl) rfl (ltb rfl) (X_assign (v := (.bool false)) rfl) <| L_nil <| thn_n <| W_ret <| thn_r <| fin_r ?_
        obtain rfl := Option.some.inj H
        exact fin1 rfl (Ext.trans (Ext.trans (Ext.trans (Ext.trans (Ext.trans e7 e11) e17) e20) e26) e31)
      · refine W_false (h30.trans (congrArg Value.bool q33)) <| W_skip <| thn_n <| W_seq <| W_seq <| W_reg <| L_op (.plain rfl) rfl (ltb rfl) (X_move (v := v21) (K29 8 rfl)) <| L_op (.plain rfl) rfl (ltb rfl) (X_move (v := v_a0) (K29 0 rfl)) ?_
        obtain ⟨c34, H⟩ := bif_some H
        refine L_callO (.plain rfl) rfl (ltb rfl) rfl Tryd.call17 (laws_toRecordS.calls (w := w28) (a0 := a0) (Rd.ext f_a0 (Ext.trans (Ext.trans (Ext.trans (Ext.trans (Ext.trans e7 e11) e17) e20) e26) e31)) (of_decide_eq_true c34)) rfl <| fun v37 w35 e36 o38 => ?_
        obtain ⟨c39, H⟩ := bif_some H
        refine L_callP (.plain rfl) rfl (ltb rfl) rfl Tryd.call19 (laws_eqRecordS.calls (w := w35) (a0 := a0) (a1 := a0) (Own.rd (Own.ext o22 (Ext.trans (Ext.trans e26 e31) e36))) (Own.rd o38) (of_decide_eq_true c39)) rfl <| fun w40 e41 => L_op (.plain rfl) rfl (ltb rfl) (X_not rfl) <| L_nil <| thn_n ?_
        rcases bif_two H with ⟨q42, H⟩ | ⟨q42, H⟩
        · refine W_true (congrArg Value.bool q42) <| W_seq <| W_reg <| L_op (.plain rfl) rfl (ltb rfl) (X_assign (v := (.bool false)) rfl) <| L_nil <| thn_n <| W_ret <| thn_r <| fin_r ?_
          obtain rfl := Option.some.inj H
          exact fin1 rfl (Ext.trans (Ext.trans (Ext.trans (Ext.trans (Ext.trans (Ext.trans (Ext.trans e7 e11) e17) e20) e26) e31) e36) e41)
        · refine W_false (congrArg Value.bool q42) <| W_skip <| thn_n <| W_seq <| W_reg <| L_op (.plain rfl) rfl (ltb rfl) (X_assign (v := (.bool true)) rfl) <| L_nil <| thn_n <| W_ret <| fin_r ?_
          obtain rfl := Option.some.inj H
          exact fin1 rfl (Ext.trans (Ext.trans (Ext.trans (Ext.trans (Ext.trans (Ext.trans (Ext.trans e7 e11) e17) e20) e26) e31) e36) e41)
theorem law_UnderOpaque.calls {w : World} {a0 : List Rec} {a1 : List UInt8} (gv : GV 0 w) {v_a0 : Value} (f_a0 : Rd 5 encRec w v_a0 a0) (h0 : ∀ x ∈ a0, okRec x) (h1 : a0.length ≤ 9223372036854775807) :
    Calls Tryd.prog 3 #[v_a0, S a1] w (Rt (RP w (.bool true))) := law_UnderOpaque.walk gv f_a0 (law_UnderOpaque.eq a0 a1 h0 h1)
/-! spec.l06Stops -/
theorem spec_l06Stops.walk {w : World} {a0 : Rec} {r : Bool} (H : spec_l06Stops.sh a0 = some r) :
    Calls Tryd.prog 110 #[.agg (encRec a0).toArray] w (Rt (RP w (.bool r))) := by
  unfold spec_l06Stops.sh at H
  refine calls_of_W Tryd.func110 rfl (Nat.le_of_ble_eq_true rfl) Tryd.ntmps110 rfl ?_
  refine W_seq <| W_reg <| L_box (.plain rfl) rfl (ltb rfl) rfl rfl <| fun b1 w2 z3 z4 e5 k6 => L_op (.plain rfl) rfl (ltb rfl) (X_assign (v := (.bool false)) rfl) <| L_nil <| thn_n <| W_seq <| W_reg <| L_op (.plain rfl) rfl (ltb rfl) (X_fieldAddr Tryd.underlying74 rfl Tryd.sizeOf3 rfl rfl) <| L_op (.plain rfl) rfl (ltb rfl) (X_loadB Tryd.isAgg3 k6 rfl rfl) <| L_op (.plain rfl) rfl (ltb rfl) (X_neq rfl rfl) <| L_op (.plain rfl) rfl (ltb rfl) (X_move (v := (.bool (!decide (a0.kind = 3)))) rfl) <| L_grp 3 [(7, 10)] 9 (.bool ((!decide (a0.kind = 3)) || a0.opq)) ?_ ?_
  · rcases bool_two (!decide (a0.kind = 3)) with b6_ | b6_
    · exact L_skip rfl rfl (ltb rfl) (congrArg Value.bool b6_) rfl rfl (ltb rfl) <| L_skip rfl rfl (ltb rfl) (congrArg Value.bool b6_) rfl rfl (ltb rfl) <| L_op (.plain rfl) rfl (ltb rfl) (X_pick (b := true) (v := (.bool true)) (congrArg Value.bool b6_) rfl) <| L_nil <| thn_n ⟨(Kp.upd (Kp.upd (Kp.upd (Kp.refl _ _) rfl) rfl) rfl), (or_t b6_), (Ext.refl w2)⟩
    · exact L_op (.guard 3 false 6 rfl rfl (ltb rfl) (congrArg Value.bool b6_)) rfl (ltb rfl) (X_fieldAddr Tryd.underlying74 rfl Tryd.sizeOf4 rfl rfl) <| L_op (.guard 3 false 6 rfl rfl (ltb rfl) (congrArg Value.bool b6_)) rfl (ltb rfl) (X_loadB Tryd.isAgg4 k6 rfl rfl) <| L_op (.plain rfl) rfl (ltb rfl) (X_pick (b := false) (v := (.bool a0.opq)) (congrArg Value.bool b6_) rfl) <| L_nil <| thn_n ⟨(Kp.upd (Kp.upd (Kp.upd (Kp.refl _ _) rfl) rfl) rfl), (or_f b6_), (Ext.refl w2)⟩
  intro s12 w8 K9 h10 e11
  refine L_op (.plain rfl) rfl (ltb rfl) (X_assign (v := (.bool ((!decide (a0.kind = 3)) || a0.opq))) h10) <| L_nil <| thn_n <| W_ret <| fin_r ?_
  obtain rfl := Option.some.inj H
  exact fin1 rfl (Ext.trans e5 e11)
theorem spec_l06Stops.calls {w : World} {a0 : Rec} :
    Calls Tryd.prog 110 #[.agg (encRec a0).toArray] w (Rt (RP w (.bool (stopsR a0)))) := spec_l06Stops.walk (spec_l06Stops.eq a0)
/-! spec.l06Cuts -/
theorem spec_l06Cuts.walk {k : Nat} {w : World} {a0 : List Rec} {a1 : List UInt8} {v_a0 : Value} (f_a0 : Rd 5 encRec w v_a0 a0) {r : Bool} (H : spec_l06Cuts.sh k a0 a1 = some r) :
    Calls Tryd.prog 68 #[v_a0, S a1] w (Rt (RP w (.bool r))) := by
  unfold spec_l06Cuts.sh at H
  refine calls_of_W Tryd.func68 rfl (Nat.le_of_ble_eq_true rfl) Tryd.ntmps68 rfl ?_
  refine W_seq <| W_reg <| L_op (.plain rfl) rfl (ltb rfl) (X_assign (v := (.bool false)) rfl) <| L_nil <| thn_n <| W_seq <| W_seq <| W_reg <| L_op (.plain rfl) rfl (ltb rfl) (X_move (v := (S a1)) rfl) ?_
  obtain ⟨c1, H⟩ := bif_some H
  refine L_callP (.plain rfl) rfl (ltb rfl) rfl Tryd.call101 (spec_l01Parent.calls (w := w) (a0 := a1) (of_decide_eq_true c1)) rfl <| fun w2 e3 => L_op (.plain rfl) rfl (ltb rfl) (X_assign (v := (S (parentP a1))) rfl) <| L_nil <| thn_n ?_
  obtain ⟨z5, L6, C7⟩ := bind_some H
  clear H
  refine  W_cutQ (fun s0 sQ wQ => Kp [(4, 7), (9, 25)] s0 sQ ∧ Ext w2 wQ ∧ z5 = .inr ()) ?_ ?_
  · refine W_block <| W_loopI (fun s0 kk sQ wQ => ∃ (x5_4 : List UInt8), Kp [(4, 7), (9, 25)] s0 sQ ∧ sQ 5 = S x5_4 ∧ Ext w2 wQ ∧ loopF (spec_l06Cuts.b1 a0) kk x5_4 = some z5) k ⟨(parentP a1), (Kp.refl _ _), rfl, (Ext.refl w2), L6⟩ ?_
    rintro k12 s13 w14 ⟨x5_4, K15, h18, e16, L17⟩
    cases k12 with
    | zero => exact absurd L17 (by simp [loopF])
    | succ k12 =>
      obtain ⟨t19, H, S20⟩ := loopF_succ L17
      clear L17
      unfold spec_l06Cuts.b1 at H
      refine W_seq <| W_seq <| W_reg <| L_op (.plain rfl) rfl (ltb rfl) (X_move (v := (S x5_4)) h18) <| L_op (.plain rfl) rfl (ltb rfl) (X_sne rfl rfl) <| L_nil <| thn_n ?_
      rcases bif_two H with ⟨q21, H⟩ | ⟨q21, H⟩
      · refine W_true (congrArg Value.bool q21) <| W_skip <| thn_n <| W_seq <| W_block <| W_seq <| W_reg <| L_op (.plain rfl) rfl (ltb rfl) (X_move (v := v_a0) (K15 0 rfl)) <| L_op (.plain rfl) rfl (ltb rfl) (X_move (v := (S x5_4)) h18) ?_
        obtain ⟨c22, H⟩ := bif_some H
        refine L_callP (.plain rfl) rfl (ltb rfl) rfl Tryd.call102 (spec_l03At.calls (w := w14) (a0 := a0) (a1 := x5_4) (Rd.ext f_a0 (Ext.trans e3 e16)) (of_decide_eq_true c22)) rfl <| fun w23 e24 => L_op (.plain rfl) rfl (ltb rfl) (X_assign (v := (.int .i64 (findR a0 x5_4))) rfl) <| L_nil <| thn_n <| W_seq <| W_reg <| L_op (.plain rfl) rfl (ltb rfl) (X_move (v := (.int .i64 (findR a0 x5_4))) rfl) <| L_op (.plain rfl) rfl (ltb rfl) (X_geq rfl rfl) <| L_op (.plain rfl) rfl (ltb rfl) (X_move (v := (.bool (decide (0 ≤ (findR a0 x5_4))))) rfl) ?_
        obtain ⟨z26, x27, H⟩ := bind_some H
        refine L_grpE 6 [(19, 25)] 24 (fun q => q = z26) ?_ ?_
        · rcases bif_two x27 with ⟨b24_, H⟩ | ⟨b24_, H⟩
          · refine L_op (.guard 2 true 18 rfl rfl (ltb rfl) (congrArg Value.bool b24_)) rfl (ltb rfl) (X_move (v := v_a0) (K15 0 rfl)) <| L_op (.guard 2 true 18 rfl rfl (ltb rfl) (congrArg Value.bool b24_)) rfl (ltb rfl) (X_move (v := (.int .i64 (findR a0 x5_4))) rfl) ?_
            obtain ⟨c26, H⟩ := bif_some H
            refine L_idx (.guard 2 true 18 rfl rfl (ltb rfl) (congrArg Value.bool b24_)) rfl (ltb rfl) rfl Tryd.underlying26 Tryd.sizeOf74 rfl (Rd.ext f_a0 (Ext.trans (Ext.trans e3 e16) e24)) rfl c26 <| fun p27 h28 => L_op (.guard 2 true 18 rfl rfl (ltb rfl) (congrArg Value.bool b24_)) rfl (ltb rfl) (X_loadS Tryd.isAgg74 Tryd.sizeOf74 rfl rfl h28) <| L_callP (.guard 2 true 18 rfl rfl (ltb rfl) (congrArg Value.bool b24_)) rfl (ltb rfl) rfl Tryd.call110 (spec_l06Stops.calls (w := w23) (a0 := gt a0 (findR a0 x5_4))) rfl <| fun w29 e30 => L_op (.plain rfl) rfl (ltb rfl) (X_pick (b := true) (v := (.bool (stopsR (gt a0 (findR a0 x5_4))))) (congrArg Value.bool b24_) rfl) ?_
            obtain rfl := Option.some.inj H
            exact L_nil <| thn_n ⟨(Kp.upd (Kp.upd (Kp.upd (Kp.upd (Kp.upd (Kp.upd (Kp.refl _ _) rfl) rfl) rfl) rfl) rfl) rfl), ⟨_, rfl, rfl⟩, e30⟩
          · refine L_skip rfl rfl (ltb rfl) (congrArg Value.bool b24_) rfl rfl (ltb rfl) <| L_skip rfl rfl (ltb rfl) (congrArg Value.bool b24_) rfl rfl (ltb rfl) <| L_skip rfl rfl (ltb rfl) (congrArg Value.bool b24_) rfl rfl (ltb rfl) <| L_skip rfl rfl (ltb rfl) (congrArg Value.bool b24_) rfl rfl (ltb rfl) <| L_skip rfl rfl (ltb rfl) (congrArg Value.bool b24_) rfl rfl (ltb rfl) <| L_op (.plain rfl) rfl (ltb rfl) (X_pick (b := false) (v := (.bool false)) (congrArg Value.bool b24_) rfl) ?_
            obtain rfl := Option.some.inj H
            exact L_nil <| thn_n ⟨(Kp.upd (Kp.upd (Kp.upd (Kp.upd (Kp.upd (Kp.upd (Kp.refl _ _) rfl) rfl) rfl) rfl) rfl) rfl), ⟨_, rfl, rfl⟩, (Ext.refl w23)⟩
        intro s32 w28 z33 K29 hq h30 e31
        rw [hq] at h30; clear hq
        refine L_nil <| thn_n ?_
        rcases bif_two H with ⟨q34, H⟩ | ⟨q34, H⟩
        · refine W_true (h30.trans (congrArg Value.bool q34)) <| W_seq <| W_reg <| L_op (.plain rfl) rfl (ltb rfl) (X_assign (v := (.bool true)) rfl) <| L_nil <| thn_n <| W_ret <| blk_r <| thn_r <| thn_r <| blk_r <| thn_r <| thn_r <| fin_r ?_
          obtain rfl := Option.some.inj H
          obtain rfl := Option.some.inj S20
          have H := C7
          obtain rfl := Option.some.inj H
          exact fin1 rfl (Ext.trans (Ext.trans (Ext.trans e3 e16) e24) e31)
        · refine W_false (h30.trans (congrArg Value.bool q34)) <| W_skip <| blk_n <| thn_n <| W_reg <| L_op (.plain rfl) rfl (ltb rfl) (X_move (v := (S x5_4)) ((K29 5 rfl).trans h18)) ?_
          obtain ⟨c35, H⟩ := bif_some H
          refine L_callP (.plain rfl) rfl (ltb rfl) rfl Tryd.call101 (spec_l01Parent.calls (w := w28) (a0 := x5_4) (of_decide_eq_true c35)) rfl <| fun w36 e37 => L_op (.plain rfl) rfl (ltb rfl) (X_assign (v := (S (parentP x5_4))) rfl) <| L_nil <| thn_n ?_
          obtain rfl := Option.some.inj H
          exact ⟨_, Nat.lt_succ_self _, (parentP x5_4), (Kp.upd (Kp.upd (Kp.upd (Kp.cut (Kp.upd (Kp.upd (Kp.upd (Kp.upd (Kp.upd (Kp.upd (Kp.upd (Kp.upd (Kp.upd K15 rfl) rfl) rfl) rfl) rfl) rfl) rfl) rfl) rfl) K29 rfl) rfl) rfl) rfl), rfl, (Ext.trans (Ext.trans (Ext.trans e16 e24) e31) e37), S20⟩
      · refine W_false (congrArg Value.bool q21) <| W_exit <| thn_x <| thn_x <| blk_x <| thn_n ?_
        obtain rfl := Option.some.inj H
        obtain rfl := Option.some.inj S20
        exact ⟨(Kp.upd (Kp.upd K15 rfl) rfl), e16, rfl⟩
  · rintro s9 w8 ⟨K10, e11, y38⟩
    rw [y38] at C7
    have H := C7
    replace H : _ = some _ := H
    refine thn_n <| W_seq <| W_reg <| L_op (.plain rfl) rfl (ltb rfl) (X_assign (v := (.bool false)) rfl) <| L_nil <| thn_n <| W_ret <| fin_r ?_
    obtain rfl := Option.some.inj H
    exact fin1 rfl (Ext.trans e3 e11)
theorem spec_l06Cuts.calls {w : World} {a0 : List Rec} {a1 : List UInt8} {v_a0 : Value} (f_a0 : Rd 5 encRec w v_a0 a0) (h0 : a0.length ≤ 1048576) (h1 : a1.length ≤ 1048576) :
    Calls Tryd.prog 68 #[v_a0, S a1] w (Rt (RP w (.bool (cutsR a0 a1)))) := by
  obtain ⟨k, h⟩ := spec_l06Cuts.eq a0 a1 h0 h1
  exact spec_l06Cuts.walk f_a0 h
/-! spec.Cuts -/
theorem spec_Cuts.walk {w : World} {a0 : List Rec} {a1 : List UInt8} {v_a0 : Value} (f_a0 : Rd 5 encRec w v_a0 a0) {r : Bool × Int} (H : spec_Cuts.sh a0 a1 = some r) :
    Calls Tryd.prog 20 #[v_a0, S a1] w (Rt (RP w (.tuple #[.bool r.1, .int .i64 r.2]))) := by
  unfold spec_Cuts.sh at H
  refine calls_of_W Tryd.func20 rfl (Nat.le_of_ble_eq_true rfl) Tryd.ntmps20 rfl ?_
  refine W_seq <| W_reg <| L_op (.plain rfl) rfl (ltb rfl) (X_assign (v := (.bool false)) rfl) <| L_op (.plain rfl) rfl (ltb rfl) (X_assign (v := (.int .i64 0)) rfl) <| L_nil <| thn_n <| W_seq <| W_seq <| W_reg <| L_op (.plain rfl) rfl (ltb rfl) (X_move (v := v_a0) rfl) <| L_op (.plain rfl) rfl (ltb rfl) (X_lenR Tryd.underlying26 rfl f_a0) <| L_op (.plain rfl) rfl (ltb rfl) (X_gtr rfl rfl) <| L_op (.plain rfl) rfl (ltb rfl) (X_move (v := (.bool (decide (4096 < (a0.length : Int))))) rfl) <| L_grp 4 [(10, 14)] 13 (.bool ((decide (4096 < (a0.length : Int))) || (decide (65536 < (a1.length : Int))))) ?_ ?_
  · rcases bool_two (decide (4096 < (a0.length : Int))) with b0_ | b0_
    · exact L_skip rfl rfl (ltb rfl) (congrArg Value.bool b0_) rfl rfl (ltb rfl) <| L_skip rfl rfl (ltb rfl) (congrArg Value.bool b0_) rfl rfl (ltb rfl) <| L_skip rfl rfl (ltb rfl) (congrArg Value.bool b0_) rfl rfl (ltb rfl) <| L_op (.plain rfl) rfl (ltb rfl) (X_pick (b := true) (v := (.bool true)) (congrArg Value.bool b0_) rfl) <| L_nil <| thn_n ⟨(Kp.upd (Kp.upd (Kp.upd (Kp.upd (Kp.refl _ _) rfl) rfl) rfl) rfl), (or_t b0_), (Ext.refl w)⟩
    · exact L_op (.guard 3 false 9 rfl rfl (ltb rfl) (congrArg Value.bool b0_)) rfl (ltb rfl) (X_move (v := (S a1)) rfl) <| L_op (.guard 3 false 9 rfl rfl (ltb rfl) (congrArg Value.bool b0_)) rfl (ltb rfl) (X_lenS Tryd.underlying9 rfl) <| L_op (.guard 3 false 9 rfl rfl (ltb rfl) (congrArg Value.bool b0_)) rfl (ltb rfl) (X_gtr rfl rfl) <| L_op (.plain rfl) rfl (ltb rfl) (X_pick (b := false) (v := (.bool (decide (65536 < (a1.length : Int))))) (congrArg Value.bool b0_) rfl) <| L_nil <| thn_n ⟨(Kp.upd (Kp.upd (Kp.upd (Kp.upd (Kp.refl _ _) rfl) rfl) rfl) rfl), (or_f b0_), (Ext.refl w)⟩
  intro s6 w2 K3 h4 e5
  refine L_nil <| thn_n ?_
  rcases bif_two H with ⟨q7, H⟩ | ⟨q7, H⟩
  · refine W_true (h4.trans (congrArg Value.bool q7)) <| W_seq <| W_reg <| L_op (.plain rfl) rfl (ltb rfl) (X_assign (v := (.bool false)) rfl) <| L_op (.plain rfl) rfl (ltb rfl) (X_assign (v := (.int .i64 2)) rfl) <| L_nil <| thn_n <| W_ret <| thn_r <| fin_r ?_
    obtain rfl := Option.some.inj H
    exact fin2 rfl rfl e5
  · refine W_false (h4.trans (congrArg Value.bool q7)) <| W_skip <| thn_n <| W_seq <| W_seq <| W_reg <| L_op (.plain rfl) rfl (ltb rfl) (X_move (v := v_a0) (K3 0 rfl)) ?_
    obtain ⟨c8, H⟩ := bif_some H
    obtain ⟨c9, H⟩ := bif_some H
    refine L_callP (.plain rfl) rfl (ltb rfl) rfl Tryd.call57 (spec_l03OK.calls (w := w2) (a0 := a0) (Rd.ext f_a0 e5) (of_decide_eq_true c8) (of_decide_eq_true c9)) rfl <| fun w10 e11 => L_op (.plain rfl) rfl (ltb rfl) (X_not rfl) <| L_nil <| thn_n ?_
    rcases bif_two H with ⟨q12, H⟩ | ⟨q12, H⟩
    · refine W_true (congrArg Value.bool q12) <| W_seq <| W_reg <| L_op (.plain rfl) rfl (ltb rfl) (X_assign (v := (.bool false)) rfl) <| L_op (.plain rfl) rfl (ltb rfl) (X_assign (v := (.int .i64 1)) rfl) <| L_nil <| thn_n <| W_ret <| thn_r <| fin_r ?_
      obtain rfl := Option.some.inj H
      exact fin2 rfl rfl (Ext.trans e5 e11)
    · refine W_false (congrArg Value.bool q12) <| W_skip <| thn_n <| W_seq <| W_seq <| W_reg <| L_op (.plain rfl) rfl (ltb rfl) (X_move (v := (S a1)) (K3 1 rfl)) <| L_callP (.plain rfl) rfl (ltb rfl) rfl Tryd.call58 (spec_l01OK.calls (w := w10) (a0 := a1)) rfl <| fun w13 e14 => L_op (.plain rfl) rfl (ltb rfl) (X_not rfl) <| L_nil <| thn_n ?_
      rcases bif_two H with ⟨q15, H⟩ | ⟨q15, H⟩
      · refine W_true (congrArg Value.bool q15) <| W_seq <| W_reg <| L_op (.plain rfl) rfl (ltb rfl) (X_assign (v := (.bool false)) rfl) <| L_op (.plain rfl) rfl (ltb rfl) (X_assign (v := (.int .i64 10)) rfl) <| L_nil <| thn_n <| W_ret <| thn_r <| fin_r ?_
        obtain rfl := Option.some.inj H
        exact fin2 rfl rfl (Ext.trans (Ext.trans e5 e11) e14)
      · refine W_false (congrArg Value.bool q15) <| W_skip <| thn_n <| W_seq <| W_reg <| L_op (.plain rfl) rfl (ltb rfl) (X_move (v := v_a0) (K3 0 rfl)) <| L_op (.plain rfl) rfl (ltb rfl) (X_move (v := (S a1)) (K3 1 rfl)) ?_
        obtain ⟨c16, H⟩ := bif_some H
        obtain ⟨c17, H⟩ := bif_some H
        refine L_callP (.plain rfl) rfl (ltb rfl) rfl Tryd.call68 (spec_l06Cuts.calls (w := w13) (a0 := a0) (a1 := a1) (Rd.ext f_a0 (Ext.trans (Ext.trans e5 e11) e14)) (of_decide_eq_true c16) (of_decide_eq_true c17)) rfl <| fun w18 e19 => L_op (.plain rfl) rfl (ltb rfl) (X_assign (v := (.bool (cutsR a0 a1))) rfl) <| L_op (.plain rfl) rfl (ltb rfl) (X_assign (v := (.int .i64 0)) rfl) <| L_nil <| thn_n <| W_ret <| fin_r ?_
        obtain rfl := Option.some.inj H
        exact fin2 rfl rfl (Ext.trans (Ext.trans (Ext.trans e5 e11) e14) e19)
theorem spec_Cuts.calls {w : World} {a0 : List Rec} {a1 : List UInt8} {v_a0 : Value} (f_a0 : Rd 5 encRec w v_a0 a0) (h0 : a0.length ≤ 1048576) (h1 : ∀ x ∈ a0, x.path.length ≤ 1048576) :
    Calls Tryd.prog 20 #[v_a0, S a1] w (Rt (RP w (.tuple #[.bool ((cutsOf a0 a1).1), .int .i64 ((cutsOf a0 a1).2)]))) := spec_Cuts.walk f_a0 (spec_Cuts.eq a0 a1 h0 h1)
/-! impl.stops -/
theorem impl_stops.walk {w : World} {a0 : Rec} {r : Bool} (H : impl_stops.sh a0 = some r) :
    Calls Tryd.prog 111 #[.agg (encRec a0).toArray] w (Rt (RP w (.bool r))) := by
  unfold impl_stops.sh at H
  refine calls_of_W Tryd.func111 rfl (Nat.le_of_ble_eq_true rfl) Tryd.ntmps111 rfl ?_
  refine W_seq <| W_reg <| L_box (.plain rfl) rfl (ltb rfl) rfl rfl <| fun b1 w2 z3 z4 e5 k6 => L_op (.plain rfl) rfl (ltb rfl) (X_assign (v := (.bool false)) rfl) <| L_nil <| thn_n <| W_seq <| W_reg <| L_op (.plain rfl) rfl (ltb rfl) (X_fieldAddr Tryd.underlying74 rfl Tryd.sizeOf3 rfl rfl) <| L_op (.plain rfl) rfl (ltb rfl) (X_loadB Tryd.isAgg3 k6 rfl rfl) <| L_op (.plain rfl) rfl (ltb rfl) (X_neq rfl rfl) <| L_op (.plain rfl) rfl (ltb rfl) (X_move (v := (.bool (!decide (a0.kind = 3)))) rfl) <| L_grp 3 [(7, 10)] 9 (.bool ((!decide (a0.kind = 3)) || a0.opq)) ?_ ?_
  · rcases bool_two (!decide (a0.kind = 3)) with b6_ | b6_
    · exact L_skip rfl rfl (ltb rfl) (congrArg Value.bool b6_) rfl rfl (ltb rfl) <| L_skip rfl rfl (ltb rfl) (congrArg Value.bool b6_) rfl rfl (ltb rfl) <| L_op (.plain rfl) rfl (ltb rfl) (X_pick (b := true) (v := (.bool true)) (congrArg Value.bool b6_) rfl) <| L_nil <| thn_n ⟨(Kp.upd (Kp.upd (Kp.upd (Kp.refl _ _) rfl) rfl) rfl), (or_t b6_), (Ext.refl w2)⟩
    · exact L_op (.guard 3 false 6 rfl rfl (ltb rfl) (congrArg Value.bool b6_)) rfl (ltb rfl) (X_fieldAddr Tryd.underlying74 rfl Tryd.sizeOf4 rfl rfl) <| L_op (.guard 3 false 6 rfl rfl (ltb rfl) (congrArg Value.bool b6_)) rfl (ltb rfl) (X_loadB Tryd.isAgg4 k6 rfl rfl) <| L_op (.plain rfl) rfl (ltb rfl) (X_pick (b := false) (v := (.bool a0.opq)) (congrArg Value.bool b6_) rfl) <| L_nil <| thn_n ⟨(Kp.upd (Kp.upd (Kp.upd (Kp.refl _ _) rfl) rfl) rfl), (or_f b6_), (Ext.refl w2)⟩
  intro s12 w8 K9 h10 e11
  refine L_op (.plain rfl) rfl (ltb rfl) (X_assign (v := (.bool ((!decide (a0.kind = 3)) || a0.opq))) h10) <| L_nil <| thn_n <| W_ret <| fin_r ?_
  obtain rfl := Option.some.inj H
  exact fin1 rfl (Ext.trans e5 e11)
theorem impl_stops.calls {w : World} {a0 : Rec} :
    Calls Tryd.prog 111 #[.agg (encRec a0).toArray] w (Rt (RP w (.bool (stopsR a0)))) := impl_stops.walk (impl_stops.eq a0)
/-! impl.cuts -/
theorem impl_cuts.walk {w : World} {a0 : List Rec} {a1 : List UInt8} {v_a0 : Value} (f_a0 : Rd 5 encRec w v_a0 a0) {r : Bool} (H : impl_cuts.sh a0 a1 = some r) :
    Calls Tryd.prog 69 #[v_a0, S a1] w (Rt (RP w (.bool r))) := by
  unfold impl_cuts.sh at H
  refine calls_of_W Tryd.func69 rfl (Nat.le_of_ble_eq_true rfl) Tryd.ntmps69 rfl ?_
  refine W_seq <| W_reg <| L_op (.plain rfl) rfl (ltb rfl) (X_assign (v := (.bool false)) rfl) <| L_nil <| thn_n <| W_seq <| W_reg <| L_op (.plain rfl) rfl (ltb rfl) (X_move (v := v_a0) rfl) <| L_op (.plain rfl) rfl (ltb rfl) (X_move (v := (S a1)) rfl) ?_
  obtain ⟨c5, H⟩ := bif_some H
  obtain ⟨c6, H⟩ := bif_some H
  obtain ⟨z7, x8, H⟩ := bind_some H
  refine L_callP (.plain rfl) rfl (ltb rfl) rfl Tryd.call108 (impl_above.calls (w := w) (a0 := a0) (a1 := a1) (a2 := (fun (x0_ : Rec) => some (stopsR x0_))) f_a0 (fun x0_ r h => by have h := Option.some.inj h; subst h; exact FnAt.mk Tryd.call111 (by rfl) fun w3 k4 => impl_stops.calls (w := w3) (a0 := x0_)) rfl (of_decide_eq_true c5) (of_decide_eq_true c6) x8) rfl <| fun w9 e10 => L_op (.plain rfl) rfl (ltb rfl) (X_assign (v := (.bool z7)) rfl) <| L_nil <| thn_n <| W_ret <| fin_r ?_
  obtain rfl := Option.some.inj H
  exact fin1 rfl e10
theorem impl_cuts.calls {w : World} {a0 : List Rec} {a1 : List UInt8} {v_a0 : Value} (f_a0 : Rd 5 encRec w v_a0 a0) (h0 : a0.length ≤ 1048576) (h1 : a1.length ≤ 1048576) :
    Calls Tryd.prog 69 #[v_a0, S a1] w (Rt (RP w (.bool (cutsR a0 a1)))) := impl_cuts.walk f_a0 (impl_cuts.eq a0 a1 h0 h1)
/-! impl.Cuts -/
theorem impl_Cuts.walk {w : World} {a0 : List Rec} {a1 : List UInt8} (gv : GV 0 w) {v_a0 : Value} (f_a0 : Rd 5 encRec w v_a0 a0) {r : Bool × Int} (H : impl_Cuts.sh a0 a1 = some r) :
    Calls Tryd.prog 21 #[v_a0, S a1] w (Rt (RP w (.tuple #[.bool r.1, .int .i64 r.2]))) := by
  unfold impl_Cuts.sh at H
  refine calls_of_W Tryd.func21 rfl (Nat.le_of_ble_eq_true rfl) Tryd.ntmps21 rfl ?_
  refine W_seq <| W_reg <| L_op (.plain rfl) rfl (ltb rfl) (X_assign (v := (.bool false)) rfl) <| L_op (.plain rfl) rfl (ltb rfl) (X_assign (v := (.int .i64 0)) rfl) <| L_nil <| thn_n <| W_seq <| W_seq <| W_reg <| L_op (.plain rfl) rfl (ltb rfl) (X_move (v := (S a1)) rfl) <| L_lit (.plain rfl) rfl (ltb rfl) rfl Tryd.underlying57 Tryd.sizeOf9 Tryd.zeroValue9 rfl rfl rfl (vs := [(S a1)]) rfl (lit_all rfl) <| fun b1 w2 z3 z4 e5 k6 => ?_
  obtain ⟨c7, H⟩ := bif_some H
  refine L_callP (.plain rfl) rfl (ltb rfl) rfl Tryd.call62 (impl_isLong.calls (w := w2) (a0 := ([a1] : List (List UInt8))) (Own.rd (Own.new (xs := [a1]) (sz := 1) (enc := encS) (base := w.heap.size) k6 (Nat.le_of_eq z3) rfl (fun _ _ => by rfl) (Nat.le_of_ble_eq_true rfl))) (of_decide_eq_true c7)) rfl <| fun w8 e9 => L_op (.plain rfl) rfl (ltb rfl) (X_move rfl) <| L_grp 3 [(11, 14)] 13 (.bool ((([a1] : List (List UInt8)).any fun t => decide (65536 < t.length)) || (decide (4096 < a0.length)))) ?_ ?_
  · rcases bool_two (([a1] : List (List UInt8)).any fun t => decide (65536 < t.length)) with b9_ | b9_
    · exact L_skip rfl rfl (ltb rfl) (congrArg Value.bool b9_) rfl rfl (ltb rfl) <| L_skip rfl rfl (ltb rfl) (congrArg Value.bool b9_) rfl rfl (ltb rfl) <| L_op (.plain rfl) rfl (ltb rfl) (X_pick (b := true) (v := (.bool true)) (congrArg Value.bool b9_) rfl) <| L_nil <| thn_n ⟨(Kp.upd (Kp.upd (Kp.upd (Kp.refl _ _) rfl) rfl) rfl), (or_t b9_), (Ext.refl w8)⟩
    · exact L_op (.guard 3 false 10 rfl rfl (ltb rfl) (congrArg Value.bool b9_)) rfl (ltb rfl) (X_move (v := v_a0) rfl) <| L_callP (.guard 3 false 10 rfl rfl (ltb rfl) (congrArg Value.bool b9_)) rfl (ltb rfl) rfl Tryd.call63 (impl_isLongListR.calls (w := w8) (a0 := a0) (Rd.ext f_a0 (Ext.trans e5 e9))) rfl <| fun w11 e12 => L_op (.plain rfl) rfl (ltb rfl) (X_pick (b := false) (v := (.bool (decide (4096 < a0.length)))) (congrArg Value.bool b9_) rfl) <| L_nil <| thn_n ⟨(Kp.upd (Kp.upd (Kp.upd (Kp.refl _ _) rfl) rfl) rfl), (or_f b9_), e12⟩
  intro s15 w11 K12 h13 e14
  refine L_op (.plain rfl) rfl (ltb rfl) (X_mkiface Tryd.underlying4 rfl h13) <| L_op (.plain rfl) rfl (ltb rfl) (X_mkiface Tryd.underlying3 rfl rfl) <| L_op (.plain rfl) rfl (ltb rfl) (X_move (v := v_a0) (K12 0 rfl)) ?_
  obtain ⟨c16, H⟩ := bif_some H
  obtain ⟨c17, H⟩ := bif_some H
  refine L_callP (.plain rfl) rfl (ltb rfl) rfl Tryd.call64 (impl_LayerOK.calls (w := w11) (a0 := a0) (GV.ext gv (Ext.trans (Ext.trans e5 e9) e14)) (Rd.ext f_a0 (Ext.trans (Ext.trans e5 e9) e14)) (of_decide_eq_true c16) (of_decide_eq_true c17)) rfl <| fun w18 e19 => L_op (.plain rfl) rfl (ltb rfl) (X_not rfl) <| L_op (.plain rfl) rfl (ltb rfl) (X_mkiface Tryd.underlying4 rfl rfl) <| L_op (.plain rfl) rfl (ltb rfl) (X_mkiface Tryd.underlying3 rfl rfl) <| L_op (.plain rfl) rfl (ltb rfl) (X_move (v := (S a1)) (K12 1 rfl)) <| L_callP (.plain rfl) rfl (ltb rfl) rfl Tryd.call65 (impl_PathOK.calls (w := w18) (a0 := a1) (GV.ext gv (Ext.trans (Ext.trans (Ext.trans e5 e9) e14) e19))) rfl <| fun w20 e21 => L_op (.plain rfl) rfl (ltb rfl) (X_not rfl) <| L_op (.plain rfl) rfl (ltb rfl) (X_mkiface Tryd.underlying4 rfl rfl) <| L_op (.plain rfl) rfl (ltb rfl) (X_mkiface Tryd.underlying3 rfl rfl) <| L_lit (.plain rfl) rfl (ltb rfl) rfl Tryd.underlying99 Tryd.sizeOf20 Tryd.zeroValue20 rfl rfl rfl (vs := [(.iface 4 (.bool ((([a1] : List (List UInt8)).any fun t => decide (65536 < t.length)) || (decide (4096 < a0.length))))), (.iface 3 (.int .i64 2)), (.iface 4 (.bool (!(decide ((layerFaultL a0).2 = 0))))), (.iface 3 (.int .i64 1)), (.iface 4 (.bool (!(pathOK a1)))), (.iface 3 (.int .i64 10))]) rfl (lit_all rfl) <| fun b22 w23 z24 z25 e26 k27 => ?_
  obtain ⟨c28, H⟩ := bif_some H
  obtain ⟨z31, x32, H⟩ := bind_some H
  replace x32 := Option.some.inj x32
  refine L_callP (.plain rfl) rfl (ltb rfl) rfl Tryd.call61 (impl_first.calls (w := w23) (a0 := ([.inl ((([a1] : List (List UInt8)).any fun t => decide (65536 < t.length)) || (decide (4096 < a0.length))), .inr 2, .inl (!(decide ((layerFaultL a0).2 = 0))), .inr 1, .inl (!(pathOK a1)), .inr 10] : List (Bool ⊕ Int))) (Own.rd (Own.new (xs := [.inl ((([a1] : List (List UInt8)).any fun t => decide (65536 < t.length)) || (decide (4096 < a0.length))), .inr 2, .inl (!(decide ((layerFaultL a0).2 = 0))), .inr 1, .inl (!(pathOK a1)), .inr 10]) (sz := 1) (enc := (encAny 4 3)) (base := w20.heap.size) k27 (Nat.le_of_eq z24) rfl (fun _ _ => by first | rfl | exact encAny_len _ _ _) (Nat.le_of_ble_eq_true rfl))) (of_decide_eq_true c28)) rfl <| fun w29 e30 => L_op (.plain rfl) rfl (ltb rfl) (X_assign (v := (.int .i64 z31)) (congrArg (Value.int .i64) x32)) <| L_nil <| thn_n <| W_seq <| W_reg <| L_op (.plain rfl) rfl (ltb rfl) (X_move (v := (.int .i64 z31)) rfl) <| L_op (.plain rfl) rfl (ltb rfl) (X_neq rfl rfl) <| L_nil <| thn_n ?_
  rcases bif_two H with ⟨q33, H⟩ | ⟨q33, H⟩
  · refine W_true (congrArg Value.bool q33) <| W_seq <| W_reg <| L_op (.plain rfl) rfl (ltb rfl) (X_move (v := (.int .i64 z31)) rfl) <| L_op (.plain rfl) rfl (ltb rfl) (X_assign (v := (.bool false)) rfl) <| L_op (.plain rfl) rfl (ltb rfl) (X_assign (v := (.int .i64 z31)) rfl) <| L_nil <| thn_n <| W_ret <| thn_r <| fin_r ?_
    obtain rfl := Option.some.inj H
    exact fin2 rfl rfl (Ext.trans (Ext.trans (Ext.trans (Ext.trans (Ext.trans (Ext.trans e5 e9) e14) e19) e21) e26) e30)
  · refine W_false (congrArg Value.bool q33) <| W_skip <| thn_n <| W_seq <| W_reg <| L_op (.plain rfl) rfl (ltb rfl) (X_move (v := v_a0) (K12 0 rfl)) <| L_op (.plain rfl) rfl (ltb rfl) (X_move (v := (S a1)) (K12 1 rfl)) ?_
    obtain ⟨c34, H⟩ := bif_some H
    obtain ⟨c35, H⟩ := bif_some H
    refine L_callP (.plain rfl) rfl (ltb rfl) rfl Tryd.call69 (impl_cuts.calls (w := w29) (a0 := a0) (a1 := a1) (Rd.ext f_a0 (Ext.trans (Ext.trans (Ext.trans (Ext.trans (Ext.trans (Ext.trans e5 e9) e14) e19) e21) e26) e30)) (of_decide_eq_true c34) (of_decide_eq_true c35)) rfl <| fun w36 e37 => L_op (.plain rfl) rfl (ltb rfl) (X_assign (v := (.bool (cutsR a0 a1))) rfl) <| L_op (.plain rfl) rfl (ltb rfl) (X_assign (v := (.int .i64 0)) rfl) <| L_nil <| thn_n <| W_ret <| fin_r ?_
    obtain rfl := Option.some.inj H
    exact fin2 rfl rfl (Ext.trans (Ext.trans (Ext.trans (Ext.trans (Ext.trans (Ext.trans (Ext.trans e5 e9) e14) e19) e21) e26) e30) e37)
theorem impl_Cuts.calls {w : World} {a0 : List Rec} {a1 : List UInt8} (gv : GV 0 w) {v_a0 : Value} (f_a0 : Rd 5 encRec w v_a0 a0) (h0 : a0.length ≤ 1048576) (h1 : ∀ x ∈ a0, x.path.length ≤ 1048576) :
    Calls Tryd.prog 21 #[v_a0, S a1] w (Rt (RP w (.tuple #[.bool ((cutsOf a0 a1).1), .int .i64 ((cutsOf a0 a1).2)]))) := impl_Cuts.walk gv f_a0 (impl_Cuts.eq a0 a1 h0 h1)
/-! laws.FnExactCuts -/
theorem law_Cuts.walk {w : World} {a0 : List Rec} {a1 : List UInt8} (gv : GV 0 w) {v_a0 : Value} (f_a0 : Rd 5 encRec w v_a0 a0) {r : Bool} (H : law_Cuts.sh a0 a1 = some r) :
    Calls Tryd.prog 4 #[v_a0, S a1] w (Rt (RP w (.bool r))) := by
  unfold law_Cuts.sh at H
  refine calls_of_W Tryd.func4 rfl (Nat.le_of_ble_eq_true rfl) Tryd.ntmps4 rfl ?_
  refine W_seq <| W_reg <| L_op (.plain rfl) rfl (ltb rfl) (X_assign (v := (.bool false)) rfl) <| L_nil <| thn_n <| W_seq <| W_seq <| W_reg <| L_op (.plain rfl) rfl (ltb rfl) (X_move (v := (S a1)) rfl) <| L_op (.plain rfl) rfl (ltb rfl) (X_lenS Tryd.underlying9 rfl) <| L_op (.plain rfl) rfl (ltb rfl) (X_gtr rfl rfl) <| L_nil <| thn_n ?_
  rcases bif_two H with ⟨q1, H⟩ | ⟨q1, H⟩
  · refine W_true (congrArg Value.bool q1) <| W_seq <| W_reg <| L_op (.plain rfl) rfl (ltb rfl) (X_assign (v := (.bool true)) rfl) <| L_nil <| thn_n <| W_ret <| thn_r <| fin_r ?_
    obtain rfl := Option.some.inj H
    exact fin1 rfl (Ext.refl w)
  · refine W_false (congrArg Value.bool q1) <| W_skip <| thn_n <| W_seq <| W_reg <| L_op (.plain rfl) rfl (ltb rfl) (X_assign (v := (.int .i64 1048576)) rfl) <| L_nil <| thn_n <| W_seq <| W_reg <| L_op (.plain rfl) rfl (ltb rfl) (X_move (v := v_a0) rfl) <| L_op (.plain rfl) rfl (ltb rfl) (X_move (v := (.int .i64 1048576)) rfl) ?_
    obtain ⟨c2, H⟩ := bif_some H
    obtain ⟨c3, H⟩ := bif_some H
    obtain ⟨c4, H⟩ := bif_some H
    obtain ⟨c5, H⟩ := bif_some H
    refine L_callP (.plain rfl) rfl (ltb rfl) rfl Tryd.call15 (laws_szRecordS.calls (w := w) (a0 := a0) (a1 := 1048576) f_a0 (of_decide_eq_true c2) (of_decide_eq_true c3) (of_decide_eq_true c4) (of_decide_eq_true c5)) rfl <| fun w6 e7 => L_op (.plain rfl) rfl (ltb rfl) (X_assign (v := (.int .i64 (szRecS a0 1048576))) rfl) <| L_nil <| thn_n <| W_seq <| W_seq <| W_reg <| L_op (.plain rfl) rfl (ltb rfl) (X_move (v := (.int .i64 (szRecS a0 1048576))) rfl) <| L_op (.plain rfl) rfl (ltb rfl) (X_lss rfl rfl) <| L_nil <| thn_n ?_
    rcases bif_two H with ⟨q8, H⟩ | ⟨q8, H⟩
    · refine W_true (congrArg Value.bool q8) <| W_seq <| W_reg <| L_op (.plain rfl) rfl (ltb rfl) (X_assign (v := (.bool true)) rfl) <| L_nil <| thn_n <| W_ret <| thn_r <| fin_r ?_
      obtain rfl := Option.some.inj H
      exact fin1 rfl e7
    · refine W_false (congrArg Value.bool q8) <| W_skip <| thn_n <| W_seq <| W_reg <| L_op (.plain rfl) rfl (ltb rfl) (X_move (v := v_a0) rfl) ?_
      obtain ⟨c9, H⟩ := bif_some H
      refine L_callO (.plain rfl) rfl (ltb rfl) rfl Tryd.call17 (laws_toRecordS.calls (w := w6) (a0 := a0) (Rd.ext f_a0 e7) (of_decide_eq_true c9)) rfl <| fun v12 w10 e11 o13 => L_op (.plain rfl) rfl (ltb rfl) (X_move (v := (S a1)) rfl) ?_
      obtain ⟨c14, H⟩ := bif_some H
      obtain ⟨c15, H⟩ := bif_some H
      refine L_callP (.plain rfl) rfl (ltb rfl) rfl Tryd.call20 (spec_Cuts.calls (w := w10) (a0 := a0) (a1 := a1) (Own.rd o13) (of_decide_eq_true c14) (of_decide_eq_true c15)) rfl <| fun w16 e17 => L_op (.plain rfl) rfl (ltb rfl) (X_move rfl) <| L_op (.plain rfl) rfl (ltb rfl) (X_extract (v := (.bool ((cutsOf a0 a1).1))) rfl rfl) <| L_op (.plain rfl) rfl (ltb rfl) (X_extract (v := (.int .i64 ((cutsOf a0 a1).2))) rfl rfl) <| L_op (.plain rfl) rfl (ltb rfl) (X_assign (v := (.bool ((cutsOf a0 a1).1))) rfl) <| L_op (.plain rfl) rfl (ltb rfl) (X_assign (v := (.int .i64 ((cutsOf a0 a1).2))) rfl) <| L_nil <| thn_n <| W_seq <| W_reg <| L_op (.plain rfl) rfl (ltb rfl) (X_move (v := v_a0) rfl) ?_
      obtain ⟨c18, H⟩ := bif_some H
      refine L_callO (.plain rfl) rfl (ltb rfl) rfl Tryd.call17 (laws_toRecordS.calls (w := w16) (a0 := a0) (Rd.ext f_a0 (Ext.trans (Ext.trans e7 e11) e17)) (of_decide_eq_true c18)) rfl <| fun v21 w19 e20 o22 => L_op (.plain rfl) rfl (ltb rfl) (X_assign (v := v21) rfl) <| L_nil <| thn_n <| W_seq <| W_reg <| L_op (.plain rfl) rfl (ltb rfl) (X_move (v := v21) rfl) <| L_op (.plain rfl) rfl (ltb rfl) (X_move (v := (S a1)) rfl) ?_
      obtain ⟨c23, H⟩ := bif_some H
      obtain ⟨c24, H⟩ := bif_some H
      refine L_callP (.plain rfl) rfl (ltb rfl) rfl Tryd.call21 (impl_Cuts.calls (w := w19) (a0 := a0) (a1 := a1) (GV.ext gv (Ext.trans (Ext.trans (Ext.trans e7 e11) e17) e20)) (Own.rd o22) (of_decide_eq_true c23) (of_decide_eq_true c24)) rfl <| fun w25 e26 => L_op (.plain rfl) rfl (ltb rfl) (X_move rfl) <| L_op (.plain rfl) rfl (ltb rfl) (X_extract (v := (.bool ((cutsOf a0 a1).1))) rfl rfl) <| L_op (.plain rfl) rfl (ltb rfl) (X_extract (v := (.int .i64 ((cutsOf a0 a1).2))) rfl rfl) <| L_op (.plain rfl) rfl (ltb rfl) (X_assign (v := (.bool ((cutsOf a0 a1).1))) rfl) <| L_op (.plain rfl) rfl (ltb rfl) (X_assign (v := (.int .i64 ((cutsOf a0 a1).2))) rfl) <| L_nil <| thn_n <| W_seq <| W_seq <| W_reg <| L_op (.plain rfl) rfl (ltb rfl) (X_move (v := (.bool ((cutsOf a0 a1).1))) rfl) <| L_op (.plain rfl) rfl (ltb rfl) (X_move (v := (.bool ((cutsOf a0 a1).1))) rfl) <| L_op (.plain rfl) rfl (ltb rfl) (X_bne Tryd.underlying4 rfl rfl) <| L_op (.plain rfl) rfl (ltb rfl) (X_move (v := (.bool (!decide (((cutsOf a0 a1).1) = ((cutsOf a0 a1).1))))) rfl) <| L_grp 4 [(38, 42)] 41 (.bool ((!decide (((cutsOf a0 a1).1) = ((cutsOf a0 a1).1))) || (!decide (((cutsOf a0 a1).2) = ((cutsOf a0 a1).2))))) ?_ ?_
      · rcases bool_two (!decide (((cutsOf a0 a1).1) = ((cutsOf a0 a1).1))) with b26_ | b26_
        · exact L_skip rfl rfl (ltb rfl) (congrArg Value.bool b26_) rfl rfl (ltb rfl) <| L_skip rfl rfl (ltb rfl) (congrArg Value.bool b26_) rfl rfl (ltb rfl) <| L_skip rfl rfl (ltb rfl) (congrArg Value.bool b26_) rfl rfl (ltb rfl) <| L_op (.plain rfl) rfl (ltb rfl) (X_pick (b := true) (v := (.bool true)) (congrArg Value.bool b26_) rfl) <| L_nil <| thn_n ⟨(Kp.upd (Kp.upd (Kp.upd (Kp.upd (Kp.refl _ _) rfl) rfl) rfl) rfl), (or_t b26_), (Ext.refl w25)⟩
        · exact L_op (.guard 3 false 37 rfl rfl (ltb rfl) (congrArg Value.bool b26_)) rfl (ltb rfl) (X_move (v := (.int .i64 ((cutsOf a0 a1).2))) rfl) <| L_op (.guard 3 false 37 rfl rfl (ltb rfl) (congrArg Value.bool b26_)) rfl (ltb rfl) (X_move (v := (.int .i64 ((cutsOf a0 a1).2))) rfl) <| L_op (.guard 3 false 37 rfl rfl (ltb rfl) (congrArg Value.bool b26_)) rfl (ltb rfl) (X_neq rfl rfl) <| L_op (.plain rfl) rfl (ltb rfl) (X_pick (b := false) (v := (.bool (!decide (((cutsOf a0 a1).2) = ((cutsOf a0 a1).2))))) (congrArg Value.bool b26_) rfl) <| L_nil <| thn_n ⟨(Kp.upd (Kp.upd (Kp.upd (Kp.upd (Kp.refl _ _) rfl) rfl) rfl) rfl), (or_f b26_), (Ext.refl w25)⟩
      intro s32 w28 K29 h30 e31
      refine L_nil <| thn_n ?_
      rcases bif_two H with ⟨q33, H⟩ | ⟨q33, H⟩
      · refine W_true (h30.trans (congrArg Value.bool q33)) <| W_seq <| W_reg <| L_op (.plain rfl) rfl (ltb rfl) (X_assign (v := (.bool false)) rfl) <| L_nil <| thn_n <| W_ret <| thn_r <| fin_r ?_
        obtain rfl := Option.some.inj H
        exact fin1 rfl (Ext.trans (Ext.trans (Ext.trans (Ext.trans (Ext.trans e7 e11) e17) e20) e26) e31)
      · refine W_false (h30.trans (congrArg Value.bool q33)) <| W_skip <| thn_n <| W_seq <| W_seq <| W_reg <| L_op (.plain rfl) rfl (ltb rfl) (X_move (v := v21) (K29 8 rfl)) <| L_op (.plain rfl) rfl (ltb rfl) (X_move (v := v_a0) (K29 0 rfl)) ?_
        obtain ⟨c34, H⟩ := bif_some H
        refine L_callO (.plain rfl) rfl (ltb rfl) rfl Tryd.call17 (laws_toRecordS.calls (w := w28) (a0 := a0) (Rd.ext f_a0 (Ext.trans (Ext.trans (Ext.trans (Ext.trans (Ext.trans e7 e11) e17) e20) e26) e31)) (of_decide_eq_true c34)) rfl <| fun v37 w35 e36 o38 => ?_
        obtain ⟨c39, H⟩ := bif_some H
        refine L_callP (.plain rfl) rfl (ltb rfl) rfl Tryd.call19 (laws_eqRecordS.calls (w := w35) (a0 := a0) (a1 := a0) (Own.rd (Own.ext o22 (Ext.trans (Ext.trans e26 e31) e36))) (Own.rd o38) (of_decide_eq_true c39)) rfl <| fun w40 e41 => L_op (.plain rfl) rfl (ltb rfl) (X_not rfl) <| L_nil <| thn_n ?_
        rcases bif_two H with ⟨q42, H⟩ | ⟨q42, H⟩
        · refine W_true (congrArg Value.bool q42) <| W_seq <| W_reg <| L_op (.plain rfl) rfl (ltb rfl) (X_assign (v := (.bool false)) rfl) <| L_nil <| thn_n <| W_ret <| thn_r <| fin_r ?_
          obtain rfl := Option.some.inj H
          exact fin1 rfl (Ext.trans (Ext.trans (Ext.trans (Ext.trans (Ext.trans (Ext.trans (Ext.trans e7 e11) e17) e20) e26) e31) e36) e41)
        · refine W_false (congrArg Value.bool q42) <| W_skip <| thn_n <| W_seq <| W_reg <| L_op (.plain rfl) rfl (ltb rfl) (X_assign (v := (.bool true)) rfl) <| L_nil <| thn_n <| W_ret <| fin_r ?_
          obtain rfl := Option.some.inj H
          exact fin1 rfl (Ext.trans (Ext.trans (Ext.trans (Ext.trans (Ext.trans (Ext.trans (Ext.trans e7 e11) e17) e20) e26) e31) e36) e41)
theorem law_Cuts.calls {w : World} {a0 : List Rec} {a1 : List UInt8} (gv : GV 0 w) {v_a0 : Value} (f_a0 : Rd 5 encRec w v_a0 a0) (h0 : ∀ x ∈ a0, okRec x) (h1 : a0.length ≤ 9223372036854775807) :
    Calls Tryd.prog 4 #[v_a0, S a1] w (Rt (RP w (.bool true))) := law_Cuts.walk gv f_a0 (law_Cuts.eq a0 a1 h0 h1)
/-! impl.isLongList(impl.Node) -/
theorem impl_isLongListN.walk {w : World} {a0 : List Nd} {v_a0 : Value} (f_a0 : Rd 4 encNd w v_a0 a0) {r : Bool} (H : impl_isLongListN.sh a0 = some r) :
    Calls Tryd.prog 76 #[v_a0] w (Rt (RP w (.bool r))) := by
  unfold impl_isLongListN.sh at H
  refine calls_of_W Tryd.func76 rfl (Nat.le_of_ble_eq_true rfl) Tryd.ntmps76 rfl ?_
  refine W_seq <| W_reg <| L_op (.plain rfl) rfl (ltb rfl) (X_assign (v := (.bool false)) rfl) <| L_nil <| thn_n <| W_seq <| W_reg <| L_op (.plain rfl) rfl (ltb rfl) (X_move (v := v_a0) rfl) <| L_op (.plain rfl) rfl (ltb rfl) (X_lenR Tryd.underlying43 rfl f_a0) <| L_op (.plain rfl) rfl (ltb rfl) (X_gtr rfl rfl) <| L_op (.plain rfl) rfl (ltb rfl) (X_assign (v := (.bool (decide (4096 < (a0.length : Int))))) rfl) <| L_nil <| thn_n <| W_ret <| fin_r ?_
  obtain rfl := Option.some.inj H
  exact fin1 rfl (Ext.refl w)
theorem impl_isLongListN.calls {w : World} {a0 : List Nd} {v_a0 : Value} (f_a0 : Rd 4 encNd w v_a0 a0) :
    Calls Tryd.prog 76 #[v_a0] w (Rt (RP w (.bool (decide (4096 < a0.length))))) := impl_isLongListN.walk f_a0 (impl_isLongListN.eq a0)
/-! spec.l03Canon -/
theorem spec_l03Canon.walk {k : Nat} {w : World} {a0 : List Rec} {v_a0 : Value} (f_a0 : Rd 5 encRec w v_a0 a0) {r : List Rec} (H : spec_l03Canon.sh k a0 = some r) :
    Calls Tryd.prog 80 #[v_a0] w (Rt (RO 74 5 encRec w r)) := by
  unfold spec_l03Canon.sh at H
  refine calls_of_W Tryd.func80 rfl (Nat.le_of_ble_eq_true rfl) Tryd.ntmps80 rfl ?_
  refine W_seq <| W_reg <| L_op (.plain rfl) rfl (ltb rfl) (X_assign (v := (.slice none 0 0)) rfl) <| L_nil <| thn_n <| W_seq <| W_reg <| L_lit (.plain rfl) rfl (ltb rfl) rfl Tryd.underlying26 Tryd.sizeOf74 Tryd.zeroValue74 rfl rfl rfl (vs := []) rfl (lit_all rfl) <| fun b1 w2 z3 z4 e5 k6 => L_op (.plain rfl) rfl (ltb rfl) (X_assign (v := (.slice (some ⟨b1, 0, none⟩) 0 0)) rfl) <| L_nil <| thn_n <| W_seq <| W_seq <| W_reg <| L_op (.plain rfl) rfl (ltb rfl) (X_assign (v := (.int .i64 0)) rfl) <| L_nil <| thn_n ?_
  obtain ⟨z10, L11, C12⟩ := bind_some H
  clear H
  refine  W_cutQ (fun s0 sQ wQ => ∃ (x3_13 : List Rec) (v14 : Value), Kp [(3, 6), (7, 44)] s0 sQ ∧ sQ 3 = v14 ∧ Own 74 5 encRec w2.heap.size wQ v14 x3_13 ∧ Ext w2 wQ ∧ z10 = .inr x3_13) ?_ ?_
  · refine W_block <| W_loopI (fun s0 kk sQ wQ => ∃ (x3_7 : List Rec) (v8 : Value) (x4_9 : Int), Kp [(3, 6), (7, 44)] s0 sQ ∧ sQ 3 = v8 ∧ Own 74 5 encRec w2.heap.size wQ v8 x3_7 ∧ sQ 4 = .int .i64 x4_9 ∧ Ext w2 wQ ∧ loopF (spec_l03Canon.b1 a0) kk (x3_7, x4_9) = some z10) k ⟨([] : List Rec), (.slice (some ⟨b1, 0, none⟩) 0 0), 0, (Kp.refl _ _), rfl, (Own.zero), rfl, (Ext.refl w2), L11⟩ ?_
    rintro k19 s20 w21 ⟨x3_7, v8, x4_9, K22, h25, h26, h27, e23, L24⟩
    cases k19 with
    | zero => exact absurd L24 (by simp [loopF])
    | succ k19 =>
      obtain ⟨t28, H, S29⟩ := loopF_succ L24
      clear L24
      unfold spec_l03Canon.b1 at H
      refine W_seq <| W_seq <| W_reg <| L_op (.plain rfl) rfl (ltb rfl) (X_move (v := (.int .i64 x4_9)) h27) <| L_op (.plain rfl) rfl (ltb rfl) (X_move (v := v_a0) (K22 0 rfl)) <| L_op (.plain rfl) rfl (ltb rfl) (X_lenR Tryd.underlying26 rfl (Rd.ext f_a0 (Ext.trans e5 e23))) <| L_op (.plain rfl) rfl (ltb rfl) (X_lss rfl rfl) <| L_nil <| thn_n ?_
      rcases bif_two H with ⟨q30, H⟩ | ⟨q30, H⟩
      · refine W_true (congrArg Value.bool q30) <| W_skip <| thn_n <| W_seq <| W_block <| W_seq <| W_reg <| L_op (.plain rfl) rfl (ltb rfl) (X_move (v := v_a0) (K22 0 rfl)) <| L_op (.plain rfl) rfl (ltb rfl) (X_move (v := (.int .i64 x4_9)) h27) ?_
        obtain ⟨c31, H⟩ := bif_some H
        refine L_idx (.plain rfl) rfl (ltb rfl) rfl Tryd.underlying26 Tryd.sizeOf74 rfl (Rd.ext f_a0 (Ext.trans e5 e23)) rfl c31 <| fun p32 h33 => L_op (.plain rfl) rfl (ltb rfl) (X_loadS Tryd.isAgg74 Tryd.sizeOf74 rfl rfl h33) <| L_alloc (.plain rfl) rfl (ltb rfl) rfl Tryd.zeroValue74 <| fun b34 w35 z36 z37 e38 k39 => L_storeA (.plain rfl) rfl rfl Tryd.sizeOf74 rfl rfl rfl rfl rfl k39 <| fun w40 h41 k42 => L_nil <| thn_n <| W_seq <| W_seq <| W_reg <| L_op (.plain rfl) rfl (ltb rfl) (X_move (v := v_a0) (K22 0 rfl)) <| L_op (.plain rfl) rfl (ltb rfl) (X_fieldAddr Tryd.underlying74 rfl Tryd.sizeOf9 rfl rfl) <| L_op (.plain rfl) rfl (ltb rfl) (X_loadB Tryd.isAgg9 k42 rfl rfl) ?_
        obtain ⟨c43, H⟩ := bif_some H
        obtain ⟨c44, H⟩ := bif_some H
        refine L_callP (.plain rfl) rfl (ltb rfl) rfl Tryd.call59 (spec_l03Under.calls (w := w40) (a0 := a0) (a1 := (gt a0 x4_9).path) (Rd.ext f_a0 (Ext.trans (Ext.trans e5 e23) (Below.trans e38 (Wr.below h41 (Nat.le_of_eq z36))))) (of_decide_eq_true c43) (of_decide_eq_true c44)) rfl <| fun w45 e46 => L_op (.plain rfl) rfl (ltb rfl) (X_not rfl) <| L_nil <| thn_n ?_
        rcases bif_two H with ⟨q47, H⟩ | ⟨q47, H⟩
        · refine W_true (congrArg Value.bool q47) <| W_seq <| W_reg <| L_op (.plain rfl) rfl (ltb rfl) (X_fieldAddr Tryd.underlying74 rfl Tryd.sizeOf4 rfl rfl) <| L_op (.plain rfl) rfl (ltb rfl) (X_loadB Tryd.isAgg4 (Blk.ext k42 e46) rfl rfl) <| L_op (.plain rfl) rfl (ltb rfl) (X_move (v := (.bool ((gt a0 x4_9).opq))) rfl) ?_
          obtain ⟨z49, x50, H⟩ := bind_some H
          refine L_grpE 6 [(25, 31)] 30 (fun q => q = z49) ?_ ?_
          · rcases bif_two x50 with ⟨b47_, H⟩ | ⟨b47_, H⟩
            · refine L_op (.guard 2 true 24 rfl rfl (ltb rfl) (congrArg Value.bool b47_)) rfl (ltb rfl) (X_fieldAddr Tryd.underlying74 rfl Tryd.sizeOf9 rfl rfl) <| L_op (.guard 2 true 24 rfl rfl (ltb rfl) (congrArg Value.bool b47_)) rfl (ltb rfl) (X_loadB Tryd.isAgg9 (Blk.ext k42 e46) rfl rfl) ?_
              obtain ⟨c49, H⟩ := bif_some H
              refine L_callO (.guard 2 true 24 rfl rfl (ltb rfl) (congrArg Value.bool b47_)) rfl (ltb rfl) rfl Tryd.call99 (spec_l00Cut.calls (w := w45) (a0 := (gt a0 x4_9).path) (a1 := 47) (of_decide_eq_true c49)) rfl <| fun v52 w50 e51 o53 => L_op (.guard 2 true 24 rfl rfl (ltb rfl) (congrArg Value.bool b47_)) rfl (ltb rfl) (X_lenR Tryd.underlying57 rfl (Own.rd o53)) <| L_op (.guard 2 true 24 rfl rfl (ltb rfl) (congrArg Value.bool b47_)) rfl (ltb rfl) (X_lss rfl rfl) <| L_op (.plain rfl) rfl (ltb rfl) (X_pick (b := true) (v := (.bool (decide (((cut 47 ((gt a0 x4_9).path)).length : Int) < 4)))) (congrArg Value.bool b47_) rfl) ?_
              obtain rfl := Option.some.inj H
              exact L_nil <| thn_n ⟨(Kp.upd (Kp.upd (Kp.upd (Kp.upd (Kp.upd (Kp.upd (Kp.refl _ _) rfl) rfl) rfl) rfl) rfl) rfl), ⟨_, rfl, rfl⟩, e51⟩
            · refine L_skip rfl rfl (ltb rfl) (congrArg Value.bool b47_) rfl rfl (ltb rfl) <| L_skip rfl rfl (ltb rfl) (congrArg Value.bool b47_) rfl rfl (ltb rfl) <| L_skip rfl rfl (ltb rfl) (congrArg Value.bool b47_) rfl rfl (ltb rfl) <| L_skip rfl rfl (ltb rfl) (congrArg Value.bool b47_) rfl rfl (ltb rfl) <| L_skip rfl rfl (ltb rfl) (congrArg Value.bool b47_) rfl rfl (ltb rfl) <| L_op (.plain rfl) rfl (ltb rfl) (X_pick (b := false) (v := (.bool false)) (congrArg Value.bool b47_) rfl) ?_
              obtain rfl := Option.some.inj H
              exact L_nil <| thn_n ⟨(Kp.upd (Kp.upd (Kp.upd (Kp.upd (Kp.upd (Kp.upd (Kp.refl _ _) rfl) rfl) rfl) rfl) rfl) rfl), ⟨_, rfl, rfl⟩, (Ext.refl w45)⟩
          intro s55 w51 z56 K52 hq h53 e54
          rw [hq] at h53; clear hq
          refine L_op (.plain rfl) rfl (ltb rfl) (X_fieldAddr Tryd.underlying74 rfl Tryd.sizeOf4 rfl (K52 5 rfl)) <| L_store1 (.plain rfl) rfl rfl Tryd.sizeOf4 rfl h53 rfl (Blk.ext k42 (Ext.trans e46 e54)) (ltb rfl) <| fun w57 h58 k59 => L_nil <| thn_n <| W_seq <| W_reg <| L_op (.plain rfl) rfl (ltb rfl) (X_move (v := v8) ((K52 3 rfl).trans h25)) <| L_op (.plain rfl) rfl (ltb rfl) (X_loadS Tryd.isAgg74 Tryd.sizeOf74 rfl (K52 5 rfl) (Blk.at0 k59)) <| L_lit (.plain rfl) rfl (ltb rfl) rfl Tryd.underlying26 Tryd.sizeOf74 Tryd.zeroValue74 rfl rfl rfl (vs := [(.agg #[(.int .i64 ((gt a0 x4_9).kind)), (S ((gt a0 x4_9).path)), (S ((gt a0 x4_9).body)), (.int .i64 ((gt a0 x4_9).mode)), (.bool z49)])]) rfl (lit_all rfl) <| fun b60 w61 z62 z63 e64 k65 => ?_
          obtain ⟨c66, H⟩ := bif_some H
          refine L_append (enc := encRec) (.plain rfl) rfl (ltb rfl) rfl El.t26 rfl rfl (Own.ext h26 (Ext.trans (Below.trans (Ext.trans (Ext.trans (Below.trans e38 (Wr.below h41 (Nat.le_of_eq z36))) e46) e54) (Wr.below h58 (Nat.le_of_eq z36))) e64)) (Own.rd (Own.new (xs := [(⟨(gt a0 x4_9).kind, (gt a0 x4_9).path, (gt a0 x4_9).body, (gt a0 x4_9).mode, z49⟩ : Rec)]) (sz := 5) (enc := encRec) (base := w57.heap.size) k65 (Nat.le_of_eq z62) rfl (fun _ _ => by rfl) (Nat.le_of_ble_eq_true rfl))) (ones_Rec _) (of_decide_eq_true c66) ((Ext.trans (Ext.trans e23 (Below.trans (Ext.trans (Ext.trans (Below.trans e38 (Wr.below h41 (Nat.le_of_eq z36))) e46) e54) (Wr.below h58 (Nat.le_of_eq z36)))) e64)).size <| fun v67 w68 o69 z70 g71 => L_op (.plain rfl) rfl (ltb rfl) (X_assign (v := v67) rfl) <| L_nil <| thn_n <| W_exit <| thn_x <| blk_x <| thn_n <| W_reg <| L_op (.plain rfl) rfl (ltb rfl) (X_move (v := (.int .i64 x4_9)) ((K52 4 rfl).trans h27)) <| L_op (.plain rfl) rfl (ltb rfl) (X_add rfl rfl) <| L_op (.plain rfl) rfl (ltb rfl) (X_assign (v := (.int .i64 (IntKind.wrap .i64 (x4_9 + 1)))) rfl) <| L_nil <| thn_n ?_
          obtain rfl := Option.some.inj H
          exact ⟨_, Nat.lt_succ_self _, x3_7 ++ ([(⟨(gt a0 x4_9).kind, (gt a0 x4_9).path, (gt a0 x4_9).body, (gt a0 x4_9).mode, z49⟩ : Rec)] : List Rec), v67, IntKind.wrap .i64 (x4_9 + 1), (Kp.upd (Kp.upd (Kp.upd (Kp.upd (Kp.upd (Kp.upd (Kp.upd (Kp.upd (Kp.upd (Kp.cut (Kp.upd (Kp.upd (Kp.upd (Kp.upd (Kp.upd (Kp.upd (Kp.upd (Kp.upd (Kp.upd (Kp.upd (Kp.upd (Kp.upd (Kp.upd (Kp.upd (Kp.upd (Kp.upd (Kp.upd K22 rfl) rfl) rfl) rfl) rfl) rfl) rfl) rfl) rfl) rfl) rfl) rfl) rfl) rfl) rfl) rfl) rfl) K52 rfl) rfl) rfl) rfl) rfl) rfl) rfl) rfl) rfl) rfl), rfl, o69, rfl, (g71 _ (Ext.trans (Ext.trans e23 (Below.trans (Ext.trans (Ext.trans (Below.trans e38 (Wr.below h41 (Nat.le_of_eq z36))) e46) e54) (Wr.below h58 (Nat.le_of_eq z36)))) e64)), S29⟩
        · refine W_false (congrArg Value.bool q47) <| W_skip <| thn_n <| W_seq <| W_reg <| L_op (.plain rfl) rfl (ltb rfl) (X_fieldAddr Tryd.underlying74 rfl Tryd.sizeOf4 rfl rfl) <| L_store1 (.plain rfl) rfl rfl Tryd.sizeOf4 rfl rfl rfl (Blk.ext k42 e46) (ltb rfl) <| fun w72 h73 k74 => L_nil <| thn_n <| W_seq <| W_reg <| L_op (.plain rfl) rfl (ltb rfl) (X_fieldAddr Tryd.underlying74 rfl Tryd.sizeOf3 rfl rfl) <| L_op (.plain rfl) rfl (ltb rfl) (X_loadB Tryd.isAgg3 k74 rfl rfl) <| L_op (.plain rfl) rfl (ltb rfl) (X_neq rfl rfl) <| L_nil <| thn_n ?_
          rcases bif_two H with ⟨q75, H⟩ | ⟨q75, H⟩
          · refine W_true (congrArg Value.bool q75) <| W_reg <| L_op (.plain rfl) rfl (ltb rfl) (X_move (v := v8) h25) <| L_op (.plain rfl) rfl (ltb rfl) (X_loadS Tryd.isAgg74 Tryd.sizeOf74 rfl rfl (Blk.at0 k74)) <| L_lit (.plain rfl) rfl (ltb rfl) rfl Tryd.underlying26 Tryd.sizeOf74 Tryd.zeroValue74 rfl rfl rfl (vs := [(.agg #[(.int .i64 ((gt a0 x4_9).kind)), (S ((gt a0 x4_9).path)), (S ((gt a0 x4_9).body)), (.int .i64 ((gt a0 x4_9).mode)), (.bool false)])]) rfl (lit_all rfl) <| fun b76 w77 z78 z79 e80 k81 => ?_
            obtain ⟨c82, H⟩ := bif_some H
            refine L_append (enc := encRec) (.plain rfl) rfl (ltb rfl) rfl El.t26 rfl rfl (Own.ext h26 (Ext.trans (Below.trans (Ext.trans (Below.trans e38 (Wr.below h41 (Nat.le_of_eq z36))) e46) (Wr.below h73 (Nat.le_of_eq z36))) e80)) (Own.rd (Own.new (xs := [(⟨(gt a0 x4_9).kind, (gt a0 x4_9).path, (gt a0 x4_9).body, (gt a0 x4_9).mode, false⟩ : Rec)]) (sz := 5) (enc := encRec) (base := w72.heap.size) k81 (Nat.le_of_eq z78) rfl (fun _ _ => by rfl) (Nat.le_of_ble_eq_true rfl))) (ones_Rec _) (of_decide_eq_true c82) ((Ext.trans (Ext.trans e23 (Below.trans (Ext.trans (Below.trans e38 (Wr.below h41 (Nat.le_of_eq z36))) e46) (Wr.below h73 (Nat.le_of_eq z36)))) e80)).size <| fun v83 w84 o85 z86 g87 => L_op (.plain rfl) rfl (ltb rfl) (X_assign (v := v83) rfl) <| L_nil <| blk_n <| thn_n <| W_reg <| L_op (.plain rfl) rfl (ltb rfl) (X_move (v := (.int .i64 x4_9)) h27) <| L_op (.plain rfl) rfl (ltb rfl) (X_add rfl rfl) <| L_op (.plain rfl) rfl (ltb rfl) (X_assign (v := (.int .i64 (IntKind.wrap .i64 (x4_9 + 1)))) rfl) <| L_nil <| thn_n ?_
            obtain rfl := Option.some.inj H
            exact ⟨_, Nat.lt_succ_self _, x3_7 ++ ([(⟨(gt a0 x4_9).kind, (gt a0 x4_9).path, (gt a0 x4_9).body, (gt a0 x4_9).mode, false⟩ : Rec)] : List Rec), v83, IntKind.wrap .i64 (x4_9 + 1), (Kp.upd (Kp.upd (Kp.upd (Kp.upd (Kp.upd (Kp.upd (Kp.upd (Kp.upd (Kp.upd (Kp.upd (Kp.upd (Kp.upd (Kp.upd (Kp.upd (Kp.upd (Kp.upd (Kp.upd (Kp.upd (Kp.upd (Kp.upd (Kp.upd (Kp.upd (Kp.upd (Kp.upd (Kp.upd (Kp.upd K22 rfl) rfl) rfl) rfl) rfl) rfl) rfl) rfl) rfl) rfl) rfl) rfl) rfl) rfl) rfl) rfl) rfl) rfl) rfl) rfl) rfl) rfl) rfl) rfl) rfl) rfl), rfl, o85, rfl, (g87 _ (Ext.trans (Ext.trans e23 (Below.trans (Ext.trans (Below.trans e38 (Wr.below h41 (Nat.le_of_eq z36))) e46) (Wr.below h73 (Nat.le_of_eq z36)))) e80)), S29⟩
          · refine W_false (congrArg Value.bool q75) <| W_skip <| blk_n <| thn_n <| W_reg <| L_op (.plain rfl) rfl (ltb rfl) (X_move (v := (.int .i64 x4_9)) h27) <| L_op (.plain rfl) rfl (ltb rfl) (X_add rfl rfl) <| L_op (.plain rfl) rfl (ltb rfl) (X_assign (v := (.int .i64 (IntKind.wrap .i64 (x4_9 + 1)))) rfl) <| L_nil <| thn_n ?_
            obtain rfl := Option.some.inj H
            exact ⟨_, Nat.lt_succ_self _, x3_7, v8, IntKind.wrap .i64 (x4_9 + 1), (Kp.upd (Kp.upd (Kp.upd (Kp.upd (Kp.upd (Kp.upd (Kp.upd (Kp.upd (Kp.upd (Kp.upd (Kp.upd (Kp.upd (Kp.upd (Kp.upd (Kp.upd (Kp.upd (Kp.upd (Kp.upd (Kp.upd (Kp.upd (Kp.upd K22 rfl) rfl) rfl) rfl) rfl) rfl) rfl) rfl) rfl) rfl) rfl) rfl) rfl) rfl) rfl) rfl) rfl) rfl) rfl) rfl) rfl), h25, (Own.ext h26 (Below.trans (Ext.trans (Below.trans e38 (Wr.below h41 (Nat.le_of_eq z36))) e46) (Wr.below h73 (Nat.le_of_eq z36)))), rfl, (Ext.trans e23 (Below.trans (Ext.trans (Below.trans e38 (Wr.below h41 (Nat.le_of_eq z36))) e46) (Wr.below h73 (Nat.le_of_eq z36)))), S29⟩
      · refine W_false (congrArg Value.bool q30) <| W_exit <| thn_x <| thn_x <| blk_x <| thn_n ?_
        obtain rfl := Option.some.inj H
        obtain rfl := Option.some.inj S29
        exact ⟨x3_7, v8, (Kp.upd (Kp.upd (Kp.upd (Kp.upd K22 rfl) rfl) rfl) rfl), h25, h26, e23, rfl⟩
  · rintro s16 w15 ⟨x3_13, v14, K17, h88, h89, e18, y90⟩
    rw [y90] at C12
    have H := C12
    replace H : _ = some _ := H
    refine thn_n <| W_seq <| W_reg <| L_op (.plain rfl) rfl (ltb rfl) (X_move (v := v14) h88) <| L_op (.plain rfl) rfl (ltb rfl) (X_assign (v := v14) rfl) <| L_nil <| thn_n <| W_ret <| fin_r ?_
    obtain rfl := Option.some.inj H
    exact fin1o rfl (Ext.trans e5 e18) h89 (e5).size
theorem spec_l03Canon.calls {w : World} {a0 : List Rec} {v_a0 : Value} (f_a0 : Rd 5 encRec w v_a0 a0) (h0 : a0.length ≤ 1048576) (h1 : ∀ x ∈ a0, pathOK x.path = true) :
    Calls Tryd.prog 80 #[v_a0] w (Rt (RO 74 5 encRec w (canonL a0))) := by
  obtain ⟨k, h⟩ := spec_l03Canon.eq a0 h0 h1
  exact spec_l03Canon.walk f_a0 h
/-! spec.IsCanonical -/
theorem spec_IsCanonical.walk {w : World} {a0 : List Rec} {v_a0 : Value} (f_a0 : Rd 5 encRec w v_a0 a0) {r : Bool} (H : spec_IsCanonical.sh a0 = some r) :
    Calls Tryd.prog 33 #[v_a0] w (Rt (RP w (.bool r))) := by
  unfold spec_IsCanonical.sh at H
  refine calls_of_W Tryd.func33 rfl (Nat.le_of_ble_eq_true rfl) Tryd.ntmps33 rfl ?_
  refine W_seq <| W_reg <| L_op (.plain rfl) rfl (ltb rfl) (X_assign (v := (.bool false)) rfl) <| L_nil <| thn_n <| W_seq <| W_seq <| W_reg <| L_op (.plain rfl) rfl (ltb rfl) (X_move (v := v_a0) rfl) <| L_op (.plain rfl) rfl (ltb rfl) (X_lenR Tryd.underlying26 rfl f_a0) <| L_op (.plain rfl) rfl (ltb rfl) (X_gtr rfl rfl) <| L_nil <| thn_n ?_
  rcases bif_two H with ⟨q1, H⟩ | ⟨q1, H⟩
  · refine W_true (congrArg Value.bool q1) <| W_seq <| W_reg <| L_op (.plain rfl) rfl (ltb rfl) (X_assign (v := (.bool false)) rfl) <| L_nil <| thn_n <| W_ret <| thn_r <| fin_r ?_
    obtain rfl := Option.some.inj H
    exact fin1 rfl (Ext.refl w)
  · refine W_false (congrArg Value.bool q1) <| W_skip <| thn_n <| W_seq <| W_reg <| L_op (.plain rfl) rfl (ltb rfl) (X_move (v := v_a0) rfl) ?_
    obtain ⟨c2, H⟩ := bif_some H
    obtain ⟨c3, H⟩ := bif_some H
    refine L_callP (.plain rfl) rfl (ltb rfl) rfl Tryd.call57 (spec_l03OK.calls (w := w) (a0 := a0) f_a0 (of_decide_eq_true c2) (of_decide_eq_true c3)) rfl <| fun w4 e5 => L_op (.plain rfl) rfl (ltb rfl) (X_move (v := (.bool (decide ((layerFault a0).2 = 0)))) rfl) ?_
    obtain ⟨z7, x8, H⟩ := bind_some H
    refine L_grpE 5 [(9, 14)] 13 (fun q => q = z7) ?_ ?_
    · rcases bif_two x8 with ⟨b5_, H⟩ | ⟨b5_, H⟩
      · refine L_op (.guard 2 true 8 rfl rfl (ltb rfl) (congrArg Value.bool b5_)) rfl (ltb rfl) (X_move (v := v_a0) rfl) <| L_op (.guard 2 true 8 rfl rfl (ltb rfl) (congrArg Value.bool b5_)) rfl (ltb rfl) (X_move (v := v_a0) rfl) ?_
        obtain ⟨c7, H⟩ := bif_some H
        obtain ⟨c8, H⟩ := bif_some H
        refine L_callO (.guard 2 true 8 rfl rfl (ltb rfl) (congrArg Value.bool b5_)) rfl (ltb rfl) rfl Tryd.call80 (spec_l03Canon.calls (w := w4) (a0 := a0) (Rd.ext f_a0 e5) (of_decide_eq_true c7) (of_decide_eq_true c8)) rfl <| fun v11 w9 e10 o12 => ?_
        obtain ⟨c13, H⟩ := bif_some H
        refine L_callP (.guard 2 true 8 rfl rfl (ltb rfl) (congrArg Value.bool b5_)) rfl (ltb rfl) rfl Tryd.call79 (spec_l03Same.calls (w := w9) (a0 := a0) (a1 := (canonL a0)) (Rd.ext f_a0 (Ext.trans e5 e10)) (Own.rd o12) (of_decide_eq_true c13)) rfl <| fun w14 e15 => L_op (.plain rfl) rfl (ltb rfl) (X_pick (b := true) (v := (.bool (decide (a0 = (canonL a0))))) (congrArg Value.bool b5_) rfl) ?_
        obtain rfl := Option.some.inj H
        exact L_nil <| thn_n ⟨(Kp.upd (Kp.upd (Kp.upd (Kp.upd (Kp.upd (Kp.refl _ _) rfl) rfl) rfl) rfl) rfl), ⟨_, rfl, rfl⟩, (Ext.trans e10 e15)⟩
      · refine L_skip rfl rfl (ltb rfl) (congrArg Value.bool b5_) rfl rfl (ltb rfl) <| L_skip rfl rfl (ltb rfl) (congrArg Value.bool b5_) rfl rfl (ltb rfl) <| L_skip rfl rfl (ltb rfl) (congrArg Value.bool b5_) rfl rfl (ltb rfl) <| L_skip rfl rfl (ltb rfl) (congrArg Value.bool b5_) rfl rfl (ltb rfl) <| L_op (.plain rfl) rfl (ltb rfl) (X_pick (b := false) (v := (.bool false)) (congrArg Value.bool b5_) rfl) ?_
        obtain rfl := Option.some.inj H
        exact L_nil <| thn_n ⟨(Kp.upd (Kp.upd (Kp.upd (Kp.upd (Kp.upd (Kp.refl _ _) rfl) rfl) rfl) rfl) rfl), ⟨_, rfl, rfl⟩, (Ext.refl w4)⟩
    intro s16 w9 z17 K10 hq h11 e12
    rw [hq] at h11; clear hq
    refine L_op (.plain rfl) rfl (ltb rfl) (X_assign (v := (.bool z7)) h11) <| L_nil <| thn_n <| W_ret <| fin_r ?_
    obtain rfl := Option.some.inj H
    exact fin1 rfl (Ext.trans e5 e12)
theorem spec_IsCanonical.calls {w : World} {a0 : List Rec} {v_a0 : Value} (f_a0 : Rd 5 encRec w v_a0 a0) (h0 : a0.length ≤ 1048576) (h1 : ∀ x ∈ a0, x.path.length ≤ 1048576) :
    Calls Tryd.prog 33 #[v_a0] w (Rt (RP w (.bool (isCanon a0)))) := spec_IsCanonical.walk f_a0 (spec_IsCanonical.eq a0 h0 h1)
/-! impl.canonical -/
theorem impl_canonical.walk {k : Nat} {w : World} {a0 : List Rec} (gv : GV 0 w) {v_a0 : Value} (f_a0 : Rd 5 encRec w v_a0 a0) {r : List Rec} (H : impl_canonical.sh k a0 = some r) :
    Calls Tryd.prog 82 #[v_a0] w (Rt (RO 74 5 encRec w r)) := by
  unfold impl_canonical.sh at H
  refine calls_of_W Tryd.func82 rfl (Nat.le_of_ble_eq_true rfl) Tryd.ntmps82 rfl ?_
  refine W_seq <| W_reg <| L_op (.plain rfl) rfl (ltb rfl) (X_assign (v := (.slice none 0 0)) rfl) <| L_nil <| thn_n <| W_seq <| W_reg <| L_lit (.plain rfl) rfl (ltb rfl) rfl Tryd.underlying26 Tryd.sizeOf74 Tryd.zeroValue74 rfl rfl rfl (vs := []) rfl (lit_all rfl) <| fun b1 w2 z3 z4 e5 k6 => L_op (.plain rfl) rfl (ltb rfl) (X_assign (v := (.slice (some ⟨b1, 0, none⟩) 0 0)) rfl) <| L_nil <| thn_n <| W_seq <| W_seq <| W_reg <| L_op (.plain rfl) rfl (ltb rfl) (X_move (v := v_a0) rfl) <| L_op (.plain rfl) rfl (ltb rfl) (X_lenR Tryd.underlying26 rfl (Rd.ext f_a0 e5)) <| L_op (.plain rfl) rfl (ltb rfl) (X_move (v := (.int .i64 0)) rfl) <| L_nil <| thn_n ?_
  obtain ⟨z10, L11, C12⟩ := bind_some H
  clear H
  refine  W_cutQ (fun s0 sQ wQ => ∃ (x3_13 : List Rec) (v14 : Value), Kp [(3, 4), (5, 7), (10, 38)] s0 sQ ∧ sQ 3 = v14 ∧ Own 74 5 encRec w2.heap.size wQ v14 x3_13 ∧ Ext w2 wQ ∧ z10 = .inr x3_13) ?_ ?_
  · refine W_block <| W_loopI (fun s0 kk sQ wQ => ∃ (x3_7 : List Rec) (v8 : Value) (x10_9 : Int), Kp [(3, 4), (5, 7), (10, 38)] s0 sQ ∧ sQ 3 = v8 ∧ Own 74 5 encRec w2.heap.size wQ v8 x3_7 ∧ sQ 10 = .int .i64 x10_9 ∧ Ext w2 wQ ∧ loopF (impl_canonical.b1 a0) kk (x3_7, x10_9) = some z10) k ⟨([] : List Rec), (.slice (some ⟨b1, 0, none⟩) 0 0), 0, (Kp.refl _ _), rfl, (Own.zero), rfl, (Ext.refl w2), L11⟩ ?_
    rintro k19 s20 w21 ⟨x3_7, v8, x10_9, K22, h25, h26, h27, e23, L24⟩
    cases k19 with
    | zero => exact absurd L24 (by simp [loopF])
    | succ k19 =>
      obtain ⟨t28, H, S29⟩ := loopF_succ L24
      clear L24
      unfold impl_canonical.b1 at H
      refine W_seq <| W_reg <| L_op (.plain rfl) rfl (ltb rfl) (X_lss h27 (K22 9 rfl)) <| L_nil <| thn_n <| W_seq ?_
      rcases bif_two H with ⟨q30, H⟩ | ⟨q30, H⟩
      · refine W_true (congrArg Value.bool q30) <| W_skip <| thn_n <| W_seq <| W_block <| W_seq <| W_reg ?_
        obtain ⟨c31, H⟩ := bif_some H
        refine L_idx (.plain rfl) rfl (ltb rfl) rfl Tryd.underlying26 Tryd.sizeOf74 (K22 8 rfl) (Rd.ext f_a0 (Ext.trans e5 e23)) h27 c31 <| fun p32 h33 => L_op (.plain rfl) rfl (ltb rfl) (X_loadS Tryd.isAgg74 Tryd.sizeOf74 rfl rfl h33) <| L_alloc (.plain rfl) rfl (ltb rfl) rfl Tryd.zeroValue74 <| fun b34 w35 z36 z37 e38 k39 => L_storeA (.plain rfl) rfl rfl Tryd.sizeOf74 rfl rfl rfl rfl rfl k39 <| fun w40 h41 k42 => L_nil <| thn_n <| W_seq <| W_reg <| L_op (.plain rfl) rfl (ltb rfl) (X_move (v := v_a0) (K22 0 rfl)) <| L_op (.plain rfl) rfl (ltb rfl) (X_fieldAddr Tryd.underlying74 rfl Tryd.sizeOf9 rfl rfl) <| L_op (.plain rfl) rfl (ltb rfl) (X_loadB Tryd.isAgg9 k42 rfl rfl) ?_
        obtain ⟨c43, H⟩ := bif_some H
        obtain ⟨c44, H⟩ := bif_some H
        refine L_callP (.plain rfl) rfl (ltb rfl) rfl Tryd.call66 (impl_underOpaque.calls (w := w40) (a0 := a0) (a1 := (gt a0 x10_9).path) (Rd.ext f_a0 (Ext.trans (Ext.trans e5 e23) (Below.trans e38 (Wr.below h41 (Nat.le_of_eq z36))))) (of_decide_eq_true c43) (of_decide_eq_true c44)) rfl <| fun w45 e46 => L_op (.plain rfl) rfl (ltb rfl) (X_assign (v := (.bool (underO a0 ((gt a0 x10_9).path)))) rfl) <| L_nil <| thn_n <| W_seq <| W_seq <| W_reg <| L_op (.plain rfl) rfl (ltb rfl) (X_move (v := (.bool (underO a0 ((gt a0 x10_9).path)))) rfl) <| L_op (.plain rfl) rfl (ltb rfl) (X_move (v := (.bool (underO a0 ((gt a0 x10_9).path)))) rfl) <| L_grp 4 [(20, 24)] 23 (.bool ((underO a0 ((gt a0 x10_9).path)) && (decide (((gt a0 x10_9).kind) = 4)))) ?_ ?_
        · rcases bool_two (underO a0 ((gt a0 x10_9).path)) with b46_ | b46_
          · exact L_op (.guard 1 true 19 rfl rfl (ltb rfl) (congrArg Value.bool b46_)) rfl (ltb rfl) (X_fieldAddr Tryd.underlying74 rfl Tryd.sizeOf3 rfl rfl) <| L_op (.guard 1 true 19 rfl rfl (ltb rfl) (congrArg Value.bool b46_)) rfl (ltb rfl) (X_loadB Tryd.isAgg3 (Blk.ext k42 e46) rfl rfl) <| L_op (.guard 1 true 19 rfl rfl (ltb rfl) (congrArg Value.bool b46_)) rfl (ltb rfl) (X_eql rfl rfl) <| L_op (.plain rfl) rfl (ltb rfl) (X_pick (b := true) (v := (.bool (decide (((gt a0 x10_9).kind) = 4)))) (congrArg Value.bool b46_) rfl) <| L_nil <| thn_n ⟨(Kp.upd (Kp.upd (Kp.upd (Kp.upd (Kp.refl _ _) rfl) rfl) rfl) rfl), (and_t b46_), (Ext.refl w45)⟩
          · exact L_skip rfl rfl (ltb rfl) (congrArg Value.bool b46_) rfl rfl (ltb rfl) <| L_skip rfl rfl (ltb rfl) (congrArg Value.bool b46_) rfl rfl (ltb rfl) <| L_skip rfl rfl (ltb rfl) (congrArg Value.bool b46_) rfl rfl (ltb rfl) <| L_op (.plain rfl) rfl (ltb rfl) (X_pick (b := false) (v := (.bool false)) (congrArg Value.bool b46_) rfl) <| L_nil <| thn_n ⟨(Kp.upd (Kp.upd (Kp.upd (Kp.upd (Kp.refl _ _) rfl) rfl) rfl) rfl), (and_f b46_), (Ext.refl w45)⟩
        intro s52 w48 K49 h50 e51
        refine L_nil <| thn_n ?_
        rcases bif_two H with ⟨q53, H⟩ | ⟨q53, H⟩
        · refine W_true (h50.trans (congrArg Value.bool q53)) <| W_exit <| thn_x <| blk_x <| thn_n <| W_reg <| L_op (.plain rfl) rfl (ltb rfl) (X_add ((K49 10 rfl).trans h27) rfl) <| L_op (.plain rfl) rfl (ltb rfl) (X_move (v := (.int .i64 (IntKind.wrap .i64 (x10_9 + 1)))) rfl) <| L_nil <| thn_n ?_
          obtain rfl := Option.some.inj H
          exact ⟨_, Nat.lt_succ_self _, x3_7, v8, IntKind.wrap .i64 (x10_9 + 1), (Kp.upd (Kp.upd (Kp.cut (Kp.upd (Kp.upd (Kp.upd (Kp.upd (Kp.upd (Kp.upd (Kp.upd (Kp.upd (Kp.upd (Kp.upd (Kp.upd K22 rfl) rfl) rfl) rfl) rfl) rfl) rfl) rfl) rfl) rfl) rfl) K49 rfl) rfl) rfl), ((K49 3 rfl).trans h25), (Own.ext h26 (Ext.trans (Ext.trans (Below.trans e38 (Wr.below h41 (Nat.le_of_eq z36))) e46) e51)), rfl, (Ext.trans (Ext.trans (Ext.trans e23 (Below.trans e38 (Wr.below h41 (Nat.le_of_eq z36)))) e46) e51), S29⟩
        · refine W_false (h50.trans (congrArg Value.bool q53)) <| W_skip <| thn_n <| W_seq <| W_seq <| W_reg <| L_op (.plain rfl) rfl (ltb rfl) (X_move (v := (.bool (underO a0 ((gt a0 x10_9).path)))) (K49 6 rfl)) <| L_op (.plain rfl) rfl (ltb rfl) (X_move (v := (.bool (underO a0 ((gt a0 x10_9).path)))) rfl) ?_
          obtain ⟨z55, x56, H⟩ := bind_some H
          refine L_grpE 6 [(26, 32)] 31 (fun q => q = z55) ?_ ?_
          · rcases bif_two x56 with ⟨b53_, H⟩ | ⟨b53_, H⟩
            · refine L_skip rfl rfl (ltb rfl) (congrArg Value.bool b53_) rfl rfl (ltb rfl) <| L_skip rfl rfl (ltb rfl) (congrArg Value.bool b53_) rfl rfl (ltb rfl) <| L_skip rfl rfl (ltb rfl) (congrArg Value.bool b53_) rfl rfl (ltb rfl) <| L_skip rfl rfl (ltb rfl) (congrArg Value.bool b53_) rfl rfl (ltb rfl) <| L_skip rfl rfl (ltb rfl) (congrArg Value.bool b53_) rfl rfl (ltb rfl) <| L_op (.plain rfl) rfl (ltb rfl) (X_pick (b := true) (v := (.bool true)) (congrArg Value.bool b53_) rfl) ?_
              obtain rfl := Option.some.inj H
              exact L_nil <| thn_n ⟨(Kp.upd (Kp.upd (Kp.upd (Kp.upd (Kp.upd (Kp.upd (Kp.refl _ _) rfl) rfl) rfl) rfl) rfl) rfl), ⟨_, rfl, rfl⟩, (Ext.refl w48)⟩
            · refine L_op (.guard 1 false 25 rfl rfl (ltb rfl) (congrArg Value.bool b53_)) rfl (ltb rfl) (X_fieldAddr Tryd.underlying74 rfl Tryd.sizeOf9 rfl (K49 5 rfl)) <| L_op (.guard 1 false 25 rfl rfl (ltb rfl) (congrArg Value.bool b53_)) rfl (ltb rfl) (X_loadB Tryd.isAgg9 (Blk.ext k42 (Ext.trans e46 e51)) rfl rfl) ?_
              obtain ⟨c55, H⟩ := bif_some H
              refine L_callO (.guard 1 false 25 rfl rfl (ltb rfl) (congrArg Value.bool b53_)) rfl (ltb rfl) rfl Tryd.call106 (impl_parts.calls (w := w48) (a0 := (gt a0 x10_9).path) (GV.ext gv (Ext.trans (Ext.trans (Ext.trans (Ext.trans e5 e23) (Below.trans e38 (Wr.below h41 (Nat.le_of_eq z36)))) e46) e51)) (of_decide_eq_true c55)) rfl <| fun v58 w56 e57 o59 => L_op (.guard 1 false 25 rfl rfl (ltb rfl) (congrArg Value.bool b53_)) rfl (ltb rfl) (X_lenR Tryd.underlying57 rfl (Own.rd o59)) <| L_op (.guard 1 false 25 rfl rfl (ltb rfl) (congrArg Value.bool b53_)) rfl (ltb rfl) (X_eql rfl rfl) <| L_op (.plain rfl) rfl (ltb rfl) (X_pick (b := false) (v := (.bool (decide (((cut 47 ((gt a0 x10_9).path)).length : Int) = 4)))) (congrArg Value.bool b53_) rfl) ?_
              obtain rfl := Option.some.inj H
              exact L_nil <| thn_n ⟨(Kp.upd (Kp.upd (Kp.upd (Kp.upd (Kp.upd (Kp.upd (Kp.refl _ _) rfl) rfl) rfl) rfl) rfl) rfl), ⟨_, rfl, rfl⟩, e57⟩
          intro s61 w57 z62 K58 hq h59 e60
          rw [hq] at h59; clear hq
          refine L_nil <| thn_n ?_
          rcases bif_two H with ⟨q63, H⟩ | ⟨q63, H⟩
          · refine W_true (h59.trans (congrArg Value.bool q63)) <| W_reg <| L_op (.plain rfl) rfl (ltb rfl) (X_fieldAddr Tryd.underlying74 rfl Tryd.sizeOf4 rfl ((K58 5 rfl).trans (K49 5 rfl))) <| L_store1 (.plain rfl) rfl rfl Tryd.sizeOf4 rfl rfl rfl (Blk.ext k42 (Ext.trans (Ext.trans e46 e51) e60)) (ltb rfl) <| fun w64 h65 k66 => L_nil <| thn_n <| W_reg <| L_op (.plain rfl) rfl (ltb rfl) (X_move (v := v8) ((K58 3 rfl).trans ((K49 3 rfl).trans h25))) <| L_op (.plain rfl) rfl (ltb rfl) (X_loadS Tryd.isAgg74 Tryd.sizeOf74 rfl ((K58 5 rfl).trans (K49 5 rfl)) (Blk.at0 k66)) <| L_lit (.plain rfl) rfl (ltb rfl) rfl Tryd.underlying26 Tryd.sizeOf74 Tryd.zeroValue74 rfl rfl rfl (vs := [(.agg #[(.int .i64 ((gt a0 x10_9).kind)), (S ((gt a0 x10_9).path)), (S ((gt a0 x10_9).body)), (.int .i64 ((gt a0 x10_9).mode)), (.bool false)])]) rfl (lit_all rfl) <| fun b67 w68 z69 z70 e71 k72 => ?_
            obtain ⟨c73, H⟩ := bif_some H
            refine L_append (enc := encRec) (.plain rfl) rfl (ltb rfl) rfl El.t26 rfl rfl (Own.ext h26 (Ext.trans (Below.trans (Ext.trans (Ext.trans (Ext.trans (Below.trans e38 (Wr.below h41 (Nat.le_of_eq z36))) e46) e51) e60) (Wr.below h65 (Nat.le_of_eq z36))) e71)) (Own.rd (Own.new (xs := [(⟨(gt a0 x10_9).kind, (gt a0 x10_9).path, (gt a0 x10_9).body, (gt a0 x10_9).mode, false⟩ : Rec)]) (sz := 5) (enc := encRec) (base := w64.heap.size) k72 (Nat.le_of_eq z69) rfl (fun _ _ => by rfl) (Nat.le_of_ble_eq_true rfl))) (ones_Rec _) (of_decide_eq_true c73) ((Ext.trans (Ext.trans e23 (Below.trans (Ext.trans (Ext.trans (Ext.trans (Below.trans e38 (Wr.below h41 (Nat.le_of_eq z36))) e46) e51) e60) (Wr.below h65 (Nat.le_of_eq z36)))) e71)).size <| fun v74 w75 o76 z77 g78 => L_op (.plain rfl) rfl (ltb rfl) (X_assign (v := v74) rfl) <| L_nil <| blk_n <| thn_n <| W_reg <| L_op (.plain rfl) rfl (ltb rfl) (X_add ((K58 10 rfl).trans ((K49 10 rfl).trans h27)) rfl) <| L_op (.plain rfl) rfl (ltb rfl) (X_move (v := (.int .i64 (IntKind.wrap .i64 (x10_9 + 1)))) rfl) <| L_nil <| thn_n ?_
            obtain rfl := Option.some.inj H
            exact ⟨_, Nat.lt_succ_self _, x3_7 ++ ([(⟨(gt a0 x10_9).kind, (gt a0 x10_9).path, (gt a0 x10_9).body, (gt a0 x10_9).mode, false⟩ : Rec)] : List Rec), v74, IntKind.wrap .i64 (x10_9 + 1), (Kp.upd (Kp.upd (Kp.upd (Kp.upd (Kp.upd (Kp.upd (Kp.upd (Kp.upd (Kp.cut (Kp.upd (Kp.upd (Kp.cut (Kp.upd (Kp.upd (Kp.upd (Kp.upd (Kp.upd (Kp.upd (Kp.upd (Kp.upd (Kp.upd (Kp.upd (Kp.upd K22 rfl) rfl) rfl) rfl) rfl) rfl) rfl) rfl) rfl) rfl) rfl) K49 rfl) rfl) rfl) K58 rfl) rfl) rfl) rfl) rfl) rfl) rfl) rfl) rfl), rfl, o76, rfl, (g78 _ (Ext.trans (Ext.trans e23 (Below.trans (Ext.trans (Ext.trans (Ext.trans (Below.trans e38 (Wr.below h41 (Nat.le_of_eq z36))) e46) e51) e60) (Wr.below h65 (Nat.le_of_eq z36)))) e71)), S29⟩
          · refine W_false (h59.trans (congrArg Value.bool q63)) <| W_skip <| thn_n <| W_reg <| L_op (.plain rfl) rfl (ltb rfl) (X_move (v := v8) ((K58 3 rfl).trans ((K49 3 rfl).trans h25))) <| L_op (.plain rfl) rfl (ltb rfl) (X_loadS Tryd.isAgg74 Tryd.sizeOf74 rfl ((K58 5 rfl).trans (K49 5 rfl)) (Blk.at0 (Blk.ext k42 (Ext.trans (Ext.trans e46 e51) e60)))) <| L_lit (.plain rfl) rfl (ltb rfl) rfl Tryd.underlying26 Tryd.sizeOf74 Tryd.zeroValue74 rfl rfl rfl (vs := [(.agg #[(.int .i64 ((gt a0 x10_9).kind)), (S ((gt a0 x10_9).path)), (S ((gt a0 x10_9).body)), (.int .i64 ((gt a0 x10_9).mode)), (.bool ((gt a0 x10_9).opq))])]) rfl (lit_all rfl) <| fun b79 w80 z81 z82 e83 k84 => ?_
            obtain ⟨c85, H⟩ := bif_some H
            refine L_append (enc := encRec) (.plain rfl) rfl (ltb rfl) rfl El.t26 rfl rfl (Own.ext h26 (Ext.trans (Ext.trans (Ext.trans (Ext.trans (Below.trans e38 (Wr.below h41 (Nat.le_of_eq z36))) e46) e51) e60) e83)) (Own.rd (Own.new (xs := [(gt a0 x10_9)]) (sz := 5) (enc := encRec) (base := w57.heap.size) k84 (Nat.le_of_eq z81) rfl (fun _ _ => by rfl) (Nat.le_of_ble_eq_true rfl))) (ones_Rec _) (of_decide_eq_true c85) ((Ext.trans (Ext.trans (Ext.trans (Ext.trans (Ext.trans e23 (Below.trans e38 (Wr.below h41 (Nat.le_of_eq z36)))) e46) e51) e60) e83)).size <| fun v86 w87 o88 z89 g90 => L_op (.plain rfl) rfl (ltb rfl) (X_assign (v := v86) rfl) <| L_nil <| blk_n <| thn_n <| W_reg <| L_op (.plain rfl) rfl (ltb rfl) (X_add ((K58 10 rfl).trans ((K49 10 rfl).trans h27)) rfl) <| L_op (.plain rfl) rfl (ltb rfl) (X_move (v := (.int .i64 (IntKind.wrap .i64 (x10_9 + 1)))) rfl) <| L_nil <| thn_n ?_
            obtain rfl := Option.some.inj H
            exact ⟨_, Nat.lt_succ_self _, x3_7 ++ ([(gt a0 x10_9)] : List Rec), v86, IntKind.wrap .i64 (x10_9 + 1), (Kp.upd (Kp.upd (Kp.upd (Kp.upd (Kp.upd (Kp.upd (Kp.upd (Kp.cut (Kp.upd (Kp.upd (Kp.cut (Kp.upd (Kp.upd (Kp.upd (Kp.upd (Kp.upd (Kp.upd (Kp.upd (Kp.upd (Kp.upd (Kp.upd (Kp.upd K22 rfl) rfl) rfl) rfl) rfl) rfl) rfl) rfl) rfl) rfl) rfl) K49 rfl) rfl) rfl) K58 rfl) rfl) rfl) rfl) rfl) rfl) rfl) rfl), rfl, o88, rfl, (g90 _ (Ext.trans (Ext.trans (Ext.trans (Ext.trans (Ext.trans e23 (Below.trans e38 (Wr.below h41 (Nat.le_of_eq z36)))) e46) e51) e60) e83)), S29⟩
      · refine W_false (congrArg Value.bool q30) <| W_exit <| thn_x <| thn_x <| blk_x <| thn_n ?_
        obtain rfl := Option.some.inj H
        obtain rfl := Option.some.inj S29
        exact ⟨x3_7, v8, (Kp.upd K22 rfl), h25, h26, e23, rfl⟩
  · rintro s16 w15 ⟨x3_13, v14, K17, h91, h92, e18, y93⟩
    rw [y93] at C12
    have H := C12
    replace H : _ = some _ := H
    refine thn_n <| W_seq <| W_reg <| L_op (.plain rfl) rfl (ltb rfl) (X_move (v := v14) h91) <| L_op (.plain rfl) rfl (ltb rfl) (X_assign (v := v14) rfl) <| L_nil <| thn_n <| W_ret <| fin_r ?_
    obtain rfl := Option.some.inj H
    exact fin1o rfl (Ext.trans e5 e18) h92 (e5).size
theorem impl_canonical.calls {w : World} {a0 : List Rec} (gv : GV 0 w) {v_a0 : Value} (f_a0 : Rd 5 encRec w v_a0 a0) (h0 : a0.length ≤ 1048576) (h1 : ∀ x ∈ a0, pathOK x.path = true) :
    Calls Tryd.prog 82 #[v_a0] w (Rt (RO 74 5 encRec w (canonL a0))) := by
  obtain ⟨k, h⟩ := impl_canonical.eq a0 h0 h1
  exact impl_canonical.walk gv f_a0 h
/-! impl.IsCanonical -/
theorem impl_IsCanonical.walk {w : World} {a0 : List Rec} (gv : GV 0 w) {v_a0 : Value} (f_a0 : Rd 5 encRec w v_a0 a0) {r : Bool} (H : impl_IsCanonical.sh a0 = some r) :
    Calls Tryd.prog 34 #[v_a0] w (Rt (RP w (.bool r))) := by
  unfold impl_IsCanonical.sh at H
  refine calls_of_W Tryd.func34 rfl (Nat.le_of_ble_eq_true rfl) Tryd.ntmps34 rfl ?_
  refine W_seq <| W_reg <| L_op (.plain rfl) rfl (ltb rfl) (X_assign (v := (.bool false)) rfl) <| L_nil <| thn_n <| W_seq <| W_reg <| L_op (.plain rfl) rfl (ltb rfl) (X_move (v := v_a0) rfl) ?_
  obtain ⟨c1, H⟩ := bif_some H
  obtain ⟨c2, H⟩ := bif_some H
  refine L_callP (.plain rfl) rfl (ltb rfl) rfl Tryd.call64 (impl_LayerOK.calls (w := w) (a0 := a0) gv f_a0 (of_decide_eq_true c1) (of_decide_eq_true c2)) rfl <| fun w3 e4 => L_op (.plain rfl) rfl (ltb rfl) (X_move (v := (.bool (decide ((layerFaultL a0).2 = 0)))) rfl) ?_
  obtain ⟨z6, x7, H⟩ := bind_some H
  refine L_grpE 5 [(6, 11)] 10 (fun q => q = z6) ?_ ?_
  · rcases bif_two x7 with ⟨b4_, H⟩ | ⟨b4_, H⟩
    · refine L_op (.guard 2 true 5 rfl rfl (ltb rfl) (congrArg Value.bool b4_)) rfl (ltb rfl) (X_move (v := v_a0) rfl) ?_
      obtain ⟨c6, H⟩ := bif_some H
      obtain ⟨c7, H⟩ := bif_some H
      refine L_callO (.guard 2 true 5 rfl rfl (ltb rfl) (congrArg Value.bool b4_)) rfl (ltb rfl) rfl Tryd.call82 (impl_canonical.calls (w := w3) (a0 := a0) (GV.ext gv e4) (Rd.ext f_a0 e4) (of_decide_eq_true c6) (of_decide_eq_true c7)) rfl <| fun v10 w8 e9 o11 => L_op (.guard 2 true 5 rfl rfl (ltb rfl) (congrArg Value.bool b4_)) rfl (ltb rfl) (X_move (v := v_a0) rfl) ?_
      obtain ⟨c12, H⟩ := bif_some H
      refine L_callP (.guard 2 true 5 rfl rfl (ltb rfl) (congrArg Value.bool b4_)) rfl (ltb rfl) rfl Tryd.call81 (slices_EqualR.calls (w := w8) (a0 := (canonL a0)) (a1 := a0) (Own.rd o11) (Rd.ext f_a0 (Ext.trans e4 e9)) (of_decide_eq_true c12)) rfl <| fun w13 e14 => L_op (.plain rfl) rfl (ltb rfl) (X_pick (b := true) (v := (.bool (decide ((canonL a0) = a0)))) (congrArg Value.bool b4_) rfl) ?_
      obtain rfl := Option.some.inj H
      exact L_nil <| thn_n ⟨(Kp.upd (Kp.upd (Kp.upd (Kp.upd (Kp.upd (Kp.refl _ _) rfl) rfl) rfl) rfl) rfl), ⟨_, rfl, rfl⟩, (Ext.trans e9 e14)⟩
    · refine L_skip rfl rfl (ltb rfl) (congrArg Value.bool b4_) rfl rfl (ltb rfl) <| L_skip rfl rfl (ltb rfl) (congrArg Value.bool b4_) rfl rfl (ltb rfl) <| L_skip rfl rfl (ltb rfl) (congrArg Value.bool b4_) rfl rfl (ltb rfl) <| L_skip rfl rfl (ltb rfl) (congrArg Value.bool b4_) rfl rfl (ltb rfl) <| L_op (.plain rfl) rfl (ltb rfl) (X_pick (b := false) (v := (.bool false)) (congrArg Value.bool b4_) rfl) ?_
      obtain rfl := Option.some.inj H
      exact L_nil <| thn_n ⟨(Kp.upd (Kp.upd (Kp.upd (Kp.upd (Kp.upd (Kp.refl _ _) rfl) rfl) rfl) rfl) rfl), ⟨_, rfl, rfl⟩, (Ext.refl w3)⟩
  intro s15 w8 z16 K9 hq h10 e11
  rw [hq] at h10; clear hq
  refine L_op (.plain rfl) rfl (ltb rfl) (X_assign (v := (.bool z6)) h10) <| L_nil <| thn_n <| W_ret <| fin_r ?_
  obtain rfl := Option.some.inj H
  exact fin1 rfl (Ext.trans e4 e11)
theorem impl_IsCanonical.calls {w : World} {a0 : List Rec} (gv : GV 0 w) {v_a0 : Value} (f_a0 : Rd 5 encRec w v_a0 a0) (h0 : a0.length ≤ 1048576) (h1 : ∀ x ∈ a0, x.path.length ≤ 1048576) :
    Calls Tryd.prog 34 #[v_a0] w (Rt (RP w (.bool (isCanon a0)))) := impl_IsCanonical.walk gv f_a0 (impl_IsCanonical.eq a0 h0 h1)
/-! laws.FnExactIsCanonical -/
theorem law_IsCanonical.walk {w : World} {a0 : List Rec} (gv : GV 0 w) {v_a0 : Value} (f_a0 : Rd 5 encRec w v_a0 a0) {r : Bool} (H : law_IsCanonical.sh a0 = some r) :
    Calls Tryd.prog 7 #[v_a0] w (Rt (RP w (.bool r))) := by
  unfold law_IsCanonical.sh at H
  refine calls_of_W Tryd.func7 rfl (Nat.le_of_ble_eq_true rfl) Tryd.ntmps7 rfl ?_
  refine W_seq <| W_reg <| L_op (.plain rfl) rfl (ltb rfl) (X_assign (v := (.bool false)) rfl) <| L_nil <| thn_n <| W_seq <| W_reg <| L_op (.plain rfl) rfl (ltb rfl) (X_assign (v := (.int .i64 1048576)) rfl) <| L_nil <| thn_n <| W_seq <| W_reg <| L_op (.plain rfl) rfl (ltb rfl) (X_move (v := v_a0) rfl) <| L_op (.plain rfl) rfl (ltb rfl) (X_move (v := (.int .i64 1048576)) rfl) ?_
  obtain ⟨c1, H⟩ := bif_some H
  obtain ⟨c2, H⟩ := bif_some H
  obtain ⟨c3, H⟩ := bif_some H
  obtain ⟨c4, H⟩ := bif_some H
  refine L_callP (.plain rfl) rfl (ltb rfl) rfl Tryd.call15 (laws_szRecordS.calls (w := w) (a0 := a0) (a1 := 1048576) f_a0 (of_decide_eq_true c1) (of_decide_eq_true c2) (of_decide_eq_true c3) (of_decide_eq_true c4)) rfl <| fun w5 e6 => L_op (.plain rfl) rfl (ltb rfl) (X_assign (v := (.int .i64 (szRecS a0 1048576))) rfl) <| L_nil <| thn_n <| W_seq <| W_seq <| W_reg <| L_op (.plain rfl) rfl (ltb rfl) (X_move (v := (.int .i64 (szRecS a0 1048576))) rfl) <| L_op (.plain rfl) rfl (ltb rfl) (X_lss rfl rfl) <| L_nil <| thn_n ?_
  rcases bif_two H with ⟨q7, H⟩ | ⟨q7, H⟩
  · refine W_true (congrArg Value.bool q7) <| W_seq <| W_reg <| L_op (.plain rfl) rfl (ltb rfl) (X_assign (v := (.bool true)) rfl) <| L_nil <| thn_n <| W_ret <| thn_r <| fin_r ?_
    obtain rfl := Option.some.inj H
    exact fin1 rfl e6
  · refine W_false (congrArg Value.bool q7) <| W_skip <| thn_n <| W_seq <| W_reg <| L_op (.plain rfl) rfl (ltb rfl) (X_move (v := v_a0) rfl) ?_
    obtain ⟨c8, H⟩ := bif_some H
    refine L_callO (.plain rfl) rfl (ltb rfl) rfl Tryd.call17 (laws_toRecordS.calls (w := w5) (a0 := a0) (Rd.ext f_a0 e6) (of_decide_eq_true c8)) rfl <| fun v11 w9 e10 o12 => ?_
    obtain ⟨c13, H⟩ := bif_some H
    obtain ⟨c14, H⟩ := bif_some H
    refine L_callP (.plain rfl) rfl (ltb rfl) rfl Tryd.call33 (spec_IsCanonical.calls (w := w9) (a0 := a0) (Own.rd o12) (of_decide_eq_true c13) (of_decide_eq_true c14)) rfl <| fun w15 e16 => L_op (.plain rfl) rfl (ltb rfl) (X_assign (v := (.bool (isCanon a0))) rfl) <| L_nil <| thn_n <| W_seq <| W_reg <| L_op (.plain rfl) rfl (ltb rfl) (X_move (v := v_a0) rfl) ?_
    obtain ⟨c17, H⟩ := bif_some H
    refine L_callO (.plain rfl) rfl (ltb rfl) rfl Tryd.call17 (laws_toRecordS.calls (w := w15) (a0 := a0) (Rd.ext f_a0 (Ext.trans (Ext.trans e6 e10) e16)) (of_decide_eq_true c17)) rfl <| fun v20 w18 e19 o21 => L_op (.plain rfl) rfl (ltb rfl) (X_assign (v := v20) rfl) <| L_nil <| thn_n <| W_seq <| W_reg <| L_op (.plain rfl) rfl (ltb rfl) (X_move (v := v20) rfl) ?_
    obtain ⟨c22, H⟩ := bif_some H
    obtain ⟨c23, H⟩ := bif_some H
    refine L_callP (.plain rfl) rfl (ltb rfl) rfl Tryd.call34 (impl_IsCanonical.calls (w := w18) (a0 := a0) (GV.ext gv (Ext.trans (Ext.trans (Ext.trans e6 e10) e16) e19)) (Own.rd o21) (of_decide_eq_true c22) (of_decide_eq_true c23)) rfl <| fun w24 e25 => L_op (.plain rfl) rfl (ltb rfl) (X_assign (v := (.bool (isCanon a0))) rfl) <| L_nil <| thn_n <| W_seq <| W_seq <| W_reg <| L_op (.plain rfl) rfl (ltb rfl) (X_move (v := (.bool (isCanon a0))) rfl) <| L_op (.plain rfl) rfl (ltb rfl) (X_move (v := (.bool (isCanon a0))) rfl) <| L_op (.plain rfl) rfl (ltb rfl) (X_bne Tryd.underlying4 rfl rfl) <| L_nil <| thn_n ?_
    rcases bif_two H with ⟨q26, H⟩ | ⟨q26, H⟩
    · refine W_true (congrArg Value.bool q26) <| W_seq <| W_reg <| L_op (.plain rfl) rfl (ltb rfl) (X_assign (v := (.bool false)) rfl) <| L_nil <| thn_n <| W_ret <| thn_r <| fin_r ?_
      obtain rfl := Option.some.inj H
      exact fin1 rfl (Ext.trans (Ext.trans (Ext.trans (Ext.trans e6 e10) e16) e19) e25)
    · refine W_false (congrArg Value.bool q26) <| W_skip <| thn_n <| W_seq <| W_seq <| W_reg <| L_op (.plain rfl) rfl (ltb rfl) (X_move (v := v20) rfl) <| L_op (.plain rfl) rfl (ltb rfl) (X_move (v := v_a0) rfl) ?_
      obtain ⟨c27, H⟩ := bif_some H
      refine L_callO (.plain rfl) rfl (ltb rfl) rfl Tryd.call17 (laws_toRecordS.calls (w := w24) (a0 := a0) (Rd.ext f_a0 (Ext.trans (Ext.trans (Ext.trans (Ext.trans e6 e10) e16) e19) e25)) (of_decide_eq_true c27)) rfl <| fun v30 w28 e29 o31 => ?_
      obtain ⟨c32, H⟩ := bif_some H
      refine L_callP (.plain rfl) rfl (ltb rfl) rfl Tryd.call19 (laws_eqRecordS.calls (w := w28) (a0 := a0) (a1 := a0) (Own.rd (Own.ext o21 (Ext.trans e25 e29))) (Own.rd o31) (of_decide_eq_true c32)) rfl <| fun w33 e34 => L_op (.plain rfl) rfl (ltb rfl) (X_not rfl) <| L_nil <| thn_n ?_
      rcases bif_two H with ⟨q35, H⟩ | ⟨q35, H⟩
      · refine W_true (congrArg Value.bool q35) <| W_seq <| W_reg <| L_op (.plain rfl) rfl (ltb rfl) (X_assign (v := (.bool false)) rfl) <| L_nil <| thn_n <| W_ret <| thn_r <| fin_r ?_
        obtain rfl := Option.some.inj H
        exact fin1 rfl (Ext.trans (Ext.trans (Ext.trans (Ext.trans (Ext.trans (Ext.trans e6 e10) e16) e19) e25) e29) e34)
      · refine W_false (congrArg Value.bool q35) <| W_skip <| thn_n <| W_seq <| W_reg <| L_op (.plain rfl) rfl (ltb rfl) (X_assign (v := (.bool true)) rfl) <| L_nil <| thn_n <| W_ret <| fin_r ?_
        obtain rfl := Option.some.inj H
        exact fin1 rfl (Ext.trans (Ext.trans (Ext.trans (Ext.trans (Ext.trans (Ext.trans e6 e10) e16) e19) e25) e29) e34)
theorem law_IsCanonical.calls {w : World} {a0 : List Rec} (gv : GV 0 w) {v_a0 : Value} (f_a0 : Rd 5 encRec w v_a0 a0) (h0 : ∀ x ∈ a0, okRec x) (h1 : a0.length ≤ 9223372036854775807) :
    Calls Tryd.prog 7 #[v_a0] w (Rt (RP w (.bool true))) := law_IsCanonical.walk gv f_a0 (law_IsCanonical.eq a0 h0 h1)
/-! spec.Alike -/
theorem spec_Alike.walk {w : World} {a0 : List Rec} {a1 : List Rec} {v_a0 : Value} (f_a0 : Rd 5 encRec w v_a0 a0) {v_a1 : Value} (f_a1 : Rd 5 encRec w v_a1 a1) {r : Bool × Int} (H : spec_Alike.sh a0 a1 = some r) :
    Calls Tryd.prog 35 #[v_a0, v_a1] w (Rt (RP w (.tuple #[.bool r.1, .int .i64 r.2]))) := by
  unfold spec_Alike.sh at H
  refine calls_of_W Tryd.func35 rfl (Nat.le_of_ble_eq_true rfl) Tryd.ntmps35 rfl ?_
  refine W_seq <| W_reg <| L_op (.plain rfl) rfl (ltb rfl) (X_assign (v := (.bool false)) rfl) <| L_op (.plain rfl) rfl (ltb rfl) (X_assign (v := (.int .i64 0)) rfl) <| L_nil <| thn_n <| W_seq <| W_seq <| W_reg <| L_op (.plain rfl) rfl (ltb rfl) (X_move (v := v_a0) rfl) <| L_op (.plain rfl) rfl (ltb rfl) (X_lenR Tryd.underlying26 rfl f_a0) <| L_op (.plain rfl) rfl (ltb rfl) (X_gtr rfl rfl) <| L_op (.plain rfl) rfl (ltb rfl) (X_move (v := (.bool (decide (4096 < (a0.length : Int))))) rfl) <| L_grp 4 [(10, 14)] 13 (.bool ((decide (4096 < (a0.length : Int))) || (decide (4096 < (a1.length : Int))))) ?_ ?_
  · rcases bool_two (decide (4096 < (a0.length : Int))) with b0_ | b0_
    · exact L_skip rfl rfl (ltb rfl) (congrArg Value.bool b0_) rfl rfl (ltb rfl) <| L_skip rfl rfl (ltb rfl) (congrArg Value.bool b0_) rfl rfl (ltb rfl) <| L_skip rfl rfl (ltb rfl) (congrArg Value.bool b0_) rfl rfl (ltb rfl) <| L_op (.plain rfl) rfl (ltb rfl) (X_pick (b := true) (v := (.bool true)) (congrArg Value.bool b0_) rfl) <| L_nil <| thn_n ⟨(Kp.upd (Kp.upd (Kp.upd (Kp.upd (Kp.refl _ _) rfl) rfl) rfl) rfl), (or_t b0_), (Ext.refl w)⟩
    · exact L_op (.guard 3 false 9 rfl rfl (ltb rfl) (congrArg Value.bool b0_)) rfl (ltb rfl) (X_move (v := v_a1) rfl) <| L_op (.guard 3 false 9 rfl rfl (ltb rfl) (congrArg Value.bool b0_)) rfl (ltb rfl) (X_lenR Tryd.underlying26 rfl f_a1) <| L_op (.guard 3 false 9 rfl rfl (ltb rfl) (congrArg Value.bool b0_)) rfl (ltb rfl) (X_gtr rfl rfl) <| L_op (.plain rfl) rfl (ltb rfl) (X_pick (b := false) (v := (.bool (decide (4096 < (a1.length : Int))))) (congrArg Value.bool b0_) rfl) <| L_nil <| thn_n ⟨(Kp.upd (Kp.upd (Kp.upd (Kp.upd (Kp.refl _ _) rfl) rfl) rfl) rfl), (or_f b0_), (Ext.refl w)⟩
  intro s6 w2 K3 h4 e5
  refine L_nil <| thn_n ?_
  rcases bif_two H with ⟨q7, H⟩ | ⟨q7, H⟩
  · refine W_true (h4.trans (congrArg Value.bool q7)) <| W_seq <| W_reg <| L_op (.plain rfl) rfl (ltb rfl) (X_assign (v := (.bool false)) rfl) <| L_op (.plain rfl) rfl (ltb rfl) (X_assign (v := (.int .i64 2)) rfl) <| L_nil <| thn_n <| W_ret <| thn_r <| fin_r ?_
    obtain rfl := Option.some.inj H
    exact fin2 rfl rfl e5
  · refine W_false (h4.trans (congrArg Value.bool q7)) <| W_skip <| thn_n <| W_seq <| W_seq <| W_reg <| L_op (.plain rfl) rfl (ltb rfl) (X_move (v := v_a0) (K3 0 rfl)) ?_
    obtain ⟨c8, H⟩ := bif_some H
    obtain ⟨c9, H⟩ := bif_some H
    refine L_callP (.plain rfl) rfl (ltb rfl) rfl Tryd.call57 (spec_l03OK.calls (w := w2) (a0 := a0) (Rd.ext f_a0 e5) (of_decide_eq_true c8) (of_decide_eq_true c9)) rfl <| fun w10 e11 => L_op (.plain rfl) rfl (ltb rfl) (X_not rfl) <| L_op (.plain rfl) rfl (ltb rfl) (X_move (v := (.bool (!(decide ((layerFault a0).2 = 0))))) rfl) ?_
    obtain ⟨z13, x14, H⟩ := bind_some H
    refine L_grpE 4 [(18, 22)] 21 (fun q => q = z13) ?_ ?_
    · rcases bif_two x14 with ⟨b11_, H⟩ | ⟨b11_, H⟩
      · refine L_skip rfl rfl (ltb rfl) (congrArg Value.bool b11_) rfl rfl (ltb rfl) <| L_skip rfl rfl (ltb rfl) (congrArg Value.bool b11_) rfl rfl (ltb rfl) <| L_skip rfl rfl (ltb rfl) (congrArg Value.bool b11_) rfl rfl (ltb rfl) <| L_op (.plain rfl) rfl (ltb rfl) (X_pick (b := true) (v := (.bool true)) (congrArg Value.bool b11_) rfl) ?_
        obtain rfl := Option.some.inj H
        exact L_nil <| thn_n ⟨(Kp.upd (Kp.upd (Kp.upd (Kp.upd (Kp.refl _ _) rfl) rfl) rfl) rfl), ⟨_, rfl, rfl⟩, (Ext.refl w10)⟩
      · refine L_op (.guard 3 false 17 rfl rfl (ltb rfl) (congrArg Value.bool b11_)) rfl (ltb rfl) (X_move (v := v_a1) (K3 1 rfl)) ?_
        obtain ⟨c13, H⟩ := bif_some H
        obtain ⟨c14, H⟩ := bif_some H
        refine L_callP (.guard 3 false 17 rfl rfl (ltb rfl) (congrArg Value.bool b11_)) rfl (ltb rfl) rfl Tryd.call57 (spec_l03OK.calls (w := w10) (a0 := a1) (Rd.ext f_a1 (Ext.trans e5 e11)) (of_decide_eq_true c13) (of_decide_eq_true c14)) rfl <| fun w15 e16 => L_op (.guard 3 false 17 rfl rfl (ltb rfl) (congrArg Value.bool b11_)) rfl (ltb rfl) (X_not rfl) <| L_op (.plain rfl) rfl (ltb rfl) (X_pick (b := false) (v := (.bool (!(decide ((layerFault a1).2 = 0))))) (congrArg Value.bool b11_) rfl) ?_
        obtain rfl := Option.some.inj H
        exact L_nil <| thn_n ⟨(Kp.upd (Kp.upd (Kp.upd (Kp.upd (Kp.refl _ _) rfl) rfl) rfl) rfl), ⟨_, rfl, rfl⟩, e16⟩
    intro s19 w15 z20 K16 hq h17 e18
    rw [hq] at h17; clear hq
    refine L_nil <| thn_n ?_
    rcases bif_two H with ⟨q21, H⟩ | ⟨q21, H⟩
    · refine W_true (h17.trans (congrArg Value.bool q21)) <| W_seq <| W_reg <| L_op (.plain rfl) rfl (ltb rfl) (X_assign (v := (.bool false)) rfl) <| L_op (.plain rfl) rfl (ltb rfl) (X_assign (v := (.int .i64 1)) rfl) <| L_nil <| thn_n <| W_ret <| thn_r <| fin_r ?_
      obtain rfl := Option.some.inj H
      exact fin2 rfl rfl (Ext.trans (Ext.trans e5 e11) e18)
    · refine W_false (h17.trans (congrArg Value.bool q21)) <| W_skip <| thn_n <| W_seq <| W_reg <| L_op (.plain rfl) rfl (ltb rfl) (X_move (v := v_a0) ((K16 0 rfl).trans (K3 0 rfl))) ?_
      obtain ⟨c22, H⟩ := bif_some H
      obtain ⟨c23, H⟩ := bif_some H
      refine L_callO (.plain rfl) rfl (ltb rfl) rfl Tryd.call80 (spec_l03Canon.calls (w := w15) (a0 := a0) (Rd.ext f_a0 (Ext.trans (Ext.trans e5 e11) e18)) (of_decide_eq_true c22) (of_decide_eq_true c23)) rfl <| fun v26 w24 e25 o27 => L_op (.plain rfl) rfl (ltb rfl) (X_move (v := v_a1) ((K16 1 rfl).trans (K3 1 rfl))) ?_
      obtain ⟨c28, H⟩ := bif_some H
      obtain ⟨c29, H⟩ := bif_some H
      refine L_callO (.plain rfl) rfl (ltb rfl) rfl Tryd.call80 (spec_l03Canon.calls (w := w24) (a0 := a1) (Rd.ext f_a1 (Ext.trans (Ext.trans (Ext.trans e5 e11) e18) e25)) (of_decide_eq_true c28) (of_decide_eq_true c29)) rfl <| fun v32 w30 e31 o33 => ?_
      obtain ⟨c34, H⟩ := bif_some H
      refine L_callP (.plain rfl) rfl (ltb rfl) rfl Tryd.call79 (spec_l03Same.calls (w := w30) (a0 := (canonL a0)) (a1 := (canonL a1)) (Own.rd (Own.ext o27 e31)) (Own.rd o33) (of_decide_eq_true c34)) rfl <| fun w35 e36 => L_op (.plain rfl) rfl (ltb rfl) (X_assign (v := (.bool (decide ((canonL a0) = (canonL a1))))) rfl) <| L_op (.plain rfl) rfl (ltb rfl) (X_assign (v := (.int .i64 0)) rfl) <| L_nil <| thn_n <| W_ret <| fin_r ?_
      obtain rfl := Option.some.inj H
      exact fin2 rfl rfl (Ext.trans (Ext.trans (Ext.trans (Ext.trans (Ext.trans e5 e11) e18) e25) e31) e36)
theorem spec_Alike.calls {w : World} {a0 : List Rec} {a1 : List Rec} {v_a0 : Value} (f_a0 : Rd 5 encRec w v_a0 a0) {v_a1 : Value} (f_a1 : Rd 5 encRec w v_a1 a1) (h0 : a0.length ≤ 1048576) (h1 : a1.length ≤ 1048576) (h2 : ∀ x ∈ a0, x.path.length ≤ 1048576) (h3 : ∀ x ∈ a1, x.path.length ≤ 1048576) :
    Calls Tryd.prog 35 #[v_a0, v_a1] w (Rt (RP w (.tuple #[.bool ((alike a0 a1).1), .int .i64 ((alike a0 a1).2)]))) := spec_Alike.walk f_a0 f_a1 (spec_Alike.eq a0 a1 h0 h1 h2 h3)
/-! impl.pairCode -/
theorem impl_pairCode.walk {w : World} {a0 : List Rec} {a1 : List Rec} (gv : GV 0 w) {v_a0 : Value} (f_a0 : Rd 5 encRec w v_a0 a0) {v_a1 : Value} (f_a1 : Rd 5 encRec w v_a1 a1) {r : Int} (H : impl_pairCode.sh a0 a1 = some r) :
    Calls Tryd.prog 83 #[v_a0, v_a1] w (Rt (RP w (.int .i64 r))) := by
  unfold impl_pairCode.sh at H
  refine calls_of_W Tryd.func83 rfl (Nat.le_of_ble_eq_true rfl) Tryd.ntmps83 rfl ?_
  refine W_seq <| W_reg <| L_op (.plain rfl) rfl (ltb rfl) (X_assign (v := (.int .i64 0)) rfl) <| L_nil <| thn_n <| W_seq <| W_reg <| L_op (.plain rfl) rfl (ltb rfl) (X_move (v := v_a0) rfl) <| L_callP (.plain rfl) rfl (ltb rfl) rfl Tryd.call63 (impl_isLongListR.calls (w := w) (a0 := a0) f_a0) rfl <| fun w1 e2 => L_op (.plain rfl) rfl (ltb rfl) (X_move (v := (.bool (decide (4096 < a0.length)))) rfl) <| L_grp 3 [(8, 11)] 10 (.bool ((decide (4096 < a0.length)) || (decide (4096 < a1.length)))) ?_ ?_
  · rcases bool_two (decide (4096 < a0.length)) with b2_ | b2_
    · exact L_skip rfl rfl (ltb rfl) (congrArg Value.bool b2_) rfl rfl (ltb rfl) <| L_skip rfl rfl (ltb rfl) (congrArg Value.bool b2_) rfl rfl (ltb rfl) <| L_op (.plain rfl) rfl (ltb rfl) (X_pick (b := true) (v := (.bool true)) (congrArg Value.bool b2_) rfl) <| L_nil <| thn_n ⟨(Kp.upd (Kp.upd (Kp.upd (Kp.refl _ _) rfl) rfl) rfl), (or_t b2_), (Ext.refl w1)⟩
    · exact L_op (.guard 2 false 7 rfl rfl (ltb rfl) (congrArg Value.bool b2_)) rfl (ltb rfl) (X_move (v := v_a1) rfl) <| L_callP (.guard 2 false 7 rfl rfl (ltb rfl) (congrArg Value.bool b2_)) rfl (ltb rfl) rfl Tryd.call63 (impl_isLongListR.calls (w := w1) (a0 := a1) (Rd.ext f_a1 e2)) rfl <| fun w4 e5 => L_op (.plain rfl) rfl (ltb rfl) (X_pick (b := false) (v := (.bool (decide (4096 < a1.length)))) (congrArg Value.bool b2_) rfl) <| L_nil <| thn_n ⟨(Kp.upd (Kp.upd (Kp.upd (Kp.refl _ _) rfl) rfl) rfl), (or_f b2_), e5⟩
  intro s8 w4 K5 h6 e7
  refine L_op (.plain rfl) rfl (ltb rfl) (X_mkiface Tryd.underlying4 rfl h6) <| L_op (.plain rfl) rfl (ltb rfl) (X_mkiface Tryd.underlying3 rfl rfl) <| L_op (.plain rfl) rfl (ltb rfl) (X_move (v := v_a0) (K5 0 rfl)) ?_
  obtain ⟨c9, H⟩ := bif_some H
  obtain ⟨c10, H⟩ := bif_some H
  refine L_callP (.plain rfl) rfl (ltb rfl) rfl Tryd.call64 (impl_LayerOK.calls (w := w4) (a0 := a0) (GV.ext gv (Ext.trans e2 e7)) (Rd.ext f_a0 (Ext.trans e2 e7)) (of_decide_eq_true c9) (of_decide_eq_true c10)) rfl <| fun w11 e12 => L_op (.plain rfl) rfl (ltb rfl) (X_not rfl) <| L_op (.plain rfl) rfl (ltb rfl) (X_move (v := (.bool (!(decide ((layerFaultL a0).2 = 0))))) rfl) ?_
  obtain ⟨z14, x15, H⟩ := bind_some H
  refine L_grpE 4 [(17, 21)] 20 (fun q => q = z14) ?_ ?_
  · rcases bif_two x15 with ⟨b12_, H⟩ | ⟨b12_, H⟩
    · refine L_skip rfl rfl (ltb rfl) (congrArg Value.bool b12_) rfl rfl (ltb rfl) <| L_skip rfl rfl (ltb rfl) (congrArg Value.bool b12_) rfl rfl (ltb rfl) <| L_skip rfl rfl (ltb rfl) (congrArg Value.bool b12_) rfl rfl (ltb rfl) <| L_op (.plain rfl) rfl (ltb rfl) (X_pick (b := true) (v := (.bool true)) (congrArg Value.bool b12_) rfl) ?_
      obtain rfl := Option.some.inj H
      exact L_nil <| thn_n ⟨(Kp.upd (Kp.upd (Kp.upd (Kp.upd (Kp.refl _ _) rfl) rfl) rfl) rfl), ⟨_, rfl, rfl⟩, (Ext.refl w11)⟩
    · refine L_op (.guard 11 false 16 rfl rfl (ltb rfl) (congrArg Value.bool b12_)) rfl (ltb rfl) (X_move (v := v_a1) (K5 1 rfl)) ?_
      obtain ⟨c14, H⟩ := bif_some H
      obtain ⟨c15, H⟩ := bif_some H
      refine L_callP (.guard 11 false 16 rfl rfl (ltb rfl) (congrArg Value.bool b12_)) rfl (ltb rfl) rfl Tryd.call64 (impl_LayerOK.calls (w := w11) (a0 := a1) (GV.ext gv (Ext.trans (Ext.trans e2 e7) e12)) (Rd.ext f_a1 (Ext.trans (Ext.trans e2 e7) e12)) (of_decide_eq_true c14) (of_decide_eq_true c15)) rfl <| fun w16 e17 => L_op (.guard 11 false 16 rfl rfl (ltb rfl) (congrArg Value.bool b12_)) rfl (ltb rfl) (X_not rfl) <| L_op (.plain rfl) rfl (ltb rfl) (X_pick (b := false) (v := (.bool (!(decide ((layerFaultL a1).2 = 0))))) (congrArg Value.bool b12_) rfl) ?_
      obtain rfl := Option.some.inj H
      exact L_nil <| thn_n ⟨(Kp.upd (Kp.upd (Kp.upd (Kp.upd (Kp.refl _ _) rfl) rfl) rfl) rfl), ⟨_, rfl, rfl⟩, e17⟩
  intro s20 w16 z21 K17 hq h18 e19
  rw [hq] at h18; clear hq
  refine L_op (.plain rfl) rfl (ltb rfl) (X_mkiface Tryd.underlying4 rfl h18) <| L_op (.plain rfl) rfl (ltb rfl) (X_mkiface Tryd.underlying3 rfl rfl) <| L_lit (.plain rfl) rfl (ltb rfl) rfl Tryd.underlying99 Tryd.sizeOf20 Tryd.zeroValue20 rfl rfl rfl (vs := [(.iface 4 (.bool ((decide (4096 < a0.length)) || (decide (4096 < a1.length))))), (.iface 3 (.int .i64 2)), (.iface 4 (.bool z14)), (.iface 3 (.int .i64 1))]) (cons2 (K17 11 rfl) (cons2 (K17 12 rfl) (cons2 rfl (cons2 rfl rfl)))) (lit_all rfl) <| fun b22 w23 z24 z25 e26 k27 => ?_
  obtain ⟨c28, H⟩ := bif_some H
  obtain ⟨z31, x32, H⟩ := bind_some H
  replace x32 := Option.some.inj x32
  refine L_callP (.plain rfl) rfl (ltb rfl) rfl Tryd.call61 (impl_first.calls (w := w23) (a0 := ([.inl ((decide (4096 < a0.length)) || (decide (4096 < a1.length))), .inr 2, .inl z14, .inr 1] : List (Bool ⊕ Int))) (Own.rd (Own.new (xs := [.inl ((decide (4096 < a0.length)) || (decide (4096 < a1.length))), .inr 2, .inl z14, .inr 1]) (sz := 1) (enc := (encAny 4 3)) (base := w16.heap.size) k27 (Nat.le_of_eq z24) rfl (fun _ _ => by first | rfl | exact encAny_len _ _ _) (Nat.le_of_ble_eq_true rfl))) (of_decide_eq_true c28)) rfl <| fun w29 e30 => L_op (.plain rfl) rfl (ltb rfl) (X_assign (v := (.int .i64 z31)) (congrArg (Value.int .i64) x32)) <| L_nil <| thn_n <| W_ret <| fin_r ?_
  obtain rfl := Option.some.inj H
  exact fin1 rfl (Ext.trans (Ext.trans (Ext.trans (Ext.trans (Ext.trans e2 e7) e12) e19) e26) e30)
theorem impl_pairCode.calls {w : World} {a0 : List Rec} {a1 : List Rec} (gv : GV 0 w) {v_a0 : Value} (f_a0 : Rd 5 encRec w v_a0 a0) {v_a1 : Value} (f_a1 : Rd 5 encRec w v_a1 a1) (h0 : a0.length ≤ 1048576) (h1 : a1.length ≤ 1048576) (h2 : ∀ x ∈ a0, x.path.length ≤ 1048576) (h3 : ∀ x ∈ a1, x.path.length ≤ 1048576) :
    Calls Tryd.prog 83 #[v_a0, v_a1] w (Rt (RP w (.int .i64 (pairCode a0 a1)))) := impl_pairCode.walk gv f_a0 f_a1 (impl_pairCode.eq a0 a1 h0 h1 h2 h3)
/-! impl.Alike -/
theorem impl_Alike.walk {w : World} {a0 : List Rec} {a1 : List Rec} (gv : GV 0 w) {v_a0 : Value} (f_a0 : Rd 5 encRec w v_a0 a0) {v_a1 : Value} (f_a1 : Rd 5 encRec w v_a1 a1) {r : Bool × Int} (H : impl_Alike.sh a0 a1 = some r) :
    Calls Tryd.prog 36 #[v_a0, v_a1] w (Rt (RP w (.tuple #[.bool r.1, .int .i64 r.2]))) := by
  unfold impl_Alike.sh at H
  refine calls_of_W Tryd.func36 rfl (Nat.le_of_ble_eq_true rfl) Tryd.ntmps36 rfl ?_
  refine W_seq <| W_reg <| L_op (.plain rfl) rfl (ltb rfl) (X_assign (v := (.bool false)) rfl) <| L_op (.plain rfl) rfl (ltb rfl) (X_assign (v := (.int .i64 0)) rfl) <| L_nil <| thn_n <| W_seq <| W_seq <| W_reg <| L_op (.plain rfl) rfl (ltb rfl) (X_move (v := v_a0) rfl) <| L_op (.plain rfl) rfl (ltb rfl) (X_move (v := v_a1) rfl) ?_
  obtain ⟨c1, H⟩ := bif_some H
  obtain ⟨c2, H⟩ := bif_some H
  obtain ⟨c3, H⟩ := bif_some H
  obtain ⟨c4, H⟩ := bif_some H
  refine L_callP (.plain rfl) rfl (ltb rfl) rfl Tryd.call83 (impl_pairCode.calls (w := w) (a0 := a0) (a1 := a1) gv f_a0 f_a1 (of_decide_eq_true c1) (of_decide_eq_true c2) (of_decide_eq_true c3) (of_decide_eq_true c4)) rfl <| fun w5 e6 => L_op (.plain rfl) rfl (ltb rfl) (X_assign (v := (.int .i64 (pairCode a0 a1))) rfl) <| L_nil <| thn_n <| W_seq <| W_reg <| L_op (.plain rfl) rfl (ltb rfl) (X_move (v := (.int .i64 (pairCode a0 a1))) rfl) <| L_op (.plain rfl) rfl (ltb rfl) (X_neq rfl rfl) <| L_nil <| thn_n ?_
  rcases bif_two H with ⟨q7, H⟩ | ⟨q7, H⟩
  · refine W_true (congrArg Value.bool q7) <| W_seq <| W_reg <| L_op (.plain rfl) rfl (ltb rfl) (X_move (v := (.int .i64 (pairCode a0 a1))) rfl) <| L_op (.plain rfl) rfl (ltb rfl) (X_assign (v := (.bool false)) rfl) <| L_op (.plain rfl) rfl (ltb rfl) (X_assign (v := (.int .i64 (pairCode a0 a1))) rfl) <| L_nil <| thn_n <| W_ret <| thn_r <| fin_r ?_
    obtain rfl := Option.some.inj H
    exact fin2 rfl rfl e6
  · refine W_false (congrArg Value.bool q7) <| W_skip <| thn_n <| W_seq <| W_reg <| L_op (.plain rfl) rfl (ltb rfl) (X_move (v := v_a0) rfl) ?_
    obtain ⟨c8, H⟩ := bif_some H
    obtain ⟨c9, H⟩ := bif_some H
    refine L_callO (.plain rfl) rfl (ltb rfl) rfl Tryd.call82 (impl_canonical.calls (w := w5) (a0 := a0) (GV.ext gv e6) (Rd.ext f_a0 e6) (of_decide_eq_true c8) (of_decide_eq_true c9)) rfl <| fun v12 w10 e11 o13 => L_op (.plain rfl) rfl (ltb rfl) (X_move (v := v_a1) rfl) ?_
    obtain ⟨c14, H⟩ := bif_some H
    obtain ⟨c15, H⟩ := bif_some H
    refine L_callO (.plain rfl) rfl (ltb rfl) rfl Tryd.call82 (impl_canonical.calls (w := w10) (a0 := a1) (GV.ext gv (Ext.trans e6 e11)) (Rd.ext f_a1 (Ext.trans e6 e11)) (of_decide_eq_true c14) (of_decide_eq_true c15)) rfl <| fun v18 w16 e17 o19 => ?_
    obtain ⟨c20, H⟩ := bif_some H
    refine L_callP (.plain rfl) rfl (ltb rfl) rfl Tryd.call81 (slices_EqualR.calls (w := w16) (a0 := (canonL a0)) (a1 := (canonL a1)) (Own.rd (Own.ext o13 e17)) (Own.rd o19) (of_decide_eq_true c20)) rfl <| fun w21 e22 => L_op (.plain rfl) rfl (ltb rfl) (X_assign (v := (.bool (decide ((canonL a0) = (canonL a1))))) rfl) <| L_op (.plain rfl) rfl (ltb rfl) (X_assign (v := (.int .i64 0)) rfl) <| L_nil <| thn_n <| W_ret <| fin_r ?_
    obtain rfl := Option.some.inj H
    exact fin2 rfl rfl (Ext.trans (Ext.trans (Ext.trans e6 e11) e17) e22)
theorem impl_Alike.calls {w : World} {a0 : List Rec} {a1 : List Rec} (gv : GV 0 w) {v_a0 : Value} (f_a0 : Rd 5 encRec w v_a0 a0) {v_a1 : Value} (f_a1 : Rd 5 encRec w v_a1 a1) (h0 : a0.length ≤ 1048576) (h1 : a1.length ≤ 1048576) (h2 : ∀ x ∈ a0, x.path.length ≤ 1048576) (h3 : ∀ x ∈ a1, x.path.length ≤ 1048576) :
    Calls Tryd.prog 36 #[v_a0, v_a1] w (Rt (RP w (.tuple #[.bool ((alike a0 a1).1), .int .i64 ((alike a0 a1).2)]))) := impl_Alike.walk gv f_a0 f_a1 (impl_Alike.eq a0 a1 h0 h1 h2 h3)
/-! laws.FnExactAlike -/
theorem law_Alike.walk {w : World} {a0 : List Rec} {a1 : List Rec} (gv : GV 0 w) {v_a0 : Value} (f_a0 : Rd 5 encRec w v_a0 a0) {v_a1 : Value} (f_a1 : Rd 5 encRec w v_a1 a1) {r : Bool} (H : law_Alike.sh a0 a1 = some r) :
    Calls Tryd.prog 8 #[v_a0, v_a1] w (Rt (RP w (.bool r))) := by
  unfold law_Alike.sh at H
  refine calls_of_W Tryd.func8 rfl (Nat.le_of_ble_eq_true rfl) Tryd.ntmps8 rfl ?_
  refine W_seq <| W_reg <| L_op (.plain rfl) rfl (ltb rfl) (X_assign (v := (.bool false)) rfl) <| L_nil <| thn_n <| W_seq <| W_reg <| L_op (.plain rfl) rfl (ltb rfl) (X_assign (v := (.int .i64 1048576)) rfl) <| L_nil <| thn_n <| W_seq <| W_reg <| L_op (.plain rfl) rfl (ltb rfl) (X_move (v := v_a0) rfl) <| L_op (.plain rfl) rfl (ltb rfl) (X_move (v := (.int .i64 1048576)) rfl) ?_
  obtain ⟨c1, H⟩ := bif_some H
  obtain ⟨c2, H⟩ := bif_some H
  obtain ⟨c3, H⟩ := bif_some H
  obtain ⟨c4, H⟩ := bif_some H
  refine L_callP (.plain rfl) rfl (ltb rfl) rfl Tryd.call15 (laws_szRecordS.calls (w := w) (a0 := a0) (a1 := 1048576) f_a0 (of_decide_eq_true c1) (of_decide_eq_true c2) (of_decide_eq_true c3) (of_decide_eq_true c4)) rfl <| fun w5 e6 => L_op (.plain rfl) rfl (ltb rfl) (X_assign (v := (.int .i64 (szRecS a0 1048576))) rfl) <| L_nil <| thn_n <| W_seq <| W_seq <| W_reg <| L_op (.plain rfl) rfl (ltb rfl) (X_move (v := (.int .i64 (szRecS a0 1048576))) rfl) <| L_op (.plain rfl) rfl (ltb rfl) (X_lss rfl rfl) <| L_nil <| thn_n ?_
  rcases bif_two H with ⟨q7, H⟩ | ⟨q7, H⟩
  · refine W_true (congrArg Value.bool q7) <| W_seq <| W_reg <| L_op (.plain rfl) rfl (ltb rfl) (X_assign (v := (.bool true)) rfl) <| L_nil <| thn_n <| W_ret <| thn_r <| fin_r ?_
    obtain rfl := Option.some.inj H
    exact fin1 rfl e6
  · refine W_false (congrArg Value.bool q7) <| W_skip <| thn_n <| W_seq <| W_reg <| L_op (.plain rfl) rfl (ltb rfl) (X_move (v := v_a1) rfl) <| L_op (.plain rfl) rfl (ltb rfl) (X_move (v := (.int .i64 (szRecS a0 1048576))) rfl) ?_
    obtain ⟨c8, H⟩ := bif_some H
    obtain ⟨c9, H⟩ := bif_some H
    obtain ⟨c10, H⟩ := bif_some H
    obtain ⟨c11, H⟩ := bif_some H
    refine L_callP (.plain rfl) rfl (ltb rfl) rfl Tryd.call15 (laws_szRecordS.calls (w := w5) (a0 := a1) (a1 := (szRecS a0 1048576)) (Rd.ext f_a1 e6) (of_decide_eq_true c8) (of_decide_eq_true c9) (of_decide_eq_true c10) (of_decide_eq_true c11)) rfl <| fun w12 e13 => L_op (.plain rfl) rfl (ltb rfl) (X_assign (v := (.int .i64 (szRecS a1 (szRecS a0 1048576)))) rfl) <| L_nil <| thn_n <| W_seq <| W_seq <| W_reg <| L_op (.plain rfl) rfl (ltb rfl) (X_move (v := (.int .i64 (szRecS a1 (szRecS a0 1048576)))) rfl) <| L_op (.plain rfl) rfl (ltb rfl) (X_lss rfl rfl) <| L_nil <| thn_n ?_
    rcases bif_two H with ⟨q14, H⟩ | ⟨q14, H⟩
    · refine W_true (congrArg Value.bool q14) <| W_seq <| W_reg <| L_op (.plain rfl) rfl (ltb rfl) (X_assign (v := (.bool true)) rfl) <| L_nil <| thn_n <| W_ret <| thn_r <| fin_r ?_
      obtain rfl := Option.some.inj H
      exact fin1 rfl (Ext.trans e6 e13)
    · refine W_false (congrArg Value.bool q14) <| W_skip <| thn_n <| W_seq <| W_reg <| L_op (.plain rfl) rfl (ltb rfl) (X_move (v := v_a0) rfl) ?_
      obtain ⟨c15, H⟩ := bif_some H
      refine L_callO (.plain rfl) rfl (ltb rfl) rfl Tryd.call17 (laws_toRecordS.calls (w := w12) (a0 := a0) (Rd.ext f_a0 (Ext.trans e6 e13)) (of_decide_eq_true c15)) rfl <| fun v18 w16 e17 o19 => L_op (.plain rfl) rfl (ltb rfl) (X_move (v := v_a1) rfl) ?_
      obtain ⟨c20, H⟩ := bif_some H
      refine L_callO (.plain rfl) rfl (ltb rfl) rfl Tryd.call17 (laws_toRecordS.calls (w := w16) (a0 := a1) (Rd.ext f_a1 (Ext.trans (Ext.trans e6 e13) e17)) (of_decide_eq_true c20)) rfl <| fun v23 w21 e22 o24 => ?_
      obtain ⟨c25, H⟩ := bif_some H
      obtain ⟨c26, H⟩ := bif_some H
      obtain ⟨c27, H⟩ := bif_some H
      obtain ⟨c28, H⟩ := bif_some H
      refine L_callP (.plain rfl) rfl (ltb rfl) rfl Tryd.call35 (spec_Alike.calls (w := w21) (a0 := a0) (a1 := a1) (Own.rd (Own.ext o19 e22)) (Own.rd o24) (of_decide_eq_true c25) (of_decide_eq_true c26) (of_decide_eq_true c27) (of_decide_eq_true c28)) rfl <| fun w29 e30 => L_op (.plain rfl) rfl (ltb rfl) (X_move (v := (.tuple #[(.bool ((alike a0 a1).1)), (.int .i64 ((alike a0 a1).2))])) rfl) <| L_op (.plain rfl) rfl (ltb rfl) (X_extract (v := (.bool ((alike a0 a1).1))) rfl rfl) <| L_op (.plain rfl) rfl (ltb rfl) (X_extract (v := (.int .i64 ((alike a0 a1).2))) rfl rfl) <| L_op (.plain rfl) rfl (ltb rfl) (X_assign (v := (.bool ((alike a0 a1).1))) rfl) <| L_op (.plain rfl) rfl (ltb rfl) (X_assign (v := (.int .i64 ((alike a0 a1).2))) rfl) <| L_nil <| thn_n <| W_seq <| W_reg <| L_op (.plain rfl) rfl (ltb rfl) (X_move (v := v_a0) rfl) ?_
      obtain ⟨c31, H⟩ := bif_some H
      refine L_callO (.plain rfl) rfl (ltb rfl) rfl Tryd.call17 (laws_toRecordS.calls (w := w29) (a0 := a0) (Rd.ext f_a0 (Ext.trans (Ext.trans (Ext.trans (Ext.trans e6 e13) e17) e22) e30)) (of_decide_eq_true c31)) rfl <| fun v34 w32 e33 o35 => L_op (.plain rfl) rfl (ltb rfl) (X_assign (v := v34) rfl) <| L_nil <| thn_n <| W_seq <| W_reg <| L_op (.plain rfl) rfl (ltb rfl) (X_move (v := v_a1) rfl) ?_
      obtain ⟨c36, H⟩ := bif_some H
      refine L_callO (.plain rfl) rfl (ltb rfl) rfl Tryd.call17 (laws_toRecordS.calls (w := w32) (a0 := a1) (Rd.ext f_a1 (Ext.trans (Ext.trans (Ext.trans (Ext.trans (Ext.trans e6 e13) e17) e22) e30) e33)) (of_decide_eq_true c36)) rfl <| fun v39 w37 e38 o40 => L_op (.plain rfl) rfl (ltb rfl) (X_assign (v := v39) rfl) <| L_nil <| thn_n <| W_seq <| W_reg <| L_op (.plain rfl) rfl (ltb rfl) (X_move (v := v34) rfl) <| L_op (.plain rfl) rfl (ltb rfl) (X_move (v := v39) rfl) ?_
      obtain ⟨c41, H⟩ := bif_some H
      obtain ⟨c42, H⟩ := bif_some H
      obtain ⟨c43, H⟩ := bif_some H
      obtain ⟨c44, H⟩ := bif_some H
      refine L_callP (.plain rfl) rfl (ltb rfl) rfl Tryd.call36 (impl_Alike.calls (w := w37) (a0 := a0) (a1 := a1) (GV.ext gv (Ext.trans (Ext.trans (Ext.trans (Ext.trans (Ext.trans (Ext.trans e6 e13) e17) e22) e30) e33) e38)) (Own.rd (Own.ext o35 e38)) (Own.rd o40) (of_decide_eq_true c41) (of_decide_eq_true c42) (of_decide_eq_true c43) (of_decide_eq_true c44)) rfl <| fun w45 e46 => L_op (.plain rfl) rfl (ltb rfl) (X_move (v := (.tuple #[(.bool ((alike a0 a1).1)), (.int .i64 ((alike a0 a1).2))])) rfl) <| L_op (.plain rfl) rfl (ltb rfl) (X_extract (v := (.bool ((alike a0 a1).1))) rfl rfl) <| L_op (.plain rfl) rfl (ltb rfl) (X_extract (v := (.int .i64 ((alike a0 a1).2))) rfl rfl) <| L_op (.plain rfl) rfl (ltb rfl) (X_assign (v := (.bool ((alike a0 a1).1))) rfl) <| L_op (.plain rfl) rfl (ltb rfl) (X_assign (v := (.int .i64 ((alike a0 a1).2))) rfl) <| L_nil <| thn_n <| W_seq <| W_seq <| W_reg <| L_op (.plain rfl) rfl (ltb rfl) (X_move (v := (.bool ((alike a0 a1).1))) rfl) <| L_op (.plain rfl) rfl (ltb rfl) (X_move (v := (.bool ((alike a0 a1).1))) rfl) <| L_op (.plain rfl) rfl (ltb rfl) (X_bne Tryd.underlying4 rfl rfl) <| L_op (.plain rfl) rfl (ltb rfl) (X_move (v := (.bool (!decide (((alike a0 a1).1) = ((alike a0 a1).1))))) rfl) <| L_grp 4 [(44, 48)] 47 (.bool ((!decide (((alike a0 a1).1) = ((alike a0 a1).1))) || (!decide (((alike a0 a1).2) = ((alike a0 a1).2))))) ?_ ?_
      · rcases bool_two (!decide (((alike a0 a1).1) = ((alike a0 a1).1))) with b46_ | b46_
        · exact L_skip rfl rfl (ltb rfl) (congrArg Value.bool b46_) rfl rfl (ltb rfl) <| L_skip rfl rfl (ltb rfl) (congrArg Value.bool b46_) rfl rfl (ltb rfl) <| L_skip rfl rfl (ltb rfl) (congrArg Value.bool b46_) rfl rfl (ltb rfl) <| L_op (.plain rfl) rfl (ltb rfl) (X_pick (b := true) (v := (.bool true)) (congrArg Value.bool b46_) rfl) <| L_nil <| thn_n ⟨(Kp.upd (Kp.upd (Kp.upd (Kp.upd (Kp.refl _ _) rfl) rfl) rfl) rfl), (or_t b46_), (Ext.refl w45)⟩
        · exact L_op (.guard 3 false 43 rfl rfl (ltb rfl) (congrArg Value.bool b46_)) rfl (ltb rfl) (X_move (v := (.int .i64 ((alike a0 a1).2))) rfl) <| L_op (.guard 3 false 43 rfl rfl (ltb rfl) (congrArg Value.bool b46_)) rfl (ltb rfl) (X_move (v := (.int .i64 ((alike a0 a1).2))) rfl) <| L_op (.guard 3 false 43 rfl rfl (ltb rfl) (congrArg Value.bool b46_)) rfl (ltb rfl) (X_neq rfl rfl) <| L_op (.plain rfl) rfl (ltb rfl) (X_pick (b := false) (v := (.bool (!decide (((alike a0 a1).2) = ((alike a0 a1).2))))) (congrArg Value.bool b46_) rfl) <| L_nil <| thn_n ⟨(Kp.upd (Kp.upd (Kp.upd (Kp.upd (Kp.refl _ _) rfl) rfl) rfl) rfl), (or_f b46_), (Ext.refl w45)⟩
      intro s52 w48 K49 h50 e51
      refine L_nil <| thn_n ?_
      rcases bif_two H with ⟨q53, H⟩ | ⟨q53, H⟩
      · refine W_true (h50.trans (congrArg Value.bool q53)) <| W_seq <| W_reg <| L_op (.plain rfl) rfl (ltb rfl) (X_assign (v := (.bool false)) rfl) <| L_nil <| thn_n <| W_ret <| thn_r <| fin_r ?_
        obtain rfl := Option.some.inj H
        exact fin1 rfl (Ext.trans (Ext.trans (Ext.trans (Ext.trans (Ext.trans (Ext.trans (Ext.trans (Ext.trans e6 e13) e17) e22) e30) e33) e38) e46) e51)
      · refine W_false (h50.trans (congrArg Value.bool q53)) <| W_skip <| thn_n <| W_seq <| W_seq <| W_reg <| L_op (.plain rfl) rfl (ltb rfl) (X_move (v := v34) (K49 8 rfl)) <| L_op (.plain rfl) rfl (ltb rfl) (X_move (v := v_a0) (K49 0 rfl)) ?_
        obtain ⟨c54, H⟩ := bif_some H
        refine L_callO (.plain rfl) rfl (ltb rfl) rfl Tryd.call17 (laws_toRecordS.calls (w := w48) (a0 := a0) (Rd.ext f_a0 (Ext.trans (Ext.trans (Ext.trans (Ext.trans (Ext.trans (Ext.trans (Ext.trans (Ext.trans e6 e13) e17) e22) e30) e33) e38) e46) e51)) (of_decide_eq_true c54)) rfl <| fun v57 w55 e56 o58 => ?_
        obtain ⟨c59, H⟩ := bif_some H
        refine L_callP (.plain rfl) rfl (ltb rfl) rfl Tryd.call19 (laws_eqRecordS.calls (w := w55) (a0 := a0) (a1 := a0) (Own.rd (Own.ext o35 (Ext.trans (Ext.trans (Ext.trans e38 e46) e51) e56))) (Own.rd o58) (of_decide_eq_true c59)) rfl <| fun w60 e61 => L_op (.plain rfl) rfl (ltb rfl) (X_not rfl) <| L_nil <| thn_n ?_
        rcases bif_two H with ⟨q62, H⟩ | ⟨q62, H⟩
        · refine W_true (congrArg Value.bool q62) <| W_seq <| W_reg <| L_op (.plain rfl) rfl (ltb rfl) (X_assign (v := (.bool false)) rfl) <| L_nil <| thn_n <| W_ret <| thn_r <| fin_r ?_
          obtain rfl := Option.some.inj H
          exact fin1 rfl (Ext.trans (Ext.trans (Ext.trans (Ext.trans (Ext.trans (Ext.trans (Ext.trans (Ext.trans (Ext.trans (Ext.trans e6 e13) e17) e22) e30) e33) e38) e46) e51) e56) e61)
        · refine W_false (congrArg Value.bool q62) <| W_skip <| thn_n <| W_seq <| W_seq <| W_reg <| L_op (.plain rfl) rfl (ltb rfl) (X_move (v := v39) (K49 9 rfl)) <| L_op (.plain rfl) rfl (ltb rfl) (X_move (v := v_a1) (K49 1 rfl)) ?_
          obtain ⟨c63, H⟩ := bif_some H
          refine L_callO (.plain rfl) rfl (ltb rfl) rfl Tryd.call17 (laws_toRecordS.calls (w := w60) (a0 := a1) (Rd.ext f_a1 (Ext.trans (Ext.trans (Ext.trans (Ext.trans (Ext.trans (Ext.trans (Ext.trans (Ext.trans (Ext.trans (Ext.trans e6 e13) e17) e22) e30) e33) e38) e46) e51) e56) e61)) (of_decide_eq_true c63)) rfl <| fun v66 w64 e65 o67 => ?_
          obtain ⟨c68, H⟩ := bif_some H
          refine L_callP (.plain rfl) rfl (ltb rfl) rfl Tryd.call19 (laws_eqRecordS.calls (w := w64) (a0 := a1) (a1 := a1) (Own.rd (Own.ext o40 (Ext.trans (Ext.trans (Ext.trans (Ext.trans e46 e51) e56) e61) e65))) (Own.rd o67) (of_decide_eq_true c68)) rfl <| fun w69 e70 => L_op (.plain rfl) rfl (ltb rfl) (X_not rfl) <| L_nil <| thn_n ?_
          rcases bif_two H with ⟨q71, H⟩ | ⟨q71, H⟩
          · refine W_true (congrArg Value.bool q71) <| W_seq <| W_reg <| L_op (.plain rfl) rfl (ltb rfl) (X_assign (v := (.bool false)) rfl) <| L_nil <| thn_n <| W_ret <| thn_r <| fin_r ?_
            obtain rfl := Option.some.inj H
            exact fin1 rfl (Ext.trans (Ext.trans (Ext.trans (Ext.trans (Ext.trans (Ext.trans (Ext.trans (Ext.trans (Ext.trans (Ext.trans (Ext.trans (Ext.trans e6 e13) e17) e22) e30) e33) e38) e46) e51) e56) e61) e65) e70)
          · refine W_false (congrArg Value.bool q71) <| W_skip <| thn_n <| W_seq <| W_reg <| L_op (.plain rfl) rfl (ltb rfl) (X_assign (v := (.bool true)) rfl) <| L_nil <| thn_n <| W_ret <| fin_r ?_
            obtain rfl := Option.some.inj H
            exact fin1 rfl (Ext.trans (Ext.trans (Ext.trans (Ext.trans (Ext.trans (Ext.trans (Ext.trans (Ext.trans (Ext.trans (Ext.trans (Ext.trans (Ext.trans e6 e13) e17) e22) e30) e33) e38) e46) e51) e56) e61) e65) e70)
theorem law_Alike.calls {w : World} {a0 : List Rec} {a1 : List Rec} (gv : GV 0 w) {v_a0 : Value} (f_a0 : Rd 5 encRec w v_a0 a0) {v_a1 : Value} (f_a1 : Rd 5 encRec w v_a1 a1) (h0 : ∀ x ∈ a0, okRec x) (h1 : a0.length ≤ 9223372036854775807) (h2 : ∀ x ∈ a1, okRec x) (h3 : a1.length ≤ 9223372036854775807) :
    Calls Tryd.prog 8 #[v_a0, v_a1] w (Rt (RP w (.bool true))) := law_Alike.walk gv f_a0 f_a1 (law_Alike.eq a0 a1 h0 h1 h2 h3)
/-! spec.l04Layer -/
theorem spec_l04Layer.walk {k : Nat} {w : World} {a0 : List Nd} {v_a0 : Value} (f_a0 : Rd 4 encNd w v_a0 a0) {r : List Rec} (H : spec_l04Layer.sh k a0 = some r) :
    Calls Tryd.prog 85 #[v_a0] w (Rt (RO 74 5 encRec w r)) := by
  unfold spec_l04Layer.sh at H
  refine calls_of_W Tryd.func85 rfl (Nat.le_of_ble_eq_true rfl) Tryd.ntmps85 rfl ?_
  refine W_seq <| W_reg <| L_op (.plain rfl) rfl (ltb rfl) (X_assign (v := (.slice none 0 0)) rfl) <| L_nil <| thn_n <| W_seq <| W_reg <| L_lit (.plain rfl) rfl (ltb rfl) rfl Tryd.underlying26 Tryd.sizeOf74 Tryd.zeroValue74 rfl rfl rfl (vs := []) rfl (lit_all rfl) <| fun b1 w2 z3 z4 e5 k6 => L_op (.plain rfl) rfl (ltb rfl) (X_assign (v := (.slice (some ⟨b1, 0, none⟩) 0 0)) rfl) <| L_nil <| thn_n <| W_seq <| W_seq <| W_reg <| L_op (.plain rfl) rfl (ltb rfl) (X_assign (v := (.int .i64 0)) rfl) <| L_nil <| thn_n ?_
  obtain ⟨z10, L11, C12⟩ := bind_some H
  clear H
  refine  W_cutQ (fun s0 sQ wQ => ∃ (x3_13 : List Rec) (v14 : Value), Kp [(3, 5), (6, 20)] s0 sQ ∧ sQ 3 = v14 ∧ Own 74 5 encRec w2.heap.size wQ v14 x3_13 ∧ Ext w2 wQ ∧ z10 = .inr x3_13) ?_ ?_
  · refine W_block <| W_loopI (fun s0 kk sQ wQ => ∃ (x3_7 : List Rec) (v8 : Value) (x4_9 : Int), Kp [(3, 5), (6, 20)] s0 sQ ∧ sQ 3 = v8 ∧ Own 74 5 encRec w2.heap.size wQ v8 x3_7 ∧ sQ 4 = .int .i64 x4_9 ∧ Ext w2 wQ ∧ loopF (spec_l04Layer.b1 a0) kk (x3_7, x4_9) = some z10) k ⟨([] : List Rec), (.slice (some ⟨b1, 0, none⟩) 0 0), 0, (Kp.refl _ _), rfl, (Own.zero), rfl, (Ext.refl w2), L11⟩ ?_
    rintro k19 s20 w21 ⟨x3_7, v8, x4_9, K22, h25, h26, h27, e23, L24⟩
    cases k19 with
    | zero => exact absurd L24 (by simp [loopF])
    | succ k19 =>
      obtain ⟨t28, H, S29⟩ := loopF_succ L24
      clear L24
      unfold spec_l04Layer.b1 at H
      refine W_seq <| W_seq <| W_reg <| L_op (.plain rfl) rfl (ltb rfl) (X_move (v := (.int .i64 x4_9)) h27) <| L_op (.plain rfl) rfl (ltb rfl) (X_move (v := v_a0) (K22 0 rfl)) <| L_op (.plain rfl) rfl (ltb rfl) (X_lenR Tryd.underlying43 rfl (Rd.ext f_a0 (Ext.trans e5 e23))) <| L_op (.plain rfl) rfl (ltb rfl) (X_lss rfl rfl) <| L_nil <| thn_n ?_
      rcases bif_two H with ⟨q30, H⟩ | ⟨q30, H⟩
      · refine W_true (congrArg Value.bool q30) <| W_skip <| thn_n <| W_seq <| W_block <| W_reg <| L_op (.plain rfl) rfl (ltb rfl) (X_move (v := v8) h25) <| L_op (.plain rfl) rfl (ltb rfl) (X_move (v := v_a0) (K22 0 rfl)) <| L_op (.plain rfl) rfl (ltb rfl) (X_move (v := (.int .i64 x4_9)) h27) ?_
        obtain ⟨c31, H⟩ := bif_some H
        refine L_idx (.plain rfl) rfl (ltb rfl) rfl Tryd.underlying43 Tryd.sizeOf40 rfl (Rd.ext f_a0 (Ext.trans e5 e23)) rfl c31 <| fun p32 h33 => L_op (.plain rfl) rfl (ltb rfl) (X_loadS Tryd.isAgg40 Tryd.sizeOf40 rfl rfl h33) <| L_callP (.plain rfl) rfl (ltb rfl) rfl Tryd.call123 (spec_l04Record.calls (w := w21) (a0 := gt a0 x4_9)) rfl <| fun w34 e35 => L_lit (.plain rfl) rfl (ltb rfl) rfl Tryd.underlying26 Tryd.sizeOf74 Tryd.zeroValue74 rfl rfl rfl (vs := [(.agg (encRec (recOf (gt a0 x4_9))).toArray)]) rfl (lit_all rfl) <| fun b36 w37 z38 z39 e40 k41 => ?_
        obtain ⟨c42, H⟩ := bif_some H
        refine L_append (enc := encRec) (.plain rfl) rfl (ltb rfl) rfl El.t26 rfl rfl (Own.ext h26 (Ext.trans e35 e40)) (Own.rd (Own.new (xs := [(recOf (gt a0 x4_9))]) (sz := 5) (enc := encRec) (base := w34.heap.size) k41 (Nat.le_of_eq z38) rfl (fun _ _ => by rfl) (Nat.le_of_ble_eq_true rfl))) (ones_Rec _) (of_decide_eq_true c42) ((Ext.trans (Ext.trans e23 e35) e40)).size <| fun v43 w44 o45 z46 g47 => L_op (.plain rfl) rfl (ltb rfl) (X_assign (v := v43) rfl) <| L_nil <| blk_n <| thn_n <| W_reg <| L_op (.plain rfl) rfl (ltb rfl) (X_move (v := (.int .i64 x4_9)) h27) <| L_op (.plain rfl) rfl (ltb rfl) (X_add rfl rfl) <| L_op (.plain rfl) rfl (ltb rfl) (X_assign (v := (.int .i64 (IntKind.wrap .i64 (x4_9 + 1)))) rfl) <| L_nil <| thn_n ?_
        obtain rfl := Option.some.inj H
        exact ⟨_, Nat.lt_succ_self _, x3_7 ++ ([(recOf (gt a0 x4_9))] : List Rec), v43, IntKind.wrap .i64 (x4_9 + 1), (Kp.upd (Kp.upd (Kp.upd (Kp.upd (Kp.upd (Kp.upd (Kp.upd (Kp.upd (Kp.upd (Kp.upd (Kp.upd (Kp.upd (Kp.upd (Kp.upd (Kp.upd (Kp.upd K22 rfl) rfl) rfl) rfl) rfl) rfl) rfl) rfl) rfl) rfl) rfl) rfl) rfl) rfl) rfl) rfl), rfl, o45, rfl, (g47 _ (Ext.trans (Ext.trans e23 e35) e40)), S29⟩
      · refine W_false (congrArg Value.bool q30) <| W_exit <| thn_x <| thn_x <| blk_x <| thn_n ?_
        obtain rfl := Option.some.inj H
        obtain rfl := Option.some.inj S29
        exact ⟨x3_7, v8, (Kp.upd (Kp.upd (Kp.upd (Kp.upd K22 rfl) rfl) rfl) rfl), h25, h26, e23, rfl⟩
  · rintro s16 w15 ⟨x3_13, v14, K17, h48, h49, e18, y50⟩
    rw [y50] at C12
    have H := C12
    replace H : _ = some _ := H
    refine thn_n <| W_seq <| W_reg <| L_op (.plain rfl) rfl (ltb rfl) (X_move (v := v14) h48) <| L_op (.plain rfl) rfl (ltb rfl) (X_assign (v := v14) rfl) <| L_nil <| thn_n <| W_ret <| fin_r ?_
    obtain rfl := Option.some.inj H
    exact fin1o rfl (Ext.trans e5 e18) h49 (e5).size
theorem spec_l04Layer.calls {w : World} {a0 : List Nd} {v_a0 : Value} (f_a0 : Rd 4 encNd w v_a0 a0) (h0 : a0.length ≤ 1048576) :
    Calls Tryd.prog 85 #[v_a0] w (Rt (RO 74 5 encRec w (a0.map recOf))) := by
  obtain ⟨k, h⟩ := spec_l04Layer.eq a0 h0
  exact spec_l04Layer.walk f_a0 h
/-! spec.LayerOfTree -/
theorem spec_LayerOfTree.walk {w : World} {a0 : List Nd} {v_a0 : Value} (f_a0 : Rd 4 encNd w v_a0 a0) {r : List Rec × Int} (H : spec_LayerOfTree.sh a0 = some r) :
    Calls Tryd.prog 37 #[v_a0] w (Rt (RT 74 5 encRec w r.1 (.int .i64 r.2))) := by
  unfold spec_LayerOfTree.sh at H
  refine calls_of_W Tryd.func37 rfl (Nat.le_of_ble_eq_true rfl) Tryd.ntmps37 rfl ?_
  refine W_seq <| W_reg <| L_op (.plain rfl) rfl (ltb rfl) (X_assign (v := (.slice none 0 0)) rfl) <| L_op (.plain rfl) rfl (ltb rfl) (X_assign (v := (.int .i64 0)) rfl) <| L_nil <| thn_n <| W_seq <| W_seq <| W_reg <| L_op (.plain rfl) rfl (ltb rfl) (X_move (v := v_a0) rfl) <| L_op (.plain rfl) rfl (ltb rfl) (X_lenR Tryd.underlying43 rfl f_a0) <| L_op (.plain rfl) rfl (ltb rfl) (X_gtr rfl rfl) <| L_nil <| thn_n ?_
  rcases bif_two H with ⟨q1, H⟩ | ⟨q1, H⟩
  · refine W_true (congrArg Value.bool q1) <| W_seq <| W_reg <| L_lit (.plain rfl) rfl (ltb rfl) rfl Tryd.underlying26 Tryd.sizeOf74 Tryd.zeroValue74 rfl rfl rfl (vs := []) rfl (lit_all rfl) <| fun b2 w3 z4 z5 e6 k7 => L_op (.plain rfl) rfl (ltb rfl) (X_assign (v := (.slice (some ⟨b2, 0, none⟩) 0 0)) rfl) <| L_op (.plain rfl) rfl (ltb rfl) (X_assign (v := (.int .i64 2)) rfl) <| L_nil <| thn_n <| W_ret <| thn_r <| fin_r ?_
    obtain rfl := Option.some.inj H
    exact fin2o rfl rfl e6 (Own.zero (base := w.heap.size)) (Nat.le_refl _)
  · refine W_false (congrArg Value.bool q1) <| W_skip <| thn_n <| W_seq <| W_seq <| W_reg <| L_op (.plain rfl) rfl (ltb rfl) (X_move (v := v_a0) rfl) ?_
    obtain ⟨c8, H⟩ := bif_some H
    refine L_callP (.plain rfl) rfl (ltb rfl) rfl Tryd.call84 (spec_l04OK.calls (w := w) (a0 := a0) f_a0 (of_decide_eq_true c8)) rfl <| fun w9 e10 => L_op (.plain rfl) rfl (ltb rfl) (X_not rfl) <| L_nil <| thn_n ?_
    rcases bif_two H with ⟨q11, H⟩ | ⟨q11, H⟩
    · refine W_true (congrArg Value.bool q11) <| W_seq <| W_reg <| L_lit (.plain rfl) rfl (ltb rfl) rfl Tryd.underlying26 Tryd.sizeOf74 Tryd.zeroValue74 rfl rfl rfl (vs := []) rfl (lit_all rfl) <| fun b12 w13 z14 z15 e16 k17 => L_op (.plain rfl) rfl (ltb rfl) (X_assign (v := (.slice (some ⟨b12, 0, none⟩) 0 0)) rfl) <| L_op (.plain rfl) rfl (ltb rfl) (X_assign (v := (.int .i64 1)) rfl) <| L_nil <| thn_n <| W_ret <| thn_r <| fin_r ?_
      obtain rfl := Option.some.inj H
      exact fin2o rfl rfl (Ext.trans e10 e16) (Own.zero (base := w.heap.size)) (Nat.le_refl _)
    · refine W_false (congrArg Value.bool q11) <| W_skip <| thn_n <| W_seq <| W_seq <| W_reg <| L_op (.plain rfl) rfl (ltb rfl) (X_move (v := v_a0) rfl) <| L_op (.plain rfl) rfl (ltb rfl) (X_lenR Tryd.underlying43 rfl (Rd.ext f_a0 e10)) <| L_op (.plain rfl) rfl (ltb rfl) (X_gtr rfl rfl) <| L_nil <| thn_n ?_
      rcases bif_two H with ⟨q18, H⟩ | ⟨q18, H⟩
      · refine W_true (congrArg Value.bool q18) <| W_seq <| W_reg <| L_lit (.plain rfl) rfl (ltb rfl) rfl Tryd.underlying26 Tryd.sizeOf74 Tryd.zeroValue74 rfl rfl rfl (vs := []) rfl (lit_all rfl) <| fun b19 w20 z21 z22 e23 k24 => L_op (.plain rfl) rfl (ltb rfl) (X_assign (v := (.slice (some ⟨b19, 0, none⟩) 0 0)) rfl) <| L_op (.plain rfl) rfl (ltb rfl) (X_assign (v := (.int .i64 6)) rfl) <| L_nil <| thn_n <| W_ret <| thn_r <| fin_r ?_
        obtain rfl := Option.some.inj H
        exact fin2o rfl rfl (Ext.trans e10 e23) (Own.zero (base := w.heap.size)) (Nat.le_refl _)
      · refine W_false (congrArg Value.bool q18) <| W_skip <| thn_n <| W_seq <| W_reg <| L_op (.plain rfl) rfl (ltb rfl) (X_move (v := v_a0) rfl) ?_
        obtain ⟨c25, H⟩ := bif_some H
        refine L_callO (.plain rfl) rfl (ltb rfl) rfl Tryd.call85 (spec_l04Layer.calls (w := w9) (a0 := a0) (Rd.ext f_a0 e10) (of_decide_eq_true c25)) rfl <| fun v28 w26 e27 o29 => L_op (.plain rfl) rfl (ltb rfl) (X_assign (v := v28) rfl) <| L_op (.plain rfl) rfl (ltb rfl) (X_assign (v := (.int .i64 0)) rfl) <| L_nil <| thn_n <| W_ret <| fin_r ?_
        obtain rfl := Option.some.inj H
        exact fin2o rfl rfl (Ext.trans e10 e27) o29 (e10).size
theorem spec_LayerOfTree.calls {w : World} {a0 : List Nd} {v_a0 : Value} (f_a0 : Rd 4 encNd w v_a0 a0) (h0 : a0.length ≤ 1048576) (h1 : ∀ x ∈ a0, x.path.length ≤ 1048576) :
    Calls Tryd.prog 37 #[v_a0] w (Rt (RT 74 5 encRec w ((layerOfT a0).1) (.int .i64 ((layerOfT a0).2)))) := spec_LayerOfTree.walk f_a0 (spec_LayerOfTree.eq a0 h0 h1)
/-! impl.records -/
theorem impl_records.walk {k : Nat} {w : World} {a0 : List Nd} {v_a0 : Value} (f_a0 : Rd 4 encNd w v_a0 a0) {r : List Rec} (H : impl_records.sh k a0 = some r) :
    Calls Tryd.prog 86 #[v_a0] w (Rt (RO 74 5 encRec w r)) := by
  unfold impl_records.sh at H
  refine calls_of_W Tryd.func86 rfl (Nat.le_of_ble_eq_true rfl) Tryd.ntmps86 rfl ?_
  refine W_seq <| W_reg <| L_op (.plain rfl) rfl (ltb rfl) (X_assign (v := (.slice none 0 0)) rfl) <| L_nil <| thn_n <| W_seq <| W_reg <| L_lit (.plain rfl) rfl (ltb rfl) rfl Tryd.underlying26 Tryd.sizeOf74 Tryd.zeroValue74 rfl rfl rfl (vs := []) rfl (lit_all rfl) <| fun b1 w2 z3 z4 e5 k6 => L_op (.plain rfl) rfl (ltb rfl) (X_assign (v := (.slice (some ⟨b1, 0, none⟩) 0 0)) rfl) <| L_nil <| thn_n <| W_seq <| W_seq <| W_reg <| L_op (.plain rfl) rfl (ltb rfl) (X_move (v := v_a0) rfl) <| L_op (.plain rfl) rfl (ltb rfl) (X_lenR Tryd.underlying43 rfl (Rd.ext f_a0 e5)) <| L_op (.plain rfl) rfl (ltb rfl) (X_move (v := (.int .i64 0)) rfl) <| L_nil <| thn_n ?_
  obtain ⟨z10, L11, C12⟩ := bind_some H
  clear H
  refine  W_cutQ (fun s0 sQ wQ => ∃ (x3_13 : List Rec) (v14 : Value), Kp [(3, 4), (5, 6), (9, 19)] s0 sQ ∧ sQ 3 = v14 ∧ Own 74 5 encRec w2.heap.size wQ v14 x3_13 ∧ Ext w2 wQ ∧ z10 = .inr x3_13) ?_ ?_
  · refine W_block <| W_loopI (fun s0 kk sQ wQ => ∃ (x3_7 : List Rec) (v8 : Value) (x9_9 : Int), Kp [(3, 4), (5, 6), (9, 19)] s0 sQ ∧ sQ 3 = v8 ∧ Own 74 5 encRec w2.heap.size wQ v8 x3_7 ∧ sQ 9 = .int .i64 x9_9 ∧ Ext w2 wQ ∧ loopF (impl_records.b1 a0) kk (x3_7, x9_9) = some z10) k ⟨([] : List Rec), (.slice (some ⟨b1, 0, none⟩) 0 0), 0, (Kp.refl _ _), rfl, (Own.zero), rfl, (Ext.refl w2), L11⟩ ?_
    rintro k19 s20 w21 ⟨x3_7, v8, x9_9, K22, h25, h26, h27, e23, L24⟩
    cases k19 with
    | zero => exact absurd L24 (by simp [loopF])
    | succ k19 =>
      obtain ⟨t28, H, S29⟩ := loopF_succ L24
      clear L24
      unfold impl_records.b1 at H
      refine W_seq <| W_reg <| L_op (.plain rfl) rfl (ltb rfl) (X_lss h27 (K22 8 rfl)) <| L_nil <| thn_n <| W_seq ?_
      rcases bif_two H with ⟨q30, H⟩ | ⟨q30, H⟩
      · refine W_true (congrArg Value.bool q30) <| W_skip <| thn_n <| W_seq <| W_block <| W_seq <| W_reg ?_
        obtain ⟨c31, H⟩ := bif_some H
        refine L_idx (.plain rfl) rfl (ltb rfl) rfl Tryd.underlying43 Tryd.sizeOf40 (K22 7 rfl) (Rd.ext f_a0 (Ext.trans e5 e23)) h27 c31 <| fun p32 h33 => L_op (.plain rfl) rfl (ltb rfl) (X_loadS Tryd.isAgg40 Tryd.sizeOf40 rfl rfl h33) <| L_alloc (.plain rfl) rfl (ltb rfl) rfl Tryd.zeroValue40 <| fun b34 w35 z36 z37 e38 k39 => L_storeA (.plain rfl) rfl rfl Tryd.sizeOf40 rfl rfl rfl rfl rfl k39 <| fun w40 h41 k42 => L_nil <| thn_n <| W_reg <| L_op (.plain rfl) rfl (ltb rfl) (X_move (v := v8) h25) <| L_op (.plain rfl) rfl (ltb rfl) (X_loadS Tryd.isAgg40 Tryd.sizeOf40 rfl rfl (Blk.at0 k42)) <| L_callP (.plain rfl) rfl (ltb rfl) rfl Tryd.call125 (impl_Node_record.calls (w := w40) (a0 := (gt a0 x9_9))) rfl <| fun w43 e44 => L_lit (.plain rfl) rfl (ltb rfl) rfl Tryd.underlying26 Tryd.sizeOf74 Tryd.zeroValue74 rfl rfl rfl (vs := [(.agg (encRec (recOf (gt a0 x9_9))).toArray)]) rfl (lit_all rfl) <| fun b45 w46 z47 z48 e49 k50 => ?_
        obtain ⟨c51, H⟩ := bif_some H
        refine L_append (enc := encRec) (.plain rfl) rfl (ltb rfl) rfl El.t26 rfl rfl (Own.ext h26 (Ext.trans (Ext.trans (Below.trans e38 (Wr.below h41 (Nat.le_of_eq z36))) e44) e49)) (Own.rd (Own.new (xs := [(recOf (gt a0 x9_9))]) (sz := 5) (enc := encRec) (base := w43.heap.size) k50 (Nat.le_of_eq z47) rfl (fun _ _ => by rfl) (Nat.le_of_ble_eq_true rfl))) (ones_Rec _) (of_decide_eq_true c51) ((Ext.trans (Ext.trans (Ext.trans e23 (Below.trans e38 (Wr.below h41 (Nat.le_of_eq z36)))) e44) e49)).size <| fun v52 w53 o54 z55 g56 => L_op (.plain rfl) rfl (ltb rfl) (X_assign (v := v52) rfl) <| L_nil <| blk_n <| thn_n <| W_reg <| L_op (.plain rfl) rfl (ltb rfl) (X_add h27 rfl) <| L_op (.plain rfl) rfl (ltb rfl) (X_move (v := (.int .i64 (IntKind.wrap .i64 (x9_9 + 1)))) rfl) <| L_nil <| thn_n ?_
        obtain rfl := Option.some.inj H
        exact ⟨_, Nat.lt_succ_self _, x3_7 ++ ([(recOf (gt a0 x9_9))] : List Rec), v52, IntKind.wrap .i64 (x9_9 + 1), (Kp.upd (Kp.upd (Kp.upd (Kp.upd (Kp.upd (Kp.upd (Kp.upd (Kp.upd (Kp.upd (Kp.upd (Kp.upd (Kp.upd K22 rfl) rfl) rfl) rfl) rfl) rfl) rfl) rfl) rfl) rfl) rfl) rfl), rfl, o54, rfl, (g56 _ (Ext.trans (Ext.trans (Ext.trans e23 (Below.trans e38 (Wr.below h41 (Nat.le_of_eq z36)))) e44) e49)), S29⟩
      · refine W_false (congrArg Value.bool q30) <| W_exit <| thn_x <| thn_x <| blk_x <| thn_n ?_
        obtain rfl := Option.some.inj H
        obtain rfl := Option.some.inj S29
        exact ⟨x3_7, v8, (Kp.upd K22 rfl), h25, h26, e23, rfl⟩
  · rintro s16 w15 ⟨x3_13, v14, K17, h57, h58, e18, y59⟩
    rw [y59] at C12
    have H := C12
    replace H : _ = some _ := H
    refine thn_n <| W_seq <| W_reg <| L_op (.plain rfl) rfl (ltb rfl) (X_move (v := v14) h57) <| L_op (.plain rfl) rfl (ltb rfl) (X_assign (v := v14) rfl) <| L_nil <| thn_n <| W_ret <| fin_r ?_
    obtain rfl := Option.some.inj H
    exact fin1o rfl (Ext.trans e5 e18) h58 (e5).size
theorem impl_records.calls {w : World} {a0 : List Nd} {v_a0 : Value} (f_a0 : Rd 4 encNd w v_a0 a0) (h0 : a0.length ≤ 1048576) :
    Calls Tryd.prog 86 #[v_a0] w (Rt (RO 74 5 encRec w (a0.map recOf))) := by
  obtain ⟨k, h⟩ := impl_records.eq a0 h0
  exact impl_records.walk f_a0 h
/-! impl.LayerOfTree -/
theorem impl_LayerOfTree.walk {w : World} {a0 : List Nd} (gv : GV 0 w) {v_a0 : Value} (f_a0 : Rd 4 encNd w v_a0 a0) {r : List Rec × Int} (H : impl_LayerOfTree.sh a0 = some r) :
    Calls Tryd.prog 38 #[v_a0] w (Rt (RT 74 5 encRec w r.1 (.int .i64 r.2))) := by
  unfold impl_LayerOfTree.sh at H
  refine calls_of_W Tryd.func38 rfl (Nat.le_of_ble_eq_true rfl) Tryd.ntmps38 rfl ?_
  refine W_seq <| W_reg <| L_op (.plain rfl) rfl (ltb rfl) (X_assign (v := (.slice none 0 0)) rfl) <| L_op (.plain rfl) rfl (ltb rfl) (X_assign (v := (.int .i64 0)) rfl) <| L_nil <| thn_n <| W_seq <| W_seq <| W_reg <| L_op (.plain rfl) rfl (ltb rfl) (X_move (v := v_a0) rfl) <| L_callP (.plain rfl) rfl (ltb rfl) rfl Tryd.call76 (impl_isLongListN.calls (w := w) (a0 := a0) f_a0) rfl <| fun w1 e2 => L_op (.plain rfl) rfl (ltb rfl) (X_mkiface Tryd.underlying4 rfl rfl) <| L_op (.plain rfl) rfl (ltb rfl) (X_mkiface Tryd.underlying3 rfl rfl) <| L_op (.plain rfl) rfl (ltb rfl) (X_move (v := v_a0) rfl) ?_
  obtain ⟨c3, H⟩ := bif_some H
  obtain ⟨c4, H⟩ := bif_some H
  refine L_callP (.plain rfl) rfl (ltb rfl) rfl Tryd.call77 (impl_TreeOK.calls (w := w1) (a0 := a0) (GV.ext gv e2) (Rd.ext f_a0 e2) (of_decide_eq_true c3) (of_decide_eq_true c4)) rfl <| fun w5 e6 => L_op (.plain rfl) rfl (ltb rfl) (X_not rfl) <| L_op (.plain rfl) rfl (ltb rfl) (X_mkiface Tryd.underlying4 rfl rfl) <| L_op (.plain rfl) rfl (ltb rfl) (X_mkiface Tryd.underlying3 rfl rfl) <| L_op (.plain rfl) rfl (ltb rfl) (X_move (v := v_a0) rfl) <| L_op (.plain rfl) rfl (ltb rfl) (X_lenR Tryd.underlying43 rfl (Rd.ext f_a0 (Ext.trans e2 e6))) <| L_op (.plain rfl) rfl (ltb rfl) (X_gtr rfl rfl) <| L_op (.plain rfl) rfl (ltb rfl) (X_mkiface Tryd.underlying4 rfl rfl) <| L_op (.plain rfl) rfl (ltb rfl) (X_mkiface Tryd.underlying3 rfl rfl) <| L_lit (.plain rfl) rfl (ltb rfl) rfl Tryd.underlying99 Tryd.sizeOf20 Tryd.zeroValue20 rfl rfl rfl (vs := [(.iface 4 (.bool (decide (4096 < a0.length)))), (.iface 3 (.int .i64 2)), (.iface 4 (.bool (!(treeOK a0)))), (.iface 3 (.int .i64 1)), (.iface 4 (.bool (decide (16 < (a0.length : Int))))), (.iface 3 (.int .i64 6))]) rfl (lit_all rfl) <| fun b7 w8 z9 z10 e11 k12 => ?_
  obtain ⟨c13, H⟩ := bif_some H
  obtain ⟨z16, x17, H⟩ := bind_some H
  replace x17 := Option.some.inj x17
  refine L_callP (.plain rfl) rfl (ltb rfl) rfl Tryd.call61 (impl_first.calls (w := w8) (a0 := ([.inl (decide (4096 < a0.length)), .inr 2, .inl (!(treeOK a0)), .inr 1, .inl (decide (16 < (a0.length : Int))), .inr 6] : List (Bool ⊕ Int))) (Own.rd (Own.new (xs := [.inl (decide (4096 < a0.length)), .inr 2, .inl (!(treeOK a0)), .inr 1, .inl (decide (16 < (a0.length : Int))), .inr 6]) (sz := 1) (enc := (encAny 4 3)) (base := w5.heap.size) k12 (Nat.le_of_eq z9) rfl (fun _ _ => by first | rfl | exact encAny_len _ _ _) (Nat.le_of_ble_eq_true rfl))) (of_decide_eq_true c13)) rfl <| fun w14 e15 => L_op (.plain rfl) rfl (ltb rfl) (X_assign (v := (.int .i64 z16)) (congrArg (Value.int .i64) x17)) <| L_nil <| thn_n <| W_seq <| W_reg <| L_op (.plain rfl) rfl (ltb rfl) (X_move (v := (.int .i64 z16)) rfl) <| L_op (.plain rfl) rfl (ltb rfl) (X_neq rfl rfl) <| L_nil <| thn_n ?_
  rcases bif_two H with ⟨q18, H⟩ | ⟨q18, H⟩
  · refine W_true (congrArg Value.bool q18) <| W_seq <| W_reg <| L_op (.plain rfl) rfl (ltb rfl) (X_move (v := (.int .i64 z16)) rfl) <| L_op (.plain rfl) rfl (ltb rfl) (X_assign (v := (.slice none 0 0)) rfl) <| L_op (.plain rfl) rfl (ltb rfl) (X_assign (v := (.int .i64 z16)) rfl) <| L_nil <| thn_n <| W_ret <| thn_r <| fin_r ?_
    obtain rfl := Option.some.inj H
    exact fin2o rfl rfl (Ext.trans (Ext.trans (Ext.trans e2 e6) e11) e15) (Own.zero (base := w.heap.size)) (Nat.le_refl _)
  · refine W_false (congrArg Value.bool q18) <| W_skip <| thn_n <| W_seq <| W_reg <| L_op (.plain rfl) rfl (ltb rfl) (X_move (v := v_a0) rfl) ?_
    obtain ⟨c19, H⟩ := bif_some H
    refine L_callO (.plain rfl) rfl (ltb rfl) rfl Tryd.call86 (impl_records.calls (w := w14) (a0 := a0) (Rd.ext f_a0 (Ext.trans (Ext.trans (Ext.trans e2 e6) e11) e15)) (of_decide_eq_true c19)) rfl <| fun v22 w20 e21 o23 => L_op (.plain rfl) rfl (ltb rfl) (X_assign (v := v22) rfl) <| L_op (.plain rfl) rfl (ltb rfl) (X_assign (v := (.int .i64 0)) rfl) <| L_nil <| thn_n <| W_ret <| fin_r ?_
    obtain rfl := Option.some.inj H
    exact fin2o rfl rfl (Ext.trans (Ext.trans (Ext.trans (Ext.trans e2 e6) e11) e15) e21) o23 ((Ext.trans (Ext.trans (Ext.trans e2 e6) e11) e15)).size
theorem impl_LayerOfTree.calls {w : World} {a0 : List Nd} (gv : GV 0 w) {v_a0 : Value} (f_a0 : Rd 4 encNd w v_a0 a0) (h0 : a0.length ≤ 1048576) (h1 : ∀ x ∈ a0, x.path.length ≤ 1048576) :
    Calls Tryd.prog 38 #[v_a0] w (Rt (RT 74 5 encRec w ((layerOfT a0).1) (.int .i64 ((layerOfT a0).2)))) := impl_LayerOfTree.walk gv f_a0 (impl_LayerOfTree.eq a0 h0 h1)
/-! laws.markNodeS -/
abbrev laws_markNodeS.e1 (x1_1 : Int) := (IntKind.wrap .i64 ((IntKind.wrap .i64 (x1_1 + 1)) + 1))
theorem laws_markNodeS.walk {k : Nat} {w : World} {a0 : List Nd} {a1 : Int} {v_a0 : Value} {B_a0 : Nat} {T_a0 : Nat} (o_a0 : Own 40 4 encNd B_a0 w v_a0 a0) (l_a0 : HB v_a0 T_a0) {r : Int × List Nd} (H : laws_markNodeS.sh k a0 a1 = some r) :
    Calls Tryd.prog 39 #[v_a0, .int .i64 a1] w (Rt (RM 40 4 encNd B_a0 T_a0 w (.int .i64 r.1) v_a0 r.2)) := by
  unfold laws_markNodeS.sh at H
  refine calls_of_W Tryd.func39 rfl (Nat.le_of_ble_eq_true rfl) Tryd.ntmps39 rfl ?_
  refine W_seq <| W_reg <| L_op (.plain rfl) rfl (ltb rfl) (X_assign (v := (.int .i64 0)) rfl) <| L_nil <| thn_n <| W_seq <| W_seq <| W_reg <| L_op (.plain rfl) rfl (ltb rfl) (X_assign (v := (.int .i64 0)) rfl) <| L_nil <| thn_n ?_
  obtain ⟨z4, L5, C6⟩ := bind_some H
  clear H
  refine  W_cutQ (fun s0 sQ wQ => ∃ (x1_7 : Int) (y8 : List Nd), Kp [(1, 2), (5, 42)] s0 sQ ∧ sQ 1 = .int .i64 x1_7 ∧ Own 40 4 encNd B_a0 wQ v_a0 y8 ∧ Gr B_a0 T_a0 w wQ ∧ z4 = .inr (x1_7, y8)) ?_ ?_
  · refine W_block <| W_loopI (fun s0 kk sQ wQ => ∃ (x1_1 : Int) (x5_2 : Int) (y3 : List Nd), Kp [(1, 2), (5, 42)] s0 sQ ∧ sQ 1 = .int .i64 x1_1 ∧ sQ 5 = .int .i64 x5_2 ∧ Own 40 4 encNd B_a0 wQ v_a0 y3 ∧ Gr B_a0 T_a0 w wQ ∧ loopF (laws_markNodeS.b1) kk (x1_1, x5_2, y3) = some z4) k ⟨a1, 0, a0, (Kp.refl _ _), rfl, rfl, o_a0, (Gr.refl _ _ _), L5⟩ ?_
    rintro k13 s14 w15 ⟨x1_1, x5_2, y3, K16, h19, h20, h21, e17, L18⟩
    cases k13 with
    | zero => exact absurd L18 (by simp [loopF])
    | succ k13 =>
      obtain ⟨t22, H, S23⟩ := loopF_succ L18
      clear L18
      unfold laws_markNodeS.b1 at H
      refine W_seq <| W_seq <| W_reg <| L_op (.plain rfl) rfl (ltb rfl) (X_move (v := (.int .i64 x5_2)) h20) <| L_op (.plain rfl) rfl (ltb rfl) (X_move (v := v_a0) (K16 0 rfl)) <| L_op (.plain rfl) rfl (ltb rfl) (X_lenR Tryd.underlying43 rfl (Own.rd h21)) <| L_op (.plain rfl) rfl (ltb rfl) (X_lss rfl rfl) <| L_nil <| thn_n ?_
      rcases bif_two H with ⟨q24, H⟩ | ⟨q24, H⟩
      · refine W_true (congrArg Value.bool q24) <| W_skip <| thn_n <| W_seq <| W_block <| W_seq <| W_reg <| L_op (.plain rfl) rfl (ltb rfl) (X_move (v := v_a0) (K16 0 rfl)) <| L_op (.plain rfl) rfl (ltb rfl) (X_move (v := (.int .i64 x5_2)) h20) <| L_op (.plain rfl) rfl (ltb rfl) (X_move (v := (.int .i64 x1_1)) h19) ?_
        obtain ⟨c27, H⟩ := bif_some H
        refine L_idxO (.plain rfl) rfl (ltb rfl) rfl Tryd.underlying43 Tryd.sizeOf40 rfl h21 rfl c27 <| fun p25 h26 => L_op (.plain rfl) rfl (ltb rfl) (X_fieldAddr Tryd.underlying40 rfl Tryd.sizeOf3 rfl rfl) <| L_storeO (a := (⟨x1_1, (gt y3 x5_2).path, (gt y3 x5_2).body, (gt y3 x5_2).mode⟩ : Nd)) (vs := [(.int .i64 x1_1)]) (off := 0) (.plain rfl) rfl rfl Tryd.sizeOf3 rfl h26 rfl rfl rfl rfl rfl rfl <| fun b28 w29 h30 h31 h32 o33 => L_nil <| thn_n <| W_seq <| W_reg <| L_op (.plain rfl) rfl (ltb rfl) (X_move (v := (.int .i64 x1_1)) h19) <| L_op (.plain rfl) rfl (ltb rfl) (X_add rfl rfl) <| L_op (.plain rfl) rfl (ltb rfl) (X_assign (v := (.int .i64 (IntKind.wrap .i64 (x1_1 + 1)))) rfl) <| L_nil <| thn_n <| W_seq <| W_reg <| L_op (.plain rfl) rfl (ltb rfl) (X_move (v := v_a0) (K16 0 rfl)) <| L_op (.plain rfl) rfl (ltb rfl) (X_move (v := (.int .i64 x5_2)) h20) <| L_op (.plain rfl) rfl (ltb rfl) (X_move (v := (.int .i64 (IntKind.wrap .i64 (x1_1 + 1)))) rfl) ?_
        obtain ⟨c34, H⟩ := bif_some H
        refine L_callP (.plain rfl) rfl (ltb rfl) rfl Tryd.call87 (laws_markText.calls (w := w29) (a0 := IntKind.wrap .i64 (x1_1 + 1)) (of_decide_eq_true c34)) rfl <| fun w35 e36 => L_idxO (.plain rfl) rfl (ltb rfl) rfl Tryd.underlying43 Tryd.sizeOf40 rfl (Own.ext o33 e36) rfl (inR_setI c27) <| fun p37 h38 => L_op (.plain rfl) rfl (ltb rfl) (X_fieldAddr Tryd.underlying40 rfl Tryd.sizeOf9 rfl rfl) <| L_storeO2 (a := (⟨x1_1, (markT (IntKind.wrap .i64 (x1_1 + 1))), (gt y3 x5_2).body, (gt y3 x5_2).mode⟩ : Nd)) (vs := [(S (markT (IntKind.wrap .i64 (x1_1 + 1))))]) (off := 1) (.plain rfl) rfl rfl Tryd.sizeOf9 rfl c27 h38 rfl rfl rfl rfl rfl rfl <| fun b39 w40 h41 h42 h43 o44 => L_nil <| thn_n <| W_seq <| W_reg <| L_op (.plain rfl) rfl (ltb rfl) (X_move (v := (.int .i64 (IntKind.wrap .i64 (x1_1 + 1)))) rfl) <| L_op (.plain rfl) rfl (ltb rfl) (X_add rfl rfl) <| L_op (.plain rfl) rfl (ltb rfl) (X_assign (v := (.int .i64 (laws_markNodeS.e1 x1_1))) rfl) <| L_nil <| thn_n <| W_seq <| W_reg <| L_op (.plain rfl) rfl (ltb rfl) (X_move (v := v_a0) (K16 0 rfl)) <| L_op (.plain rfl) rfl (ltb rfl) (X_move (v := (.int .i64 x5_2)) h20) <| L_op (.plain rfl) rfl (ltb rfl) (X_move (v := (.int .i64 (laws_markNodeS.e1 x1_1))) rfl) ?_
        obtain ⟨c45, H⟩ := bif_some H
        refine L_callP (.plain rfl) rfl (ltb rfl) rfl Tryd.call87 (laws_markText.calls (w := w40) (a0 := IntKind.wrap .i64 ((IntKind.wrap .i64 (x1_1 + 1)) + 1)) (of_decide_eq_true c45)) rfl <| fun w46 e47 => L_idxO (.plain rfl) rfl (ltb rfl) rfl Tryd.underlying43 Tryd.sizeOf40 rfl (Own.ext o44 e47) rfl (inR_setI c27) <| fun p48 h49 => L_op (.plain rfl) rfl (ltb rfl) (X_fieldAddr Tryd.underlying40 rfl Tryd.sizeOf9 rfl rfl) <| L_storeO2 (a := (⟨x1_1, (markT (IntKind.wrap .i64 (x1_1 + 1))), (markT (laws_markNodeS.e1 x1_1)), (gt y3 x5_2).mode⟩ : Nd)) (vs := [(S (markT (laws_markNodeS.e1 x1_1)))]) (off := 2) (.plain rfl) rfl rfl Tryd.sizeOf9 rfl c27 h49 rfl rfl rfl rfl rfl rfl <| fun b50 w51 h52 h53 h54 o55 => L_nil <| thn_n <| W_seq <| W_reg <| L_op (.plain rfl) rfl (ltb rfl) (X_move (v := (.int .i64 (laws_markNodeS.e1 x1_1))) rfl) <| L_op (.plain rfl) rfl (ltb rfl) (X_add rfl rfl) <| L_op (.plain rfl) rfl (ltb rfl) (X_assign rfl) <| L_nil <| thn_n <| W_seq <| W_reg <| L_op (.plain rfl) rfl (ltb rfl) (X_move (v := v_a0) (K16 0 rfl)) <| L_op (.plain rfl) rfl (ltb rfl) (X_move (v := (.int .i64 x5_2)) h20) <| L_op (.plain rfl) rfl (ltb rfl) (X_move rfl) <| L_idxO (.plain rfl) rfl (ltb rfl) rfl Tryd.underlying43 Tryd.sizeOf40 rfl o55 rfl (inR_setI c27) <| fun p56 h57 => L_op (.plain rfl) rfl (ltb rfl) (X_fieldAddr Tryd.underlying40 rfl Tryd.sizeOf3 rfl rfl) <| L_storeO2 (a := (⟨x1_1, (markT (IntKind.wrap .i64 (x1_1 + 1))), (markT (laws_markNodeS.e1 x1_1)), IntKind.wrap .i64 ((laws_markNodeS.e1 x1_1) + 1)⟩ : Nd)) (vs := [(.int .i64 (IntKind.wrap .i64 ((laws_markNodeS.e1 x1_1) + 1)))]) (off := 3) (.plain rfl) rfl rfl Tryd.sizeOf3 rfl c27 h57 rfl rfl rfl rfl rfl rfl <| fun b58 w59 h60 h61 h62 o63 => L_nil <| thn_n <| W_reg <| L_op (.plain rfl) rfl (ltb rfl) (X_move rfl) <| L_op (.plain rfl) rfl (ltb rfl) (X_add rfl rfl) <| L_op (.plain rfl) rfl (ltb rfl) (X_assign rfl) <| L_nil <| blk_n <| thn_n <| W_reg <| L_op (.plain rfl) rfl (ltb rfl) (X_move (v := (.int .i64 x5_2)) h20) <| L_op (.plain rfl) rfl (ltb rfl) (X_add rfl rfl) <| L_op (.plain rfl) rfl (ltb rfl) (X_assign (v := (.int .i64 (IntKind.wrap .i64 (x5_2 + 1)))) rfl) <| L_nil <| thn_n ?_
        obtain rfl := Option.some.inj H
        exact ⟨_, Nat.lt_succ_self _, IntKind.wrap .i64 ((IntKind.wrap .i64 ((laws_markNodeS.e1 x1_1) + 1)) + 1), IntKind.wrap .i64 (x5_2 + 1), setI y3 x5_2 (⟨x1_1, (markT (IntKind.wrap .i64 (x1_1 + 1))), (markT (laws_markNodeS.e1 x1_1)), IntKind.wrap .i64 ((laws_markNodeS.e1 x1_1) + 1)⟩ : Nd), (Kp.upd (Kp.upd (Kp.upd (Kp.upd (Kp.upd (Kp.upd (Kp.upd (Kp.upd (Kp.upd (Kp.upd (Kp.upd (Kp.upd (Kp.upd (Kp.upd (Kp.upd (Kp.upd (Kp.upd (Kp.upd (Kp.upd (Kp.upd (Kp.upd (Kp.upd (Kp.upd (Kp.upd (Kp.upd (Kp.upd (Kp.upd (Kp.upd (Kp.upd (Kp.upd (Kp.upd (Kp.upd (Kp.upd (Kp.upd (Kp.upd (Kp.upd (Kp.upd (Kp.upd (Kp.upd (Kp.upd (Kp.upd K16 rfl) rfl) rfl) rfl) rfl) rfl) rfl) rfl) rfl) rfl) rfl) rfl) rfl) rfl) rfl) rfl) rfl) rfl) rfl) rfl) rfl) rfl) rfl) rfl) rfl) rfl) rfl) rfl) rfl) rfl) rfl) rfl) rfl) rfl) rfl) rfl) rfl) rfl) rfl) rfl) rfl), rfl, rfl, o63, (Gr.trans (Gr.trans (Gr.trans (Gr.trans (Gr.trans (Gr.trans e17 (Gr.wr h32 h31 (HB.own l_a0 h30 (OP.own0 h26) (inR_pos c27)))) (Gr.ext e36)) (Gr.wr h43 h42 (HB.own l_a0 h41 (OP.own0 h38) (inR_pos (inR_setI c27))))) (Gr.ext e47)) (Gr.wr h54 h53 (HB.own l_a0 h52 (OP.own0 h49) (inR_pos (inR_setI c27))))) (Gr.wr h62 h61 (HB.own l_a0 h60 (OP.own0 h57) (inR_pos (inR_setI c27))))), S23⟩
      · refine W_false (congrArg Value.bool q24) <| W_exit <| thn_x <| thn_x <| blk_x <| thn_n ?_
        obtain rfl := Option.some.inj H
        obtain rfl := Option.some.inj S23
        exact ⟨x1_1, y3, (Kp.upd (Kp.upd (Kp.upd (Kp.upd K16 rfl) rfl) rfl) rfl), h19, h21, e17, rfl⟩
  · rintro s10 w9 ⟨x1_7, y8, K11, h64, h65, e12, y66⟩
    rw [y66] at C6
    have H := C6
    replace H : _ = some _ := H
    refine thn_n <| W_seq <| W_reg <| L_op (.plain rfl) rfl (ltb rfl) (X_move (v := (.int .i64 x1_7)) h64) <| L_op (.plain rfl) rfl (ltb rfl) (X_assign (v := (.int .i64 x1_7)) rfl) <| L_nil <| thn_n <| W_ret <| fin_r ?_
    obtain rfl := Option.some.inj H
    exact fin1m rfl e12 h65
theorem laws_markNodeS.calls {w : World} {a0 : List Nd} {a1 : Int} {v_a0 : Value} {B_a0 : Nat} {T_a0 : Nat} (o_a0 : Own 40 4 encNd B_a0 w v_a0 a0) (l_a0 : HB v_a0 T_a0) (h0 : a0.length ≤ 1152921504606846976) (h1 : (0 : Int) ≤ a1) (h2 : (a1 : Int) ≤ 4611686018427387904 - 4 * (a0.length : Int)) :
    Calls Tryd.prog 39 #[v_a0, .int .i64 a1] w (Rt (RM 40 4 encNd B_a0 T_a0 w (.int .i64 (a1 + 4 * (a0.length : Int))) v_a0 (marksN a0.length a1))) := by
  obtain ⟨k, h⟩ := laws_markNodeS.eq a0 a1 h0 h1 h2
  exact laws_markNodeS.walk o_a0 l_a0 h
/-! laws.markRecordS -/
abbrev laws_markRecordS.e1 (x1_1 : Int) := (IntKind.wrap .i64 ((IntKind.wrap .i64 (x1_1 + 1)) + 1))
theorem laws_markRecordS.walk {k : Nat} {w : World} {a0 : List Rec} {a1 : Int} {v_a0 : Value} {B_a0 : Nat} {T_a0 : Nat} (o_a0 : Own 74 5 encRec B_a0 w v_a0 a0) (l_a0 : HB v_a0 T_a0) {r : Int × List Rec} (H : laws_markRecordS.sh k a0 a1 = some r) :
    Calls Tryd.prog 40 #[v_a0, .int .i64 a1] w (Rt (RM 74 5 encRec B_a0 T_a0 w (.int .i64 r.1) v_a0 r.2)) := by
  unfold laws_markRecordS.sh at H
  refine calls_of_W Tryd.func40 rfl (Nat.le_of_ble_eq_true rfl) Tryd.ntmps40 rfl ?_
  refine W_seq <| W_reg <| L_op (.plain rfl) rfl (ltb rfl) (X_assign (v := (.int .i64 0)) rfl) <| L_nil <| thn_n <| W_seq <| W_seq <| W_reg <| L_op (.plain rfl) rfl (ltb rfl) (X_assign (v := (.int .i64 0)) rfl) <| L_nil <| thn_n ?_
  obtain ⟨z4, L5, C6⟩ := bind_some H
  clear H
  refine  W_cutQ (fun s0 sQ wQ => ∃ (x1_7 : Int) (y8 : List Rec), Kp [(1, 2), (5, 51)] s0 sQ ∧ sQ 1 = .int .i64 x1_7 ∧ Own 74 5 encRec B_a0 wQ v_a0 y8 ∧ Gr B_a0 T_a0 w wQ ∧ z4 = .inr (x1_7, y8)) ?_ ?_
  · refine W_block <| W_loopI (fun s0 kk sQ wQ => ∃ (x1_1 : Int) (x5_2 : Int) (y3 : List Rec), Kp [(1, 2), (5, 51)] s0 sQ ∧ sQ 1 = .int .i64 x1_1 ∧ sQ 5 = .int .i64 x5_2 ∧ Own 74 5 encRec B_a0 wQ v_a0 y3 ∧ Gr B_a0 T_a0 w wQ ∧ loopF (laws_markRecordS.b1) kk (x1_1, x5_2, y3) = some z4) k ⟨a1, 0, a0, (Kp.refl _ _), rfl, rfl, o_a0, (Gr.refl _ _ _), L5⟩ ?_
    rintro k13 s14 w15 ⟨x1_1, x5_2, y3, K16, h19, h20, h21, e17, L18⟩
    cases k13 with
    | zero => exact absurd L18 (by simp [loopF])
    | succ k13 =>
      obtain ⟨t22, H, S23⟩ := loopF_succ L18
      clear L18
      unfold laws_markRecordS.b1 at H
      refine W_seq <| W_seq <| W_reg <| L_op (.plain rfl) rfl (ltb rfl) (X_move (v := (.int .i64 x5_2)) h20) <| L_op (.plain rfl) rfl (ltb rfl) (X_move (v := v_a0) (K16 0 rfl)) <| L_op (.plain rfl) rfl (ltb rfl) (X_lenR Tryd.underlying26 rfl (Own.rd h21)) <| L_op (.plain rfl) rfl (ltb rfl) (X_lss rfl rfl) <| L_nil <| thn_n ?_
      rcases bif_two H with ⟨q24, H⟩ | ⟨q24, H⟩
      · refine W_true (congrArg Value.bool q24) <| W_skip <| thn_n <| W_seq <| W_block <| W_seq <| W_reg <| L_op (.plain rfl) rfl (ltb rfl) (X_move (v := v_a0) (K16 0 rfl)) <| L_op (.plain rfl) rfl (ltb rfl) (X_move (v := (.int .i64 x5_2)) h20) <| L_op (.plain rfl) rfl (ltb rfl) (X_move (v := (.int .i64 x1_1)) h19) ?_
        obtain ⟨c27, H⟩ := bif_some H
        refine L_idxO (.plain rfl) rfl (ltb rfl) rfl Tryd.underlying26 Tryd.sizeOf74 rfl h21 rfl c27 <| fun p25 h26 => L_op (.plain rfl) rfl (ltb rfl) (X_fieldAddr Tryd.underlying74 rfl Tryd.sizeOf3 rfl rfl) <| L_storeO (a := (⟨x1_1, (gt y3 x5_2).path, (gt y3 x5_2).body, (gt y3 x5_2).mode, (gt y3 x5_2).opq⟩ : Rec)) (vs := [(.int .i64 x1_1)]) (off := 0) (.plain rfl) rfl rfl Tryd.sizeOf3 rfl h26 rfl rfl rfl rfl rfl rfl <| fun b28 w29 h30 h31 h32 o33 => L_nil <| thn_n <| W_seq <| W_reg <| L_op (.plain rfl) rfl (ltb rfl) (X_move (v := (.int .i64 x1_1)) h19) <| L_op (.plain rfl) rfl (ltb rfl) (X_add rfl rfl) <| L_op (.plain rfl) rfl (ltb rfl) (X_assign (v := (.int .i64 (IntKind.wrap .i64 (x1_1 + 1)))) rfl) <| L_nil <| thn_n <| W_seq <| W_reg <| L_op (.plain rfl) rfl (ltb rfl) (X_move (v := v_a0) (K16 0 rfl)) <| L_op (.plain rfl) rfl (ltb rfl) (X_move (v := (.int .i64 x5_2)) h20) <| L_op (.plain rfl) rfl (ltb rfl) (X_move (v := (.int .i64 (IntKind.wrap .i64 (x1_1 + 1)))) rfl) ?_
        obtain ⟨c34, H⟩ := bif_some H
        refine L_callP (.plain rfl) rfl (ltb rfl) rfl Tryd.call87 (laws_markText.calls (w := w29) (a0 := IntKind.wrap .i64 (x1_1 + 1)) (of_decide_eq_true c34)) rfl <| fun w35 e36 => L_idxO (.plain rfl) rfl (ltb rfl) rfl Tryd.underlying26 Tryd.sizeOf74 rfl (Own.ext o33 e36) rfl (inR_setI c27) <| fun p37 h38 => L_op (.plain rfl) rfl (ltb rfl) (X_fieldAddr Tryd.underlying74 rfl Tryd.sizeOf9 rfl rfl) <| L_storeO2 (a := (⟨x1_1, (markT (IntKind.wrap .i64 (x1_1 + 1))), (gt y3 x5_2).body, (gt y3 x5_2).mode, (gt y3 x5_2).opq⟩ : Rec)) (vs := [(S (markT (IntKind.wrap .i64 (x1_1 + 1))))]) (off := 1) (.plain rfl) rfl rfl Tryd.sizeOf9 rfl c27 h38 rfl rfl rfl rfl rfl rfl <| fun b39 w40 h41 h42 h43 o44 => L_nil <| thn_n <| W_seq <| W_reg <| L_op (.plain rfl) rfl (ltb rfl) (X_move (v := (.int .i64 (IntKind.wrap .i64 (x1_1 + 1)))) rfl) <| L_op (.plain rfl) rfl (ltb rfl) (X_add rfl rfl) <| L_op (.plain rfl) rfl (ltb rfl) (X_assign (v := (.int .i64 (laws_markRecordS.e1 x1_1))) rfl) <| L_nil <| thn_n <| W_seq <| W_reg <| L_op (.plain rfl) rfl (ltb rfl) (X_move (v := v_a0) (K16 0 rfl)) <| L_op (.plain rfl) rfl (ltb rfl) (X_move (v := (.int .i64 x5_2)) h20) <| L_op (.plain rfl) rfl (ltb rfl) (X_move (v := (.int .i64 (laws_markRecordS.e1 x1_1))) rfl) ?_
        obtain ⟨c45, H⟩ := bif_some H
        refine L_callP (.plain rfl) rfl (ltb rfl) rfl Tryd.call87 (laws_markText.calls (w := w40) (a0 := IntKind.wrap .i64 ((IntKind.wrap .i64 (x1_1 + 1)) + 1)) (of_decide_eq_true c45)) rfl <| fun w46 e47 => L_idxO (.plain rfl) rfl (ltb rfl) rfl Tryd.underlying26 Tryd.sizeOf74 rfl (Own.ext o44 e47) rfl (inR_setI c27) <| fun p48 h49 => L_op (.plain rfl) rfl (ltb rfl) (X_fieldAddr Tryd.underlying74 rfl Tryd.sizeOf9 rfl rfl) <| L_storeO2 (a := (⟨x1_1, (markT (IntKind.wrap .i64 (x1_1 + 1))), (markT (laws_markRecordS.e1 x1_1)), (gt y3 x5_2).mode, (gt y3 x5_2).opq⟩ : Rec)) (vs := [(S (markT (laws_markRecordS.e1 x1_1)))]) (off := 2) (.plain rfl) rfl rfl Tryd.sizeOf9 rfl c27 h49 rfl rfl rfl rfl rfl rfl <| fun b50 w51 h52 h53 h54 o55 => L_nil <| thn_n <| W_seq <| W_reg <| L_op (.plain rfl) rfl (ltb rfl) (X_move (v := (.int .i64 (laws_markRecordS.e1 x1_1))) rfl) <| L_op (.plain rfl) rfl (ltb rfl) (X_add rfl rfl) <| L_op (.plain rfl) rfl (ltb rfl) (X_assign rfl) <| L_nil <| thn_n <| W_seq <| W_reg <| L_op (.plain rfl) rfl (ltb rfl) (X_move (v := v_a0) (K16 0 rfl)) <| L_op (.plain rfl) rfl (ltb rfl) (X_move (v := (.int .i64 x5_2)) h20) <| L_op (.plain rfl) rfl (ltb rfl) (X_move rfl) <| L_idxO (.plain rfl) rfl (ltb rfl) rfl Tryd.underlying26 Tryd.sizeOf74 rfl o55 rfl (inR_setI c27) <| fun p56 h57 => L_op (.plain rfl) rfl (ltb rfl) (X_fieldAddr Tryd.underlying74 rfl Tryd.sizeOf3 rfl rfl) <| L_storeO2 (a := (⟨x1_1, (markT (IntKind.wrap .i64 (x1_1 + 1))), (markT (laws_markRecordS.e1 x1_1)), IntKind.wrap .i64 ((laws_markRecordS.e1 x1_1) + 1), (gt y3 x5_2).opq⟩ : Rec)) (vs := [(.int .i64 (IntKind.wrap .i64 ((laws_markRecordS.e1 x1_1) + 1)))]) (off := 3) (.plain rfl) rfl rfl Tryd.sizeOf3 rfl c27 h57 rfl rfl rfl rfl rfl rfl <| fun b58 w59 h60 h61 h62 o63 => L_nil <| thn_n <| W_seq <| W_reg <| L_op (.plain rfl) rfl (ltb rfl) (X_move rfl) <| L_op (.plain rfl) rfl (ltb rfl) (X_add rfl rfl) <| L_op (.plain rfl) rfl (ltb rfl) (X_assign rfl) <| L_nil <| thn_n <| W_seq <| W_reg <| L_op (.plain rfl) rfl (ltb rfl) (X_move (v := v_a0) (K16 0 rfl)) <| L_op (.plain rfl) rfl (ltb rfl) (X_move (v := (.int .i64 x5_2)) h20) <| L_op (.plain rfl) rfl (ltb rfl) (X_move rfl) <| L_op (.plain rfl) rfl (ltb rfl) (X_rem rfl rfl (by decide)) <| L_op (.plain rfl) rfl (ltb rfl) (X_eql rfl rfl) <| L_idxO (.plain rfl) rfl (ltb rfl) rfl Tryd.underlying26 Tryd.sizeOf74 rfl o63 rfl (inR_setI c27) <| fun p64 h65 => L_op (.plain rfl) rfl (ltb rfl) (X_fieldAddr Tryd.underlying74 rfl Tryd.sizeOf4 rfl rfl) <| L_storeO2 (a := (⟨x1_1, (markT (IntKind.wrap .i64 (x1_1 + 1))), (markT (laws_markRecordS.e1 x1_1)), IntKind.wrap .i64 ((laws_markRecordS.e1 x1_1) + 1), (decide (((IntKind.wrap .i64 ((IntKind.wrap .i64 ((laws_markRecordS.e1 x1_1) + 1)) + 1)).tmod 3) = 0))⟩ : Rec)) (vs := [(.bool (decide (((IntKind.wrap .i64 ((IntKind.wrap .i64 ((laws_markRecordS.e1 x1_1) + 1)) + 1)).tmod 3) = 0)))]) (off := 4) (.plain rfl) rfl rfl Tryd.sizeOf4 rfl c27 h65 rfl rfl rfl rfl rfl rfl <| fun b66 w67 h68 h69 h70 o71 => L_nil <| thn_n <| W_reg <| L_op (.plain rfl) rfl (ltb rfl) (X_move rfl) <| L_op (.plain rfl) rfl (ltb rfl) (X_add rfl rfl) <| L_op (.plain rfl) rfl (ltb rfl) (X_assign rfl) <| L_nil <| blk_n <| thn_n <| W_reg <| L_op (.plain rfl) rfl (ltb rfl) (X_move (v := (.int .i64 x5_2)) h20) <| L_op (.plain rfl) rfl (ltb rfl) (X_add rfl rfl) <| L_op (.plain rfl) rfl (ltb rfl) (X_assign (v := (.int .i64 (IntKind.wrap .i64 (x5_2 + 1)))) rfl) <| L_nil <| thn_n ?_
        obtain rfl := Option.some.inj H
        exact ⟨_, Nat.lt_succ_self _, IntKind.wrap .i64 ((IntKind.wrap .i64 ((IntKind.wrap .i64 ((laws_markRecordS.e1 x1_1) + 1)) + 1)) + 1), IntKind.wrap .i64 (x5_2 + 1), setI y3 x5_2 (⟨x1_1, (markT (IntKind.wrap .i64 (x1_1 + 1))), (markT (laws_markRecordS.e1 x1_1)), IntKind.wrap .i64 ((laws_markRecordS.e1 x1_1) + 1), (decide (((IntKind.wrap .i64 ((IntKind.wrap .i64 ((laws_markRecordS.e1 x1_1) + 1)) + 1)).tmod 3) = 0))⟩ : Rec), (Kp.upd (Kp.upd (Kp.upd (Kp.upd (Kp.upd (Kp.upd (Kp.upd (Kp.upd (Kp.upd (Kp.upd (Kp.upd (Kp.upd (Kp.upd (Kp.upd (Kp.upd (Kp.upd (Kp.upd (Kp.upd (Kp.upd (Kp.upd (Kp.upd (Kp.upd (Kp.upd (Kp.upd (Kp.upd (Kp.upd (Kp.upd (Kp.upd (Kp.upd (Kp.upd (Kp.upd (Kp.upd (Kp.upd (Kp.upd (Kp.upd (Kp.upd (Kp.upd (Kp.upd (Kp.upd (Kp.upd (Kp.upd (Kp.upd (Kp.upd (Kp.upd (Kp.upd (Kp.upd (Kp.upd (Kp.upd (Kp.upd (Kp.upd (Kp.upd K16 rfl) rfl) rfl) rfl) rfl) rfl) rfl) rfl) rfl) rfl) rfl) rfl) rfl) rfl) rfl) rfl) rfl) rfl) rfl) rfl) rfl) rfl) rfl) rfl) rfl) rfl) rfl) rfl) rfl) rfl) rfl) rfl) rfl) rfl) rfl) rfl) rfl) rfl) rfl) rfl) rfl) rfl) rfl) rfl) rfl) rfl) rfl) rfl) rfl) rfl) rfl), rfl, rfl, o71, (Gr.trans (Gr.trans (Gr.trans (Gr.trans (Gr.trans (Gr.trans (Gr.trans e17 (Gr.wr h32 h31 (HB.own l_a0 h30 (OP.own0 h26) (inR_pos c27)))) (Gr.ext e36)) (Gr.wr h43 h42 (HB.own l_a0 h41 (OP.own0 h38) (inR_pos (inR_setI c27))))) (Gr.ext e47)) (Gr.wr h54 h53 (HB.own l_a0 h52 (OP.own0 h49) (inR_pos (inR_setI c27))))) (Gr.wr h62 h61 (HB.own l_a0 h60 (OP.own0 h57) (inR_pos (inR_setI c27))))) (Gr.wr h70 h69 (HB.own l_a0 h68 (OP.own0 h65) (inR_pos (inR_setI c27))))), S23⟩
      · refine W_false (congrArg Value.bool q24) <| W_exit <| thn_x <| thn_x <| blk_x <| thn_n ?_
        obtain rfl := Option.some.inj H
        obtain rfl := Option.some.inj S23
        exact ⟨x1_1, y3, (Kp.upd (Kp.upd (Kp.upd (Kp.upd K16 rfl) rfl) rfl) rfl), h19, h21, e17, rfl⟩
  · rintro s10 w9 ⟨x1_7, y8, K11, h72, h73, e12, y74⟩
    rw [y74] at C6
    have H := C6
    replace H : _ = some _ := H
    refine thn_n <| W_seq <| W_reg <| L_op (.plain rfl) rfl (ltb rfl) (X_move (v := (.int .i64 x1_7)) h72) <| L_op (.plain rfl) rfl (ltb rfl) (X_assign (v := (.int .i64 x1_7)) rfl) <| L_nil <| thn_n <| W_ret <| fin_r ?_
    obtain rfl := Option.some.inj H
    exact fin1m rfl e12 h73
theorem laws_markRecordS.calls {w : World} {a0 : List Rec} {a1 : Int} {v_a0 : Value} {B_a0 : Nat} {T_a0 : Nat} (o_a0 : Own 74 5 encRec B_a0 w v_a0 a0) (l_a0 : HB v_a0 T_a0) (h0 : a0.length ≤ 576460752303423488) (h1 : (0 : Int) ≤ a1) (h2 : (a1 : Int) ≤ 4611686018427387904 - 5 * (a0.length : Int)) :
    Calls Tryd.prog 40 #[v_a0, .int .i64 a1] w (Rt (RM 74 5 encRec B_a0 T_a0 w (.int .i64 (a1 + 5 * (a0.length : Int))) v_a0 (marksR a0.length a1))) := by
  obtain ⟨k, h⟩ := laws_markRecordS.eq a0 a1 h0 h1 h2
  exact laws_markRecordS.walk o_a0 l_a0 h
/-! laws.heldRecordS -/
abbrev laws_heldRecordS.e1 (x1_1 : Int) := (IntKind.wrap .i64 ((IntKind.wrap .i64 (x1_1 + 1)) + 1))
theorem laws_heldRecordS.walk {k : Nat} {w : World} {a0 : List Rec} {a1 : Int} {v_a0 : Value} (f_a0 : Rd 5 encRec w v_a0 a0) {r : Int} (H : laws_heldRecordS.sh k a0 a1 = some r) :
    Calls Tryd.prog 41 #[v_a0, .int .i64 a1] w (Rt (RP w (.int .i64 r))) := by
  unfold laws_heldRecordS.sh at H
  refine calls_of_W Tryd.func41 rfl (Nat.le_of_ble_eq_true rfl) Tryd.ntmps41 rfl ?_
  refine W_seq <| W_reg <| L_op (.plain rfl) rfl (ltb rfl) (X_assign (v := (.int .i64 0)) rfl) <| L_nil <| thn_n <| W_seq <| W_seq <| W_reg <| L_op (.plain rfl) rfl (ltb rfl) (X_assign (v := (.int .i64 0)) rfl) <| L_nil <| thn_n ?_
  obtain ⟨z3, L4, C5⟩ := bind_some H
  clear H
  refine  W_cutQ (fun s0 sQ wQ => ∃ (x1_6 : Int), Kp [(1, 2), (4, 61)] s0 sQ ∧ sQ 1 = .int .i64 x1_6 ∧ Ext w wQ ∧ z3 = .inr x1_6) ?_ ?_
  · refine W_block <| W_loopI (fun s0 kk sQ wQ => ∃ (x1_1 : Int) (x5_2 : Int), Kp [(1, 2), (4, 61)] s0 sQ ∧ sQ 1 = .int .i64 x1_1 ∧ sQ 5 = .int .i64 x5_2 ∧ Ext w wQ ∧ loopF (laws_heldRecordS.b1 a0) kk (x1_1, x5_2) = some z3) k ⟨a1, 0, (Kp.refl _ _), rfl, rfl, (Ext.refl w), L4⟩ ?_
    rintro k11 s12 w13 ⟨x1_1, x5_2, K14, h17, h18, e15, L16⟩
    cases k11 with
    | zero => exact absurd L16 (by simp [loopF])
    | succ k11 =>
      obtain ⟨t19, H, S20⟩ := loopF_succ L16
      clear L16
      unfold laws_heldRecordS.b1 at H
      refine W_seq <| W_seq <| W_reg <| L_op (.plain rfl) rfl (ltb rfl) (X_move (v := (.int .i64 x5_2)) h18) <| L_op (.plain rfl) rfl (ltb rfl) (X_move (v := v_a0) (K14 0 rfl)) <| L_op (.plain rfl) rfl (ltb rfl) (X_lenR Tryd.underlying26 rfl (Rd.ext f_a0 e15)) <| L_op (.plain rfl) rfl (ltb rfl) (X_lss rfl rfl) <| L_nil <| thn_n ?_
      rcases bif_two H with ⟨q21, H⟩ | ⟨q21, H⟩
      · refine W_true (congrArg Value.bool q21) <| W_skip <| thn_n <| W_seq <| W_block <| W_seq <| W_seq <| W_reg <| L_op (.plain rfl) rfl (ltb rfl) (X_move (v := v_a0) (K14 0 rfl)) <| L_op (.plain rfl) rfl (ltb rfl) (X_move (v := (.int .i64 x5_2)) h18) ?_
        obtain ⟨c22, H⟩ := bif_some H
        refine L_idx (.plain rfl) rfl (ltb rfl) rfl Tryd.underlying26 Tryd.sizeOf74 rfl (Rd.ext f_a0 e15) rfl c22 <| fun p23 h24 => L_op (.plain rfl) rfl (ltb rfl) (X_fieldAddr Tryd.underlying74 rfl Tryd.sizeOf3 rfl rfl) <| L_op (.plain rfl) rfl (ltb rfl) (X_loadF Tryd.isAgg3 (j := 0) h24 rfl rfl) <| L_op (.plain rfl) rfl (ltb rfl) (X_move (v := (.int .i64 x1_1)) h17) <| L_op (.plain rfl) rfl (ltb rfl) (X_neq rfl rfl) <| L_nil <| thn_n ?_
        rcases bif_two H with ⟨q25, H⟩ | ⟨q25, H⟩
        · refine W_true (congrArg Value.bool q25) <| W_seq <| W_reg <| L_op (.plain rfl) rfl (ltb rfl) (X_assign (v := (.int .i64 (-1))) rfl) <| L_nil <| thn_n <| W_ret <| thn_r <| blk_r <| thn_r <| thn_r <| blk_r <| thn_r <| thn_r <| fin_r ?_
          obtain rfl := Option.some.inj H
          obtain rfl := Option.some.inj S20
          have H := C5
          obtain rfl := Option.some.inj H
          exact fin1 rfl e15
        · refine W_false (congrArg Value.bool q25) <| W_skip <| thn_n <| W_seq <| W_reg <| L_op (.plain rfl) rfl (ltb rfl) (X_move (v := (.int .i64 x1_1)) h17) <| L_op (.plain rfl) rfl (ltb rfl) (X_add rfl rfl) <| L_op (.plain rfl) rfl (ltb rfl) (X_assign (v := (.int .i64 (IntKind.wrap .i64 (x1_1 + 1)))) rfl) <| L_nil <| thn_n <| W_seq <| W_seq ?_
          obtain ⟨c26, H⟩ := bif_some H
          obtain ⟨c29, H⟩ := bif_some H
          refine W_drawM [LEq v_a0, LEq (.int .i64 x5_2), LAt0 (encRec (gt a0 x5_2)), LAt 1 (encRec (gt a0 x5_2)), LEq (S ((gt a0 x5_2).path)), LEq (.int .i64 (IntKind.wrap .i64 (x1_1 + 1))), LEq (S (markT (IntKind.wrap .i64 (x1_1 + 1)))), LEq (.bool (!decide (((gt a0 x5_2).path) = (markT (IntKind.wrap .i64 (x1_1 + 1))))))] (by kernel_rfl) (by kernel_rfl) ⟨LEq.mono, LEq.mono, LAt0.mono, LAt.mono, LEq.mono, LEq.mono, LEq.mono, LEq.mono, trivial⟩ ⟨?_, ?_, ?_, ?_, ?_, ?_, ?_, ?_, trivial⟩ ?_
          · intro s32 w33 e34 hf35 hd36 hu37
            exact L_op (.plain rfl) rfl (ltb rfl) (X_move (v := v_a0) ((hf35 0 rfl).trans (K14 0 rfl))) <| L_nil <| stepEnd rfl rfl (Ext.refl w33) rfl
          · intro s38 w39 e40 hf41 hd42 hu43
            exact L_op (.plain rfl) rfl (ltb rfl) (X_move (v := (.int .i64 x5_2)) ((hf41 5 rfl).trans h18)) <| L_nil <| stepEnd rfl rfl (Ext.refl w39) rfl
          · intro s44 w45 e46 hf47 hd48 hu49
            have d50 : s44 21 = v_a0 := (hd48 0 rfl)
            have d51 : s44 22 = (.int .i64 x5_2) := (hd48 1 rfl)
            have c52 := c26
            exact L_idx (.plain rfl) rfl (ltb rfl) rfl Tryd.underlying26 Tryd.sizeOf74 d50 (Rd.ext f_a0 (Ext.trans e15 e46)) d51 c52 <| fun p53 h54 => L_nil <| stepEnd rfl rfl (Ext.refl w45) ⟨_, rfl, h54⟩
          · intro s55 w56 e57 hf58 hd59 hu60
            obtain ⟨p61, h62, h63⟩ := (hd59 2 rfl)
            exact L_op (.plain rfl) rfl (ltb rfl) (X_fieldAddr Tryd.underlying74 rfl Tryd.sizeOf9 rfl h62) <| L_nil <| stepEnd rfl rfl (Ext.refl w56) ⟨_, rfl, h63⟩
          · intro s64 w65 e66 hf67 hd68 hu69
            obtain ⟨p70, h71, h72⟩ := (hd68 3 rfl)
            exact L_op (.plain rfl) rfl (ltb rfl) (X_loadF Tryd.isAgg9 (j := 1) h72 h71 rfl) <| L_nil <| stepEnd rfl rfl (Ext.refl w65) rfl
          · intro s73 w74 e75 hf76 hd77 hu78
            exact L_op (.plain rfl) rfl (ltb rfl) (X_move (v := (.int .i64 (IntKind.wrap .i64 (x1_1 + 1)))) (hf76 1 rfl)) <| L_nil <| stepEnd rfl rfl (Ext.refl w74) rfl
          · intro s79 w80 e81 hf82 hd83 hu84
            have d85 : s79 26 = (.int .i64 (IntKind.wrap .i64 (x1_1 + 1))) := (hd83 5 rfl)
            have c86 := c29
            exact L_callP (.plain rfl) rfl (ltb rfl) rfl Tryd.call87 (laws_markText.calls (w := w80) (a0 := IntKind.wrap .i64 (x1_1 + 1)) (of_decide_eq_true c86)) (cons2 d85 rfl) <| fun w87 e88 => L_nil <| stepEnd rfl rfl e88 rfl
          · intro s89 w90 e91 hf92 hd93 hu94
            have d95 : s89 25 = (S ((gt a0 x5_2).path)) := (hd93 4 rfl)
            have d96 : s89 27 = (S (markT (IntKind.wrap .i64 (x1_1 + 1)))) := (hd93 6 rfl)
            exact L_op (.plain rfl) rfl (ltb rfl) (X_sne d95 d96) <| L_nil <| stepEnd rfl rfl (Ext.refl w90) rfl
          intro s97 w98 e99 hf100 ha101
          have K102 := Kp.ofD (kp := [(21, 29)]) rfl hf100
          have d103 : s97 28 = (.bool (!decide (((gt a0 x5_2).path) = (markT (IntKind.wrap .i64 (x1_1 + 1)))))) := ha101 7 rfl
          clear ha101 hf100
          refine thn_n ?_
          rcases bif_two H with ⟨q104, H⟩ | ⟨q104, H⟩
          · refine W_true (d103.trans (congrArg Value.bool q104)) <| W_seq <| W_reg <| L_op (.plain rfl) rfl (ltb rfl) (X_assign (v := (.int .i64 (-1))) rfl) <| L_nil <| thn_n <| W_ret <| thn_r <| blk_r <| thn_r <| thn_r <| blk_r <| thn_r <| thn_r <| fin_r ?_
            obtain rfl := Option.some.inj H
            obtain rfl := Option.some.inj S20
            have H := C5
            obtain rfl := Option.some.inj H
            exact fin1 rfl (Ext.trans e15 e99)
          · refine W_false (d103.trans (congrArg Value.bool q104)) <| W_skip <| thn_n <| W_seq <| W_reg <| L_op (.plain rfl) rfl (ltb rfl) (X_move (v := (.int .i64 (IntKind.wrap .i64 (x1_1 + 1)))) (K102 1 rfl)) <| L_op (.plain rfl) rfl (ltb rfl) (X_add rfl rfl) <| L_op (.plain rfl) rfl (ltb rfl) (X_assign (v := (.int .i64 (laws_heldRecordS.e1 x1_1))) rfl) <| L_nil <| thn_n <| W_seq <| W_seq ?_
            obtain ⟨c105, H⟩ := bif_some H
            obtain ⟨c108, H⟩ := bif_some H
            refine W_drawM [LEq v_a0, LEq (.int .i64 x5_2), LAt0 (encRec (gt a0 x5_2)), LAt 2 (encRec (gt a0 x5_2)), LEq (S ((gt a0 x5_2).body)), LEq (.int .i64 (laws_heldRecordS.e1 x1_1)), LEq (S (markT (laws_heldRecordS.e1 x1_1))), LEq (.bool (!decide (((gt a0 x5_2).body) = (markT (laws_heldRecordS.e1 x1_1)))))] (by kernel_rfl) (by kernel_rfl) ⟨LEq.mono, LEq.mono, LAt0.mono, LAt.mono, LEq.mono, LEq.mono, LEq.mono, LEq.mono, trivial⟩ ⟨?_, ?_, ?_, ?_, ?_, ?_, ?_, ?_, trivial⟩ ?_
            · intro s111 w112 e113 hf114 hd115 hu116
              exact L_op (.plain rfl) rfl (ltb rfl) (X_move (v := v_a0) ((hf114 0 rfl).trans ((K102 0 rfl).trans (K14 0 rfl)))) <| L_nil <| stepEnd rfl rfl (Ext.refl w112) rfl
            · intro s117 w118 e119 hf120 hd121 hu122
              exact L_op (.plain rfl) rfl (ltb rfl) (X_move (v := (.int .i64 x5_2)) ((hf120 5 rfl).trans ((K102 5 rfl).trans h18))) <| L_nil <| stepEnd rfl rfl (Ext.refl w118) rfl
            · intro s123 w124 e125 hf126 hd127 hu128
              have d129 : s123 31 = v_a0 := (hd127 0 rfl)
              have d130 : s123 32 = (.int .i64 x5_2) := (hd127 1 rfl)
              have c131 := c105
              exact L_idx (.plain rfl) rfl (ltb rfl) rfl Tryd.underlying26 Tryd.sizeOf74 d129 (Rd.ext f_a0 (Ext.trans (Ext.trans e15 e99) e125)) d130 c131 <| fun p132 h133 => L_nil <| stepEnd rfl rfl (Ext.refl w124) ⟨_, rfl, h133⟩
            · intro s134 w135 e136 hf137 hd138 hu139
              obtain ⟨p140, h141, h142⟩ := (hd138 2 rfl)
              exact L_op (.plain rfl) rfl (ltb rfl) (X_fieldAddr Tryd.underlying74 rfl Tryd.sizeOf9 rfl h141) <| L_nil <| stepEnd rfl rfl (Ext.refl w135) ⟨_, rfl, h142⟩
            · intro s143 w144 e145 hf146 hd147 hu148
              obtain ⟨p149, h150, h151⟩ := (hd147 3 rfl)
              exact L_op (.plain rfl) rfl (ltb rfl) (X_loadF Tryd.isAgg9 (j := 2) h151 h150 rfl) <| L_nil <| stepEnd rfl rfl (Ext.refl w144) rfl
            · intro s152 w153 e154 hf155 hd156 hu157
              exact L_op (.plain rfl) rfl (ltb rfl) (X_move (v := (.int .i64 (laws_heldRecordS.e1 x1_1))) (hf155 1 rfl)) <| L_nil <| stepEnd rfl rfl (Ext.refl w153) rfl
            · intro s158 w159 e160 hf161 hd162 hu163
              have d164 : s158 36 = (.int .i64 (laws_heldRecordS.e1 x1_1)) := (hd162 5 rfl)
              have c165 := c108
              exact L_callP (.plain rfl) rfl (ltb rfl) rfl Tryd.call87 (laws_markText.calls (w := w159) (a0 := IntKind.wrap .i64 ((IntKind.wrap .i64 (x1_1 + 1)) + 1)) (of_decide_eq_true c165)) (cons2 d164 rfl) <| fun w166 e167 => L_nil <| stepEnd rfl rfl e167 rfl
            · intro s168 w169 e170 hf171 hd172 hu173
              have d174 : s168 35 = (S ((gt a0 x5_2).body)) := (hd172 4 rfl)
              have d175 : s168 37 = (S (markT (laws_heldRecordS.e1 x1_1))) := (hd172 6 rfl)
              exact L_op (.plain rfl) rfl (ltb rfl) (X_sne d174 d175) <| L_nil <| stepEnd rfl rfl (Ext.refl w169) rfl
            intro s176 w177 e178 hf179 ha180
            have K181 := Kp.ofD (kp := [(31, 39)]) rfl hf179
            have d182 : s176 38 = (.bool (!decide (((gt a0 x5_2).body) = (markT (laws_heldRecordS.e1 x1_1))))) := ha180 7 rfl
            clear ha180 hf179
            refine thn_n ?_
            rcases bif_two H with ⟨q183, H⟩ | ⟨q183, H⟩
            · refine W_true (d182.trans (congrArg Value.bool q183)) <| W_seq <| W_reg <| L_op (.plain rfl) rfl (ltb rfl) (X_assign (v := (.int .i64 (-1))) rfl) <| L_nil <| thn_n <| W_ret <| thn_r <| blk_r <| thn_r <| thn_r <| blk_r <| thn_r <| thn_r <| fin_r ?_
              obtain rfl := Option.some.inj H
              obtain rfl := Option.some.inj S20
              have H := C5
              obtain rfl := Option.some.inj H
              exact fin1 rfl (Ext.trans (Ext.trans e15 e99) e178)
            · refine W_false (d182.trans (congrArg Value.bool q183)) <| W_skip <| thn_n <| W_seq <| W_reg <| L_op (.plain rfl) rfl (ltb rfl) (X_move (v := (.int .i64 (laws_heldRecordS.e1 x1_1))) (K181 1 rfl)) <| L_op (.plain rfl) rfl (ltb rfl) (X_add rfl rfl) <| L_op (.plain rfl) rfl (ltb rfl) (X_assign rfl) <| L_nil <| thn_n <| W_seq <| W_seq <| W_reg <| L_op (.plain rfl) rfl (ltb rfl) (X_move (v := v_a0) ((K181 0 rfl).trans ((K102 0 rfl).trans (K14 0 rfl)))) <| L_op (.plain rfl) rfl (ltb rfl) (X_move (v := (.int .i64 x5_2)) ((K181 5 rfl).trans ((K102 5 rfl).trans h18))) ?_
              obtain ⟨c184, H⟩ := bif_some H
              refine L_idx (.plain rfl) rfl (ltb rfl) rfl Tryd.underlying26 Tryd.sizeOf74 rfl (Rd.ext f_a0 (Ext.trans (Ext.trans e15 e99) e178)) rfl c184 <| fun p185 h186 => L_op (.plain rfl) rfl (ltb rfl) (X_fieldAddr Tryd.underlying74 rfl Tryd.sizeOf3 rfl rfl) <| L_op (.plain rfl) rfl (ltb rfl) (X_loadF Tryd.isAgg3 (j := 3) h186 rfl rfl) <| L_op (.plain rfl) rfl (ltb rfl) (X_move rfl) <| L_op (.plain rfl) rfl (ltb rfl) (X_neq rfl rfl) <| L_nil <| thn_n ?_
              rcases bif_two H with ⟨q187, H⟩ | ⟨q187, H⟩
              · refine W_true (congrArg Value.bool q187) <| W_seq <| W_reg <| L_op (.plain rfl) rfl (ltb rfl) (X_assign (v := (.int .i64 (-1))) rfl) <| L_nil <| thn_n <| W_ret <| thn_r <| blk_r <| thn_r <| thn_r <| blk_r <| thn_r <| thn_r <| fin_r ?_
                obtain rfl := Option.some.inj H
                obtain rfl := Option.some.inj S20
                have H := C5
                obtain rfl := Option.some.inj H
                exact fin1 rfl (Ext.trans (Ext.trans e15 e99) e178)
              · refine W_false (congrArg Value.bool q187) <| W_skip <| thn_n <| W_seq <| W_reg <| L_op (.plain rfl) rfl (ltb rfl) (X_move rfl) <| L_op (.plain rfl) rfl (ltb rfl) (X_add rfl rfl) <| L_op (.plain rfl) rfl (ltb rfl) (X_assign rfl) <| L_nil <| thn_n <| W_seq <| W_seq <| W_reg <| L_op (.plain rfl) rfl (ltb rfl) (X_move (v := v_a0) ((K181 0 rfl).trans ((K102 0 rfl).trans (K14 0 rfl)))) <| L_op (.plain rfl) rfl (ltb rfl) (X_move (v := (.int .i64 x5_2)) ((K181 5 rfl).trans ((K102 5 rfl).trans h18))) ?_
                obtain ⟨c188, H⟩ := bif_some H
                refine L_idx (.plain rfl) rfl (ltb rfl) rfl Tryd.underlying26 Tryd.sizeOf74 rfl (Rd.ext f_a0 (Ext.trans (Ext.trans e15 e99) e178)) rfl c188 <| fun p189 h190 => L_op (.plain rfl) rfl (ltb rfl) (X_fieldAddr Tryd.underlying74 rfl Tryd.sizeOf4 rfl rfl) <| L_op (.plain rfl) rfl (ltb rfl) (X_loadF Tryd.isAgg4 (j := 4) h190 rfl rfl) <| L_op (.plain rfl) rfl (ltb rfl) (X_move rfl) <| L_op (.plain rfl) rfl (ltb rfl) (X_rem rfl rfl (by decide)) <| L_op (.plain rfl) rfl (ltb rfl) (X_eql rfl rfl) <| L_op (.plain rfl) rfl (ltb rfl) (X_bne Tryd.underlying4 rfl rfl) <| L_nil <| thn_n ?_
                rcases bif_two H with ⟨q191, H⟩ | ⟨q191, H⟩
                · refine W_true (congrArg Value.bool q191) <| W_seq <| W_reg <| L_op (.plain rfl) rfl (ltb rfl) (X_assign (v := (.int .i64 (-1))) rfl) <| L_nil <| thn_n <| W_ret <| thn_r <| blk_r <| thn_r <| thn_r <| blk_r <| thn_r <| thn_r <| fin_r ?_
                  obtain rfl := Option.some.inj H
                  obtain rfl := Option.some.inj S20
                  have H := C5
                  obtain rfl := Option.some.inj H
                  exact fin1 rfl (Ext.trans (Ext.trans e15 e99) e178)
                · refine W_false (congrArg Value.bool q191) <| W_skip <| thn_n <| W_reg <| L_op (.plain rfl) rfl (ltb rfl) (X_move rfl) <| L_op (.plain rfl) rfl (ltb rfl) (X_add rfl rfl) <| L_op (.plain rfl) rfl (ltb rfl) (X_assign rfl) <| L_nil <| blk_n <| thn_n <| W_reg <| L_op (.plain rfl) rfl (ltb rfl) (X_move (v := (.int .i64 x5_2)) ((K181 5 rfl).trans ((K102 5 rfl).trans h18))) <| L_op (.plain rfl) rfl (ltb rfl) (X_add rfl rfl) <| L_op (.plain rfl) rfl (ltb rfl) (X_assign (v := (.int .i64 (IntKind.wrap .i64 (x5_2 + 1)))) rfl) <| L_nil <| thn_n ?_
                  obtain rfl := Option.some.inj H
                  exact ⟨_, Nat.lt_succ_self _, IntKind.wrap .i64 ((IntKind.wrap .i64 ((IntKind.wrap .i64 ((laws_heldRecordS.e1 x1_1) + 1)) + 1)) + 1), IntKind.wrap .i64 (x5_2 + 1), (Kp.upd (Kp.upd (Kp.upd (Kp.upd (Kp.upd (Kp.upd (Kp.upd (Kp.upd (Kp.upd (Kp.upd (Kp.upd (Kp.upd (Kp.upd (Kp.upd (Kp.upd (Kp.upd (Kp.upd (Kp.upd (Kp.upd (Kp.upd (Kp.upd (Kp.upd (Kp.upd (Kp.upd (Kp.upd (Kp.upd (Kp.upd (Kp.upd (Kp.cut (Kp.upd (Kp.upd (Kp.upd (Kp.cut (Kp.upd (Kp.upd (Kp.upd (Kp.upd (Kp.upd (Kp.upd (Kp.upd (Kp.upd (Kp.upd (Kp.upd (Kp.upd (Kp.upd (Kp.upd (Kp.upd K14 rfl) rfl) rfl) rfl) rfl) rfl) rfl) rfl) rfl) rfl) rfl) rfl) rfl) rfl) K102 rfl) rfl) rfl) rfl) K181 rfl) rfl) rfl) rfl) rfl) rfl) rfl) rfl) rfl) rfl) rfl) rfl) rfl) rfl) rfl) rfl) rfl) rfl) rfl) rfl) rfl) rfl) rfl) rfl) rfl) rfl) rfl) rfl) rfl), rfl, rfl, (Ext.trans (Ext.trans e15 e99) e178), S20⟩
      · refine W_false (congrArg Value.bool q21) <| W_exit <| thn_x <| thn_x <| blk_x <| thn_n ?_
        obtain rfl := Option.some.inj H
        obtain rfl := Option.some.inj S20
        exact ⟨x1_1, (Kp.upd (Kp.upd (Kp.upd (Kp.upd K14 rfl) rfl) rfl) rfl), h17, e15, rfl⟩
  · rintro s8 w7 ⟨x1_6, K9, h192, e10, y193⟩
    rw [y193] at C5
    have H := C5
    replace H : _ = some _ := H
    refine thn_n <| W_seq <| W_reg <| L_op (.plain rfl) rfl (ltb rfl) (X_move (v := (.int .i64 x1_6)) h192) <| L_op (.plain rfl) rfl (ltb rfl) (X_assign (v := (.int .i64 x1_6)) rfl) <| L_nil <| thn_n <| W_ret <| fin_r ?_
    obtain rfl := Option.some.inj H
    exact fin1 rfl e10
theorem laws_heldRecordS.calls {w : World} {a0 : List Rec} {a1 : Int} {v_a0 : Value} (f_a0 : Rd 5 encRec w v_a0 a0) (h0 : a0.length ≤ 576460752303423488) (h1 : (0 : Int) ≤ a1) (h2 : (a1 : Int) ≤ 4611686018427387904 - 5 * (a0.length : Int)) :
    Calls Tryd.prog 41 #[v_a0, .int .i64 a1] w (Rt (RP w (.int .i64 (heldR a0 a1)))) := by
  obtain ⟨k, h⟩ := laws_heldRecordS.eq a0 a1 h0 h1 h2
  exact laws_heldRecordS.walk f_a0 h
end Go.Proofs.YtilogldgepaeiabDoor
