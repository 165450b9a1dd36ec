/- The row: the law's walk joined to its row, and its card. -/
import Derived.Test.YthpjkenkbfkdhaaGreatDoorJLB
set_option linter.unusedVariables false
namespace Go.Proofs.YthpjkenkbfkdhaaGreatDoor
open Go.ChangeShapes Go.WideShapes Go.ChangeAt Go.RowKit Go.UL
set_option maxRecDepth 100000
theorem lifted_FnExactMergeTrace (os : Os) (started : os.Started) (H : Type) (enc : TypeId × Value → H) :
    ReturnsInHanded {} Tryz.checked os 11 .any (fun w args => (Rows.fnExactMergeTraceSpec.pre enc Tryz.prog Tryz.f11 Rows.fnExactMergeTraceRow.domain false w args ∧ laidMetH Tryz.prog Rows.fnExactMergeTraceRow.laid w) ∧ sizedMet enc Tryz.prog Tryz.f11 (OpenSpec.ofChange Rows.fnExactMergeTraceSpec) false w args) (Rows.fnExactMergeTraceSpec.post enc Tryz.prog Tryz.f11 false true false false) := by
  refine handed_door (C := Tryz.checked) (X := fun w _ => laidMetH Tryz.prog Rows.fnExactMergeTraceRow.laid w) own started (by kernel_rfl) Tryz.func11
    (ChangeSpec.witness_shaped (enc := enc) (C := Tryz.checked) (os := os) (X := fun w _ => laidMetH Tryz.prog Rows.fnExactMergeTraceRow.laid w) false (World.laidAll Tryz.prog os Rows.fnExactMergeTraceRow.laid) #[.slice none 0 0] 8 (World.laidAll_os _ _ _)
      (World.shaped_of_ZipB (by kernel_rfl) (by kernel_rfl)) (by kernel_rfl) (by kernel_rfl) (by kernel_rfl) (by rw [MakeChecks.laidMetH_plain _ _ _ (by kernel_rfl)]; exact laidMet_laidAll _ (by kernel_rfl) (by kernel_rfl))) ?_
  intro W base args ds gs before hval0 hW hsh
  have hval : ∀ (j : Nat) t v, Tryz.f11.params[j]? = some t → args[j]? = some v → Value.okWide Tryz.prog W .any base t v := hval0
  have hW' := hW
  obtain ⟨p, q, hA0, hV, rfl, hfz, hnd⟩ := hW
  have hA : DataW.TrodAll enc Tryz.prog W 0 (fun _ => true) true Tryz.f11.params.toList args.toList ds p := hA0
  rw [Tryz.params11] at hA hval
  obtain ⟨v0, d0, rfl, rfl, h0⟩ := trodAll_one hA
  obtain ⟨rfl, rfl⟩ := trodVars_none hV
  obtain ⟨x0, f0, ok0⟩ := open_sl2 (e2 := 22) (cells_rec (ti := 3) (ts := 9) (tb := 4) Tryz.underlying71 (by kernel_rfl) (by kernel_rfl) (by kernel_rfl) (by kernel_rfl) (by kernel_rfl) (by kernel_rfl) (by kernel_rfl) (by kernel_rfl)) (by kernel_rfl) (by kernel_rfl) (by kernel_rfl) (by kernel_rfl) (hval 0 _ v0 rfl rfl) h0
  refine (law_MergeTrace.calls (w := W) (a0 := x0) (gv_of hsh) f0 ok0 (by obtain ⟨_, h, ⟨_, _, _, ⟨_, _, h9⟩, _⟩, _⟩ := f0; rw [← h]; exact h9) (Rd2.lens f0)).mono fun e W' ⟨v, he, hb, hv⟩ => ?_
  subst he; subst hv
  exact ⟨_, rfl, law_post laidOut (by kernel_rfl) (by kernel_rfl) rfl hW' (tb := 4) (by kernel_rfl) (by kernel_rfl) hb⟩
theorem cf1_FnExactMergeTrace : Rows.fnExactMergeTraceRow.wf (OpenSpec.ofChange Rows.fnExactMergeTraceSpec) = true := by kernel_rfl
theorem cf2_FnExactMergeTrace : (Tryz.f11.params.all (Tryz.pinned.checked.prog.readableRec ·) && namedTie Tryz.pinned.checked.prog Rows.fnExactMergeTraceRow.named Rows.fnExactMergeTraceSpec.vars && (Rows.fnExactMergeTraceRow.stops == []) && (Tryz.pinned.checked.prog.stops == []) && (Rows.fnExactMergeTraceRow.knobs == []) && (Tryz.pinned.checked.prog.stopKnobs == [])) = true := by kernel_rfl
theorem cf3_FnExactMergeTrace : (Rows.fnExactMergeTraceRow.inPlace == Tryz.pinned.checked.prog.inPlace 11) = true := by kernel_rfl
theorem cf4_FnExactMergeTrace : (Rows.fnExactMergeTraceRow.unfollowed == Tryz.pinned.checked.prog.unfollowed 11) = true := by kernel_rfl
theorem cf5_FnExactMergeTrace : (Rows.fnExactMergeTraceRow.recurses == Tryz.pinned.checked.prog.recurses 11) = true := by kernel_rfl
theorem cf6_FnExactMergeTrace : (Rows.fnExactMergeTraceRow.named == Tryz.pinned.checked.prog.varsNamed 11) = true := by kernel_rfl
theorem closed_FnExactMergeTrace : joinedFacts Tryz.pinned.checked.prog 11 Tryz.f11 Rows.fnExactMergeTraceSpec Rows.fnExactMergeTraceRow = true := joined_of cf1_FnExactMergeTrace pf_laid pf_maps cf2_FnExactMergeTrace cf3_FnExactMergeTrace cf4_FnExactMergeTrace cf5_FnExactMergeTrace cf6_FnExactMergeTrace (by kernel_rfl) pf_keys (by kernel_rfl) pf_heard pf_enter pf_lifts (by kernel_rfl)
theorem over_FnExactMergeTrace : Rows.fnExactMergeTraceRow.holds Tryz.pinned (OpenSpec.ofChange Rows.fnExactMergeTraceSpec) :=
  OpenClaim.holds_of_wide 11 Tryz.f11 rfl rfl rfl rfl rfl rfl rfl ⟨rfl, rfl, rfl, rfl, rfl⟩ rfl rfl rfl rfl rfl (by kernel_rfl) Tryz.func11 closed_FnExactMergeTrace
    (of_decide_eq_true (by kernel_rfl)) (by unfold Func.isWrapper; first | (rw [if_pos (by decide +kernel)]; kernel_rfl) | (rw [if_neg (by decide +kernel)]; exact ⟨rfl, rfl⟩))
    (fun os started H enc _ => lifted_FnExactMergeTrace os started H enc)
theorem proved_FnExactMergeTrace : Rows.FnExactMergeTraceCardSaid :=
  Claim7.holds_tied_plain_at .later [] [.data, .pinned] true (true, "94754823d80911e676dcc845ada1294acfac54ceddaf5c50b0ffe421361bd1f2") true over_FnExactMergeTrace (fun _ h => by cases h) (by kernel_rfl) (fun _ h => by cases h) fnExactMergeTrace_row_tie rfl ⟨rfl, rfl⟩ pf_main rfl
    (fun f fn hf hfn => by
      obtain rfl : f = 11 := Option.some.inj ((show Tryz.prog.funcNamed "loop.example/g00798/laws.FnExactMergeTrace" = some 11 by kernel_rfl).symm.trans hf) |>.symm
      obtain rfl : fn = Tryz.f11 := (Option.some.inj (Tryz.func11.symm.trans hfn)).symm
      exact ⟨pf_looks, fun j t ht => by
        have hm : t ∈ Tryz.f11.params.toList := by simpa using Array.mem_of_getElem? ht
        have hall : (Tryz.f11.params.toList.all fun u => !Tryz.prog.wantsStandIn u) = true := by kernel_rfl
        exact (show Tryz.prog.wantsStandIn t = false by simpa using List.all_eq_true.1 hall t hm)⟩)
    (goesBy_none pf_nogo rfl)
end Go.Proofs.YthpjkenkbfkdhaaGreatDoor
