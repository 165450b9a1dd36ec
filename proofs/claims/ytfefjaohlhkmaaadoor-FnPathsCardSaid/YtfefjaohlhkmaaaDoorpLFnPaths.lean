/- The row: the law's walk joined to its row, and its card. -/
import Derived.Test.YtfefjaohlhkmaaaDoorpLB
set_option linter.unusedVariables false
namespace Go.Proofs.YtfefjaohlhkmaaaDoor
open Go.ChangeShapes Go.WideShapes Go.ChangeAt Go.RowKit Go.UL
set_option maxRecDepth 100000
theorem lifted_FnPaths (os : Os) (started : os.Started) (H : Type) (enc : TypeId × Value → H) :
    ReturnsInHanded {} Tryd.checked os 4 .any (fun w args => (Rows.fnPathsSpec.pre enc Tryd.prog Tryd.f4 Rows.fnPathsRow.domain false w args ∧ laidMetH Tryd.prog Rows.fnPathsRow.laid w) ∧ sizedMet enc Tryd.prog Tryd.f4 (OpenSpec.ofChange Rows.fnPathsSpec) false w args) (Rows.fnPathsSpec.post enc Tryd.prog Tryd.f4 false true false false) := by
  refine handed_door (C := Tryd.checked) (X := fun w _ => laidMetH Tryd.prog Rows.fnPathsRow.laid w) own started (by kernel_rfl) Tryd.func4
    (ChangeSpec.witness_shaped (enc := enc) (C := Tryd.checked) (os := os) (X := fun w _ => laidMetH Tryd.prog Rows.fnPathsRow.laid w) false (World.laidAll Tryd.prog os Rows.fnPathsRow.laid) #[.slice none 0 0, .slice none 0 0] 8 (World.laidAll_os _ _ _)
      (World.shaped_of_ZipB (by kernel_rfl) (by kernel_rfl)) (by kernel_rfl) (by kernel_rfl) (by kernel_rfl) (by rw [MakeChecks.laidMetH_plain _ _ _ (by kernel_rfl)]; exact laidMet_laidAll _ (by kernel_rfl) (by kernel_rfl))) ?_
  intro W base args ds gs before hval0 hW hsh
  have hval : ∀ (j : Nat) t v, Tryd.f4.params[j]? = some t → args[j]? = some v → Value.okWide Tryd.prog W .any base t v := hval0
  have hW' := hW
  obtain ⟨p, q, hA0, hV, rfl, hfz, hnd⟩ := hW
  have hA : DataW.TrodAll enc Tryd.prog W 0 (fun _ => true) true Tryd.f4.params.toList args.toList ds p := hA0
  rw [Tryd.params4] at hA hval
  obtain ⟨v0, v1, d0, d1, p0, p1, rfl, rfl, rfl, h0, h1⟩ := trodAll_two hA
  obtain ⟨rfl, rfl⟩ := trodVars_none hV
  obtain ⟨x0, f0, ok0⟩ := open_sl (cells_u8 Tryd.underlying5) (by kernel_rfl) Tryd.underlying22 (hval 0 _ v0 rfl rfl) h0
  obtain ⟨x1, f1, ok1⟩ := open_sl (cells_u8 Tryd.underlying5) (by kernel_rfl) Tryd.underlying22 (hval 1 _ v1 rfl rfl) h1
  refine (law_FnPaths.calls (w := W) (a0 := x0) (a1 := x1) (gv_of hsh) f0 f1 ok0 (by obtain ⟨_, _, _, ⟨_, _, h9⟩, _⟩ := f0; exact h9) ok1 (by obtain ⟨_, _, _, ⟨_, _, h9⟩, _⟩ := f1; exact h9)).mono fun e W' ⟨v, he, hb, hv⟩ => ?_
  subst he; subst hv
  exact ⟨_, rfl, law_post laidOut (by kernel_rfl) (by kernel_rfl) rfl hW' (tb := 4) (by kernel_rfl) (by kernel_rfl) hb⟩
theorem cf1_FnPaths : Rows.fnPathsRow.wf (OpenSpec.ofChange Rows.fnPathsSpec) = true := by kernel_rfl
theorem cf2_FnPaths : (Tryd.f4.params.all (Tryd.pinned.checked.prog.readableRec ·) && namedTie Tryd.pinned.checked.prog Rows.fnPathsRow.named Rows.fnPathsSpec.vars && (Rows.fnPathsRow.stops == []) && (Tryd.pinned.checked.prog.stops == []) && (Rows.fnPathsRow.knobs == []) && (Tryd.pinned.checked.prog.stopKnobs == [])) = true := by kernel_rfl
theorem cf3_FnPaths : (Rows.fnPathsRow.inPlace == Tryd.pinned.checked.prog.inPlace 4) = true := by kernel_rfl
theorem cf4_FnPaths : (Rows.fnPathsRow.unfollowed == Tryd.pinned.checked.prog.unfollowed 4) = true := by kernel_rfl
theorem cf5_FnPaths : (Rows.fnPathsRow.recurses == Tryd.pinned.checked.prog.recurses 4) = true := by kernel_rfl
theorem cf6_FnPaths : (Rows.fnPathsRow.named == Tryd.pinned.checked.prog.varsNamed 4) = true := by kernel_rfl
theorem closed_FnPaths : joinedFacts Tryd.pinned.checked.prog 4 Tryd.f4 Rows.fnPathsSpec Rows.fnPathsRow = true := joined_of cf1_FnPaths pf_laid pf_maps cf2_FnPaths cf3_FnPaths cf4_FnPaths cf5_FnPaths cf6_FnPaths (by kernel_rfl) pf_keys (by kernel_rfl) pf_heard pf_enter pf_lifts (by kernel_rfl)
theorem over_FnPaths : Rows.fnPathsRow.holds Tryd.pinned (OpenSpec.ofChange Rows.fnPathsSpec) :=
  OpenClaim.holds_of_wide 4 Tryd.f4 rfl rfl rfl rfl rfl rfl rfl ⟨rfl, rfl, rfl, rfl, rfl⟩ rfl rfl rfl rfl rfl (by kernel_rfl) Tryd.func4 closed_FnPaths
    (of_decide_eq_true (by kernel_rfl)) (by unfold Func.isWrapper; first | (rw [if_pos (by decide +kernel)]; kernel_rfl) | (rw [if_neg (by decide +kernel)]; exact ⟨rfl, rfl⟩))
    (fun os started H enc _ => lifted_FnPaths os started H enc)
theorem proved_FnPaths : Rows.FnPathsCardSaid :=
  Claim7.holds_tied_plain_at .later [] [.data, .pinned] true (true, "31290fc8613f2c7561a5ac393f669a15c6758f82a16bd44a7a8aed711a3fbf38") true over_FnPaths (fun _ h => by cases h) (by kernel_rfl) (fun _ h => by cases h) fnPaths_row_tie rfl ⟨rfl, rfl⟩ pf_main rfl
    (fun f fn hf hfn => by
      obtain rfl : f = 4 := Option.some.inj ((show Tryd.prog.funcNamed "loop.example/g00798/laws.FnPaths" = some 4 by kernel_rfl).symm.trans hf) |>.symm
      obtain rfl : fn = Tryd.f4 := (Option.some.inj (Tryd.func4.symm.trans hfn)).symm
      exact ⟨pf_looks, fun j t ht => by
        have hm : t ∈ Tryd.f4.params.toList := by simpa using Array.mem_of_getElem? ht
        have hall : (Tryd.f4.params.toList.all fun u => !Tryd.prog.wantsStandIn u) = true := by kernel_rfl
        exact (show Tryd.prog.wantsStandIn t = false by simpa using List.all_eq_true.1 hall t hm)⟩)
    (goesBy_none pf_nogo rfl)
end Go.Proofs.YtfefjaohlhkmaaaDoor
