/- The row: the law's walk joined to its row, and its card. -/
import Derived.Test.YtdhmlillkbjjjaaGreatDoorvLB
set_option linter.unusedVariables false
namespace Go.Proofs.YtdhmlillkbjjjaaGreatDoor
open Go.ChangeShapes Go.WideShapes Go.ChangeAt Go.RowKit Go.UL
set_option maxRecDepth 100000
theorem G1 (os : Os) (started : os.Started) (H : Type) (enc : TypeId × Value → H) :
    ReturnsInHanded {} Tryz.checked os 4 .any (fun w args => (Rows.fnWitnessSpec.pre enc Tryz.prog Tryz.f4 Rows.fnWitnessRow.domain false w args ∧ laidMetH Tryz.prog Rows.fnWitnessRow.laid w) ∧ sizedMet enc Tryz.prog Tryz.f4 (OpenSpec.ofChange Rows.fnWitnessSpec) false w args) (Rows.fnWitnessSpec.post enc Tryz.prog Tryz.f4 false true false false) := by
  refine handed_door (C := Tryz.checked) (X := fun w _ => laidMetH Tryz.prog Rows.fnWitnessRow.laid w) own started (by kernel_rfl) Tryz.func4
    (ChangeSpec.witness_shaped (enc := enc) (C := Tryz.checked) (os := os) (X := fun w _ => laidMetH Tryz.prog Rows.fnWitnessRow.laid w) false (World.laidAll Tryz.prog os Rows.fnWitnessRow.laid) #[.slice none 0 0, .slice none 0 0] 8 (World.laidAll_os _ _ _)
      (World.shaped_of_ZipB (by kernel_rfl) (by kernel_rfl)) (by kernel_rfl) (by kernel_rfl) (by kernel_rfl) (by rw [MakeChecks.laidMetH_plain _ _ _ (by kernel_rfl)]; exact laidMet_laidAll _ (by kernel_rfl) (by kernel_rfl))) ?_
  intro W base args ds gs before hval0 hW hsh
  have hval : ∀ (j : Nat) t v, Tryz.f4.params[j]? = some t → args[j]? = some v → Value.okWide Tryz.prog W .any base t v := hval0
  have hW' := hW
  obtain ⟨p, q, hA0, hV, rfl, hfz, hnd⟩ := hW
  have hA : DataW.TrodAll enc Tryz.prog W 0 (fun _ => true) true Tryz.f4.params.toList args.toList ds p := hA0
  rw [Tryz.params4] at hA hval
  obtain ⟨v0, v1, d0, d1, p0, p1, rfl, rfl, rfl, h0, h1⟩ := trodAll_two hA
  obtain ⟨rfl, rfl⟩ := trodVars_none hV
  obtain ⟨x0, f0, ok0⟩ := open_sl (cells_u8 Tryz.underlying5) (by kernel_rfl) Tryz.underlying22 (hval 0 _ v0 rfl rfl) h0
  obtain ⟨x1, f1, ok1⟩ := open_sl (cells_u8 Tryz.underlying5) (by kernel_rfl) Tryz.underlying22 (hval 1 _ v1 rfl rfl) h1
  refine (law_FnWitness.calls (w := W) (a0 := x0) (a1 := x1) (gv_of hsh) f0 f1 ok0 (by obtain ⟨_, _, _, ⟨_, _, h9⟩, _⟩ := f0; exact h9) ok1 (by obtain ⟨_, _, _, ⟨_, _, h9⟩, _⟩ := f1; exact h9)).mono fun e W' ⟨v, he, hb, hv⟩ => ?_
  subst he; subst hv
  exact ⟨_, rfl, law_post laidOut (by kernel_rfl) (by kernel_rfl) rfl hW' (tb := 4) (by kernel_rfl) (by kernel_rfl) hb⟩
theorem cf1_FnWitness : Rows.fnWitnessRow.wf (OpenSpec.ofChange Rows.fnWitnessSpec) = true := by kernel_rfl
theorem cf2_FnWitness : (Tryz.f4.params.all (Tryz.pinned.checked.prog.readableRec ·) && namedTie Tryz.pinned.checked.prog Rows.fnWitnessRow.named Rows.fnWitnessSpec.vars && (Rows.fnWitnessRow.stops == []) && (Tryz.pinned.checked.prog.stops == []) && (Rows.fnWitnessRow.knobs == []) && (Tryz.pinned.checked.prog.stopKnobs == [])) = true := by kernel_rfl
theorem cf3_FnWitness : (Rows.fnWitnessRow.inPlace == Tryz.pinned.checked.prog.inPlace 4) = true := by kernel_rfl
theorem cf4_FnWitness : (Rows.fnWitnessRow.unfollowed == Tryz.pinned.checked.prog.unfollowed 4) = true := by kernel_rfl
theorem cf5_FnWitness : (Rows.fnWitnessRow.recurses == Tryz.pinned.checked.prog.recurses 4) = true := by kernel_rfl
theorem cf6_FnWitness : (Rows.fnWitnessRow.named == Tryz.pinned.checked.prog.varsNamed 4) = true := by kernel_rfl
theorem Xd : joinedFacts Tryz.pinned.checked.prog 4 Tryz.f4 Rows.fnWitnessSpec Rows.fnWitnessRow = true := joined_of cf1_FnWitness pf_laid pf_maps cf2_FnWitness cf3_FnWitness cf4_FnWitness cf5_FnWitness cf6_FnWitness (by kernel_rfl) pf_keys (by kernel_rfl) pf_heard pf_enter pf_lifts (by kernel_rfl)
theorem over_FnWitness : Rows.fnWitnessRow.holds Tryz.pinned (OpenSpec.ofChange Rows.fnWitnessSpec) :=
  OpenClaim.holds_of_wide 4 Tryz.f4 rfl rfl rfl rfl rfl rfl rfl ⟨rfl, rfl, rfl, rfl, rfl⟩ rfl rfl rfl rfl rfl (by kernel_rfl) Tryz.func4 Xd
    (of_decide_eq_true (by kernel_rfl)) (by unfold Func.isWrapper; first | (rw [if_pos (by decide +kernel)]; kernel_rfl) | (rw [if_neg (by decide +kernel)]; exact ⟨rfl, rfl⟩))
    (fun os started H enc _ => G1 os started H enc)
theorem proved_FnWitness : Rows.FnWitnessCardSaid :=
  Claim7.holds_tied_plain_at .later [] [.data, .data, .data, .data, .pinned] true (true, "3601aad46b42dac770809079dbbf8894a73d820e7ed4caf05ebf9f5f3b16504e") true over_FnWitness (fun _ h => by cases h) (by kernel_rfl) (fun _ h => by cases h) fnWitness_row_tie rfl ⟨rfl, rfl⟩ pf_main rfl
    (fun f fn hf hfn => by
      obtain rfl : f = 4 := Option.some.inj ((show Tryz.prog.funcNamed "loop.example/g00798/laws.FnWitness" = some 4 by kernel_rfl).symm.trans hf) |>.symm
      obtain rfl : fn = Tryz.f4 := (Option.some.inj (Tryz.func4.symm.trans hfn)).symm
      exact ⟨pf_looks, fun j t ht => by
        have hm : t ∈ Tryz.f4.params.toList := by simpa using Array.mem_of_getElem? ht
        have hall : (Tryz.f4.params.toList.all fun u => !Tryz.prog.wantsStandIn u) = true := by kernel_rfl
        exact (show Tryz.prog.wantsStandIn t = false by simpa using List.all_eq_true.1 hall t hm)⟩)
    (goesBy_none pf_nogo rfl)
end Go.Proofs.YtdhmlillkbjjjaaGreatDoor
