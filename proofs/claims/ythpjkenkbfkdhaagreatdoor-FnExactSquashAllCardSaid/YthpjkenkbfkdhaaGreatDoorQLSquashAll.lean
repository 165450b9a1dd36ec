/- The row: the law's walk joined to its row, and its card. -/
import Derived.Test.YthpjkenkbfkdhaaGreatDoorQLB
set_option linter.unusedVariables false
namespace Go.Proofs.YthpjkenkbfkdhaaGreatDoor
open Go.ChangeShapes Go.WideShapes Go.ChangeAt Go.RowKit Go.UL
set_option maxRecDepth 100000
theorem lifted_FnExactSquashAll (os : Os) (started : os.Started) (H : Type) (enc : TypeId × Value → H) :
    ReturnsInHanded {} Tryz.checked os 10 .any (fun w args => (Rows.fnExactSquashAllSpec.pre enc Tryz.prog Tryz.f10 Rows.fnExactSquashAllRow.domain false w args ∧ laidMetH Tryz.prog Rows.fnExactSquashAllRow.laid w) ∧ sizedMet enc Tryz.prog Tryz.f10 (OpenSpec.ofChange Rows.fnExactSquashAllSpec) false w args) (Rows.fnExactSquashAllSpec.post enc Tryz.prog Tryz.f10 false true false false) := by
  refine handed_door (C := Tryz.checked) (X := fun w _ => laidMetH Tryz.prog Rows.fnExactSquashAllRow.laid w) own started (by kernel_rfl) Tryz.func10
    (ChangeSpec.witness_shaped (enc := enc) (C := Tryz.checked) (os := os) (X := fun w _ => laidMetH Tryz.prog Rows.fnExactSquashAllRow.laid w) false (World.laidAll Tryz.prog os Rows.fnExactSquashAllRow.laid) #[.slice none 0 0] 8 (World.laidAll_os _ _ _)
      (World.shaped_of_ZipB (by kernel_rfl) (by kernel_rfl)) (by kernel_rfl) (by kernel_rfl) (by kernel_rfl) (by rw [MakeChecks.laidMetH_plain _ _ _ (by kernel_rfl)]; exact laidMet_laidAll _ (by kernel_rfl) (by kernel_rfl))) ?_
  intro W base args ds gs before hval0 hW hsh
  have hval : ∀ (j : Nat) t v, Tryz.f10.params[j]? = some t → args[j]? = some v → Value.okWide Tryz.prog W .any base t v := hval0
  have hW' := hW
  obtain ⟨p, q, hA0, hV, rfl, hfz, hnd⟩ := hW
  have hA : DataW.TrodAll enc Tryz.prog W 0 (fun _ => true) true Tryz.f10.params.toList args.toList ds p := hA0
  rw [Tryz.params10] at hA hval
  obtain ⟨v0, d0, rfl, rfl, h0⟩ := trodAll_one hA
  obtain ⟨rfl, rfl⟩ := trodVars_none hV
  obtain ⟨x0, f0, ok0⟩ := open_sl2 (e2 := 22) (cells_rec (ti := 3) (ts := 9) (tb := 4) Tryz.underlying71 (by kernel_rfl) (by kernel_rfl) (by kernel_rfl) (by kernel_rfl) (by kernel_rfl) (by kernel_rfl) (by kernel_rfl) (by kernel_rfl)) (by kernel_rfl) (by kernel_rfl) (by kernel_rfl) (by kernel_rfl) (hval 0 _ v0 rfl rfl) h0
  refine (law_SquashAll.calls (w := W) (a0 := x0) (gv_of hsh) f0 ok0 (by obtain ⟨_, h, ⟨_, _, _, ⟨_, _, h9⟩, _⟩, _⟩ := f0; rw [← h]; exact h9) (Rd2.lens f0)).mono fun e W' ⟨v, he, hb, hv⟩ => ?_
  subst he; subst hv
  exact ⟨_, rfl, law_post laidOut (by kernel_rfl) (by kernel_rfl) rfl hW' (tb := 4) (by kernel_rfl) (by kernel_rfl) hb⟩
theorem cf1_FnExactSquashAll : Rows.fnExactSquashAllRow.wf (OpenSpec.ofChange Rows.fnExactSquashAllSpec) = true := by kernel_rfl
theorem cf2_FnExactSquashAll : (Tryz.f10.params.all (Tryz.pinned.checked.prog.readableRec ·) && namedTie Tryz.pinned.checked.prog Rows.fnExactSquashAllRow.named Rows.fnExactSquashAllSpec.vars && (Rows.fnExactSquashAllRow.stops == []) && (Tryz.pinned.checked.prog.stops == []) && (Rows.fnExactSquashAllRow.knobs == []) && (Tryz.pinned.checked.prog.stopKnobs == [])) = true := by kernel_rfl
theorem cf3_FnExactSquashAll : (Rows.fnExactSquashAllRow.inPlace == Tryz.pinned.checked.prog.inPlace 10) = true := by kernel_rfl
theorem cf4_FnExactSquashAll : (Rows.fnExactSquashAllRow.unfollowed == Tryz.pinned.checked.prog.unfollowed 10) = true := by kernel_rfl
theorem cf5_FnExactSquashAll : (Rows.fnExactSquashAllRow.recurses == Tryz.pinned.checked.prog.recurses 10) = true := by kernel_rfl
theorem cf6_FnExactSquashAll : (Rows.fnExactSquashAllRow.named == Tryz.pinned.checked.prog.varsNamed 10) = true := by kernel_rfl
theorem closed_FnExactSquashAll : joinedFacts Tryz.pinned.checked.prog 10 Tryz.f10 Rows.fnExactSquashAllSpec Rows.fnExactSquashAllRow = true := joined_of cf1_FnExactSquashAll pf_laid pf_maps cf2_FnExactSquashAll cf3_FnExactSquashAll cf4_FnExactSquashAll cf5_FnExactSquashAll cf6_FnExactSquashAll (by kernel_rfl) pf_keys (by kernel_rfl) pf_heard pf_enter pf_lifts (by kernel_rfl)
theorem over_FnExactSquashAll : Rows.fnExactSquashAllRow.holds Tryz.pinned (OpenSpec.ofChange Rows.fnExactSquashAllSpec) :=
  OpenClaim.holds_of_wide 10 Tryz.f10 rfl rfl rfl rfl rfl rfl rfl ⟨rfl, rfl, rfl, rfl, rfl⟩ rfl rfl rfl rfl rfl (by kernel_rfl) Tryz.func10 closed_FnExactSquashAll
    (of_decide_eq_true (by kernel_rfl)) (by unfold Func.isWrapper; first | (rw [if_pos (by decide +kernel)]; kernel_rfl) | (rw [if_neg (by decide +kernel)]; exact ⟨rfl, rfl⟩))
    (fun os started H enc _ => lifted_FnExactSquashAll os started H enc)
theorem proved_FnExactSquashAll : Rows.FnExactSquashAllCardSaid :=
  Claim7.holds_tied_plain_at .later [] [.data, .pinned] true (true, "94754823d80911e676dcc845ada1294acfac54ceddaf5c50b0ffe421361bd1f2") true over_FnExactSquashAll (fun _ h => by cases h) (by kernel_rfl) (fun _ h => by cases h) fnExactSquashAll_row_tie rfl ⟨rfl, rfl⟩ pf_main rfl
    (fun f fn hf hfn => by
      obtain rfl : f = 10 := Option.some.inj ((show Tryz.prog.funcNamed "loop.example/g00798/laws.FnExactSquashAll" = some 10 by kernel_rfl).symm.trans hf) |>.symm
      obtain rfl : fn = Tryz.f10 := (Option.some.inj (Tryz.func10.symm.trans hfn)).symm
      exact ⟨pf_looks, fun j t ht => by
        have hm : t ∈ Tryz.f10.params.toList := by simpa using Array.mem_of_getElem? ht
        have hall : (Tryz.f10.params.toList.all fun u => !Tryz.prog.wantsStandIn u) = true := by kernel_rfl
        exact (show Tryz.prog.wantsStandIn t = false by simpa using List.all_eq_true.1 hall t hm)⟩)
    (goesBy_none pf_nogo rfl)
end Go.Proofs.YthpjkenkbfkdhaaGreatDoor
