/- Part of a proof over the program's translation: TopWeek: the row and the card. No condition beside the row's own: what the listed package variables hold. -/
import Derived.Test.YtkbhfhbopgefcaaGreatDoorCards
import Derived.WalkKit
import Derived.ProofKit
import Derived.OpenShut
import Derived.LaidMore
import Derived.Lay
import Derived.SevenTiedAt
import Derived.Stop.Joined
import Derived.Test.YtkbhfhbopgefcaaGreatDoorTi3b
import Derived.Test.YtkbhfhbopgefcaaGreatDoorRo3
import Derived.Test.YtkbhfhbopgefcaaGreatDoorN8
import Derived.Test.YtkbhfhbopgefcaaGreatDoorN10
import Derived.Test.YtkbhfhbopgefcaaGreatDoorA9
import Derived.Test.YtkbhfhbopgefcaaGreatDoorWeekFa
/- TopWeek: the row and the card. No condition beside the row's own: what the listed package variables hold. -/
namespace Go.Proofs.YtkbhfhbopgefcaaGreatDoor
open Go Go.ChangeShapes Go.WideShapes Go.ChangeAt Go.RowKit Go.AM Go.AM.C Go.AM.C.TW
set_option linter.unusedVariables false

theorem week_own : ownKnob Tryz.prog.godebug = none := by kernel_rfl

theorem week_calls (a b : Int) (W : World) (hL : laidMetH Tryz.prog laidL3 W) : Calls Tryz.prog 4 #[.int .i64 a, .int .i64 b] W fun e w' => e = .returned (.bool true) ∧ AM.Kept W w' := by
  refine (calls_of (week_has a b []) (rel_ctxW W) (glob_of_laid3 hL) ⟨rfl, fun j x y hx hy => ?_⟩ (enters_of Tryz.func4 (by kernel_rfl) rfl _ W)).mono ?_
  · match j with
    | 0 => cases hx; cases hy; exact .int _ _
    | 1 => cases hx; cases hy; exact .int _ _
    | j + 2 => simp at hx
  · rintro e w' ⟨cv, c', rfl, _, p, hv⟩
    cases hv
    exact ⟨rfl, p.kept⟩

set_option maxRecDepth 100000 in
theorem week_lifted (os : Os) (started : os.Started) (H : Type) (enc : TypeId × Value → H) :
    ReturnsInHanded {} Tryz.checked os 4 .any (fun w args => (Rows.topWeekSpec.pre enc Tryz.prog Tryz.f4 Rows.topWeekRow.domain false w args ∧ laidMetH Tryz.prog laidL3 w) ∧ sizedMet enc Tryz.prog Tryz.f4 (OpenSpec.ofChange Rows.topWeekSpec) false w args)
      (Rows.topWeekSpec.post enc Tryz.prog Tryz.f4 false true false false) := by
  refine returnsInHanded_of_change_and (C := Tryz.checked) (X := fun w _ => laidMetH Tryz.prog laidL3 w) (fun _ _ _ hh h => h.of_heap hh) week_own started (by kernel_rfl) Tryz.func4
    (ChangeSpec.witness_shaped (enc := enc) (C := Tryz.checked) (os := os) (X := fun w _ => laidMetH Tryz.prog laidL3 w) false (witW3 os) #[.int .i64 0, .int .i64 0] 8 (witW_os3 _)
      (witW_shaped3 os) (by kernel_rfl) (by kernel_rfl) (by kernel_rfl) (witW_met3 os _)) ?_
  intro W base args ds gs before hval0 hW hc _ hL _
  have hval : ∀ (j : Nat) t v, Tryz.f4.params[j]? = some t → args[j]? = some v → Value.okWide Tryz.prog W .any base t v := hval0
  have hW' := hW
  obtain ⟨p, q, hA0, hV, rfl, _, _⟩ := hW
  have hA : DataW.TrodAll enc Tryz.prog W 0 (fun _ => true) true Tryz.f4.params.toList args.toList ds p := hA0
  rw [Tryz.params4] at hA hval
  obtain ⟨v0, v1, d0, d1, p0, p1, rfl, rfl, rfl, h0, h1⟩ := trodAll_two hA
  obtain ⟨rfl, rfl⟩ := trodVars_none hV
  obtain ⟨x, rfl, rfl, rfl, wx⟩ := open_int Tryz.underlying3 (hval 0 3 v0 rfl rfl) h0
  obtain ⟨y, rfl, rfl, rfl, wy⟩ := open_int Tryz.underlying3 (hval 1 3 v1 rfl rfl) h1
  simp only [List.append_nil] at hW'
  refine (week_calls x y W hL).mono fun e W' ⟨he, hk⟩ => ?_
  subst he
  exact ⟨_, rfl, post_of_kept (pa := []) (pv := []) hW' (fun _ _ _ => trodAll_mk1 (shut_bool Tryz.underlying4 _)) (fun sp _ => trodAll_mk2 (p := []) (p' := []) (shut_int Tryz.underlying3 wx) (shut_int Tryz.underlying3 wy)) (fun _ _ => rfl) rfl
    hk (ok_one (by kernel_rfl) rfl (okWide_bool_mk Tryz.underlying4 _))⟩

theorem week_row : Rows.TopWeekSaid :=
  OpenClaim.holds_of_wide 4 Tryz.f4 rfl rfl rfl rfl rfl rfl rfl ⟨rfl, rfl, rfl, rfl, rfl⟩ rfl rfl rfl rfl rfl (by kernel_rfl) Tryz.func4 topWeek.facts
    (of_decide_eq_true (by kernel_rfl)) (by unfold Func.isWrapper; first | (rw [if_pos (by decide +kernel)]; kernel_rfl) | (rw [if_neg (by decide +kernel)]; exact ⟨rfl, rfl⟩))
    (fun os started H enc _ => week_lifted os started H enc)

theorem week_tie : Rows.topWeekRow.laidByTextAt .later Tryz.pinned [.data, .data, .data, .data, .handle, .sentinel, .sentinel, .pinned] true :=
  OpenClaim.laidByTextAt_pinned rfl rfl tieL3 rfl rfl rfl rfl (fun y hy _e => by
    simp only [Rows.topWeekRow, List.zip_cons_cons, List.zip_nil_right, List.mem_cons, List.mem_nil_iff, or_false] at hy
    rcases hy with rfl | rfl | rfl | rfl | rfl | rfl | rfl | rfl
    · cases _e
    · cases _e
    · cases _e
    · cases _e
    · cases _e
    · cases _e
    · cases _e
    · exact ⟨tPin, by kernel_rfl⟩) tFits3
theorem week_wf : Rows.topWeekRow.wfByText (OpenSpec.ofChange Rows.topWeekSpec) = true := by kernel_rfl
theorem week_main : Tryz.pinned.checked.prog.mainIs = some (true, Rows.topWeekCard.stood.harness.2.toList) := by kernel_rfl
theorem week_params : ∀ (j : Nat) (t : TypeId), Tryz.f4.params[j]? = some t → Tryz.prog.wantsStandIn t = false := fun j t ht => by
  rw [Tryz.params4] at ht
  have hm : t ∈ [3] := by
    have := Array.mem_of_getElem? ht
    simpa using this
  have hall : ([3].all fun u => !Tryz.prog.wantsStandIn u) = true := by kernel_rfl
  exact (show Tryz.prog.wantsStandIn t = false by simpa using List.all_eq_true.1 hall t hm)
theorem week_card : Rows.TopWeekCardSaid :=
  Claim7.holds_tied_plain_at .later [] [.data, .data, .data, .data, .handle, .sentinel, .sentinel, .pinned] true Rows.topWeekCard.stood.harness true
    week_row (fun _ h => by cases h) week_wf (fun _ h => by cases h) week_tie rfl ⟨rfl, rfl⟩ week_main rfl
    (fun f fn hf hfn => by
      obtain rfl : f = 4 := Option.some.inj ((show Tryz.prog.funcNamed "rentier/rentiertop.TopWeek" = some 4 by kernel_rfl).symm.trans hf) |>.symm
      obtain rfl : fn = Tryz.f4 := (Option.some.inj (Tryz.func4.symm.trans hfn)).symm
      exact ⟨tLooks3, week_params⟩)
    (goesBy_none3 noGo3 rfl)
#print axioms week_card
end Go.Proofs.YtkbhfhbopgefcaaGreatDoor

