/- Part of a proof over the program's translation: DeskNone: the row and the card. No condition beside the row's own: what the listed package variables hold. -/
import Derived.Test.YtooafhbgdhjijaaGreatDoorCards
import Derived.WalkKit
import Derived.ProofKit
import Derived.OpenShut
import Derived.LaidMore
import Derived.Lay
import Derived.SevenTiedAt
import Derived.Stop.Joined
import Derived.Test.YtooafhbgdhjijaaGreatDoorTi2
import Derived.Test.YtooafhbgdhjijaaGreatDoorN8
import Derived.Test.YtooafhbgdhjijaaGreatDoorN11
import Derived.Test.YtooafhbgdhjijaaGreatDoorA9
import Derived.Test.YtooafhbgdhjijaaGreatDoorNoneFa
import Derived.Test.YtooafhbgdhjijaaGreatDoorRo2
import Derived.Test.YtooafhbgdhjijaaGreatDoorTi4
/- DeskNone: the row and the card. No condition beside the row's own: what the listed package variables hold. -/
namespace Go.Proofs.YtooafhbgdhjijaaGreatDoor
open Go Go.ChangeShapes Go.WideShapes Go.ChangeAt Go.RowKit Go.AM Go.AM.C
set_option linter.unusedVariables false

theorem none_own : ownKnob Tryz.prog.godebug = none := by kernel_rfl

theorem none_calls (W : World) (hL : laidMetH Tryz.prog laidL2 W) : Calls Tryz.prog 7 #[] W fun e w' => e = .returned (.bool true) ∧ AM.Kept W w' := by
  refine (calls_of (none_has []) (rel_ctxW W) (glob_of_laid2 hL) ⟨rfl, fun j x y hx hy => ?_⟩ (enters_of Tryz.func7 (by kernel_rfl) rfl _ W)).mono ?_
  · simp at hx
  · rintro e w' ⟨cv, c', rfl, _, p, hv⟩
    cases hv
    exact ⟨rfl, p.kept⟩

set_option maxRecDepth 100000 in
theorem none_lifted (os : Os) (started : os.Started) (H : Type) (enc : TypeId × Value → H) :
    ReturnsInHanded {} Tryz.checked os 7 .any (fun w args => (Rows.deskNoneSpec.pre enc Tryz.prog Tryz.f7 Rows.deskNoneRow.domain false w args ∧ laidMetH Tryz.prog laidL2 w) ∧ sizedMet enc Tryz.prog Tryz.f7 (OpenSpec.ofChange Rows.deskNoneSpec) false w args)
      (Rows.deskNoneSpec.post enc Tryz.prog Tryz.f7 false true false false) := by
  refine returnsInHanded_of_change_and (C := Tryz.checked) (X := fun w _ => laidMetH Tryz.prog laidL2 w) (fun _ _ _ hh h => h.of_heap hh) none_own started (by kernel_rfl) Tryz.func7
    (ChangeSpec.witness_shaped (enc := enc) (C := Tryz.checked) (os := os) (X := fun w _ => laidMetH Tryz.prog laidL2 w) false (witW2 os) #[] 8 (witW_os2 _)
      (witW_shaped2 os) (by kernel_rfl) (by kernel_rfl) (by kernel_rfl) (witW_met2 os _)) ?_
  intro W base args ds gs before hval0 hW hc _ hL _
  have hval : ∀ (j : Nat) t v, Tryz.f7.params[j]? = some t → args[j]? = some v → Value.okWide Tryz.prog W .any base t v := hval0
  have hW' := hW
  obtain ⟨p, q, hA0, hV, rfl, _, _⟩ := hW
  have hA : DataW.TrodAll enc Tryz.prog W 0 (fun _ => true) true Tryz.f7.params.toList args.toList ds p := hA0
  rw [Tryz.params7] at hA hval
  obtain ⟨rfl, rfl, rfl⟩ := trodAll_none hA
  obtain ⟨rfl, rfl⟩ := trodVars_none hV
  simp only [List.append_nil] at hW'
  refine (none_calls W hL).mono fun e W' ⟨he, hk⟩ => ?_
  subst he
  exact ⟨_, rfl, post_of_kept (pa := []) (pv := []) hW' (fun _ _ _ => trodAll_mk1 (shut_bool Tryz.underlying4 _)) (fun sp _ => trodAll_mk0) (fun _ _ => rfl) rfl
    hk (ok_one (by kernel_rfl) rfl (okWide_bool_mk Tryz.underlying4 _))⟩

theorem none_row : Rows.DeskNoneSaid :=
  OpenClaim.holds_of_wide 7 Tryz.f7 rfl rfl rfl rfl rfl rfl rfl ⟨rfl, rfl, rfl, rfl, rfl⟩ rfl rfl rfl rfl rfl (by kernel_rfl) Tryz.func7 deskNone.facts
    (of_decide_eq_true (by kernel_rfl)) (by unfold Func.isWrapper; first | (rw [if_pos (by decide +kernel)]; kernel_rfl) | (rw [if_neg (by decide +kernel)]; exact ⟨rfl, rfl⟩))
    (fun os started H enc _ => none_lifted os started H enc)

theorem none_tie : Rows.deskNoneRow.laidByTextAt .later Tryz.pinned [.pinned, .data, .data, .data, .data, .sentinel, .sentinel, .handle] true :=
  OpenClaim.laidByTextAt_pinned rfl rfl tieL2 rfl rfl rfl rfl (fun y hy _e => by
    simp only [Rows.deskNoneRow, List.zip_cons_cons, List.zip_nil_right, List.mem_cons, List.mem_nil_iff, or_false] at hy
    rcases hy with rfl | rfl | rfl | rfl | rfl | rfl | rfl | rfl
    · exact ⟨tPin, by kernel_rfl⟩
    · cases _e
    · cases _e
    · cases _e
    · cases _e
    · cases _e
    · cases _e
    · cases _e) tFits2
theorem none_wf : Rows.deskNoneRow.wfByText (OpenSpec.ofChange Rows.deskNoneSpec) = true := by kernel_rfl
theorem none_main : Tryz.pinned.checked.prog.mainIs = some (true, Rows.deskNoneCard.stood.harness.2.toList) := by kernel_rfl
theorem none_params : ∀ (j : Nat) (t : TypeId), Tryz.f7.params[j]? = some t → Tryz.prog.wantsStandIn t = false := fun j t ht => by
  rw [Tryz.params7] at ht
  simp at ht
theorem none_card : Rows.DeskNoneCardSaid :=
  Claim7.holds_tied_plain_at .later [] [.pinned, .data, .data, .data, .data, .sentinel, .sentinel, .handle] true Rows.deskNoneCard.stood.harness true
    none_row (fun _ h => by cases h) none_wf (fun _ h => by cases h) none_tie rfl ⟨rfl, rfl⟩ none_main rfl
    (fun f fn hf hfn => by
      obtain rfl : f = 7 := Option.some.inj ((show Tryz.prog.funcNamed "rentier/rentierlaw23.DeskNone" = some 7 by kernel_rfl).symm.trans hf) |>.symm
      obtain rfl : fn = Tryz.f7 := (Option.some.inj (Tryz.func7.symm.trans hfn)).symm
      exact ⟨tLooks, none_params⟩)
    (goesBy_none noGo rfl)
#print axioms none_card
end Go.Proofs.YtooafhbgdhjijaaGreatDoor

