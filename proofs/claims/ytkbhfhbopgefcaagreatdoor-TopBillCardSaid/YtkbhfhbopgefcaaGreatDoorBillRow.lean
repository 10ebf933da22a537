/- Part of a proof over the program's translation: TopBill: the row and the card. No condition beside the row's own: what the listed package variables hold. -/
import Derived.Test.YtkbhfhbopgefcaaGreatDoorCards
import Derived.WalkKit
import Derived.ProofKit
import Derived.OpenShut
import Derived.LaidMore
import Derived.Lay
import Derived.SevenTiedAt
import Derived.Stop.Joined
import Derived.Test.YtkbhfhbopgefcaaGreatDoorTi3b
import Derived.Test.YtkbhfhbopgefcaaGreatDoorBillFa
import Derived.Test.YtkbhfhbopgefcaaGreatDoorRo3
import Derived.Test.YtkbhfhbopgefcaaGreatDoorN8
import Derived.Test.YtkbhfhbopgefcaaGreatDoorN10
import Derived.Test.YtkbhfhbopgefcaaGreatDoorA9
/- TopBill: the row and the card. No condition beside the row's own: what the listed package variables hold. -/
namespace Go.Proofs.YtkbhfhbopgefcaaGreatDoor
open Go Go.ChangeShapes Go.WideShapes Go.ChangeAt Go.RowKit Go.AM Go.AM.C
set_option linter.unusedVariables false

theorem bill_own : ownKnob Tryz.prog.godebug = none := by kernel_rfl

theorem bill_calls (W : World) (hL : laidMetH Tryz.prog laidL3 W) : Calls Tryz.prog 3 #[] W fun e w' => e = .returned (.bool true) ∧ AM.Kept W w' := by
  refine (calls_of (bill_has []) (rel_ctxW W) (glob_of_laid3 hL) ⟨rfl, fun j x y hx hy => ?_⟩ (enters_of Tryz.func3 (by kernel_rfl) rfl _ W)).mono ?_
  · simp at hx
  · rintro e w' ⟨cv, c', rfl, _, p, hv⟩
    cases hv
    exact ⟨rfl, p.kept⟩

set_option maxRecDepth 100000 in
theorem bill_lifted (os : Os) (started : os.Started) (H : Type) (enc : TypeId × Value → H) :
    ReturnsInHanded {} Tryz.checked os 3 .any (fun w args => (Rows.topBillSpec.pre enc Tryz.prog Tryz.f3 Rows.topBillRow.domain false w args ∧ laidMetH Tryz.prog laidL3 w) ∧ sizedMet enc Tryz.prog Tryz.f3 (OpenSpec.ofChange Rows.topBillSpec) false w args)
      (Rows.topBillSpec.post enc Tryz.prog Tryz.f3 false true false false) := by
  refine returnsInHanded_of_change_and (C := Tryz.checked) (X := fun w _ => laidMetH Tryz.prog laidL3 w) (fun _ _ _ hh h => h.of_heap hh) bill_own started (by kernel_rfl) Tryz.func3
    (ChangeSpec.witness_shaped (enc := enc) (C := Tryz.checked) (os := os) (X := fun w _ => laidMetH Tryz.prog laidL3 w) false (witW3 os) #[] 8 (witW_os3 _)
      (witW_shaped3 os) (by kernel_rfl) (by kernel_rfl) (by kernel_rfl) (witW_met3 os _)) ?_
  intro W base args ds gs before hval0 hW hc _ hL _
  have hval : ∀ (j : Nat) t v, Tryz.f3.params[j]? = some t → args[j]? = some v → Value.okWide Tryz.prog W .any base t v := hval0
  have hW' := hW
  obtain ⟨p, q, hA0, hV, rfl, _, _⟩ := hW
  have hA : DataW.TrodAll enc Tryz.prog W 0 (fun _ => true) true Tryz.f3.params.toList args.toList ds p := hA0
  rw [Tryz.params3] at hA hval
  obtain ⟨rfl, rfl, rfl⟩ := trodAll_none hA
  obtain ⟨rfl, rfl⟩ := trodVars_none hV
  simp only [List.append_nil] at hW'
  refine (bill_calls W hL).mono fun e W' ⟨he, hk⟩ => ?_
  subst he
  exact ⟨_, rfl, post_of_kept (pa := []) (pv := []) hW' (fun _ _ _ => trodAll_mk1 (shut_bool Tryz.underlying4 _)) (fun sp _ => trodAll_mk0) (fun _ _ => rfl) rfl
    hk (ok_one (by kernel_rfl) rfl (okWide_bool_mk Tryz.underlying4 _))⟩

theorem bill_row : Rows.TopBillSaid :=
  OpenClaim.holds_of_wide 3 Tryz.f3 rfl rfl rfl rfl rfl rfl rfl ⟨rfl, rfl, rfl, rfl, rfl⟩ rfl rfl rfl rfl rfl (by kernel_rfl) Tryz.func3 topBill.facts
    (of_decide_eq_true (by kernel_rfl)) (by unfold Func.isWrapper; first | (rw [if_pos (by decide +kernel)]; kernel_rfl) | (rw [if_neg (by decide +kernel)]; exact ⟨rfl, rfl⟩))
    (fun os started H enc _ => bill_lifted os started H enc)

theorem bill_tie : Rows.topBillRow.laidByTextAt .later Tryz.pinned [.data, .data, .data, .data, .handle, .sentinel, .sentinel, .pinned] true :=
  OpenClaim.laidByTextAt_pinned rfl rfl tieL3 rfl rfl rfl rfl (fun y hy _e => by
    simp only [Rows.topBillRow, List.zip_cons_cons, List.zip_nil_right, List.mem_cons, List.mem_nil_iff, or_false] at hy
    rcases hy with rfl | rfl | rfl | rfl | rfl | rfl | rfl | rfl
    · cases _e
    · cases _e
    · cases _e
    · cases _e
    · cases _e
    · cases _e
    · cases _e
    · exact ⟨tPin, by kernel_rfl⟩) tFits3
theorem bill_wf : Rows.topBillRow.wfByText (OpenSpec.ofChange Rows.topBillSpec) = true := by kernel_rfl
theorem bill_main : Tryz.pinned.checked.prog.mainIs = some (true, Rows.topBillCard.stood.harness.2.toList) := by kernel_rfl
theorem bill_params : ∀ (j : Nat) (t : TypeId), Tryz.f3.params[j]? = some t → Tryz.prog.wantsStandIn t = false := fun j t ht => by
  rw [Tryz.params3] at ht
  simp at ht
theorem bill_card : Rows.TopBillCardSaid :=
  Claim7.holds_tied_plain_at .later [] [.data, .data, .data, .data, .handle, .sentinel, .sentinel, .pinned] true Rows.topBillCard.stood.harness true
    bill_row (fun _ h => by cases h) bill_wf (fun _ h => by cases h) bill_tie rfl ⟨rfl, rfl⟩ bill_main rfl
    (fun f fn hf hfn => by
      obtain rfl : f = 3 := Option.some.inj ((show Tryz.prog.funcNamed "rentier/rentiertop.TopBill" = some 3 by kernel_rfl).symm.trans hf) |>.symm
      obtain rfl : fn = Tryz.f3 := (Option.some.inj (Tryz.func3.symm.trans hfn)).symm
      exact ⟨tLooks3, bill_params⟩)
    (goesBy_none3 noGo3 rfl)
#print axioms bill_card
end Go.Proofs.YtkbhfhbopgefcaaGreatDoor

