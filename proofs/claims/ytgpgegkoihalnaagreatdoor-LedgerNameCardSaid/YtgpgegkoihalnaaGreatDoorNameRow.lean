/- Part of a proof over the program's translation: LedgerName: the row and the card. No condition beside the row's own: what the listed package variables hold. -/
import Derived.Test.YtgpgegkoihalnaaGreatDoorCards
import Derived.WalkKit
import Derived.ProofKit
import Derived.OpenShut
import Derived.LaidMore
import Derived.Lay
import Derived.SevenTiedAt
import Derived.Stop.Joined
import Derived.Test.YtgpgegkoihalnaaGreatDoorTi2
import Derived.Test.YtgpgegkoihalnaaGreatDoorRo1
import Derived.Test.YtgpgegkoihalnaaGreatDoorN8
import Derived.Test.YtgpgegkoihalnaaGreatDoorN10
import Derived.Test.YtgpgegkoihalnaaGreatDoorA9
import Derived.Test.YtgpgegkoihalnaaGreatDoorNameFa
/- LedgerName: the row and the card. No condition beside the row's own: what the listed package variables hold. -/
namespace Go.Proofs.YtgpgegkoihalnaaGreatDoor
open Go Go.ChangeShapes Go.WideShapes Go.ChangeAt Go.RowKit Go.AM Go.AM.C
set_option linter.unusedVariables false

theorem lname_own : ownKnob Tryz.prog.godebug = none := by kernel_rfl

theorem lname_calls (a : UInt8) (b : Int) (W : World) (hL : laidMetH Tryz.prog laidL W) : Calls Tryz.prog 7 #[.int .u8 (a.toNat : Int), .int .i64 b] W fun e w' => e = .returned (.bool true) ∧ AM.Kept W w' := by
  refine (calls_of (lname_has a b []) (rel_ctxW W) (glob_of_laid hL) ⟨rfl, fun j x y hx hy => ?_⟩ (enters_of Tryz.func7 (by kernel_rfl) rfl _ W)).mono ?_
  · match j with
    | 0 => cases hx; cases hy; exact .int _ _
    | 1 => cases hx; cases hy; exact .int _ _
    | j + 2 => simp at hx
  · rintro e w' ⟨cv, c', rfl, _, p, hv⟩
    cases hv
    exact ⟨rfl, p.kept⟩
theorem byte_of_wf {n : Int} (h : (Lit.int .u8 n).wf = true) : ∃ b : UInt8, n = (b.toNat : Int) := by
  have h1 : (decide (IntKind.u8.min ≤ n) && decide (n ≤ IntKind.u8.max)) = true := h
  have e1 : IntKind.u8.min = 0 := rfl
  have e2 : IntKind.u8.max = 255 := rfl
  rw [e1, e2, Bool.and_eq_true, decide_eq_true_eq, decide_eq_true_eq] at h1
  refine ⟨UInt8.ofNat n.toNat, ?_⟩
  have e3 : (UInt8.ofNat n.toNat).toNat = n.toNat % 256 := UInt8.toNat_ofNat'
  rw [e3]
  omega

set_option maxRecDepth 100000 in
theorem lname_lifted (os : Os) (started : os.Started) (H : Type) (enc : TypeId × Value → H) :
    ReturnsInHanded {} Tryz.checked os 7 .any (fun w args => (Rows.ledgerNameSpec.pre enc Tryz.prog Tryz.f7 Rows.ledgerNameRow.domain false w args ∧ laidMetH Tryz.prog laidL w) ∧ sizedMet enc Tryz.prog Tryz.f7 (OpenSpec.ofChange Rows.ledgerNameSpec) false w args)
      (Rows.ledgerNameSpec.post enc Tryz.prog Tryz.f7 false true false false) := by
  refine returnsInHanded_of_change_and (C := Tryz.checked) (X := fun w _ => laidMetH Tryz.prog laidL w) (fun _ _ _ hh h => h.of_heap hh) lname_own started (by kernel_rfl) Tryz.func7
    (ChangeSpec.witness_shaped (enc := enc) (C := Tryz.checked) (os := os) (X := fun w _ => laidMetH Tryz.prog laidL w) false (witW os) #[.int .u8 0, .int .i64 0] 8 (witW_os _)
      (witW_shaped os) (by kernel_rfl) (by kernel_rfl) (by kernel_rfl) (witW_met os _)) ?_
  intro W base args ds gs before hval0 hW hc _ hL _
  have hval : ∀ (j : Nat) t v, Tryz.f7.params[j]? = some t → args[j]? = some v → Value.okWide Tryz.prog W .any base t v := hval0
  have hW' := hW
  obtain ⟨p, q, hA0, hV, rfl, _, _⟩ := hW
  have hA : DataW.TrodAll enc Tryz.prog W 0 (fun _ => true) true Tryz.f7.params.toList args.toList ds p := hA0
  rw [Tryz.params7] at hA hval
  obtain ⟨v0, v1, d0, d1, p0, p1, rfl, rfl, rfl, h0, h1⟩ := trodAll_two hA
  obtain ⟨rfl, rfl⟩ := trodVars_none hV
  obtain ⟨x, rfl, rfl, rfl, wx⟩ := open_int Tryz.underlying5 (hval 0 5 v0 rfl rfl) h0
  obtain ⟨y, rfl, rfl, rfl, wy⟩ := open_int Tryz.underlying3 (hval 1 3 v1 rfl rfl) h1
  obtain ⟨b, rfl⟩ := byte_of_wf wx
  simp only [List.append_nil] at hW'
  refine (lname_calls b y W hL).mono fun e W' ⟨he, hk⟩ => ?_
  subst he
  exact ⟨_, rfl, post_of_kept (pa := []) (pv := []) hW' (fun _ _ _ => trodAll_mk1 (shut_bool Tryz.underlying4 _)) (fun sp _ => trodAll_mk2 (p := []) (p' := []) (shut_int Tryz.underlying5 wx) (shut_int Tryz.underlying3 wy)) (fun _ _ => rfl) rfl
    hk (ok_one (by kernel_rfl) rfl (okWide_bool_mk Tryz.underlying4 _))⟩

theorem lname_row : Rows.LedgerNameSaid :=
  OpenClaim.holds_of_wide 7 Tryz.f7 rfl rfl rfl rfl rfl rfl rfl ⟨rfl, rfl, rfl, rfl, rfl⟩ rfl rfl rfl rfl rfl (by kernel_rfl) Tryz.func7 ledgerName.facts
    (of_decide_eq_true (by kernel_rfl)) (by unfold Func.isWrapper; first | (rw [if_pos (by decide +kernel)]; kernel_rfl) | (rw [if_neg (by decide +kernel)]; exact ⟨rfl, rfl⟩))
    (fun os started H enc _ => lname_lifted os started H enc)

theorem lname_tie : Rows.ledgerNameRow.laidByTextAt .later Tryz.pinned [.pinned, .data, .sentinel, .sentinel, .data, .data, .data, .handle] true :=
  OpenClaim.laidByTextAt_pinned rfl rfl tieL rfl rfl rfl rfl (fun y hy _e => by
    simp only [Rows.ledgerNameRow, List.zip_cons_cons, List.zip_nil_right, List.mem_cons, List.mem_nil_iff, or_false] at hy
    rcases hy with rfl | rfl | rfl | rfl | rfl | rfl | rfl | rfl
    · exact ⟨tPin, by kernel_rfl⟩
    · cases _e
    · cases _e
    · cases _e
    · cases _e
    · cases _e
    · cases _e
    · cases _e) tFits
theorem lname_wf : Rows.ledgerNameRow.wfByText (OpenSpec.ofChange Rows.ledgerNameSpec) = true := by kernel_rfl
theorem lname_main : Tryz.pinned.checked.prog.mainIs = some (true, Rows.ledgerNameCard.stood.harness.2.toList) := by kernel_rfl
theorem lname_params : ∀ (j : Nat) (t : TypeId), Tryz.f7.params[j]? = some t → Tryz.prog.wantsStandIn t = false := fun j t ht => by
  rw [Tryz.params7] at ht
  have hm : t ∈ [5, 3] := by
    have := Array.mem_of_getElem? ht
    simpa using this
  have hall : ([5, 3].all fun u => !Tryz.prog.wantsStandIn u) = true := by kernel_rfl
  exact (show Tryz.prog.wantsStandIn t = false by simpa using List.all_eq_true.1 hall t hm)
theorem lname_card : Rows.LedgerNameCardSaid :=
  Claim7.holds_tied_plain_at .later [] [.pinned, .data, .sentinel, .sentinel, .data, .data, .data, .handle] true Rows.ledgerNameCard.stood.harness true
    lname_row (fun _ h => by cases h) lname_wf (fun _ h => by cases h) lname_tie rfl ⟨rfl, rfl⟩ lname_main rfl
    (fun f fn hf hfn => by
      obtain rfl : f = 7 := Option.some.inj ((show Tryz.prog.funcNamed "rentier/rentierlaw23.LedgerName" = some 7 by kernel_rfl).symm.trans hf) |>.symm
      obtain rfl : fn = Tryz.f7 := (Option.some.inj (Tryz.func7.symm.trans hfn)).symm
      exact ⟨tLooks, lname_params⟩)
    (goesBy_none noGo rfl)
#print axioms lname_card
end Go.Proofs.YtgpgegkoihalnaaGreatDoor

