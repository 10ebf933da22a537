/- Part of a proof over the program's translation: LedgerSplit: the row and the card. No condition beside the row's own: what the listed package variables hold. -/
import Derived.Test.YtgpgegkoihalnaaGreatDoorCards
import Derived.WalkKit
import Derived.ProofKit
import Derived.OpenShut
import Derived.LaidMore
import Derived.Lay
import Derived.SevenTiedAt
import Derived.Stop.Joined
import Derived.Carry
import Derived.ChangeMaps5
import Derived.ShutString
import Derived.Test.YtgpgegkoihalnaaGreatDoorTi2
import Derived.Test.YtgpgegkoihalnaaGreatDoorRo1
import Derived.Test.YtgpgegkoihalnaaGreatDoorN8
import Derived.Test.YtgpgegkoihalnaaGreatDoorN10
import Derived.Test.YtgpgegkoihalnaaGreatDoorA9
import Derived.Test.YtgpgegkoihalnaaGreatDoorSplitFa
/- LedgerSplit: the row and the card. No condition beside the row's own: what the listed package variables hold. -/
namespace Go.Proofs.YtgpgegkoihalnaaGreatDoor
open Go Go.ChangeShapes Go.WideShapes Go.ChangeAt Go.RowKit Go.AM Go.AM.C
set_option linter.unusedVariables false

theorem split_own : ownKnob Tryz.prog.godebug = none := by kernel_rfl

theorem split_calls (a b k : Int) (s : ByteArray) (W : World) (hL : laidMetH Tryz.prog laidL W) : Calls Tryz.prog 6 #[.int .i64 a, .int .i64 b, .int .i64 k, .string s] W fun e w' => e = .returned (.bool true) ∧ AM.Kept W w' := by
  refine (calls_of (split_has a b k s.data.toList []) (rel_ctxW W) (glob_of_laid hL) ⟨rfl, fun j x y hx hy => ?_⟩ (enters_of Tryz.func6 (by kernel_rfl) rfl _ W)).mono ?_
  · match j with
    | 0 => cases hx; cases hy; exact .int _ _
    | 1 => cases hx; cases hy; exact .int _ _
    | 2 => cases hx; cases hy; exact .int _ _
    | 3 => cases hx; cases hy; exact .str _ s rfl
    | j + 4 => simp at hx
  · rintro e w' ⟨cv, c', rfl, _, p, hv⟩
    cases hv
    exact ⟨rfl, p.kept⟩

set_option maxRecDepth 100000 in
theorem split_lifted (os : Os) (started : os.Started) (H : Type) (enc : TypeId × Value → H) :
    ReturnsInHanded {} Tryz.checked os 6 .any (fun w args => (Rows.ledgerSplitSpec.pre enc Tryz.prog Tryz.f6 Rows.ledgerSplitRow.domain false w args ∧ laidMetH Tryz.prog laidL w) ∧ sizedMet enc Tryz.prog Tryz.f6 (OpenSpec.ofChange Rows.ledgerSplitSpec) false w args)
      (Rows.ledgerSplitSpec.post enc Tryz.prog Tryz.f6 false true false false) := by
  refine returnsInHanded_of_change_and (C := Tryz.checked) (X := fun w _ => laidMetH Tryz.prog laidL w) (fun _ _ _ hh h => h.of_heap hh) split_own started (by kernel_rfl) Tryz.func6
    (ChangeSpec.witness_shaped (enc := enc) (C := Tryz.checked) (os := os) (X := fun w _ => laidMetH Tryz.prog laidL w) false (witW os) #[.int .i64 0, .int .i64 0, .int .i64 0, .string ⟨#[]⟩] 8 (witW_os _)
      (witW_shaped os) (by kernel_rfl) (by kernel_rfl) (by kernel_rfl) (witW_met os _)) ?_
  intro W base args ds gs before hval0 hW hc _ hL _
  have hval : ∀ (j : Nat) t v, Tryz.f6.params[j]? = some t → args[j]? = some v → Value.okWide Tryz.prog W .any base t v := hval0
  have hW' := hW
  obtain ⟨p, q, hA0, hV, rfl, _, _⟩ := hW
  have hA : DataW.TrodAll enc Tryz.prog W 0 (fun _ => true) true Tryz.f6.params.toList args.toList ds p := hA0
  rw [Tryz.params6] at hA hval
  obtain ⟨v0, v1, v2, v3, d0, d1, d2, d3, p0, p1, p2, p3, rfl, rfl, rfl, h0, h1, h2, h3⟩ := trodAll_four hA
  obtain ⟨rfl, rfl⟩ := trodVars_none hV
  obtain ⟨x, rfl, rfl, rfl, wx⟩ := open_int Tryz.underlying2 (hval 0 2 v0 rfl rfl) h0
  obtain ⟨y, rfl, rfl, rfl, wy⟩ := open_int Tryz.underlying2 (hval 1 2 v1 rfl rfl) h1
  obtain ⟨z, rfl, rfl, rfl, wz⟩ := open_int Tryz.underlying2 (hval 2 2 v2 rfl rfl) h2
  obtain ⟨s, rfl, rfl, rfl, ws⟩ := Go.ChangeMaps.open_string Tryz.underlying9 (hval 3 9 v3 rfl rfl) h3
  simp only [List.append_nil] at hW'
  refine (split_calls x y z s W hL).mono fun e W' ⟨he, hk⟩ => ?_
  subst he
  exact ⟨_, rfl, post_of_kept (pa := []) (pv := []) hW' (fun _ _ _ => trodAll_mk1 (shut_bool Tryz.underlying4 _)) (fun sp _ => trodAll_mk4 (p := []) (p' := []) (p'' := []) (p3 := []) (shut_int Tryz.underlying2 wx) (shut_int Tryz.underlying2 wy) (shut_int Tryz.underlying2 wz) (Go.ChangeMaps.shut_string Tryz.underlying9 ws)) (fun _ _ => rfl) rfl
    hk (ok_one (by kernel_rfl) rfl (okWide_bool_mk Tryz.underlying4 _))⟩

theorem split_row : Rows.LedgerSplitSaid :=
  OpenClaim.holds_of_wide 6 Tryz.f6 rfl rfl rfl rfl rfl rfl rfl ⟨rfl, rfl, rfl, rfl, rfl⟩ rfl rfl rfl rfl rfl (by kernel_rfl) Tryz.func6 ledgerSplit.facts
    (of_decide_eq_true (by kernel_rfl)) (by unfold Func.isWrapper; first | (rw [if_pos (by decide +kernel)]; kernel_rfl) | (rw [if_neg (by decide +kernel)]; exact ⟨rfl, rfl⟩))
    (fun os started H enc _ => split_lifted os started H enc)

theorem split_tie : Rows.ledgerSplitRow.laidByTextAt .later Tryz.pinned [.pinned, .data, .sentinel, .sentinel, .data, .data, .data, .handle] true :=
  OpenClaim.laidByTextAt_pinned rfl rfl tieL rfl rfl rfl rfl (fun y hy _e => by
    simp only [Rows.ledgerSplitRow, List.zip_cons_cons, List.zip_nil_right, List.mem_cons, List.mem_nil_iff, or_false] at hy
    rcases hy with rfl | rfl | rfl | rfl | rfl | rfl | rfl | rfl
    · exact ⟨tPin, by kernel_rfl⟩
    · cases _e
    · cases _e
    · cases _e
    · cases _e
    · cases _e
    · cases _e
    · cases _e) tFits
theorem split_wf : Rows.ledgerSplitRow.wfByText (OpenSpec.ofChange Rows.ledgerSplitSpec) = true := by kernel_rfl
theorem split_main : Tryz.pinned.checked.prog.mainIs = some (true, Rows.ledgerSplitCard.stood.harness.2.toList) := by kernel_rfl
theorem split_params : ∀ (j : Nat) (t : TypeId), Tryz.f6.params[j]? = some t → Tryz.prog.wantsStandIn t = false := fun j t ht => by
  rw [Tryz.params6] at ht
  have hm : t ∈ [2, 9] := by
    have := Array.mem_of_getElem? ht
    simpa using this
  have hall : ([2, 9].all fun u => !Tryz.prog.wantsStandIn u) = true := by kernel_rfl
  exact (show Tryz.prog.wantsStandIn t = false by simpa using List.all_eq_true.1 hall t hm)
theorem split_card : Rows.LedgerSplitCardSaid :=
  Claim7.holds_tied_plain_at .later [] [.pinned, .data, .sentinel, .sentinel, .data, .data, .data, .handle] true Rows.ledgerSplitCard.stood.harness true
    split_row (fun _ h => by cases h) split_wf (fun _ h => by cases h) split_tie rfl ⟨rfl, rfl⟩ split_main rfl
    (fun f fn hf hfn => by
      obtain rfl : f = 6 := Option.some.inj ((show Tryz.prog.funcNamed "rentier/rentierlaw23.LedgerSplit" = some 6 by kernel_rfl).symm.trans hf) |>.symm
      obtain rfl : fn = Tryz.f6 := (Option.some.inj (Tryz.func6.symm.trans hfn)).symm
      exact ⟨tLooks, split_params⟩)
    (goesBy_none noGo rfl)
#print axioms split_card
end Go.Proofs.YtgpgegkoihalnaaGreatDoor

