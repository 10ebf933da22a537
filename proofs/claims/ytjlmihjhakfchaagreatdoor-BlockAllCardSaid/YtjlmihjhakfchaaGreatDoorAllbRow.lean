/- Part of a proof over the program's translation: BlockAll: the row and the card. No condition beside the row's own: what the listed package variables hold. -/
import Derived.Test.YtjlmihjhakfchaaGreatDoorCards
import Derived.WalkKit
import Derived.ProofKit
import Derived.OpenShut
import Derived.LaidMore
import Derived.Lay
import Derived.SevenTiedAt
import Derived.Stop.Joined
import Derived.Deep.SlicePairs
import Derived.WideKeyArgs
import Derived.Test.YtjlmihjhakfchaaGreatDoorTi2
import Derived.Test.YtjlmihjhakfchaaGreatDoorAllbFa
import Derived.Test.YtjlmihjhakfchaaGreatDoorRo1
import Derived.Test.YtjlmihjhakfchaaGreatDoorN7
import Derived.Test.YtjlmihjhakfchaaGreatDoorN11
import Derived.Test.YtjlmihjhakfchaaGreatDoorA9
/- BlockAll: the row and the card. No condition beside the row's own: what the listed package variables hold. -/
namespace Go.Proofs.YtjlmihjhakfchaaGreatDoor
open Go Go.ChangeShapes Go.WideShapes Go.ChangeAt Go.RowKit Go.AM Go.AM.C Go.AM.C.BK Go.AM.C.RP
set_option linter.unusedVariables false

theorem ball_own : ownKnob Tryz.prog.godebug = none := by kernel_rfl

theorem ball_i64 {n : Int} (h : (Lit.int .i64 n).wf = true) : i64 n := by
  have h1 : (decide (IntKind.i64.min ≤ n) && decide (n ≤ IntKind.i64.max)) = true := h
  have e1 : IntKind.i64.min = -9223372036854775808 := rfl
  have e2 : IntKind.i64.max = 9223372036854775807 := rfl
  rw [e1, e2, Bool.and_eq_true, decide_eq_true_eq, decide_eq_true_eq] at h1
  unfold i64
  omega
theorem ball_add (b o j : Nat) : (⟨b, o, none⟩ : Addr).add j = ⟨b, o + j, none⟩ := by
  by_cases h : j = 0
  · simp [Addr.add, h]
  · simp [Addr.add, h]
theorem ball_cells : Tryz.prog.cellsOf 2 = 1 := by kernel_rfl
theorem ball_len (l : List Int) : (zA l).length = l.length := by unfold zA; simp
theorem ball_closed (l : List Int) : ∀ a ∈ zA l, a.closed1 = true := by
  intro a h
  unfold zA at h
  obtain ⟨x, _, rfl⟩ := List.mem_map.1 h
  rfl
set_option maxRecDepth 100000 in
theorem ball_ints {H : Type} {enc : TypeId × Value → H} {W : World} {base : Nat} {v : Value} {d : DataW H} {ps : List MemPlace} (hval : Value.okWide Tryz.prog W .any base 23 v) (h : DataW.Trod enc Tryz.prog W 0 (fun _ => true) true 23 v d ps) :
    ∃ l : List Int, VR (ctxW W) W (.isl (zA l) 0 l.length none true) v ∧ l.length ≤ maxLen ∧ ∀ z ∈ l, i64 z := by
  obtain ⟨fuel, hf⟩ := h
  obtain ⟨a0, len0, cap0, rfl⟩ := okWide_slice Tryz.underlying23 hval
  rcases Go.Deep.open_slice1 Tryz.underlying23 ball_cells hf with ⟨hc, hx⟩ | ⟨a, len, cap, m, n, V0, D0, P0, hc, _, hl, hm, hmm, hx, hall⟩
  · have hc' : [Value.slice a0 len0 cap0] = [.slice none 0 0] := hc
    simp only [List.cons.injEq, Value.slice.injEq, and_true] at hc'
    obtain ⟨rfl, rfl, rfl⟩ := hc'
    exact ⟨[], .isl0 _ _ _ _ _ _ (Nat.zero_le _) (fun n h => by cases h), Nat.zero_le _, (fun p h => by cases h)⟩
  · have hc' : [Value.slice a0 len0 cap0] = [.slice (some a) len cap] := hc
    simp only [List.cons.injEq, Value.slice.injEq, and_true] at hc'
    obtain ⟨rfl, rfl, rfl⟩ := hc'
    simp only [if_true] at hmm
    have each : ∀ i, i < len0 → ∃ z : Int, V0 i = .int .i64 z ∧ i64 z := fun i hi => by
      obtain ⟨_, h1⟩ := hall i (by omega)
      obtain ⟨z, e2, _, hw⟩ := DataW.trod_int Tryz.underlying2 h1
      simp only [List.cons.injEq, and_true] at e2
      exact ⟨z, e2, ball_i64 hw⟩
    obtain ⟨q, hq⟩ := Go.Deep.choose_lt each
    have hll : ((List.range len0).map q).length = len0 := by simp
    have hat : ∀ i, i < len0 → ((List.range len0).map q)[i]? = some (q i) := fun i hi => by simp [hi]
    have hcap : cap0 ≤ 9223372036854775807 := by unfold maxLen at hm; omega
    refine ⟨(List.range len0).map q, ?_, by rw [hll]; omega, fun p hp => ?_⟩
    · rw [hll]
      by_cases h0 : len0 = 0
      · subst h0
        exact .isl0 _ _ _ _ _ _ hcap (fun n h => by cases h)
      · obtain ⟨b, o, spot⟩ := a
        have hspot : spot = none := by simpa [Addr.add] using World.cell?_spot (hall 0 (by omega)).1
        subst hspot
        have hcell : ∀ j, j < len0 → W.cell? ⟨b, o + j, none⟩ = some (V0 j) := fun j hj => by
          have h1 := (hall j (by omega)).1
          rw [ball_add] at h1
          exact h1
        refine VR.isl (c := ctxW W) (w := W) (zA ((List.range len0).map q)) 0 len0 none true b o cap0 V0 (fun _ => ball_closed _) (cellW_lt (hcell 0 (by omega))) hl hcap (fun n h => by cases h) (fun j hj => hcell j (by rw [ball_len, hll] at hj; exact hj)) (fun j x hx => ?_)
        have hj : j < len0 := by
          have := (List.getElem?_eq_some_iff.1 hx).1
          rw [ball_len, hll] at this
          exact this
        unfold zA at hx
        rw [List.getElem?_map, hat j hj] at hx
        cases hx
        rw [(hq j hj).1]
        exact .int _ _
    · obtain ⟨i, hi, rfl⟩ := List.mem_map.1 hp
      exact (hq i (List.mem_range.1 hi)).2
theorem ball_same {W W' : World} (hk : AM.Kept W W') {p : MemPlace} (hp : p.block < W.heap.size) : W.sameAt W' p := by
  cases p with
  | cell b o => exact World.cell?_of_block (w := W) (hk.old b hp)
  | map b => exact hk.old b hp
theorem ball_calls (a : Int) (l : List Int) (v : Value) (ha : i64 a) (hi : ∀ z ∈ l, i64 z) (W : World) (hL : laidMetH Tryz.prog laidL W) (h1 : l.length ≤ maxLen) (hv : VR (ctxW W) W (.isl (zA l) 0 l.length none true) v) : Calls Tryz.prog 5 #[.int .i64 a, v] W fun e w' => e = .returned (.bool true) ∧ AM.Kept W w' := by
  unfold maxLen at h1
  refine (calls_of (ball_has a ha l hi (by omega) []) (rel_ctxW W) (glob_of_laid hL) ⟨rfl, fun j x y hx hy => ?_⟩ (enters_of Tryz.func5 (by kernel_rfl) rfl _ W)).mono ?_
  · match j with
    | 0 => cases hx; cases hy; exact .int _ _
    | 1 => cases hx; cases hy; exact hv
    | j + 2 => simp at hx
  · rintro e w' ⟨cv, c', rfl, _, p, hv⟩
    cases hv
    exact ⟨rfl, p.kept⟩
theorem ball_laidOut : laidOutB Tryz.prog = true := by kernel_rfl
theorem ball_read : Tryz.prog.readableRec 23 = true := by kernel_rfl
theorem ball_rowed : 23 < Tryz.prog.types.size := of_decide_eq_true (by kernel_rfl)

set_option maxRecDepth 100000 in
theorem ball_lifted (os : Os) (started : os.Started) (H : Type) (enc : TypeId × Value → H) :
    ReturnsInHanded {} Tryz.checked os 5 .any (fun w args => (Rows.blockAllSpec.pre enc Tryz.prog Tryz.f5 Rows.blockAllRow.domain false w args ∧ laidMetH Tryz.prog laidL w) ∧ sizedMet enc Tryz.prog Tryz.f5 (OpenSpec.ofChange Rows.blockAllSpec) false w args)
      (Rows.blockAllSpec.post enc Tryz.prog Tryz.f5 false true false false) := by
  refine returnsInHanded_of_change_and (C := Tryz.checked) (X := fun w _ => laidMetH Tryz.prog laidL w) (fun _ _ _ hh h => h.of_heap hh) ball_own started (by kernel_rfl) Tryz.func5
    (ChangeSpec.witness_shaped (enc := enc) (C := Tryz.checked) (os := os) (X := fun w _ => laidMetH Tryz.prog laidL w) false (witW os) #[.int .i64 0, .slice none 0 0] 8 (witW_os _)
      (witW_shaped os) (by kernel_rfl) (by kernel_rfl) (by kernel_rfl) (witW_met os _)) ?_
  intro W base args ds gs before hval0 hW hc _ hL _
  have hval : ∀ (j : Nat) t v, Tryz.f5.params[j]? = some t → args[j]? = some v → Value.okWide Tryz.prog W .any base t v := hval0
  have hW' := hW
  obtain ⟨p, q, hA0, hV, rfl, _, _⟩ := hW
  have hA : DataW.TrodAll enc Tryz.prog W 0 (fun _ => true) true Tryz.f5.params.toList args.toList ds p := hA0
  rw [Tryz.params5] at hA hval
  obtain ⟨v0, v1, d0, d1, p0, p1, rfl, rfl, rfl, h0, h1⟩ := trodAll_two hA
  obtain ⟨rfl, rfl⟩ := trodVars_none hV
  obtain ⟨x, rfl, rfl, rfl, wx⟩ := open_int Tryz.underlying2 (hval 0 2 v0 rfl rfl) h0
  simp only [List.append_nil, List.nil_append] at hW'
  obtain ⟨l, rl, ml, il⟩ := ball_ints (hval 1 23 v1 rfl rfl) h1
  refine (ball_calls x l v1 (ball_i64 wx) il W hL ml rl).mono fun e W' ⟨he, hk⟩ => ?_
  subst he
  exact ⟨_, rfl, post_of_kept (pa := p1) (pv := []) hW' (fun _ _ _ => trodAll_mk1 (shut_bool Tryz.underlying4 _))
    (fun sp hsp => by exact trodAll_mk2 (p := []) (p' := p1) (shut_int Tryz.underlying2 wx) (Go.WideElems.Trod_stays ball_laidOut ball_read ball_rowed h1 (fun x hx => ball_same hk (hW'.lt x hx)) (fun x hx => hsp x hx))) (fun _ _ => rfl) (by simp)
    hk (ok_one (by kernel_rfl) rfl (okWide_bool_mk Tryz.underlying4 _))⟩

theorem ball_row : Rows.BlockAllSaid :=
  OpenClaim.holds_of_wide 5 Tryz.f5 rfl rfl rfl rfl rfl rfl rfl ⟨rfl, rfl, rfl, rfl, rfl⟩ rfl rfl rfl rfl rfl (by kernel_rfl) Tryz.func5 blockAll.facts
    (of_decide_eq_true (by kernel_rfl)) (by unfold Func.isWrapper; first | (rw [if_pos (by decide +kernel)]; kernel_rfl) | (rw [if_neg (by decide +kernel)]; exact ⟨rfl, rfl⟩))
    (fun os started H enc _ => ball_lifted os started H enc)

theorem ball_tie : Rows.blockAllRow.laidByTextAt .later Tryz.pinned [.pinned, .data, .sentinel, .sentinel, .data, .data, .data, .handle] true :=
  OpenClaim.laidByTextAt_pinned rfl rfl tieL rfl rfl rfl rfl (fun y hy _e => by
    simp only [Rows.blockAllRow, List.zip_cons_cons, List.zip_nil_right, List.mem_cons, List.mem_nil_iff, or_false] at hy
    rcases hy with rfl | rfl | rfl | rfl | rfl | rfl | rfl | rfl
    · exact ⟨tPin, by kernel_rfl⟩
    · cases _e
    · cases _e
    · cases _e
    · cases _e
    · cases _e
    · cases _e
    · cases _e) tFits
theorem ball_wf : Rows.blockAllRow.wfByText (OpenSpec.ofChange Rows.blockAllSpec) = true := by kernel_rfl
theorem ball_main : Tryz.pinned.checked.prog.mainIs = some (true, Rows.blockAllCard.stood.harness.2.toList) := by kernel_rfl
theorem ball_params : ∀ (j : Nat) (t : TypeId), Tryz.f5.params[j]? = some t → Tryz.prog.wantsStandIn t = false := fun j t ht => by
  rw [Tryz.params5] at ht
  have hm : t ∈ [2, 23] := by
    have := Array.mem_of_getElem? ht
    simpa using this
  have hall : ([2, 23].all fun u => !Tryz.prog.wantsStandIn u) = true := by kernel_rfl
  exact (show Tryz.prog.wantsStandIn t = false by simpa using List.all_eq_true.1 hall t hm)
theorem ball_card : Rows.BlockAllCardSaid :=
  Claim7.holds_tied_plain_at .later [] [.pinned, .data, .sentinel, .sentinel, .data, .data, .data, .handle] true Rows.blockAllCard.stood.harness true
    ball_row (fun _ h => by cases h) ball_wf (fun _ h => by cases h) ball_tie rfl ⟨rfl, rfl⟩ ball_main rfl
    (fun f fn hf hfn => by
      obtain rfl : f = 5 := Option.some.inj ((show Tryz.prog.funcNamed "rentier/rentierlaw23.BlockAll" = some 5 by kernel_rfl).symm.trans hf) |>.symm
      obtain rfl : fn = Tryz.f5 := (Option.some.inj (Tryz.func5.symm.trans hfn)).symm
      exact ⟨tLooks, ball_params⟩)
    (goesBy_none noGo rfl)
#print axioms ball_card
end Go.Proofs.YtjlmihjhakfchaaGreatDoor

