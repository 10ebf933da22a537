/- Part of a proof over the program's translation: LedgerBack: the row and the card. No condition beside the row's own: what the listed package variables hold. -/
import Derived.Test.YtgpgegkoihalnaaGreatDoorCards
import Derived.WalkKit
import Derived.ProofKit
import Derived.OpenShut
import Derived.LaidMore
import Derived.Lay
import Derived.SevenTiedAt
import Derived.Stop.Joined
import Derived.Deep.SlicePairs
import Derived.WideKeyArgs
import Derived.Test.YtgpgegkoihalnaaGreatDoorTi2
import Derived.Test.YtgpgegkoihalnaaGreatDoorRo1
import Derived.Test.YtgpgegkoihalnaaGreatDoorN8
import Derived.Test.YtgpgegkoihalnaaGreatDoorN10
import Derived.Test.YtgpgegkoihalnaaGreatDoorA9
import Derived.Test.YtgpgegkoihalnaaGreatDoorBackFa
/- LedgerBack: the row and the card. No condition beside the row's own: what the listed package variables hold. -/
namespace Go.Proofs.YtgpgegkoihalnaaGreatDoor
open Go Go.ChangeShapes Go.WideShapes Go.ChangeAt Go.RowKit Go.AM Go.AM.C
set_option linter.unusedVariables false

theorem back_own : ownKnob Tryz.prog.godebug = none := by kernel_rfl

/-! #### a row of postings -/
theorem wf_i64 {n : Int} (h : (Lit.int .i64 n).wf = true) : i64 n := by
  have h1 : (decide (IntKind.i64.min ≤ n) && decide (n ≤ IntKind.i64.max)) = true := h
  have e1 : IntKind.i64.min = -9223372036854775808 := rfl
  have e2 : IntKind.i64.max = 9223372036854775807 := rfl
  rw [e1, e2, Bool.and_eq_true, decide_eq_true_eq, decide_eq_true_eq] at h1
  unfold i64
  omega
theorem add_none (b o j : Nat) : (⟨b, o, none⟩ : Addr).add j = ⟨b, o + j, none⟩ := by
  by_cases h : j = 0
  · simp [Addr.add, h]
  · simp [Addr.add, h]
theorem cells2 : Tryz.prog.cellsOf 40 = 2 := by kernel_rfl
theorem cells1s : Tryz.prog.cellsOf 9 = 1 := by kernel_rfl
theorem cells1i : Tryz.prog.cellsOf 2 = 1 := by kernel_rfl
set_option maxRecDepth 100000 in
theorem posts_of {H : Type} {enc : TypeId × Value → H} {W : World} {base : Nat} {v : Value} {d : DataW H} {ps : List MemPlace} (hval : Value.okWide Tryz.prog W .any base 27 v) (h : DataW.Trod enc Tryz.prog W 0 (fun _ => true) true 27 v d ps) :
    ∃ l : Posts, VR (ctxW W) W (.isl (postC l) 0 l.length none true) v ∧ l.length ≤ maxLen ∧ ∀ p ∈ l, i64 p.2 := by
  obtain ⟨fuel, hf⟩ := h
  obtain ⟨a0, len0, cap0, rfl⟩ := okWide_slice Tryz.underlying27 hval
  rcases Go.Deep.open_slice_pairs Tryz.underlying27 Tryz.underlying40 cells2 rfl rfl cells1s cells1i hf with ⟨hc, hx⟩ | ⟨a, len, cap, m, n, V0, V1, D0, D1, P0, P1, hc, _, hl, hm, hmm, hx, hall⟩
  · have hc' : [Value.slice a0 len0 cap0] = [.slice none 0 0] := hc
    simp only [List.cons.injEq, Value.slice.injEq, and_true] at hc'
    obtain ⟨rfl, rfl, rfl⟩ := hc'
    exact ⟨[], .isl0 _ _ _ _ _ _ (Nat.zero_le _) (fun n h => by cases h), Nat.zero_le _, (fun p h => by cases h)⟩
  · have hc' : [Value.slice a0 len0 cap0] = [.slice (some a) len cap] := hc
    simp only [List.cons.injEq, Value.slice.injEq, and_true] at hc'
    obtain ⟨rfl, rfl, rfl⟩ := hc'
    simp only [if_true] at hmm
    have each : ∀ i, i < len0 → ∃ q : List UInt8 × Int, (∃ s : ByteArray, V0 i = .string s ∧ s.data.toList = q.1) ∧ V1 i = .int .i64 q.2 ∧ i64 q.2 := fun i hi => by
      obtain ⟨_, _, h1, h2⟩ := hall i (by omega)
      obtain ⟨s, e1, _, _⟩ := DataW.trod_string Tryz.underlying9 h1
      obtain ⟨z, e2, _, hw⟩ := DataW.trod_int Tryz.underlying2 h2
      simp only [List.cons.injEq, and_true] at e1 e2
      exact ⟨(s.data.toList, z), ⟨s, e1, rfl⟩, e2, wf_i64 hw⟩
    obtain ⟨q, hq⟩ := Go.Deep.choose_lt each
    have hll : ((List.range len0).map q).length = len0 := by simp
    have hat : ∀ i, i < len0 → ((List.range len0).map q)[i]? = some (q i) := fun i hi => by simp [hi]
    have hcap : cap0 ≤ 9223372036854775807 := by unfold maxLen at hm; omega
    refine ⟨(List.range len0).map q, ?_, by rw [hll]; omega, fun p hp => ?_⟩
    · rw [hll]
      by_cases h0 : len0 = 0
      · subst h0
        exact .isl0 _ _ _ _ _ _ hcap (fun n h => by cases h)
      · obtain ⟨b, o, spot⟩ := a
        have hspot : spot = none := by simpa [Addr.add] using World.cell?_spot (hall 0 (by omega)).1
        subst hspot
        have hcell : ∀ j, j < len0 * 2 → W.cell? ⟨b, o + j, none⟩ = some (if j % 2 = 0 then V0 (j / 2) else V1 (j / 2)) := fun j hj => by
          obtain ⟨h1, h2, _, _⟩ := hall (j / 2) (by omega)
          by_cases hj2 : j % 2 = 0
          · rw [if_pos hj2]
            have e : j / 2 * 2 = j := by omega
            rw [e] at h1
            rw [add_none] at h1
            exact h1
          · rw [if_neg hj2]
            have e : j / 2 * 2 + 1 = j := by omega
            rw [e] at h2
            rw [add_none] at h2
            exact h2
        refine VR.isl (c := ctxW W) (w := W) (postC ((List.range len0).map q)) 0 len0 none true b o cap0 (fun j => if j % 2 = 0 then V0 (j / 2) else V1 (j / 2)) (fun _ => postC_closed _) (cellW_lt (hcell 0 (by omega))) hl hcap (fun n h => by cases h) (fun j hj => hcell j (by rw [postC_len, hll] at hj; exact hj)) (fun j x hx => ?_)
        have hj : j < len0 * 2 := by
          have := (List.getElem?_eq_some_iff.1 hx).1
          rw [postC_len, hll] at this
          exact this
        obtain ⟨g1, g2⟩ := postC_at _ _ _ (hat (j / 2) (by omega))
        obtain ⟨⟨s, e1, e2⟩, e3, _⟩ := hq (j / 2) (by omega)
        by_cases hj2 : j % 2 = 0
        · have e : j / 2 * 2 = j := by omega
          rw [e, hx] at g1
          cases g1
          simp only [if_pos hj2]
          rw [e1]
          exact .str _ s e2
        · have e : j / 2 * 2 + 1 = j := by omega
          rw [e, hx] at g2
          cases g2
          simp only [if_neg hj2]
          rw [e3]
          exact .int _ _
    · obtain ⟨i, hi, rfl⟩ := List.mem_map.1 hp
      exact (hq i (List.mem_range.1 hi)).2.2
theorem kept_same {W W' : World} (hk : AM.Kept W W') {p : MemPlace} (hp : p.block < W.heap.size) : W.sameAt W' p := by
  cases p with
  | cell b o => exact World.cell?_of_block (w := W) (hk.old b hp)
  | map b => exact hk.old b hp
theorem back_calls (la lb : Posts) (va vb : Value) (W : World) (hL : laidMetH Tryz.prog laidL W) (h1 : la.length ≤ maxLen) (h2 : lb.length ≤ maxLen) (i1 : ∀ p ∈ la, i64 p.2) (i2 : ∀ p ∈ lb, i64 p.2) (ha : VR (ctxW W) W (.isl (postC la) 0 la.length none true) va) (hb : VR (ctxW W) W (.isl (postC lb) 0 lb.length none true) vb) :
    Calls Tryz.prog 4 #[va, vb] W fun e w' => e = .returned (.bool true) ∧ AM.Kept W w' := by
  unfold maxLen at h1 h2
  refine (calls_of (back_has la lb (by omega) (by omega) i1 i2 []) (rel_ctxW W) (glob_of_laid hL) ⟨rfl, fun j x y hx hy => ?_⟩ (enters_of Tryz.func4 (by kernel_rfl) rfl _ W)).mono ?_
  · match j with
    | 0 => cases hx; cases hy; exact ha
    | 1 => cases hx; cases hy; exact hb
    | j + 2 => simp at hx
  · rintro e w' ⟨cv, c', rfl, _, p, hv⟩
    cases hv
    exact ⟨rfl, p.kept⟩
theorem back_laidOut : laidOutB Tryz.prog = true := by kernel_rfl
theorem back_read : Tryz.prog.readableRec 27 = true := by kernel_rfl
theorem back_rowed : 27 < Tryz.prog.types.size := of_decide_eq_true (by kernel_rfl)

set_option maxRecDepth 100000 in
theorem back_lifted (os : Os) (started : os.Started) (H : Type) (enc : TypeId × Value → H) :
    ReturnsInHanded {} Tryz.checked os 4 .any (fun w args => (Rows.ledgerBackSpec.pre enc Tryz.prog Tryz.f4 Rows.ledgerBackRow.domain false w args ∧ laidMetH Tryz.prog laidL w) ∧ sizedMet enc Tryz.prog Tryz.f4 (OpenSpec.ofChange Rows.ledgerBackSpec) false w args)
      (Rows.ledgerBackSpec.post enc Tryz.prog Tryz.f4 false true false false) := by
  refine returnsInHanded_of_change_and (C := Tryz.checked) (X := fun w _ => laidMetH Tryz.prog laidL w) (fun _ _ _ hh h => h.of_heap hh) back_own started (by kernel_rfl) Tryz.func4
    (ChangeSpec.witness_shaped (enc := enc) (C := Tryz.checked) (os := os) (X := fun w _ => laidMetH Tryz.prog laidL w) false (witW os) #[.slice none 0 0, .slice none 0 0] 8 (witW_os _)
      (witW_shaped os) (by kernel_rfl) (by kernel_rfl) (by kernel_rfl) (witW_met os _)) ?_
  intro W base args ds gs before hval0 hW hc _ hL _
  have hval : ∀ (j : Nat) t v, Tryz.f4.params[j]? = some t → args[j]? = some v → Value.okWide Tryz.prog W .any base t v := hval0
  have hW' := hW
  obtain ⟨p, q, hA0, hV, rfl, _, _⟩ := hW
  have hA : DataW.TrodAll enc Tryz.prog W 0 (fun _ => true) true Tryz.f4.params.toList args.toList ds p := hA0
  rw [Tryz.params4] at hA hval
  obtain ⟨v0, v1, d0, d1, p0, p1, rfl, rfl, rfl, h0, h1⟩ := trodAll_two hA
  obtain ⟨rfl, rfl⟩ := trodVars_none hV
  simp only [List.append_nil] at hW'
  obtain ⟨la, ra, ma, ia⟩ := posts_of (hval 0 27 v0 rfl rfl) h0
  obtain ⟨lb, rb, mb, ib⟩ := posts_of (hval 1 27 v1 rfl rfl) h1
  refine (back_calls la lb v0 v1 W hL ma mb ia ib ra rb).mono fun e W' ⟨he, hk⟩ => ?_
  subst he
  exact ⟨_, rfl, post_of_kept (pa := p0 ++ p1) (pv := []) hW' (fun _ _ _ => trodAll_mk1 (shut_bool Tryz.underlying4 _))
    (fun sp hsp => trodAll_mk2 (Go.WideElems.Trod_stays back_laidOut back_read back_rowed h0 (fun x hx => kept_same hk (hW'.lt x (List.mem_append_left _ hx))) (fun x hx => hsp x (List.mem_append_left _ hx)))
      (Go.WideElems.Trod_stays back_laidOut back_read back_rowed h1 (fun x hx => kept_same hk (hW'.lt x (List.mem_append_right _ hx))) (fun x hx => hsp x (List.mem_append_right _ hx)))) (fun _ _ => rfl) (by rw [List.append_nil])
    hk (ok_one (by kernel_rfl) rfl (okWide_bool_mk Tryz.underlying4 _))⟩

theorem back_row : Rows.LedgerBackSaid :=
  OpenClaim.holds_of_wide 4 Tryz.f4 rfl rfl rfl rfl rfl rfl rfl ⟨rfl, rfl, rfl, rfl, rfl⟩ rfl rfl rfl rfl rfl (by kernel_rfl) Tryz.func4 ledgerBack.facts
    (of_decide_eq_true (by kernel_rfl)) (by unfold Func.isWrapper; first | (rw [if_pos (by decide +kernel)]; kernel_rfl) | (rw [if_neg (by decide +kernel)]; exact ⟨rfl, rfl⟩))
    (fun os started H enc _ => back_lifted os started H enc)

theorem back_tie : Rows.ledgerBackRow.laidByTextAt .later Tryz.pinned [.pinned, .data, .sentinel, .sentinel, .data, .data, .data, .handle] true :=
  OpenClaim.laidByTextAt_pinned rfl rfl tieL rfl rfl rfl rfl (fun y hy _e => by
    simp only [Rows.ledgerBackRow, List.zip_cons_cons, List.zip_nil_right, List.mem_cons, List.mem_nil_iff, or_false] at hy
    rcases hy with rfl | rfl | rfl | rfl | rfl | rfl | rfl | rfl
    · exact ⟨tPin, by kernel_rfl⟩
    · cases _e
    · cases _e
    · cases _e
    · cases _e
    · cases _e
    · cases _e
    · cases _e) tFits
theorem back_wf : Rows.ledgerBackRow.wfByText (OpenSpec.ofChange Rows.ledgerBackSpec) = true := by kernel_rfl
theorem back_main : Tryz.pinned.checked.prog.mainIs = some (true, Rows.ledgerBackCard.stood.harness.2.toList) := by kernel_rfl
theorem back_params : ∀ (j : Nat) (t : TypeId), Tryz.f4.params[j]? = some t → Tryz.prog.wantsStandIn t = false := fun j t ht => by
  rw [Tryz.params4] at ht
  have hm : t ∈ [27] := by
    have := Array.mem_of_getElem? ht
    simpa using this
  have hall : ([27].all fun u => !Tryz.prog.wantsStandIn u) = true := by kernel_rfl
  exact (show Tryz.prog.wantsStandIn t = false by simpa using List.all_eq_true.1 hall t hm)
theorem back_card : Rows.LedgerBackCardSaid :=
  Claim7.holds_tied_plain_at .later [] [.pinned, .data, .sentinel, .sentinel, .data, .data, .data, .handle] true Rows.ledgerBackCard.stood.harness true
    back_row (fun _ h => by cases h) back_wf (fun _ h => by cases h) back_tie rfl ⟨rfl, rfl⟩ back_main rfl
    (fun f fn hf hfn => by
      obtain rfl : f = 4 := Option.some.inj ((show Tryz.prog.funcNamed "rentier/rentierlaw23.LedgerBack" = some 4 by kernel_rfl).symm.trans hf) |>.symm
      obtain rfl : fn = Tryz.f4 := (Option.some.inj (Tryz.func4.symm.trans hfn)).symm
      exact ⟨tLooks, back_params⟩)
    (goesBy_none noGo rfl)
#print axioms back_card
end Go.Proofs.YtgpgegkoihalnaaGreatDoor

