/- Part of a proof over the program's translation: LedgerAll: the row and the card. No condition beside the row's own: what the listed package variables hold. -/
import Derived.Test.YtooafhbgdhjijaaGreatDoorCards
import Derived.WalkKit
import Derived.ProofKit
import Derived.OpenShut
import Derived.LaidMore
import Derived.Lay
import Derived.SevenTiedAt
import Derived.Stop.Joined
import Derived.Deep.SlicePairs
import Derived.Deep.Slices
import Derived.WideKeyArgs
import Derived.Test.YtooafhbgdhjijaaGreatDoorTi2
import Derived.Test.YtooafhbgdhjijaaGreatDoorAllFa
import Derived.Test.YtooafhbgdhjijaaGreatDoorRo1
import Derived.Test.YtooafhbgdhjijaaGreatDoorN8
import Derived.Test.YtooafhbgdhjijaaGreatDoorN11
import Derived.Test.YtooafhbgdhjijaaGreatDoorA9
/- LedgerAll: the row and the card. No condition beside the row's own: what the listed package variables hold. -/
namespace Go.Proofs.YtooafhbgdhjijaaGreatDoor
open Go Go.ChangeShapes Go.WideShapes Go.ChangeAt Go.RowKit Go.AM Go.AM.C
set_option linter.unusedVariables false

theorem lall_own : ownKnob Tryz.prog.godebug = none := by kernel_rfl

/-! #### a row of operations -/
theorem la_i64 {n : Int} (h : (Lit.int .i64 n).wf = true) : i64 n := by
  have h1 : (decide (IntKind.i64.min ≤ n) && decide (n ≤ IntKind.i64.max)) = true := h
  have e1 : IntKind.i64.min = -9223372036854775808 := rfl
  have e2 : IntKind.i64.max = 9223372036854775807 := rfl
  rw [e1, e2, Bool.and_eq_true, decide_eq_true_eq, decide_eq_true_eq] at h1
  unfold i64
  omega
theorem la_add (b o j : Nat) : (⟨b, o, none⟩ : Addr).add j = ⟨b, o + j, none⟩ := by
  by_cases h : j = 0
  · simp [Addr.add, h]
  · simp [Addr.add, h]
theorem la_cells2 : Tryz.prog.cellsOf 40 = 2 := by kernel_rfl
theorem la_cells1s : Tryz.prog.cellsOf 9 = 1 := by kernel_rfl
theorem la_cells1i : Tryz.prog.cellsOf 2 = 1 := by kernel_rfl
set_option maxRecDepth 100000 in
theorem la_posts {H : Type} {enc : TypeId × Value → H} {W : World} {v : Value} {fuel : Nat} {x : DataW H × List MemPlace} (hf : DataW.trod enc Tryz.prog W 0 (fun _ => true) true fuel 27 [v] = some x) :
    ∃ l : Posts, VR (ctxW W) W (islP l) v ∧ l.length ≤ maxLen ∧ ∀ p ∈ l, i64 p.2 := by
  unfold islP
  rcases Go.Deep.open_slice_pairs Tryz.underlying27 Tryz.underlying40 la_cells2 rfl rfl la_cells1s la_cells1i hf with ⟨hc, hx⟩ | ⟨a, len, cap, m, n, V0, V1, D0, D1, P0, P1, hc, _, hl, hm, hmm, hx, hall⟩
  · simp only [List.cons.injEq, and_true] at hc
    subst hc
    exact ⟨[], .isl0 _ _ _ _ _ _ (Nat.zero_le _) (fun n h => by cases h), Nat.zero_le _, (fun p h => by cases h)⟩
  · simp only [List.cons.injEq, and_true] at hc
    subst hc
    simp only [if_true] at hmm
    have each : ∀ i, i < len → ∃ q : List UInt8 × Int, (∃ s : ByteArray, V0 i = .string s ∧ s.data.toList = q.1) ∧ V1 i = .int .i64 q.2 ∧ i64 q.2 := fun i hi => by
      obtain ⟨_, _, h1, h2⟩ := hall i (by omega)
      obtain ⟨s, e1, _, _⟩ := DataW.trod_string Tryz.underlying9 h1
      obtain ⟨z, e2, _, hw⟩ := DataW.trod_int Tryz.underlying2 h2
      simp only [List.cons.injEq, and_true] at e1 e2
      exact ⟨(s.data.toList, z), ⟨s, e1, rfl⟩, e2, la_i64 hw⟩
    obtain ⟨q, hq⟩ := Go.Deep.choose_lt each
    have hll : ((List.range len).map q).length = len := by simp
    have hat : ∀ i, i < len → ((List.range len).map q)[i]? = some (q i) := fun i hi => by simp [hi]
    have hcap : cap ≤ 9223372036854775807 := by unfold maxLen at hm; omega
    refine ⟨(List.range len).map q, ?_, by rw [hll]; omega, fun p hp => ?_⟩
    · rw [hll]
      by_cases h0 : len = 0
      · subst h0
        exact .isl0 _ _ _ _ _ _ hcap (fun n h => by cases h)
      · obtain ⟨b, o, spot⟩ := a
        have hspot : spot = none := by simpa [Addr.add] using World.cell?_spot (hall 0 (by omega)).1
        subst hspot
        have hcell : ∀ j, j < len * 2 → W.cell? ⟨b, o + j, none⟩ = some (if j % 2 = 0 then V0 (j / 2) else V1 (j / 2)) := fun j hj => by
          obtain ⟨h1, h2, _, _⟩ := hall (j / 2) (by omega)
          by_cases hj2 : j % 2 = 0
          · rw [if_pos hj2]
            have e : j / 2 * 2 = j := by omega
            rw [e] at h1
            rw [la_add] at h1
            exact h1
          · rw [if_neg hj2]
            have e : j / 2 * 2 + 1 = j := by omega
            rw [e] at h2
            rw [la_add] at h2
            exact h2
        refine VR.isl (c := ctxW W) (w := W) (postC ((List.range len).map q)) 0 len none true b o cap (fun j => if j % 2 = 0 then V0 (j / 2) else V1 (j / 2)) (fun _ => postC_closed _) (cellW_lt (hcell 0 (by omega))) hl hcap (fun n h => by cases h) (fun j hj => hcell j (by rw [postC_len, hll] at hj; exact hj)) (fun j x hx => ?_)
        have hj : j < len * 2 := by
          have := (List.getElem?_eq_some_iff.1 hx).1
          rw [postC_len, hll] at this
          exact this
        obtain ⟨g1, g2⟩ := postC_at _ _ _ (hat (j / 2) (by omega))
        obtain ⟨⟨s, e1, e2⟩, e3, _⟩ := hq (j / 2) (by omega)
        by_cases hj2 : j % 2 = 0
        · have e : j / 2 * 2 = j := by omega
          rw [e, hx] at g1
          cases g1
          simp only [if_pos hj2]
          rw [e1]
          exact .str _ s e2
        · have e : j / 2 * 2 + 1 = j := by omega
          rw [e, hx] at g2
          cases g2
          simp only [if_neg hj2]
          rw [e3]
          exact .int _ _
    · obtain ⟨i, hi, rfl⟩ := List.mem_map.1 hp
      exact (hq i (List.mem_range.1 hi)).2.2
theorem la_cells3 : Tryz.prog.cellsOf 32 = 3 := by kernel_rfl
theorem la_cellsk : Tryz.prog.cellsOf 3 = 1 := by kernel_rfl
theorem la_cellsp : Tryz.prog.cellsOf 27 = 1 := by kernel_rfl
theorem la_cellsb : Tryz.prog.cellsOf 4 = 1 := by kernel_rfl
/-- A slice whose elements are structs of three fields of one cell each, element by element. -/
theorem la_trips {H : Type} {enc : TypeId × Value → H} {P : Program} {w : World} {base : Nat} {spare : Nat → Bool} {held : Bool} {t e : TypeId} {f0 f1 f2 : Field} {fuel : Nat} {cs : List Value} {x : DataW H × List MemPlace} (ht : P.underlying t = some (.slice e)) (he : P.underlying e = some (.struct #[f0, f1, f2]))
    (ce : P.cellsOf e = 3) (o0 : f0.offset = 0) (o1 : f1.offset = 1) (o2 : f2.offset = 2) (c0 : P.cellsOf f0.type = 1) (c1 : P.cellsOf f1.type = 1) (c2 : P.cellsOf f2.type = 1) (h : DataW.trod enc P w base spare held fuel t cs = some x) :
    cs = [.slice none 0 0] ∨ ∃ (a : Addr) (len cap m : Nat), cs = [.slice (some a) len cap] ∧ len ≤ cap ∧ cap ≤ maxLen ∧ m = (if spare a.block then cap else len) ∧
      ∀ i, i < m → ∃ (v0 v1 v2 : Value) (n : Nat) (y0 y1 y2 : DataW H × List MemPlace), w.cell? (a.add (i * 3)) = some v0 ∧ w.cell? (a.add (i * 3 + 1)) = some v1 ∧ w.cell? (a.add (i * 3 + 2)) = some v2 ∧
        DataW.trod enc P w base spare held n f0.type [v0] = some y0 ∧ DataW.trod enc P w base spare held n f1.type [v1] = some y1 ∧ DataW.trod enc P w base spare held n f2.type [v2] = some y2 := by
  rcases Go.Deep.open_slice ht h with ⟨h0, _⟩ | ⟨a, len, cap, m, n, D, Pl, rfl, hb, hl, hm, hmm, rfl, hx⟩
  · exact .inl h0
  · refine .inr ⟨a, len, cap, m, rfl, hl, hm, hmm, fun i hi => ?_⟩
    obtain ⟨cs', h1, h2⟩ := hx i hi
    rw [ce] at h1
    obtain ⟨_, hlen, hcell⟩ := World.cells?_some h1
    obtain ⟨xs, k, hk, hxy, _, hxl, hf⟩ := DataW.trod_struct he h2
    match xs, hxl, cs', hlen with
    | [y0, y1, y2], _, [v0, v1, v2], _ =>
      have g0 := hf 0 f0 rfl
      have g1 := hf 1 f1 rfl
      have g2 := hf 2 f2 rfl
      simp [o0, o1, o2, c0, c1, c2] at g0 g1 g2
      have e0 := hcell 0 (by omega)
      have e1 := hcell 1 (by omega)
      have e2 := hcell 2 (by omega)
      rw [Go.Deep.add_add] at e0 e1 e2
      exact ⟨v0, v1, v2, k, y0, y1, y2, by simpa using e0, by simpa using e1, by simpa using e2, g0, g1, g2⟩
theorem opC_closed (l : Ops) : ∀ a ∈ opC l, a.closed1 = true := fun a ha => by
  obtain ⟨o, _, h⟩ := List.mem_flatMap.1 ha
  simp only [List.mem_cons, List.not_mem_nil, or_false] at h
  rcases h with rfl | rfl | rfl <;> rfl
set_option maxRecDepth 100000 in
theorem la_ops {H : Type} {enc : TypeId × Value → H} {W : World} {base : Nat} {v : Value} {d : DataW H} {ps : List MemPlace} (hval : Value.okWide Tryz.prog W .any base 22 v) (h : DataW.Trod enc Tryz.prog W 0 (fun _ => true) true 22 v d ps) :
    ∃ l : Ops, VR (ctxW W) W (.isl (opC l) 0 l.length none true) v ∧ l.length ≤ maxLen ∧ ∀ o ∈ l, (∀ p ∈ o.2.1, i64 p.2) ∧ o.2.1.length ≤ maxLen := by
  obtain ⟨fuel, hf⟩ := h
  obtain ⟨a0, len0, cap0, rfl⟩ := okWide_slice Tryz.underlying22 hval
  rcases la_trips Tryz.underlying22 Tryz.underlying32 la_cells3 rfl rfl rfl la_cellsk la_cellsp la_cellsb hf with hc | ⟨a, len, cap, m, hc, hl, hm, hmm, hall⟩
  · have hc' : [Value.slice a0 len0 cap0] = [.slice none 0 0] := hc
    simp only [List.cons.injEq, Value.slice.injEq, and_true] at hc'
    obtain ⟨rfl, rfl, rfl⟩ := hc'
    exact ⟨[], .isl0 _ _ _ _ _ _ (Nat.zero_le _) (fun n h => by cases h), Nat.zero_le _, (fun p h => by cases h)⟩
  · have hc' : [Value.slice a0 len0 cap0] = [.slice (some a) len cap] := hc
    simp only [List.cons.injEq, Value.slice.injEq, and_true] at hc'
    obtain ⟨rfl, rfl, rfl⟩ := hc'
    simp only [if_true] at hmm
    have each : ∀ i, i < len0 → ∃ q : (Int × Posts × Bool) × Value × Value × Value, W.cell? (a.add (i * 3)) = some q.2.1 ∧ W.cell? (a.add (i * 3 + 1)) = some q.2.2.1 ∧ W.cell? (a.add (i * 3 + 2)) = some q.2.2.2 ∧
        VR (ctxW W) W (iA q.1.1) q.2.1 ∧ VR (ctxW W) W (islP q.1.2.1) q.2.2.1 ∧ VR (ctxW W) W (.bool q.1.2.2) q.2.2.2 ∧ (∀ p ∈ q.1.2.1, i64 p.2) ∧ q.1.2.1.length ≤ maxLen := fun i hi => by
      obtain ⟨v0, v1, v2, n, y0, y1, y2, e0, e1, e2, g0, g1, g2⟩ := hall i (by omega)
      obtain ⟨z, z1, _, _⟩ := DataW.trod_int Tryz.underlying3 g0
      obtain ⟨l, l1, l2, l3⟩ := la_posts g1
      obtain ⟨b, b1, _⟩ := DataW.trod_bool Tryz.underlying4 g2
      simp only [List.cons.injEq, and_true] at z1 b1
      subst z1; subst b1
      exact ⟨((z, l, b), _, _, _), e0, e1, e2, .int _ _, l1, .bool _, l3, l2⟩
    obtain ⟨q, hq⟩ := Go.Deep.choose_lt each
    have hll : ((List.range len0).map fun i => (q i).1).length = len0 := by simp
    have hat : ∀ i, i < len0 → ((List.range len0).map fun i => (q i).1)[i]? = some (q i).1 := fun i hi => by simp [hi]
    have hcap : cap0 ≤ 9223372036854775807 := by unfold maxLen at hm; omega
    refine ⟨(List.range len0).map fun i => (q i).1, ?_, by rw [hll]; omega, fun o ho => ?_⟩
    · rw [hll]
      by_cases h0 : len0 = 0
      · subst h0
        exact .isl0 _ _ _ _ _ _ hcap (fun n h => by cases h)
      · obtain ⟨b, o, spot⟩ := a
        have hspot : spot = none := by simpa [Addr.add] using World.cell?_spot (hq 0 (by omega)).1
        subst hspot
        have hcell : ∀ j, j < len0 * 3 → W.cell? ⟨b, o + j, none⟩ = some (if j % 3 = 0 then (q (j / 3)).2.1 else if j % 3 = 1 then (q (j / 3)).2.2.1 else (q (j / 3)).2.2.2) := fun j hj => by
          obtain ⟨h1, h2, h3, _⟩ := hq (j / 3) (by omega)
          rw [la_add] at h1 h2 h3
          by_cases hj0 : j % 3 = 0
          · rw [if_pos hj0]
            rw [show o + j / 3 * 3 = o + j by omega] at h1
            exact h1
          · rw [if_neg hj0]
            by_cases hj1 : j % 3 = 1
            · rw [if_pos hj1]
              rw [show o + (j / 3 * 3 + 1) = o + j by omega] at h2
              exact h2
            · rw [if_neg hj1]
              rw [show o + (j / 3 * 3 + 2) = o + j by omega] at h3
              exact h3
        refine VR.isl (c := ctxW W) (w := W) (opC ((List.range len0).map fun i => (q i).1)) 0 len0 none true b o cap0 (fun j => if j % 3 = 0 then (q (j / 3)).2.1 else if j % 3 = 1 then (q (j / 3)).2.2.1 else (q (j / 3)).2.2.2) (fun _ => opC_closed _) (cellW_lt (hcell 0 (by omega))) hl hcap (fun n h => by cases h) (fun j hj => hcell j (by rw [opC_len, hll] at hj; exact hj)) (fun j x hx => ?_)
        have hj : j < len0 * 3 := by
          have := (List.getElem?_eq_some_iff.1 hx).1
          rw [opC_len, hll] at this
          exact this
        obtain ⟨g1, g2, g3⟩ := opC_at _ _ _ (hat (j / 3) (by omega))
        obtain ⟨_, _, _, r1, r2, r3, _⟩ := hq (j / 3) (by omega)
        by_cases hj0 : j % 3 = 0
        · rw [show j / 3 * 3 = j by omega, hx] at g1
          cases g1
          simp only [if_pos hj0]
          exact r1
        · by_cases hj1 : j % 3 = 1
          · rw [show j / 3 * 3 + 1 = j by omega, hx] at g2
            cases g2
            simp only [if_neg hj0, if_pos hj1]
            exact r2
          · rw [show j / 3 * 3 + 2 = j by omega, hx] at g3
            cases g3
            simp only [if_neg hj0, if_neg hj1]
            exact r3
    · obtain ⟨i, hi, rfl⟩ := List.mem_map.1 ho
      exact (hq i (List.mem_range.1 hi)).2.2.2.2.2.2
theorem la_kept {W W' : World} (hk : AM.Kept W W') {p : MemPlace} (hp : p.block < W.heap.size) : W.sameAt W' p := by
  cases p with
  | cell b o => exact World.cell?_of_block (w := W) (hk.old b hp)
  | map b => exact hk.old b hp
theorem lall_calls (l : Ops) (v : Value) (W : World) (hL : laidMetH Tryz.prog laidL W) (h1 : l.length ≤ maxLen) (h2 : ∀ o ∈ l, (∀ p ∈ o.2.1, i64 p.2) ∧ o.2.1.length ≤ maxLen) (hv : VR (ctxW W) W (.isl (opC l) 0 l.length none true) v) :
    Calls Tryz.prog 3 #[v] W fun e w' => e = .returned (.bool true) ∧ AM.Kept W w' := by
  unfold maxLen at h1 h2
  refine (calls_of (all_answers l (by omega) (fun o ho => ⟨(h2 o ho).1, by have := (h2 o ho).2; omega⟩) []) (rel_ctxW W) (glob_of_laid hL) ⟨rfl, fun j x y hx hy => ?_⟩ (enters_of Tryz.func3 (by kernel_rfl) rfl _ W)).mono ?_
  · match j with
    | 0 => cases hx; cases hy; exact hv
    | j + 1 => simp at hx
  · rintro e w' ⟨cv, c', rfl, _, p, hv⟩
    cases hv
    exact ⟨rfl, p.kept⟩
theorem lall_laidOut : laidOutB Tryz.prog = true := by kernel_rfl
theorem lall_read : Tryz.prog.readableRec 22 = true := by kernel_rfl
theorem lall_rowed : 22 < Tryz.prog.types.size := of_decide_eq_true (by kernel_rfl)

set_option maxRecDepth 100000 in
theorem lall_lifted (os : Os) (started : os.Started) (H : Type) (enc : TypeId × Value → H) :
    ReturnsInHanded {} Tryz.checked os 3 .any (fun w args => (Rows.ledgerAllSpec.pre enc Tryz.prog Tryz.f3 Rows.ledgerAllRow.domain false w args ∧ laidMetH Tryz.prog laidL w) ∧ sizedMet enc Tryz.prog Tryz.f3 (OpenSpec.ofChange Rows.ledgerAllSpec) false w args)
      (Rows.ledgerAllSpec.post enc Tryz.prog Tryz.f3 false true false false) := by
  refine returnsInHanded_of_change_and (C := Tryz.checked) (X := fun w _ => laidMetH Tryz.prog laidL w) (fun _ _ _ hh h => h.of_heap hh) lall_own started (by kernel_rfl) Tryz.func3
    (ChangeSpec.witness_shaped (enc := enc) (C := Tryz.checked) (os := os) (X := fun w _ => laidMetH Tryz.prog laidL w) false (witW os) #[.slice none 0 0] 8 (witW_os _)
      (witW_shaped os) (by kernel_rfl) (by kernel_rfl) (by kernel_rfl) (witW_met os _)) ?_
  intro W base args ds gs before hval0 hW hc _ hL _
  have hval : ∀ (j : Nat) t v, Tryz.f3.params[j]? = some t → args[j]? = some v → Value.okWide Tryz.prog W .any base t v := hval0
  have hW' := hW
  obtain ⟨p, q, hA0, hV, rfl, _, _⟩ := hW
  have hA : DataW.TrodAll enc Tryz.prog W 0 (fun _ => true) true Tryz.f3.params.toList args.toList ds p := hA0
  rw [Tryz.params3] at hA hval
  obtain ⟨v0, d0, rfl, rfl, h0⟩ := trodAll_one hA
  obtain ⟨rfl, rfl⟩ := trodVars_none hV
  simp only [List.append_nil] at hW'
  obtain ⟨l, r, ml, il⟩ := la_ops (hval 0 22 v0 rfl rfl) h0
  refine (lall_calls l v0 W hL ml il r).mono fun e W' ⟨he, hk⟩ => ?_
  subst he
  exact ⟨_, rfl, post_of_kept (pa := p) (pv := []) hW' (fun _ _ _ => trodAll_mk1 (shut_bool Tryz.underlying4 _))
    (fun sp hsp => trodAll_mk1 (Go.WideElems.Trod_stays lall_laidOut lall_read lall_rowed h0 (fun x hx => la_kept hk (hW'.lt x hx)) (fun x hx => hsp x hx))) (fun _ _ => rfl) (by rw [List.append_nil])
    hk (ok_one (by kernel_rfl) rfl (okWide_bool_mk Tryz.underlying4 _))⟩

theorem lall_row : Rows.LedgerAllSaid :=
  OpenClaim.holds_of_wide 3 Tryz.f3 rfl rfl rfl rfl rfl rfl rfl ⟨rfl, rfl, rfl, rfl, rfl⟩ rfl rfl rfl rfl rfl (by kernel_rfl) Tryz.func3 ledgerAll.facts
    (of_decide_eq_true (by kernel_rfl)) (by unfold Func.isWrapper; first | (rw [if_pos (by decide +kernel)]; kernel_rfl) | (rw [if_neg (by decide +kernel)]; exact ⟨rfl, rfl⟩))
    (fun os started H enc _ => lall_lifted os started H enc)

theorem lall_tie : Rows.ledgerAllRow.laidByTextAt .later Tryz.pinned [.pinned, .data, .sentinel, .sentinel, .data, .data, .data, .handle] true :=
  OpenClaim.laidByTextAt_pinned rfl rfl tieL rfl rfl rfl rfl (fun y hy _e => by
    simp only [Rows.ledgerAllRow, List.zip_cons_cons, List.zip_nil_right, List.mem_cons, List.mem_nil_iff, or_false] at hy
    rcases hy with rfl | rfl | rfl | rfl | rfl | rfl | rfl | rfl
    · exact ⟨tPin, by kernel_rfl⟩
    · cases _e
    · cases _e
    · cases _e
    · cases _e
    · cases _e
    · cases _e
    · cases _e) tFits
theorem lall_wf : Rows.ledgerAllRow.wfByText (OpenSpec.ofChange Rows.ledgerAllSpec) = true := by kernel_rfl
theorem lall_main : Tryz.pinned.checked.prog.mainIs = some (true, Rows.ledgerAllCard.stood.harness.2.toList) := by kernel_rfl
theorem lall_params : ∀ (j : Nat) (t : TypeId), Tryz.f3.params[j]? = some t → Tryz.prog.wantsStandIn t = false := fun j t ht => by
  rw [Tryz.params3] at ht
  have hm : t ∈ [22] := by
    have := Array.mem_of_getElem? ht
    simpa using this
  have hall : ([22].all fun u => !Tryz.prog.wantsStandIn u) = true := by kernel_rfl
  exact (show Tryz.prog.wantsStandIn t = false by simpa using List.all_eq_true.1 hall t hm)
theorem lall_card : Rows.LedgerAllCardSaid :=
  Claim7.holds_tied_plain_at .later [] [.pinned, .data, .sentinel, .sentinel, .data, .data, .data, .handle] true Rows.ledgerAllCard.stood.harness true
    lall_row (fun _ h => by cases h) lall_wf (fun _ h => by cases h) lall_tie rfl ⟨rfl, rfl⟩ lall_main rfl
    (fun f fn hf hfn => by
      obtain rfl : f = 3 := Option.some.inj ((show Tryz.prog.funcNamed "rentier/rentierlaw23.LedgerAll" = some 3 by kernel_rfl).symm.trans hf) |>.symm
      obtain rfl : fn = Tryz.f3 := (Option.some.inj (Tryz.func3.symm.trans hfn)).symm
      exact ⟨tLooks, lall_params⟩)
    (goesBy_none noGo rfl)
#print axioms lall_card
end Go.Proofs.YtooafhbgdhjijaaGreatDoor

