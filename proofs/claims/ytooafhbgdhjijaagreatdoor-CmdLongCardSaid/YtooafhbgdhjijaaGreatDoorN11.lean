/- Part of a proof over the program's translation: The reference's ledger: rows that grow by parts.; The reference's ledger: put.; The reference's ledger: the plain law of Post; what all balances come to. .. -/
import Derived.Sort.Walk0
import Derived.Test.YtooafhbgdhjijaaGreatDoorA8
import Derived.Test.YtooafhbgdhjijaaGreatDoorN10
noncomputable section
/- The reference's ledger: rows that grow by parts. -/
namespace Go.AM.C
open Go.Proofs
noncomputable section
set_option linter.unusedVariables false
set_option linter.unusedSimpArgs false
theorem postC_drop (l : Posts) : ∀ k, (postC l).drop (k * 2) = postC (l.drop k) := by
  induction l with
  | nil => intro k; simp [postC]
  | cons p l ih =>
    intro k
    cases k with
    | zero => rfl
    | succ k =>
      rw [show (k + 1) * 2 = k * 2 + 2 by omega]
      exact ih k
theorem postC_take (l : Posts) : ∀ n, (postC l).take (n * 2) = postC (l.take n) := by
  induction l with
  | nil => intro n; simp [postC]
  | cons p l ih =>
    intro n
    cases n with
    | zero => rfl
    | succ n =>
      rw [show (n + 1) * 2 = n * 2 + 1 + 1 by omega]
      show AVal.str p.1 :: iA p.2 :: (postC l).take (n * 2) = AVal.str p.1 :: iA p.2 :: postC (l.take n)
      rw [ih n]
theorem postC_cell (l : Posts) : (postC l).all AVal.cell = true := by
  rw [List.all_eq_true]
  intro a ha
  obtain ⟨p, _, hp⟩ := List.mem_flatMap.1 ha
  simp only [List.mem_cons, List.not_mem_nil, or_false] at hp
  rcases hp with rfl | rfl <;> rfl
theorem postC_app2 (a b : Posts) : postC (a ++ b) = postC a ++ postC b := by simp [postC]
/-- A part of a row more. -/
theorem outP_part {HH : Heap} {v : AVal} {out : Posts} (ho : OutOK HH 0 v out) (l : Posts) (off n : Nat) (hn : off + n ≤ l.length) (hl : out.length + n < 1073741824) :
    ∃ v' H', OutOK H' 0 v' (out ++ (l.drop off).take n) ∧ ∀ (S : Sg) (call : Calling) (d : Bool) (g : Operand → AVal) (c : Call), S.ty = S0.ty → c.callee = .builtin .append → c.args.toList.map g = [v, .isl (postC l) (off * 2) n none true] → c.argTypes.toList = [27, 27] →
      denG S call d g HH (.call c) = some (v', H') := by
  have hpl := postC_len l
  cases n with
  | zero =>
    refine ⟨v, HH, by rw [List.take_zero, List.append_nil]; exact ho, fun S call d g c hS hc ha hta => ?_⟩
    refine G.append_none (ti := ti27) (te := ti40) hc ha hta (by rw [hS]; rfl) rfl (by rw [hS]; rfl) (by omega) ?_
    rcases ho with ⟨rfl, _⟩ | ⟨id, ty, _, rfl, _⟩
    · exact .inl rfl
    · exact .inr ⟨_, _, _, _, _, rfl⟩
  | succ n =>
    have e : ((postC l).drop (off * 2)).take ((n + 1) * 2) = postC ((l.drop off).take (n + 1)) := by rw [postC_drop, postC_take]
    have hlen : ((l.drop off).take (n + 1)).length = n + 1 := by simp; omega
    have hcl : (((postC l).drop (off * 2)).take ((n + 1) * 2)).all AVal.cell = true := by rw [e]; exact postC_cell _
    rcases ho with ⟨rfl, rfl⟩ | ⟨id, ty, hN, rfl, hH⟩
    · refine ⟨.sl HH.length 0 (n + 1) none 2, HH ++ [.cells (((postC l).drop (off * 2)).take ((n + 1) * 2)) 40], .inr ⟨HH.length, 40, Nat.zero_le _, by rw [List.nil_append, hlen], ?_⟩, fun S call d g c hS hc ha hta => ?_⟩
      · rw [List.nil_append, e]; exact app_at rfl
      · exact G.append_part (ti := ti27) (te := ti40) hc ha hta (by rw [hS]; rfl) rfl (by rw [hS]; rfl) (by show off * 2 + (n + 1) * 2 ≤ _; omega) hcl (by decide) (by simp at hl; omega)
    · refine ⟨.sl HH.length 0 (out.length + (n + 1)) none 2, HH.set id .dead ++ [.cells (postC out ++ ((postC l).drop (off * 2)).take ((n + 1) * 2)) 40], .inr ⟨HH.length, 40, Nat.zero_le _, by rw [List.length_append, hlen], ?_⟩, fun S call d g c hS hc ha hta => ?_⟩
      · rw [e, postC_app2]; exact app_at (by simp)
      · exact G.append_sl_part (ti := ti27) (te := ti40) (id := id) (len := out.length) (vs := postC out) (ty := ty) hc ha hta (by rw [hS]; rfl) rfl (by rw [hS]; rfl) (by show off * 2 + (n + 1) * 2 ≤ _; omega) hcl (by decide) (by decide) hH (postC_len _) (by omega)
/-- One more. -/
theorem outP_one {HH : Heap} {v : AVal} {out : Posts} (ho : OutOK HH 0 v out) (p : List UInt8 × Int) (hl : out.length < 1073741824) :
    ∃ v' H', OutOK H' 0 v' (out ++ [p]) ∧ ∀ (S : Sg) (call : Calling) (d : Bool) (g : Operand → AVal) (c : Call), S.ty = S0.ty → c.callee = .builtin .append → c.args.toList.map g = [v, .isl [.str p.1, iA p.2] 0 1 (some 1) true] → c.argTypes.toList = [27, 27] →
      denG S call d g HH (.call c) = some (v', H') := by
  rcases ho with ⟨rfl, rfl⟩ | ⟨id, ty, hN, rfl, hH⟩
  · refine ⟨.sl HH.length 0 1 none 2, HH ++ [.cells [.str p.1, iA p.2] 40], .inr ⟨HH.length, 40, Nat.zero_le _, rfl, app_at rfl⟩, fun S call d g c hS hc ha hta => ?_⟩
    exact G.append_nils_isl (ti := ti27) (te := ti40) hc ha hta (by rw [hS]; rfl) rfl (by rw [hS]; rfl) rfl rfl (by decide)
  · refine ⟨.sl HH.length 0 (out.length + 1) none 2, HH.set id .dead ++ [.cells (postC out ++ [.str p.1, iA p.2]) 40], .inr ⟨HH.length, 40, Nat.zero_le _, by rw [List.length_append]; rfl, by rw [postC_app]; exact app_at (by simp)⟩, fun S call d g c hS hc ha hta => ?_⟩
    exact G.append_sl_isl (ti := ti27) (te := ti40) (id := id) (len := out.length) (vs := postC out) (ty := ty) hc ha hta (by rw [hS]; rfl) rfl (by rw [hS]; rfl) rfl rfl (by decide) (by decide) hH (postC_len _) hl

end
end Go.AM.C

/- The reference's ledger: put. -/
namespace Go.AM.C
open Go.Proofs
noncomputable section
set_option linter.unusedVariables false
set_option linter.unusedSimpArgs false
theorem beq_post {p : List UInt8 × Int} : beqA 9 (.agg [.str p.1, iA p.2]) (.agg [.str p.1, iA p.2]) = true := by
  show (decide (p.1 = p.1) && ((decide (IntKind.i64 = IntKind.i64) && decide (p.2 = p.2)) && true)) = true
  simp
def islP (l : Posts) : AVal := .isl (postC l) 0 l.length none true
set_option maxRecDepth 100000 in
set_option maxHeartbeats 4000000 in
theorem put_has (l : Posts) (p : List UInt8 × Int) (hl : l.length < 536870912) (H : Heap) : Has 51 [islP l, .agg [.str p.1, iA p.2]] H (islP (rput l p)) H := by
  have hq := rput_eq l p
  have hle := rplace_le l p.1
  have hbef := fun j q => @rplace_before l p.1 j q
  have hat := fun q => @rplace_at l p.1 q
  generalize rput l p = R at *
  generalize rplace l p.1 = K at *
  refine does_pure s0 (show S0.fn 51 = some Tryz.f51 by kernel_rfl) rfl (by kernel_rfl) (Nat.le_of_ble_eq_true rfl) rfl rfl ?_
  unfold islP
  refine W.seq (W.region ?_)
  refine WO.op (v := .ip [.str p.1, iA p.2] 0 true) rfl rfl ?_
  refine WO.op rfl rfl (WO.nil (W.seq (W.region ?_)))
  refine WO.op rfl rfl (WO.nil (W.seq (W.block ?_)))
  refine W.fits (F' := fr [(0, .isl (postC l) 0 l.length none true), (3, .ip [.str p.1, iA p.2] 0 true), (5, iA ((0 : Nat) : Int))]) (fits_fr ⟨rfl, rfl, rfl, trivial⟩) ?_
  refine W.loopI (fun k : Nat => k ≤ K) (fun k => K - k) (fun k => fr [(0, .isl (postC l) 0 l.length none true), (3, .ip [.str p.1, iA p.2] 0 true), (5, iA (k : Int))]) (fun _ => []) ?_ 0 (Nat.zero_le _)
  intro k hk
  refine W.seq (W.seq (W.draw0 rfl (by kernel_rfl) ?_))
  refine WT.op rfl rfl rfl ?_
  refine WT.op rfl rfl rfl ?_
  refine WT.op (G.len_isl rfl rfl rfl tP rfl) rfl rfl ?_
  by_cases hkl : k < l.length
  · obtain ⟨e, he⟩ : ∃ e, l[k]? = some e := ⟨_, List.getElem?_eq_getElem hkl⟩
    obtain ⟨hc1, hc2⟩ := postC_at l k e he
    refine WT.as (v' := .bool true) rfl rfl rfl (bdT (by omega)) ?_
    refine WT.op rfl rfl rfl ?_
    refine WT.op rfl rfl rfl ?_
    refine WT.op rfl rfl rfl ?_
    refine WT.op (G.idx_isl rfl rfl tP rfl tp (by omega) (by omega)) rfl rfl ?_
    refine WT.op rfl rfl rfl ?_
    refine WT.op (G.load_ip (v := .str e.1) rfl tS rfl (by rw [Int.toNat_natCast, Nat.zero_add, Nat.add_zero]; exact hc1)) rfl rfl ?_
    refine WT.op rfl rfl rfl ?_
    refine WT.op rfl rfl rfl ?_
    by_cases hlt : k < K
    · have h1 := hbef k e hlt he
      refine WT.as (v' := .bool true) rfl rfl rfl (by rw [Go.Proofs.bytesLess_eq, decide_eq_true h1]) ?_
      refine WT.op rfl rfl rfl (WT.nil (W.cond (b := true) rfl (fun _ => W.skip ?_) (fun h => by cases h)))
      refine W.block (W.region ?_)
      refine WO.op rfl rfl ?_
      refine WO.as (v' := iA ((k + 1 : Nat) : Int)) rfl rfl (int_i64 (by omega) (by omega)) ?_
      exact WO.op rfl rfl (WO.nil ⟨k + 1, by omega, by omega, fits_fr ⟨rfl, rfl, rfl, trivial⟩, rfl⟩)
    · have hkK : k = K := by omega
      subst hkK
      have h1 := hat e he
      refine WT.as (v' := .bool false) rfl rfl rfl (by rw [Go.Proofs.bytesLess_eq, decide_eq_false h1]) ?_
      refine WT.op rfl rfl rfl (WT.nil (W.cond (b := false) rfl (fun h => by cases h) (fun _ => W.exit ?_)))
      refine W.seq (W.region ?_)
      refine WO.op rfl rfl ?_
      refine WO.op rfl rfl ?_
      refine WO.as (v' := .isl (postC l) (k * 2) (l.length - k) none true) (G.slice_isl (l := k) (h := l.length) rfl tP rfl tp ⟨_, rfl⟩ rfl (by omega) (Nat.le_refl _)) rfl (by show AVal.isl _ (0 + k * 2) _ _ _ = _; rw [Nat.zero_add]; rfl) ?_
      refine WO.op rfl rfl (WO.nil (W.seq (W.seq (W.draw0 rfl (by kernel_rfl) ?_))))
      refine WT.op rfl rfl rfl ?_
      refine WT.op rfl rfl rfl ?_
      refine WT.op (G.len_isl rfl rfl rfl tP rfl) rfl rfl ?_
      refine WT.as (v' := .bool true) rfl rfl rfl (bdT (by omega)) ?_
      refine WT.op rfl rfl rfl ?_
      refine WT.op rfl rfl rfl ?_
      refine WT.op rfl rfl rfl ?_
      refine WT.op (G.idx_isl rfl rfl tP rfl tp (by omega) (by omega)) rfl rfl ?_
      refine WT.op rfl rfl rfl ?_
      refine WT.op (G.load_ip (v := .str e.1) rfl tS rfl (by rw [Int.toNat_natCast, Nat.zero_add, Nat.add_zero]; exact hc1)) rfl rfl ?_
      refine WT.op rfl rfl rfl ?_
      refine WT.op rfl rfl rfl ?_
      by_cases hep : e.1 = p.1
      · have hRR : R = [] ++ (l.drop 0).take k ++ [p] ++ (l.drop (k + 1)).take (l.length - (k + 1)) := by
          rw [hq, he]
          simp only [if_pos hep, List.drop_zero, List.nil_append, List.append_assoc, List.singleton_append]
          rw [List.take_of_length_le (l := l.drop (k + 1)) (by simp)]
        refine WT.as (v' := .bool true) rfl rfl rfl (by simp [hep]) ?_
        refine WT.op rfl rfl rfl (WT.nil (W.cond (b := true) rfl (fun _ => ?_) (fun h => by cases h)))
        refine W.region ?_
        refine WO.op rfl rfl ?_
        refine WO.op rfl rfl ?_
        refine WO.as (v' := iA ((k + 1 : Nat) : Int)) rfl rfl (int_i64 (by omega) (by omega)) ?_
        refine WO.as (v' := .isl (postC l) ((k + 1) * 2) (l.length - (k + 1)) none true) (G.slice_isl (l := k + 1) (h := l.length) rfl tP rfl tp ⟨_, rfl⟩ rfl (by omega) (Nat.le_refl _)) rfl (by show AVal.isl _ (0 + (k + 1) * 2) _ _ _ = _; rw [Nat.zero_add]; rfl) ?_
        refine WO.op rfl rfl (WO.nil ?_)
        refine W.seq (W.drawJ0 [48] rfl (by kernel_rfl) ?_)
        obtain ⟨v1, H1, o1, d1⟩ := outP_part (HH := []) (v := .nils) (out := []) (.inl ⟨rfl, rfl⟩) l 0 k (by omega) (by simp; omega)
        obtain ⟨v2, H2, o2, d2⟩ := outP_one o1 p (by simp; omega)
        obtain ⟨v3, H3, o3, d3⟩ := outP_part o2 l (k + 1) (l.length - (k + 1)) (by omega) (by simp; omega)
        refine WJ.op rfl rfl rfl rfl ?_
        refine WJ.op rfl rfl rfl rfl ?_
        refine WJ.op (G.slice_isl (l := 0) (h := k) rfl tP rfl tp rfl ⟨_, rfl⟩ (by omega) (by omega)) rfl rfl rfl ?_
        refine WJ.op (d1 _ _ _ _ _ rfl rfl rfl rfl) rfl rfl rfl ?_
        refine WJ.free (v := .agg [.str p.1, iA p.2]) (fun _ => rfl) rfl rfl beq_post ?_
        refine WJ.op (v := .isl [.str p.1, iA p.2] 0 1 (some 1) true) rfl rfl rfl rfl ?_
        refine WJ.op (d2 _ _ _ _ _ rfl rfl rfl rfl) rfl rfl rfl ?_
        refine WJ.op rfl rfl rfl rfl ?_
        refine WJ.op (d3 _ _ _ _ _ rfl rfl rfl rfl) rfl rfl rfl ?_
        refine WJ.op rfl rfl rfl rfl (WJ.nil (W.ret ⟨trivial, _, rfl, ?_⟩))
        rw [← hRR] at o3
        have hne : R ≠ [] := by rw [hq]; simp
        have := out_seal0 o3 (.inr hne)
        unfold postsA at this
        rw [if_neg hne] at this
        exact this
      · have hRR : R = [] ++ (l.drop 0).take k ++ [p] ++ (l.drop k).take (l.length - k) := by
          rw [hq, he]
          simp only [if_neg hep, List.drop_zero, List.nil_append, List.append_assoc, List.singleton_append]
          rw [List.take_of_length_le (l := l.drop k) (by simp)]
        refine WT.as (v' := .bool false) rfl rfl rfl (by simp [hep]) ?_
        refine WT.op rfl rfl rfl (WT.nil (W.cond (b := false) rfl (fun h => by cases h) (fun _ => W.skip ?_)))
        refine W.seq (W.drawJ0 [48] rfl (by kernel_rfl) ?_)
        obtain ⟨v1, H1, o1, d1⟩ := outP_part (HH := []) (v := .nils) (out := []) (.inl ⟨rfl, rfl⟩) l 0 k (by omega) (by simp; omega)
        obtain ⟨v2, H2, o2, d2⟩ := outP_one o1 p (by simp; omega)
        obtain ⟨v3, H3, o3, d3⟩ := outP_part o2 l (k) (l.length - k) (by omega) (by simp; omega)
        refine WJ.op rfl rfl rfl rfl ?_
        refine WJ.op rfl rfl rfl rfl ?_
        refine WJ.op (G.slice_isl (l := 0) (h := k) rfl tP rfl tp rfl ⟨_, rfl⟩ (by omega) (by omega)) rfl rfl rfl ?_
        refine WJ.op (d1 _ _ _ _ _ rfl rfl rfl rfl) rfl rfl rfl ?_
        refine WJ.free (v := .agg [.str p.1, iA p.2]) (fun _ => rfl) rfl rfl beq_post ?_
        refine WJ.op (v := .isl [.str p.1, iA p.2] 0 1 (some 1) true) rfl rfl rfl rfl ?_
        refine WJ.op (d2 _ _ _ _ _ rfl rfl rfl rfl) rfl rfl rfl ?_
        refine WJ.op rfl rfl rfl rfl ?_
        refine WJ.op (d3 _ _ _ _ _ rfl rfl rfl rfl) rfl rfl rfl ?_
        refine WJ.op rfl rfl rfl rfl (WJ.nil (W.ret ⟨trivial, _, rfl, ?_⟩))
        rw [← hRR] at o3
        have hne : R ≠ [] := by rw [hq]; simp
        have := out_seal0 o3 (.inr hne)
        unfold postsA at this
        rw [if_neg hne] at this
        exact this
  · have hkK : k = K := by omega
    have hkl2 : k = l.length := by omega
    subst hkK
    refine WT.as (v' := .bool false) rfl rfl rfl (bdF (by omega)) ?_
    refine WT.op rfl rfl rfl ?_
    repeat refine WT.skip rfl rfl ?_
    refine WT.op rfl rfl rfl (WT.nil (W.cond (b := false) rfl (fun h => by cases h) (fun _ => W.exit ?_)))
    have hRR : R = [] ++ (l.drop 0).take k ++ [p] ++ (l.drop k).take (l.length - k) := by
      rw [hq, List.getElem?_eq_none (by omega)]
      simp only [List.drop_zero, List.nil_append, List.append_assoc, List.singleton_append]
      rw [List.drop_eq_nil_of_le (by omega), List.take_nil]
    refine W.seq (W.region ?_)
    refine WO.op rfl rfl ?_
    refine WO.op rfl rfl ?_
    refine WO.as (v' := .isl (postC l) (k * 2) (l.length - k) none true) (G.slice_isl (l := k) (h := l.length) rfl tP rfl tp ⟨_, rfl⟩ rfl (by omega) (Nat.le_refl _)) rfl (by show AVal.isl _ (0 + k * 2) _ _ _ = _; rw [Nat.zero_add]; rfl) ?_
    refine WO.op rfl rfl (WO.nil (W.seq (W.seq (W.draw0 rfl (by kernel_rfl) ?_))))
    refine WT.op rfl rfl rfl ?_
    refine WT.op rfl rfl rfl ?_
    refine WT.op (G.len_isl rfl rfl rfl tP rfl) rfl rfl ?_
    refine WT.as (v' := .bool false) rfl rfl rfl (bdF (by omega)) ?_
    refine WT.op rfl rfl rfl ?_
    repeat refine WT.skip rfl rfl ?_
    refine WT.op rfl rfl rfl (WT.nil (W.cond (b := false) rfl (fun h => by cases h) (fun _ => W.skip ?_)))
    refine W.seq (W.drawJ0 [48] rfl (by kernel_rfl) ?_)
    obtain ⟨v1, H1, o1, d1⟩ := outP_part (HH := []) (v := .nils) (out := []) (.inl ⟨rfl, rfl⟩) l 0 k (by omega) (by simp; omega)
    obtain ⟨v2, H2, o2, d2⟩ := outP_one o1 p (by simp; omega)
    obtain ⟨v3, H3, o3, d3⟩ := outP_part o2 l (k) (l.length - k) (by omega) (by simp; omega)
    refine WJ.op rfl rfl rfl rfl ?_
    refine WJ.op rfl rfl rfl rfl ?_
    refine WJ.op (G.slice_isl (l := 0) (h := k) rfl tP rfl tp rfl ⟨_, rfl⟩ (by omega) (by omega)) rfl rfl rfl ?_
    refine WJ.op (d1 _ _ _ _ _ rfl rfl rfl rfl) rfl rfl rfl ?_
    refine WJ.free (v := .agg [.str p.1, iA p.2]) (fun _ => rfl) rfl rfl beq_post ?_
    refine WJ.op (v := .isl [.str p.1, iA p.2] 0 1 (some 1) true) rfl rfl rfl rfl ?_
    refine WJ.op (d2 _ _ _ _ _ rfl rfl rfl rfl) rfl rfl rfl ?_
    refine WJ.op rfl rfl rfl rfl ?_
    refine WJ.op (d3 _ _ _ _ _ rfl rfl rfl rfl) rfl rfl rfl ?_
    refine WJ.op rfl rfl rfl rfl (WJ.nil (W.ret ⟨trivial, _, rfl, ?_⟩))
    rw [← hRR] at o3
    have hne : R ≠ [] := by rw [hq]; simp
    have := out_seal0 o3 (.inr hne)
    unfold postsA at this
    rw [if_neg hne] at this
    exact this
end
end Go.AM.C

/- The reference's ledger: the plain law of Post; what all balances come to. -/
namespace Go.AM.C
set_option linter.unusedVariables false
set_option linter.unusedSimpArgs false

/-! #### names -/
def names (l : Posts) : List (List UInt8) := l.map (·.1)
theorem put_keys {α : Type} (l : List (List UInt8 × α)) (k k' : List UInt8) (v : α) : k' ∈ (putE l k v).map (·.1) ↔ k' = k ∨ k' ∈ l.map (·.1) := by
  have e1 : ∀ (s : List (List UInt8 × α)), k' ∈ s.map (·.1) ↔ getE s k' ≠ none := fun s => by rw [Ne, getE_none, Classical.not_not]
  rw [e1, e1]
  by_cases h : k' = k
  · subst h; rw [getE_put_self]; simp
  · rw [getE_put_ne h]; simp [h]
theorem fold_keys (undo : Bool) (k : List UInt8) : ∀ (l : Posts) (s : Sums), k ∈ (l.foldl (sumStep undo) s).map (·.1) ↔ k ∈ names l ∨ k ∈ s.map (·.1)
  | [], s => by simp [names]
  | p :: l, s => by
    rw [List.foldl_cons, fold_keys undo k l]
    unfold sumStep names
    rw [put_keys, List.map_cons, List.mem_cons]
    constructor
    · rintro (h | h | h)
      · exact .inl (.inr h)
      · exact .inl (.inl h)
      · exact .inr h
    · rintro ((h | h) | h)
      · exact .inr (.inl h)
      · exact .inl h
      · exact .inr (.inr h)
theorem sums_names (undo : Bool) (l : Posts) (k : List UInt8) : k ∈ (sumsOf undo l).map (·.1) ↔ k ∈ names l := by
  unfold sumsOf
  rw [fold_keys]
  simp
theorem amt_none {undo : Bool} {l : Posts} {k : List UInt8} (h : k ∉ names l) : amt undo l k = 0 := by
  rw [← sval_sums]
  unfold sval look
  rw [getE_none.2 (fun x => h ((sums_names undo l k).1 x))]
  rfl
/-- The books after a booking, name by name. -/
theorem getE_books (undo : Bool) (m l : Posts) (k : List UInt8) : getE (bookE m (sumsOf undo l)) k = if k ∈ names l then some (look 0 m k + amt undo l k) else getE m k := by
  rw [bookE_get _ _ _ (sums_nodup undo l)]
  by_cases h : k ∈ names l
  · rw [if_pos h]
    cases hg : getE (sumsOf undo l) k with
    | none => exact absurd ((sums_names undo l k).2 h) (getE_none.1 hg)
    | some v =>
      have : v.getD 0 = amt undo l k := by rw [← sval_sums]; unfold sval look; rw [hg]; rfl
      simp only [this]
  · rw [if_neg h]
    have : getE (sumsOf undo l) k = none := getE_none.2 fun x => h ((sums_names undo l k).1 x)
    rw [this]
theorem take_names {l : Posts} {i : Nat} {p : List UInt8 × Int} (hp : l[i]? = some p) : names (l.take (i + 1)) = names (l.take i) ++ [p.1] := by
  unfold names
  rw [List.take_add_one, hp, List.map_append]; rfl
theorem amt_take {undo : Bool} {l : Posts} {i : Nat} {p : List UInt8 × Int} (hp : l[i]? = some p) (k : List UInt8) : amt undo (l.take (i + 1)) k = amt undo (l.take i) k + if p.1 = k then sg undo p.2 else 0 := by
  unfold amt
  rw [List.take_add_one, hp, List.map_append, List.sum_append]
  simp
theorem amt_bound {undo : Bool} {k : List UInt8} : ∀ {l : Posts}, (∀ p ∈ l, i64 p.2) → (amt undo l k).natAbs ≤ l.length * 9223372036854775808
  | [], _ => by simp [amt]
  | p :: l, h => by
    have ih := amt_bound (undo := undo) (k := k) (l := l) fun q hq => h q (List.mem_cons_of_mem _ hq)
    have hb := h p List.mem_cons_self
    rw [amt_cons, List.length_cons, Nat.add_mul]
    unfold i64 at hb
    have : (if p.1 = k then sg undo p.2 else 0 : Int).natAbs ≤ 9223372036854775808 := by
      split
      · unfold sg
        cases undo <;> simp <;> omega
      · simp
    omega
theorem first_at {l : Posts} {i : Nat} {p : List UInt8 × Int} (hp : l[i]? = some p) : ∃ j, keyIdx p.1 l = some j ∧ (j = i ↔ p.1 ∉ names (l.take i)) ∧ j < l.length := by
  cases hk : keyIdx p.1 l with
  | none => exact absurd (List.mem_map.2 ⟨p, List.mem_of_getElem? hp, rfl⟩) (keyIdx_none.1 hk)
  | some j =>
    obtain ⟨⟨q, h1, h2⟩, h3⟩ := keyIdx_first hk
    refine ⟨j, rfl, ⟨fun e => ?_, fun h => ?_⟩, (List.getElem?_eq_some_iff.1 h1).1⟩
    · subst e
      intro hm
      obtain ⟨x, hx, he⟩ := List.mem_map.1 hm
      obtain ⟨t, ht⟩ := List.getElem?_of_mem hx
      rw [List.getElem?_take] at ht
      split at ht
      · rename_i hlt
        obtain ⟨y, hy1, hy2⟩ := h3 t hlt
        rw [ht] at hy1
        cases hy1
        exact hy2 he
      · cases ht
    · rcases Nat.lt_trichotomy j i with hlt | he | hgt
      · refine absurd (List.mem_map.2 ⟨q, List.mem_of_getElem? (i := j) ?_, h2⟩) h
        rw [List.getElem?_take, if_pos hlt]
        exact h1
      · exact he
      · obtain ⟨y, hy1, hy2⟩ := h3 i hgt
        rw [hp] at hy1
        cases hy1
        exact absurd rfl hy2

/-! #### what the reference's Post knows after i postings -/
structure RefI (undo : Bool) (m l N : Posts) (i : Nat) : Prop where
  ss : SS N
  get : ∀ k, getE N k = if k ∈ names (l.take i) then some (look 0 m k + amt undo l k) else getE m k
  ok : ∀ k ∈ names (l.take i), i64 (look 0 m k + amt undo l k)
theorem RefI.zero {undo : Bool} {m l : Posts} (h : (m.map (·.1)).Nodup) : RefI undo m l (srt m) 0 := by
  refine ⟨srt_ss h, fun k => ?_, fun k hk => ?_⟩
  · rw [srt_get h, List.take_zero]; simp [names]
  · rw [List.take_zero] at hk; cases hk
theorem RefI.old {undo : Bool} {m l N : Posts} {i : Nat} {p : List UInt8 × Int} (h : RefI undo m l N i) (hp : l[i]? = some p) (ho : p.1 ∈ names (l.take i)) : RefI undo m l N (i + 1) := by
  have e : ∀ k, k ∈ names (l.take (i + 1)) ↔ k ∈ names (l.take i) := fun k => by
    rw [take_names hp, List.mem_append, List.mem_singleton]
    exact ⟨fun x => x.elim id (fun y => by rw [y]; exact ho), .inl⟩
  refine ⟨h.ss, fun k => ?_, fun k hk => h.ok k ((e k).1 hk)⟩
  rw [h.get]
  by_cases hk : k ∈ names (l.take i)
  · rw [if_pos hk, if_pos ((e k).2 hk)]
  · rw [if_neg hk, if_neg fun x => hk ((e k).1 x)]
theorem RefI.new {undo : Bool} {m l N : Posts} {i : Nat} {p : List UInt8 × Int} (h : RefI undo m l N i) (hp : l[i]? = some p) {x : Int} (hx : x = look 0 m p.1 + amt undo l p.1) (hxi : i64 x) : RefI undo m l (rput N (p.1, x)) (i + 1) := by
  have e : ∀ k, k ∈ names (l.take (i + 1)) ↔ k ∈ names (l.take i) ∨ k = p.1 := fun k => by rw [take_names hp, List.mem_append, List.mem_singleton]
  refine ⟨rput_ss h.ss, fun k => ?_, fun k hk => ?_⟩
  · rw [rput_get k h.ss, h.get]
    by_cases hk : k = p.1
    · subst hk
      rw [if_pos rfl, if_pos ((e _).2 (.inr rfl)), hx]
    · rw [if_neg hk]
      by_cases hk2 : k ∈ names (l.take i)
      · rw [if_pos hk2, if_pos ((e _).2 (.inl hk2))]
      · rw [if_neg hk2, if_neg fun z => ((e _).1 z).elim hk2 hk]
  · rcases (e k).1 hk with h1 | h1
    · exact h.ok k h1
    · rw [h1, ← hx]; exact hxi
theorem RefI.last {undo : Bool} {m l N : Posts} (h : RefI undo m l N l.length) (hm : (m.map (·.1)).Nodup) : N = srt (bookE m (sumsOf undo l)) := by
  refine ss_ext h.ss (srt_ss (bookE_nodup _ _ hm)) fun k => ?_
  rw [srt_get (bookE_nodup _ _ hm), getE_books, h.get, List.take_length]
theorem total_undo (undo : Bool) (l : Posts) : total undo l = 0 ↔ total false l = 0 := by
  cases undo with
  | false => exact Iff.rfl
  | true => rw [total_neg]; omega
theorem RefI.code0 {undo : Bool} {m l N : Posts} (h : RefI undo m l N l.length) (hm : ∀ e ∈ m, i64 e.2) (h1 : (l.all fun p => nameOk p.1) = true) (h2 : total false l = 0) : bookCode undo m l = 0 := by
  refine (code0_iff hm).2 ⟨h1, (total_undo undo l).2 h2, fun k => ?_⟩
  by_cases hk : k ∈ names l
  · exact h.ok k (by rw [List.take_length]; exact hk)
  · rw [amt_none hk, Int.add_zero]
    exact look_bound hm k
theorem code_large {undo : Bool} {m l : Posts} {k : List UInt8} (hm : ∀ e ∈ m, i64 e.2) (h1 : (l.all fun p => nameOk p.1) = true) (h2 : total false l = 0) (h3 : ¬ i64 (look 0 m k + amt undo l k)) : bookCode undo m l = 11 := by
  have hn : bookCode undo m l ≠ 0 := fun e => h3 (((code0_iff hm).1 e).2.2 k)
  unfold bookCode at hn ⊢
  rw [if_pos h1, if_pos ((total_undo undo l).2 h2)] at hn ⊢
  split
  · rename_i h; rw [if_pos h] at hn; exact absurd rfl hn
  · rfl
theorem code_range {undo : Bool} {m l : Posts} (h1 : (l.all fun p => nameOk p.1) = true) (h2 : total false l ≠ 0) : bookCode undo m l = 2 := by
  unfold bookCode
  rw [if_pos h1, if_neg fun h => h2 ((total_undo undo l).1 h)]
theorem code_form {undo : Bool} {m l : Posts} {i : Nat} {p : List UInt8 × Int} (hp : l[i]? = some p) (h1 : nameOk p.1 = false) : bookCode undo m l = 1 := by
  unfold bookCode
  rw [if_neg]
  intro h
  rw [List.all_eq_true] at h
  have := h p (List.mem_of_getElem? hp)
  rw [h1] at this
  cases this

/-! #### what all balances come to -/
def sumP (m : Posts) : Int := (m.map (·.2)).sum
def sumO (s : Sums) : Int := (s.map (·.2.getD 0)).sum
theorem putE_cons {α : Type} (e : List UInt8 × α) (m : List (List UInt8 × α)) (k : List UInt8) (v : α) : putE (e :: m) k v = if k = e.1 then (k, v) :: m else e :: putE m k v := by
  show (match (if k = e.1 then some 0 else (keyIdx k m).map (· + 1)) with | some i => (e :: m).set i (k, v) | none => e :: m ++ [(k, v)]) = _
  by_cases h : k = e.1
  · rw [if_pos h, if_pos h]; rfl
  · rw [if_neg h, if_neg h]
    unfold putE
    cases keyIdx k m with
    | none => rfl
    | some i => rfl
theorem getE_cons' {α : Type} (e : List UInt8 × α) (l : List (List UInt8 × α)) (k : List UInt8) : getE (e :: l) k = if k = e.1 then some e.2 else getE l k := by
  show ((if k = e.1 then some 0 else (keyIdx k l).map (· + 1)).bind fun i => (e :: l)[i]?.map (·.2)) = _
  by_cases h : k = e.1
  · rw [if_pos h, if_pos h]; rfl
  · rw [if_neg h, if_neg h]
    show _ = (keyIdx k l).bind fun i => l[i]?.map (·.2)
    cases keyIdx k l with
    | none => rfl
    | some i => rfl
theorem sumP_put : ∀ (m : Posts) (k : List UInt8) (v : Int), sumP (putE m k v) = sumP m - look 0 m k + v
  | [], k, v => by simp [sumP, putE, keyIdx, look, getE]
  | e :: m, k, v => by
    rw [putE_cons]
    unfold look
    rw [getE_cons']
    by_cases h : k = e.1
    · rw [if_pos h, if_pos h]
      simp [sumP]
      omega
    · rw [if_neg h, if_neg h]
      have ih := sumP_put m k v
      unfold look at ih
      simp only [sumP, List.map_cons, List.sum_cons] at ih ⊢
      omega
theorem sumO_put : ∀ (m : Sums) (k : List UInt8) (v : Option Int), sumO (putE m k v) = sumO m - (look none m k).getD 0 + v.getD 0
  | [], k, v => by simp [sumO, putE, keyIdx, look, getE]
  | e :: m, k, v => by
    rw [putE_cons]
    unfold look
    rw [getE_cons']
    by_cases h : k = e.1
    · rw [if_pos h, if_pos h]
      simp [sumO]
      omega
    · rw [if_neg h, if_neg h]
      have ih := sumO_put m k v
      unfold look at ih
      simp only [sumO, List.map_cons, List.sum_cons] at ih ⊢
      omega
theorem sumP_book : ∀ (s : Sums) (m : Posts), sumP (bookE m s) = sumP m + sumO s
  | [], m => by show sumP m = sumP m + 0; omega
  | e :: s, m => by
    show sumP (bookE (putE m e.1 (look 0 m e.1 + e.2.getD 0)) s) = _
    rw [sumP_book s, sumP_put]
    simp only [sumO, List.map_cons, List.sum_cons]
    omega
theorem sumO_fold (undo : Bool) : ∀ (l : Posts) (s : Sums) (x : Int), sumO (l.foldl (sumStep undo) s) - sumO s = l.foldl (fun s p => s + sg undo p.2) x - x
  | [], s, x => by simp
  | p :: l, s, x => by
    have ih := sumO_fold undo l (sumStep undo s p) (x + sg undo p.2)
    have h : sumO (sumStep undo s p) = sumO s + sg undo p.2 := by
      unfold sumStep
      rw [sumO_put]
      simp only [Option.getD_some]
      omega
    rw [List.foldl_cons, List.foldl_cons]
    omega
theorem sumO_sums (undo : Bool) (l : Posts) : sumO (sumsOf undo l) = total undo l := by
  have h := sumO_fold undo l [] 0
  unfold sumsOf total
  have : sumO [] = 0 := rfl
  omega
theorem sumP_perm {a b : Posts} (h : a.Perm b) : sumP a = sumP b := by
  induction h with
  | nil => rfl
  | cons x _ ih => simp only [sumP, List.map_cons, List.sum_cons] at ih ⊢; omega
  | swap x y l => simp only [sumP, List.map_cons, List.sum_cons]; omega
  | trans _ _ h1 h2 => rw [h1, h2]
theorem sumP_nz : ∀ (w : Posts), sumP (nz w) = sumP w
  | [] => rfl
  | p :: w => by
    have ih := sumP_nz w
    unfold nz at ih ⊢
    rw [List.filter_cons]
    by_cases h : p.2 = 0
    · simp only [h, decide_true, Bool.not_true, Bool.false_eq_true, if_false]
      rw [ih]
      simp only [sumP, List.map_cons, List.sum_cons, h]
      omega
    · simp only [h, decide_false, Bool.not_false, if_true]
      simp only [sumP, List.map_cons, List.sum_cons] at ih ⊢
      omega
theorem srt_perm {m : Posts} (h : (m.map (·.1)).Nodup) : (srt m).Perm m := by
  have e : m = (m.map (·.1)).map fun k => (k, look 0 m k) := by
    rw [List.map_map]
    refine (List.map_id m).symm.trans (List.map_congr_left fun e he => ?_)
    show e = (e.1, look 0 m e.1)
    unfold look
    rw [getE_of_mem h he]; rfl
  have := (keysS_perm m).map fun k => (k, look 0 m k)
  unfold srt
  rw [← e] at this
  exact this
theorem sumP_all {m : Posts} (h : (m.map (·.1)).Nodup) : sumP (allE m) = sumP m := by
  rw [← nz_srt, sumP_nz, sumP_perm (srt_perm h)]
theorem sumP_take {l : Posts} {i : Nat} {p : List UInt8 × Int} (hp : l[i]? = some p) : sumP (l.take (i + 1)) = sumP (l.take i) + p.2 := by
  unfold sumP
  rw [List.take_add_one, hp, List.map_append, List.sum_append]
  simp
theorem sumP_bound : ∀ {l : Posts}, (∀ p ∈ l, i64 p.2) → (sumP l).natAbs ≤ l.length * 9223372036854775808
  | [], _ => by simp [sumP]
  | p :: l, h => by
    have ih := sumP_bound (l := l) fun q hq => h q (List.mem_cons_of_mem _ hq)
    have hb := h p List.mem_cons_self
    unfold i64 at hb
    simp only [sumP, List.map_cons, List.sum_cons, List.length_cons, Nat.add_mul] at ih ⊢
    omega
theorem total_sumP (l : Posts) : total false l = sumP l := by
  have : ∀ (l : Posts) (x : Int), l.foldl (fun s p => s + sg false p.2) x = x + sumP l := by
    intro l
    induction l with
    | nil => intro x; simp [sumP]
    | cons p l ih =>
      intro x
      rw [List.foldl_cons, ih]
      simp only [sumP, List.map_cons, List.sum_cons, sg, cond_false]
      omega
  unfold total
  rw [this]; omega
/-- An entry of what All tells is a balance. -/
theorem all_look {m : Posts} {e : List UInt8 × Int} (h : e ∈ allE m) : look 0 m e.1 = e.2 := by
  rw [allE_keysF] at h
  obtain ⟨k, _, rfl⟩ := List.mem_map.1 h
  rfl
theorem all_i64 {m : Posts} (hm : ∀ e ∈ m, i64 e.2) : ∀ e ∈ allE m, i64 e.2 := fun e he => by
  rw [← all_look he]; exact look_bound hm _
end Go.AM.C

/- Contracts told by relations; the reference's sums, where the order is drawn. -/
namespace Go.AM
set_option linter.unusedVariables false
set_option linter.unusedSimpArgs false
/-- A contract that is a relation. -/
noncomputable def relX (R : List AVal → Heap → AVal → Heap → Prop) : Ext := fun args H => by
  classical
  exact if h : ∃ p : AVal × Heap, R args H p.1 p.2 then some (Classical.choose h) else none
theorem relX_is {R : List AVal → Heap → AVal → Heap → Prop} {args : List AVal} {H H' : Heap} {v : AVal} (h : relX R args H = some (v, H')) : R args H v H' := by
  unfold relX at h
  split at h
  · rename_i hx
    have := Classical.choose_spec hx
    rw [Option.some.inj h] at this
    exact this
  · cases h
theorem relX_eq {R : List AVal → Heap → AVal → Heap → Prop} (hf : ∀ args H v H1 u H2, R args H v H1 → R args H u H2 → v = u ∧ H1 = H2) {args : List AVal} {H H' : Heap} {v : AVal} (h : R args H v H') : relX R args H = some (v, H') := by
  unfold relX
  have hx : ∃ p : AVal × Heap, R args H p.1 p.2 := ⟨(v, H'), h⟩
  rw [dif_pos hx]
  obtain ⟨h1, h2⟩ := hf _ _ _ _ _ _ (Classical.choose_spec hx) h
  exact congrArg some (Prod.ext h1 h2)
section
variable {S : Sg} {call : Calling} {d : Bool} {g : Operand → AVal} {H : Heap}
theorem G.store_agg {x y : Operand} {t : TypeId} {ti : TI} {vs cs : List AVal} {ty : TypeId} {id : Nat} (hi : H[id]? = some (.cells vs ty)) (hx : g x = .ptr id 0) (hy : g y = .agg cs) (ht : S.ty t = some ti) (hs : ti.size = cs.length) (hl : vs.length = cs.length) (hc : cs.all AVal.cell = true) :
    denG S call d g H (.store t x y) = some (undefA, H.set id (.cells cs ty)) := by
  have hco : cellsOf (.agg cs) = some cs := rfl
  simp only [denG, ht, hx, hy, hco, hi]
  rw [if_pos ⟨hs.symm, by omega, hc⟩]
  have : setRange vs 0 cs = cs := by
    unfold setRange
    rw [List.take_zero, List.nil_append, List.drop_eq_nil_of_le (by omega), List.append_nil]
  rw [this]
end
end Go.AM
namespace Go.AM.C
open Go.Proofs
noncomputable section
set_option linter.unusedVariables false
set_option linter.unusedSimpArgs false

theorem relX_ok {R : List AVal → Heap → AVal → Heap → Prop} {f : FuncId} (hh : ∀ args H v H', R args H v H' → Has f args H v H') (S : Sg) (hg : S.glob = S0.glob) (hp : S.pin = S0.pin) : ExtAt Tryz.prog S f (relX R) :=
  fun args H v H' hx => DoesC.glob hg hp (hh _ _ _ _ (relX_is hx))
theorem relX_quiet {R : List AVal → Heap → AVal → Heap → Prop} (hq : ∀ args H v H', R args H v H' → H' = H) : true = true → ∀ args H v H', relX R args H = some (v, H') → H' = H :=
  fun _ args H v H' hx => hq _ _ _ _ (relX_is hx)

/-! #### what tells apart -/
theorem postC_inj : ∀ {a b : Posts}, postC a = postC b → a = b
  | [], [], _ => rfl
  | [], q :: b, h => by cases h
  | p :: a, [], h => by cases h
  | p :: a, q :: b, h => by
    have h' : AVal.str p.1 :: iA p.2 :: postC a = AVal.str q.1 :: iA q.2 :: postC b := h
    injection h' with h1 h2
    injection h2 with h2 h3
    injection h1 with h1
    injection h2 with h4 h5
    rw [postC_inj h3]
    congr 1
    exact Prod.ext h1 h5
theorem postsA_inj {a b : Posts} (h : postsA a = postsA b) : a = b := by
  unfold postsA at h
  split at h
  · rename_i h1
    split at h
    · rename_i h2; rw [h1, h2]
    · cases h
  · split at h
    · cases h
    · injection h with h
      exact postC_inj h
theorem imapA_inj : ∀ {a b : Posts}, imapA a = imapA b → a = b := by
  have : ∀ {a b : Posts}, (a.map fun e => AVal.str e.1) = (b.map fun e => AVal.str e.1) → (a.map fun e => iA e.2) = (b.map fun e => iA e.2) → a = b := by
    intro a
    induction a with
    | nil =>
      intro b h1 h2
      cases b with
      | nil => rfl
      | cons q b => cases h1
    | cons p a ih =>
      intro b h1 h2
      cases b with
      | nil => cases h1
      | cons q b =>
        rw [List.map_cons, List.map_cons] at h1 h2
        injection h1 with h1 h3
        injection h2 with h2 h4
        injection h1 with h1
        injection h2 with h2 h5
        rw [ih h3 h4]
        congr 1
        exact Prod.ext h1 h5
  intro a b h
  unfold imapA at h
  injection h with h1 h2
  exact this h1 h2
theorem isM_inj {v : AVal} {a b : Posts} (h : IsM v a) (k : IsM v b) : a = b := by
  rcases h with rfl | ⟨rfl, rfl⟩
  · rcases k with h | ⟨h, _⟩
    · exact imapA_inj h
    · cases h
  · rcases k with h | ⟨_, h⟩
    · cases h
    · exact h.symm
theorem rI_inj {x y : Int} (h : rI x = rI y) : x = y := by
  unfold rI at h
  injection h with h
  injection h with h1 h2
  injection h2 with h2
  injection h1 with h1
  have h3 := rD_inj h2
  have h4 : decide (x < 0) = decide (y < 0) := h1
  by_cases hx : x < 0
  · rw [decide_eq_true hx] at h4
    have := of_decide_eq_true h4.symm
    omega
  · rw [decide_eq_false hx] at h4
    have := of_decide_eq_false h4.symm
    omega

/-! #### integers of the reference's, a nil row for nothing -/
def rI0 : AVal := .agg [.bool false, .nils]
def IsI (v : AVal) (z : Int) : Prop := v = rI z ∨ v = rI0 ∧ z = 0
theorem wk_agg2 {a b a' b' : AVal} (h1 : Wk a a') (h2 : Wk b b') : Wk (.agg [a, b]) (.agg [a', b']) := fun c w v h => by
  cases h with
  | agg _ vs hs hh =>
    refine .agg _ vs hs fun j x y hx hy => ?_
    match j, hx with
    | 0, hx => cases hx; exact h1 _ _ _ (hh 0 _ _ rfl hy)
    | 1, hx => cases hx; exact h2 _ _ _ (hh 1 _ _ rfl hy)
theorem IsI.wk {v : AVal} {z : Int} (h : IsI v z) : Wk v (rI z) := by
  rcases h with rfl | ⟨rfl, rfl⟩
  · exact Wk.refl _
  · exact wk_agg2 (Wk.refl _) wk_nilsD
theorem isI_inj {v : AVal} {x y : Int} (h : IsI v x) (k : IsI v y) : x = y := by
  have hne : ∀ z, rI z ≠ rI0 := fun z e => by
    unfold rI rI0 rD at e
    injection e with e
    injection e with _ e
    injection e with e
    cases e
  rcases h with rfl | ⟨rfl, rfl⟩
  · rcases k with k | ⟨k, _⟩
    · exact rI_inj k
    · exact absurd k (hne _)
  · rcases k with k | ⟨_, k⟩
    · exact absurd k.symm (hne _)
    · exact k.symm

def rofR (args : List AVal) (H : Heap) (v : AVal) (H' : Heap) : Prop := ∃ x, i64 x ∧ args = [iA x] ∧ v = rI x ∧ H' = H
theorem rofR_has : ∀ args H v H', rofR args H v H' → Has 12 args H v H' := by
  rintro _ H _ _ ⟨x, hx, rfl, rfl, rfl⟩
  exact rof_has x hx _
theorem rofR_fun : ∀ args H v H1 u H2, rofR args H v H1 → rofR args H u H2 → v = u ∧ H1 = H2 := by
  rintro _ H _ _ _ _ ⟨x, hx, rfl, rfl, rfl⟩ ⟨y, hy, h, rfl, rfl⟩
  injection h with h
  injection h with _ h
  exact ⟨by rw [h], rfl⟩
def rplusR (args : List AVal) (H : Heap) (v : AVal) (H' : Heap) : Prop := ∃ u1 u2 x y, Sm x.natAbs ∧ Sm y.natAbs ∧ Sm (x.natAbs + y.natAbs) ∧ IsI u1 x ∧ IsI u2 y ∧ args = [u1, u2] ∧ v = rI (x + y) ∧ H' = H
theorem rplus_is {u1 u2 : AVal} {x y : Int} (h1 : IsI u1 x) (h2 : IsI u2 y) (hx : Sm x.natAbs) (hy : Sm y.natAbs) (hxy : Sm (x.natAbs + y.natAbs)) (H : Heap) : Has 11 [u1, u2] H (rI (x + y)) H := by
  refine Has.wk (rplus_has x y hx hy hxy H) rfl fun j a' a ha' ha => ?_
  match j, ha', ha with
  | 0, ha', ha => cases ha'; cases ha; exact h1.wk
  | 1, ha', ha => cases ha'; cases ha; exact h2.wk
theorem rplusR_has : ∀ args H v H', rplusR args H v H' → Has 11 args H v H' := by
  rintro _ H _ _ ⟨u1, u2, x, y, hx, hy, hxy, h1, h2, rfl, rfl, rfl⟩
  exact rplus_is h1 h2 hx hy hxy _
theorem rplusR_fun : ∀ args H v H1 u H2, rplusR args H v H1 → rplusR args H u H2 → v = u ∧ H1 = H2 := by
  rintro _ H _ _ _ _ ⟨u1, u2, x, y, hx, hy, hxy, h1, h2, rfl, rfl, rfl⟩ ⟨w1, w2, x', y', hx', hy', hxy', h1', h2', h, rfl, rfl⟩
  injection h with e1 e2
  injection e2 with e2
  subst e1; subst e2
  rw [isI_inj h1 h1', isI_inj h2 h2']
  exact ⟨rfl, rfl⟩
abbrev rofE : Ent := ⟨12, relX rofR, true, relX_quiet fun _ _ _ _ ⟨_, _, _, _, h⟩ => h⟩
abbrev rplusE : Ent := ⟨11, relX rplusR, true, relX_quiet fun _ _ _ _ ⟨_, _, _, _, _, _, _, _, _, _, _, h⟩ => h⟩
abbrev SP : Sg := mk [rofE, rplusE]
theorem sP : Sound Tryz.prog SP := mk_sound ⟨relX_ok rofR_has _ rfl rfl, relX_ok rplusR_has _ rfl rfl, trivial⟩
theorem rofA {x : Int} (hx : i64 x) (H : Heap) : relX rofR [iA x] H = some (rI x, H) := relX_eq rofR_fun ⟨x, hx, rfl, rfl, rfl⟩
theorem rplusA {u1 u2 : AVal} {x y : Int} (h1 : IsI u1 x) (h2 : IsI u2 y) (hx : Sm x.natAbs) (hy : Sm y.natAbs) (hxy : Sm (x.natAbs + y.natAbs)) (H : Heap) : relX rplusR [u1, u2] H = some (rI (x + y), H) :=
  relX_eq rplusR_fun ⟨u1, u2, x, y, hx, hy, hxy, h1, h2, rfl, rfl, rfl⟩
end
end Go.AM.C

/- The reference's ledger: Post. -/
namespace Go.AM
set_option linter.unusedVariables false
set_option linter.unusedSimpArgs false
theorem row_ptr {H : Heap} {id off : Nat} {vs : List AVal} {ty : TypeId} (h : H[id]? = some (.cells vs ty)) : rowAt H (.ptr id off) = some (vs, off) := by simp only [rowAt, h]
end Go.AM
namespace Go.AM.C
open Go.Proofs
noncomputable section
set_option linter.unusedVariables false
set_option linter.unusedSimpArgs false

theorem srt_self {w : Posts} (h : SS w) : srt w = w := ss_ext (srt_ss h.nodup) h fun k => srt_get h.nodup k
theorem rput_len : ∀ (l : Posts) (p : List UInt8 × Int), (rput l p).length ≤ l.length + 1
  | [], p => Nat.le_refl _
  | e :: l, p => by
    have ih := rput_len l p
    unfold rput
    split
    · simp only [List.length_cons]; omega
    · split
      · simp only [List.length_cons]; omega
      · simp only [List.length_cons]; omega
theorem rput_ne (l : Posts) (p : List UInt8 × Int) : rput l p ≠ [] := by
  cases l with
  | nil => intro h; cases h
  | cons e l =>
    unfold rput
    split
    · intro h; cases h
    · split
      · intro h; cases h
      · intro h; cases h
theorem postsA_ne {l : Posts} (h : l ≠ []) : postsA l = islP l := by unfold postsA islP; rw [if_neg h]
/-- put, on a row that may be nil. -/
theorem putA_has (l : Posts) (p : List UInt8 × Int) (hl : l.length < 536870912) (H : Heap) : Has 51 [postsA l, .agg [.str p.1, iA p.2]] H (postsA (rput l p)) H := by
  rw [postsA_ne (rput_ne l p)]
  by_cases h : l = []
  · subst h
    refine Has.wk (put_has [] p hl H) rfl fun j a' a ha' ha => ?_
    match j, ha', ha with
    | 0, ha', ha => cases ha'; cases ha; exact wk_nils0
    | 1, ha', ha => cases ha'; cases ha; exact Wk.refl _
  · rw [postsA_ne h]
    exact put_has l p hl H
theorem postsA_cell (l : Posts) : (postsA l).cell = true := by unfold postsA; split <;> rfl
theorem tRI : S0.ty 36 = some ti36 := rfl
theorem isI_len {a b : AVal} {z : Int} (h : IsI (.agg [a, b]) z) (H : Heap) : denLen H S0 34 b = some (.int .i64 ((digs z.natAbs).length : Int)) := by
  rcases h with h | ⟨h, rfl⟩
  · unfold rI at h
    injection h with h
    injection h with _ h
    injection h with h
    subst h
    rfl
  · unfold rI0 at h
    injection h with h
    injection h with _ h
    injection h with h
    subst h
    show _ = some (AVal.int .i64 ((digs 0).length : Int))
    rw [digs_zero]
    rfl

theorem append_nn {S : Sg} {call : Calling} {d : Bool} {g : Operand → AVal} {H : Heap} {c : Call} {t e : TypeId} {ti te : TI} (hc : c.callee = .builtin .append) (ha : c.args.toList.map g = [.nils, .nils]) (hta : c.argTypes.toList = [t, t]) (ht : S.ty t = some ti) (hd : ti.desc = .slice e) (he : S.ty e = some te) :
    denG S call d g H (.call c) = some (.nils, H) := by
  obtain ⟨d1, d2, d3, d4, d5, d6, d7, d8⟩ := ti
  simp only at hd
  subst hd
  have hsc : sliceCells H te.size .nils = some ([], 0) := rfl
  simp only [denG, hc, ha, hta, denAppend, ht, he, hsc]
  rfl
/-- A copy of a row. -/
theorem outP_all (w : Posts) (HH : Heap) (hw : w.length < 1073741824) : ∃ v' H', OutOK H' HH.length v' w ∧ (v' = .nils ∨ w ≠ []) ∧ Ext.Keeps HH H' ∧ HH.length ≤ H'.length ∧
    ∀ (S : Sg) (call : Calling) (d : Bool) (g : Operand → AVal) (c : Call), S.ty = S0.ty → c.callee = .builtin .append → c.args.toList.map g = [.nils, postsA w] → c.argTypes.toList = [27, 27] → denG S call d g HH (.call c) = some (v', H') := by
  by_cases h : w = []
  · subst h
    refine ⟨.nils, HH, .inl ⟨rfl, rfl⟩, .inl rfl, fun _ _ => rfl, Nat.le_refl _, fun S call d g c hS hc ha hta => ?_⟩
    have ht : S.ty 27 = some ti27 := by rw [hS]; rfl
    have he : S.ty 40 = some ti40 := by rw [hS]; rfl
    exact append_nn hc ha hta ht rfl he
  · obtain ⟨n, hn⟩ : ∃ n, w.length = n + 1 := ⟨w.length - 1, by have := List.length_pos_iff.2 h; omega⟩
    have hpl := postC_len w
    refine ⟨.sl HH.length 0 w.length none 2, HH ++ [.cells (postC w) 40], .inr ⟨HH.length, 40, Nat.le_refl _, rfl, app_at rfl⟩, .inr h, Keeps.app _ _, by simp, fun S call d g c hS hc ha hta => ?_⟩
    rw [postsA_ne h] at ha
    unfold islP at ha
    rw [hn] at ha ⊢
    exact G.append_whole (ti := ti27) (te := ti40) hc ha hta (by rw [hS]; rfl) rfl (by rw [hS]; rfl) (by show (postC w).length = (n + 1) * 2; omega) (postC_cell w) (by decide) (by omega)
theorem sl_placed {c : Ctx} {w : World} {id off n sz : Nat} {cap : Option Nat} {v : Value} (hv : VR c w (.sl id off n cap sz) v) : ∃ p, c.ι id = some p := by
  cases hv with
  | sl _ _ _ _ _ b o ca hι _ _ _ _ => exact ⟨_, hι⟩
  | sl0 _ _ _ _ b o a hι _ => exact ⟨_, hι⟩
/-- A row is made immutable in mid-run. -/
theorem WO.sealP {S : Sg} {n : Nat} {draw : Bool} {ops : Array Oper} {rest : List Oper} {i : Nat} {F : Fr} {HH : Heap} {K : Fr → Heap → Prop} {N t : Nat} {out : Posts} (ht : t < n) (ho : OutOK HH N (F t) out) (hne : F t = .nils ∨ out ≠ [])
    (next : ∀ J, (∀ id, id < N → J[id]? = HH[id]?) → J.length = HH.length → WO Tryz.prog S n draw ops rest i (putF F (some t) (postsA out)) J K) : WO Tryz.prog S n draw ops rest i F HH K := by
  have ho' := ho
  rcases ho with ⟨h1, rfl⟩ | ⟨id, ty, hN, h1, hH⟩
  · have e : putF F (some t) (postsA []) = F := by
      funext u
      show (bif Nat.beq u t then postsA [] else F u) = F u
      cases hb : Nat.beq u t with
      | false => rfl
      | true => rw [Nat.eq_of_beq_eq_true hb, h1]; rfl
    have := next HH (fun _ _ => rfl) rfl
    rwa [e] at this
  · have hne' : out ≠ [] := by
      rcases hne with h | h
      · rw [h1] at h; cases h
      · exact h
    have hid : id < HH.length := (List.getElem?_eq_some_iff.1 hH).1
    refine WO.seal1 (id := id) (t := t) (a' := postsA out) ht hH rfl (fun c w v hv => ?_) ?_ (next (HH.set id .dead) (fun j hj => by rw [List.getElem?_set_ne (by omega)]) (by rw [List.length_set]))
    · rw [h1] at hv
      exact sl_placed hv
    · rw [h1]
      have hat : (only HH id)[id]? = some (.cells (postC out) ty) := (only_at HH id).trans hH
      rw [postsA_ne hne']
      unfold islP
      refine Seals.sl id 0 _ none 2 _ ty _ hat (by rw [postC_len]; omega) (postC_len out) (fun j a b ha hb => ?_) (postC_closed out)
      rw [Nat.zero_add] at ha
      rw [ha] at hb
      cases hb
      exact Seals.same _ (closed1_ (postC_closed out a (List.mem_of_getElem? ha)))
theorem rofS {x : Int} (hx : i64 x) (H : Heap) : callS SP 12 [iA x] H = some (rI x, H) := (show callS SP 12 [iA x] H = relX rofR [iA x] H from rfl).trans (rofA hx H)
theorem rplusS {u1 u2 : AVal} {x y : Int} (h1 : IsI u1 x) (h2 : IsI u2 y) (hx : Sm x.natAbs) (hy : Sm y.natAbs) (hxy : Sm (x.natAbs + y.natAbs)) (H : Heap) : callS SP 11 [u1, u2] H = some (rI (x + y), H) :=
  (show callS SP 11 [u1, u2] H = relX rplusR [u1, u2] H from rfl).trans (rplusA h1 h2 hx hy hxy H)
theorem sm_big {n : Nat} (h : n ≤ 100000000000000000000000000000000000000000) : Sm n := sm_of (Nat.lt_of_le_of_lt h (by decide))
theorem i64_nat {x : Int} (h : i64 x) : x.natAbs ≤ 9223372036854775808 := by unfold i64 at h; omega
theorem take_bound {l : Posts} (h : ∀ p ∈ l, i64 p.2) (hl : l.length < 1048576) (k : Nat) : (sumP (l.take k)).natAbs ≤ 9671406556917033397649408 := by
  have := sumP_bound (l := l.take k) fun p hp => h p (List.mem_of_mem_take hp)
  have h2 : (l.take k).length ≤ 1048576 := by simp; omega
  have := Nat.mul_le_mul_right 9223372036854775808 h2
  omega
theorem amt_big {undo : Bool} {l : Posts} (h : ∀ p ∈ l, i64 p.2) (hl : l.length < 1048576) (k : Nat) (a : List UInt8) : (amt undo (l.take k) a).natAbs ≤ 9671406556917033397649408 := by
  have := amt_bound (undo := undo) (k := a) (l := l.take k) fun p hp => h p (List.mem_of_mem_take hp)
  have h2 : (l.take k).length ≤ 1048576 := by simp; omega
  have := Nat.mul_le_mul_right 9223372036854775808 h2
  omega
theorem iz_closed (z : Int) : (iA z).closed = true := rfl
theorem take_ok {l : Posts} {j : Nat} {p : List UInt8 × Int} (hp : l[j]? = some p) (h : ∀ q ∈ l.take j, nameOk q.1 = true) (hn : nameOk p.1 = true) : ∀ q ∈ l.take (j + 1), nameOk q.1 = true := fun q hq => by
  rw [List.take_add_one, hp] at hq
  rcases List.mem_append.1 hq with h1 | h1
  · exact h q h1
  · rw [List.mem_singleton.1 (show q ∈ [p] from h1)]; exact hn
end
end Go.AM.C

/- The reference's ledger: the walk of Post. -/
namespace Go.AM.C
open Go.Proofs
noncomputable section
set_option linter.unusedVariables false
set_option linter.unusedSimpArgs false

abbrev cI (z : Int) : List AVal := [.bool (decide (z < 0)), rD z.natAbs]
set_option maxRecDepth 100000 in
set_option maxHeartbeats 4000000 in
theorem rpost_has {H : Heap} {L : Nat} {w : Posts} {cnt : Int} (undo : Bool) {l : Posts} (hL : H[L]? = some (rlO w cnt)) (hss : SS w) (hwi : ∀ e ∈ w, i64 e.2) (hwn : w.length < 268435456) (hcnt : -9223372036854775808 ≤ cnt + 1 ∧ cnt + 1 < 9223372036854775808)
    (hlb : ∀ p ∈ l, i64 p.2 ∧ p.1.length < 4611686018427387904) (hll : l.length < 1048576) :
    Has 18 [.ptr L 0, postsA l, .bool undo] H (iA (bookCode undo w l : Int)) (H.set L (.cells (if bookCode undo w l = 0 then [postsA (srt (bookE w (sumsOf undo l))), iA (cnt + 1)] else [postsA w, iA cnt]) 29)) := by
  have hLlt : L < H.length := (List.getElem?_eq_some_iff.1 hL).1
  have hI0 : RefI undo w l w 0 := by
    have := RefI.zero (undo := undo) (l := l) hss.nodup
    rwa [srt_self hss] at this
  have hli : ∀ p ∈ l, i64 p.2 := fun p hp => (hlb p hp).1
  have hform := fun (i : Nat) (p : List UInt8 × Int) (hp : l[i]? = some p) (h : nameOk p.1 = false) => code_form (undo := undo) (m := w) hp h
  have hrange := fun (h1 : (l.all fun p => nameOk p.1) = true) (h2 : total false l ≠ 0) => code_range (undo := undo) (m := w) h1 h2
  have hlarge := fun (k : List UInt8) (h1 : (l.all fun p => nameOk p.1) = true) (h2 : total false l = 0) (h3 : ¬ i64 (look 0 w k + amt undo l k)) => code_large (undo := undo) hwi h1 h2 h3
  have hgood := fun (N : Posts) (h : RefI undo w l N l.length) (h1 : (l.all fun p => nameOk p.1) = true) (h2 : total false l = 0) => h.code0 hwi h1 h2
  have hlast := fun (N : Posts) (h : RefI undo w l N l.length) => h.last hss.nodup
  generalize bookCode undo w l = C at *
  generalize srt (bookE w (sumsOf undo l)) = N2 at *
  refine Has.of (l := [rofE, rplusE]) ?_
  refine does_mut sP (show SP.fn 18 = some Tryz.f18 by kernel_rfl) rfl (by kernel_rfl) (Nat.le_of_ble_eq_true rfl) (L := L) (offL := 0) (by simp) hL rfl ?_
  have hsl : ∀ J, SlF J (postsA l) l := fun J => slf_postsA J l
  generalize postsA l = va at hsl ⊢
  refine W.seq (W.region ?_)
  refine WO.op rfl rfl (WO.nil (W.seq (W.region ?_)))
  refine WO.op (v := rI0) rfl rfl ?_
  refine WO.op rfl rfl ?_
  refine WO.op (G.store_last (B := H) rfl rfl rfl rfl tRI rfl rfl rfl) rfl (WO.nil (W.seq (W.seq (W.region ?_))))
  refine WO.op rfl rfl (WO.nil (W.block ?_))
  refine W.fits (F' := fr [(0, .ptr L 0), (1, va), (2, .bool undo), (7, .ptr H.length 0), (8, iA ((0 : Nat) : Int))]) (fits_fr ⟨rfl, rfl, rfl, rfl, rfl, trivial⟩) ?_
  refine W.loopI (α := Nat × AVal × AVal) (fun x => x.1 ≤ l.length ∧ IsI (.agg [x.2.1, x.2.2]) (sumP (l.take x.1)) ∧ ∀ q ∈ l.take x.1, nameOk q.1 = true) (fun x => l.length - x.1)
    (fun x => fr [(0, .ptr L 0), (1, va), (2, .bool undo), (7, .ptr H.length 0), (8, iA (x.1 : Int))]) (fun x => H ++ [.cells [x.2.1, x.2.2] 36]) ?_ (0, .bool false, .nils) ⟨Nat.zero_le _, .inr ⟨rfl, rfl⟩, fun q hq => by cases hq⟩
  rintro ⟨j, ca, cb⟩ ⟨hj, hsum, hok⟩
  simp only at hj hsum hok
  change W _ _ _ _ (fr [(0, .ptr L 0), (1, va), (2, .bool undo), (7, .ptr H.length 0), (8, iA (j : Int))]) (H ++ [.cells [ca, cb] 36]) _
  have hkA : Ext.Keeps H (H ++ [AObj.cells [ca, cb] 36]) := Keeps.app _ _
  have hLA : (H ++ [AObj.cells [ca, cb] 36])[L]? = some (rlO w cnt) := (app_lt hLlt).trans hL
  have hSA : (H ++ [AObj.cells [ca, cb] 36])[H.length]? = some (.cells [ca, cb] 36) := app_at rfl
  have hsm := sm_big (Nat.le_trans (take_bound hli hll j) (by decide))
  refine W.seq (W.seq (W.region ?_))
  refine WO.op rfl rfl ?_
  refine WO.op rfl rfl ?_
  refine WO.op (v := .int .i64 (l.length : Int)) (congrArg (withH _) ((hsl _).len _ (fun _ _ => rfl))) rfl ?_
  by_cases hlt : j < l.length
  · obtain ⟨p, hp⟩ : ∃ p, l[j]? = some p := ⟨_, List.getElem?_eq_getElem hlt⟩
    have hpm := List.mem_of_getElem? hp
    obtain ⟨a, a0, a1, row, off, f1, f2, f3, f4, f5, f6⟩ := (hsl (H ++ [AObj.cells [ca, cb] 36])).at_ j p hp
    have f4' := f4 _ (fun _ _ => rfl)
    refine WO.as (v' := .bool true) rfl rfl (bdT (by omega)) (WO.nil (W.cond (b := true) rfl (fun _ => W.skip ?_) (fun h => by cases h)))
    refine W.seq (W.block (W.seq (W.seq (W.region ?_))))
    refine WO.op rfl rfl ?_
    refine WO.op rfl rfl ?_
    refine WO.op (SlU.idxG rfl rfl f1) rfl ?_
    refine WO.op (congrArg (withH _) f2) rfl ?_
    refine WO.op (G.load_row rfl tS rfl f4'.2.1 f5) rfl ?_
    refine WO.call rfl (Has.at (refName_ok p.1 (hlb p hpm).2 _)) rfl ?_
    cases hn : nameOk p.1 with
    | false =>
      have hC : C = 1 := hform j p hp hn
      subst hC
      refine WO.op rfl rfl (WO.nil (W.cond (b := true) rfl (fun _ => ?_) (fun h => by cases h)))
      refine W.seq (W.region ?_)
      refine WO.op rfl rfl (WO.nil (W.ret ⟨trivial, _, _, _, rfl, SealsN.same _ rfl, hLA, rfl, fun j a b ha hb => .inl ⟨Option.some.inj (ha.symm.trans hb), ha⟩, fun id hid _ => hkA id hid⟩))
    | true =>
      refine WO.op rfl rfl (WO.nil (W.cond (b := false) rfl (fun h => by cases h) (fun _ => W.skip ?_)))
      have hpi := hli p hpm
      refine W.draw0 rfl (by kernel_rfl) ?_
      refine WT.op (G.load_agg2 rfl tRI rfl rfl (row_ptr hSA) rfl rfl) rfl rfl ?_
      refine WT.op rfl rfl rfl ?_
      refine WT.op rfl rfl rfl ?_
      refine WT.op (SlU.idxG rfl rfl f1) rfl rfl ?_
      refine WT.op (congrArg (withH _) f3) rfl rfl ?_
      refine WT.op (G.load_row rfl tI rfl f4'.2.2 f6) rfl rfl ?_
      refine WT.op (rofS hpi _) rfl rfl ?_
      refine WT.op (rplusS hsum (.inl rfl) hsm (sm_big (Nat.le_trans (i64_nat hpi) (by decide))) (sm_big (by have := take_bound hli hll j; have := i64_nat hpi; omega)) _) rfl rfl ?_
      refine WT.op (G.store_last (B := H) rfl rfl rfl rfl tRI rfl rfl rfl) rfl rfl (WT.nil (W.region ?_))
      refine WO.op rfl rfl ?_
      refine WO.as (v' := iA ((j + 1 : Nat) : Int)) rfl rfl (int_i64 (by omega) (by omega)) ?_
      refine WO.op rfl rfl (WO.nil ⟨(j + 1, _, _), ⟨by omega, .inl ?_, take_ok hp hok hn⟩, by simp only; omega, fits_fr ⟨rfl, rfl, rfl, rfl, rfl, trivial⟩, rfl⟩)
      simp only
      rw [sumP_take hp]
      rfl
  · have hje : j = l.length := by omega
    subst hje
    have hall : (l.all fun p => nameOk p.1) = true := by
      rw [List.take_length] at hok
      rw [List.all_eq_true]
      exact hok
    have hlen := isI_len hsum
    rw [List.take_length] at hlen
    refine WO.as (v' := .bool false) rfl rfl (bdF (by omega)) (WO.nil (W.cond (b := false) rfl (fun h => by cases h) (fun _ => W.exit ?_)))
    refine W.seq (W.seq (W.region ?_))
    refine WO.op rfl rfl ?_
    refine WO.op (G.load_ptr (v := cb) rfl tRN rfl hSA rfl) rfl ?_
    refine WO.op (v := .int .i64 ((digs (sumP l).natAbs).length : Int)) (congrArg (withH _) (hlen _)) rfl ?_
    by_cases h0 : sumP l = 0
    · have ht0 : total false l = 0 := by rw [total_sumP]; exact h0
      have hd0 : (digs (sumP l).natAbs).length = 0 := by rw [h0]; exact digs_nil.2 rfl
      refine WO.as (v' := .bool false) rfl rfl (bdF (by omega)) (WO.nil (W.cond (b := false) rfl (fun h => by cases h) (fun _ => W.skip (W.seq (W.region ?_)))))
      generalize hHA : H ++ [AObj.cells [ca, cb] 36] = HA at *
      obtain ⟨v', H', o1, o2, o3, o4, o5⟩ := outP_all w HA (by omega)
      have hlenA : H.length ≤ HA.length := by rw [← hHA]; simp
      refine WO.op rfl rfl ?_
      refine WO.op rfl rfl ?_
      refine WO.op rfl rfl ?_
      refine WO.op (G.load_ptr (v := postsA w) rfl tP rfl hLA rfl) rfl ?_
      refine WO.op (o5 _ _ _ _ _ rfl rfl rfl rfl) rfl ?_
      refine WO.op rfl rfl ?_
      refine WO.sealP (t := 9) (by decide) o1 o2 fun J hJ hJl => WO.nil ?_
      have hkJ : Ext.Keeps H J := fun id hid => ((hJ id (by omega)).trans (o3 id (by omega))).trans (hkA id hid)
      have hlJ : H.length ≤ J.length := by omega
      refine W.seq (W.seq (W.region ?_))
      refine WO.op rfl rfl (WO.nil (W.block ?_))
      refine W.fits (F' := fr [(0, .ptr L 0), (1, va), (2, .bool undo), (9, postsA w), (10, iA ((0 : Nat) : Int))]) (fits_fr ⟨rfl, rfl, rfl, rfl, rfl, trivial⟩) ?_
      refine W.loopI (α := Nat × Posts × Heap) (fun x => x.1 ≤ l.length ∧ RefI undo w l x.2.1 x.1 ∧ x.2.1.length ≤ w.length + x.1 ∧ Ext.Keeps H x.2.2 ∧ H.length ≤ x.2.2.length) (fun x => l.length - x.1)
        (fun x => fr [(0, .ptr L 0), (1, va), (2, .bool undo), (9, postsA x.2.1), (10, iA (x.1 : Int))]) (fun x => x.2.2) ?_ (0, w, J) ⟨Nat.zero_le _, hI0, Nat.le_refl _, hkJ, hlJ⟩
      clear hkJ hlJ hJ hJl o1 o2 o3 o4 o5 hHA hLA hSA hkA hlenA hsm hsum
      rintro ⟨j, N, J⟩ ⟨hj, hI, hNl, hkJ, hlJ⟩
      simp only at hj hI hNl hkJ hlJ
      change W _ _ _ _ (fr [(0, .ptr L 0), (1, va), (2, .bool undo), (9, postsA N), (10, iA (j : Int))]) J _
      have hLJ : J[L]? = some (rlO w cnt) := (hkJ L hLlt).trans hL
      refine W.seq (W.seq (W.region ?_))
      refine WO.op rfl rfl ?_
      refine WO.op rfl rfl ?_
      refine WO.op (v := .int .i64 (l.length : Int)) (congrArg (withH _) ((hsl _).len _ (fun _ _ => rfl))) rfl ?_
      by_cases hlt : j < l.length
      · obtain ⟨p, hp⟩ : ∃ p, l[j]? = some p := ⟨_, List.getElem?_eq_getElem hlt⟩
        have hpm := List.mem_of_getElem? hp
        obtain ⟨a, a0, a1, row, off, f1, f2, f3, f4, f5, f6⟩ := (hsl []).at_ j p hp
        have f4' : ∀ X : Heap, rowAt X a = some (row, off) ∧ rowAt X a0 = some (row, off) ∧ rowAt X a1 = some (row, off + 1) := fun X => f4 X fun id hid => absurd hid (Nat.not_lt_zero id)
        obtain ⟨jf, hk1, hk2, hk3⟩ := first_at hp
        refine WO.as (v' := .bool true) rfl rfl (bdT (by omega)) (WO.nil (W.cond (b := true) rfl (fun _ => W.skip ?_) (fun h => by cases h)))
        refine W.seq (W.block (W.seq (W.seq (W.region ?_))))
        refine WO.op rfl rfl ?_
        refine WO.op rfl rfl ?_
        refine WO.op rfl rfl ?_
        refine WO.op (SlU.idxG rfl rfl f1) rfl ?_
        refine WO.op (congrArg (withH _) f2) rfl ?_
        refine WO.op (G.load_row rfl tS rfl (f4' _).2.1 f5) rfl ?_
        refine WO.call rfl (Has.at (first_has (hsl _) (by omega) hk1)) rfl ?_
        refine WO.op rfl rfl ?_
        by_cases hfi : jf = j
        · have hnew := hk2.1 hfi
          subst hfi
          refine WO.as (v' := .bool false) rfl rfl (bnT rfl) (WO.nil (W.cond (b := false) rfl (fun h => by cases h) (fun _ => W.skip (W.seq (W.region ?_)))))
          have hlk := look_bound hwi p.1
          refine WO.op rfl rfl ?_
          refine WO.op rfl rfl ?_
          refine WO.op rfl rfl ?_
          refine WO.op (SlU.idxG rfl rfl f1) rfl ?_
          refine WO.op (congrArg (withH _) f2) rfl ?_
          refine WO.op (G.load_row rfl tS rfl (f4' _).2.1 f5) rfl ?_
          refine WO.call rfl (Has.at (rbal_has hLJ (by omega) p.1)) rfl ?_
          refine WO.call rfl (Has.at (rof_has _ hlk _)) rfl ?_
          refine WO.op rfl rfl ?_
          refine WO.op (G.store_last (B := J) rfl rfl rfl rfl tRI rfl rfl rfl) rfl (WO.nil (W.seq (W.seq (W.region ?_))))
          refine WO.op rfl rfl ?_
          refine WO.op rfl rfl (WO.nil (W.block ?_))
          refine W.fits (F' := fr [(0, .ptr L 0), (1, va), (2, .bool undo), (9, postsA N), (10, iA (jf : Int)), (11, .ptr J.length 0), (12, iA (jf : Int))]) (fits_fr ⟨rfl, rfl, rfl, rfl, rfl, rfl, rfl, trivial⟩) ?_
          refine W.loopI (α := Nat × Heap) (fun x => jf ≤ x.1 ∧ x.1 ≤ l.length ∧ x.2[J.length]? = some (.cells (cI (look 0 w p.1 + amt undo (l.take x.1) p.1)) 36) ∧ Ext.Keeps J x.2 ∧ J.length ≤ x.2.length) (fun x => l.length - x.1)
            (fun x => fr [(0, .ptr L 0), (1, va), (2, .bool undo), (9, postsA N), (10, iA (jf : Int)), (11, .ptr J.length 0), (12, iA (x.1 : Int))]) (fun x => x.2) ?_ (jf, _) ⟨Nat.le_refl _, hj, ?_, Keeps.app _ _, by simp⟩
          · rintro ⟨k, X⟩ ⟨hjk, hk, hX, hkX, hlX⟩
            simp only at hjk hk hX hkX hlX
            change W _ _ _ _ (fr [(0, .ptr L 0), (1, va), (2, .bool undo), (9, postsA N), (10, iA (jf : Int)), (11, .ptr J.length 0), (12, iA (k : Int))]) X _
            have hzb := amt_big (undo := undo) hli hll k p.1
            have hlkb := i64_nat hlk
            refine W.seq (W.seq (W.region ?_))
            refine WO.op rfl rfl ?_
            refine WO.op rfl rfl ?_
            refine WO.op (v := .int .i64 (l.length : Int)) (congrArg (withH _) ((hsl _).len _ (fun _ _ => rfl))) rfl ?_
            by_cases hkl : k < l.length
            · obtain ⟨q, hq⟩ : ∃ q, l[k]? = some q := ⟨_, List.getElem?_eq_getElem hkl⟩
              have hqi := hli q (List.mem_of_getElem? hq)
              obtain ⟨b, b0, b1, rowb, offb, g1, g2, g3, g4, g5, g6⟩ := (hsl []).at_ k q hq
              have g4' : ∀ X : Heap, rowAt X b = some (rowb, offb) ∧ rowAt X b0 = some (rowb, offb) ∧ rowAt X b1 = some (rowb, offb + 1) := fun X => g4 X fun id hid => absurd hid (Nat.not_lt_zero id)
              have hat := amt_take (undo := undo) hq p.1
              refine WO.as (v' := .bool true) rfl rfl (bdT (by omega)) (WO.nil (W.cond (b := true) rfl (fun _ => W.skip ?_) (fun h => by cases h)))
              refine W.seq (W.block (W.seq (W.draw0 rfl (by kernel_rfl) ?_)))
              refine WT.op rfl rfl rfl ?_
              refine WT.op rfl rfl rfl ?_
              refine WT.op (SlU.idxG rfl rfl g1) rfl rfl ?_
              refine WT.op (congrArg (withH _) g2) rfl rfl ?_
              refine WT.op (G.load_row rfl tS rfl (g4' _).2.1 g5) rfl rfl ?_
              refine WT.op rfl rfl rfl ?_
              refine WT.op rfl rfl rfl ?_
              refine WT.op (SlU.idxG rfl rfl f1) rfl rfl ?_
              refine WT.op (congrArg (withH _) f2) rfl rfl ?_
              refine WT.op (G.load_row rfl tS rfl (f4' _).2.1 f5) rfl rfl ?_
              by_cases hqp : q.1 = p.1
              · rw [if_pos hqp] at hat
                refine WT.as (v' := .bool true) rfl rfl rfl (by simp [hqp]) (WT.nil (W.cond (b := true) rfl (fun _ => ?_) (fun h => by cases h)))
                refine W.seq (W.region ?_)
                refine WO.op rfl rfl ?_
                refine WO.op rfl rfl ?_
                refine WO.op (SlU.idxG rfl rfl g1) rfl ?_
                refine WO.op (congrArg (withH _) g3) rfl ?_
                refine WO.op (G.load_row rfl tI rfl (g4' _).2.2 g6) rfl ?_
                refine WO.call rfl (Has.at (rof_has _ hqi _)) rfl ?_
                refine WO.op rfl rfl ?_
                refine WO.op (G.store_last (B := X) rfl rfl rfl rfl tRI rfl rfl rfl) rfl (WO.nil (W.seq (W.seq (W.region ?_))))
                have hqb := i64_nat hqi
                have hJX : J.length < X.length := (List.getElem?_eq_some_iff.1 hX).1
                refine WO.op rfl rfl (WO.nil (W.cond (b := undo) rfl (fun hu => ?_) (fun hu => ?_)))
                · subst hu
                  refine W.region ?_
                  refine WO.op (G.load_agg2 rfl tRI rfl rfl (row_ptr (app_at rfl)) rfl rfl) rfl ?_
                  refine WO.call rfl (Has.at (rminus_has q.2 (Nat.lt_trans (sm_big (by omega)) (by decide)) _)) rfl ?_
                  refine WO.op (G.store_last (B := X) rfl rfl rfl rfl tRI rfl rfl rfl) rfl (WO.nil (W.region ?_))
                  refine WO.op (G.load_agg2 rfl tRI rfl rfl (row_ptr ((app_lt hJX).trans hX)) rfl rfl) rfl ?_
                  refine WO.op (G.load_agg2 rfl tRI rfl rfl (row_ptr (app_at rfl)) rfl rfl) rfl ?_
                  refine WO.call rfl (Has.at (rplus_has (look 0 w p.1 + amt true (l.take k) p.1) (-q.2) (sm_big (by omega)) (sm_big (by omega)) (sm_big (by omega)) _)) rfl ?_
                  refine WO.op (G.store_agg ((app_lt hJX).trans hX) rfl rfl tRI rfl rfl rfl) rfl (WO.nil (W.region ?_))
                  refine WO.op rfl rfl ?_
                  refine WO.as (v' := iA ((k + 1 : Nat) : Int)) rfl rfl (int_i64 (by omega) (by omega)) ?_
                  refine WO.op rfl rfl (WO.nil ⟨(k + 1, _), ⟨by omega, hkl, ?_, ?_, ?_⟩, by simp only; omega, fits_fr ⟨rfl, rfl, rfl, rfl, rfl, rfl, rfl, trivial⟩, rfl⟩)
                  · simp only
                    rw [List.getElem?_set_self (by simp; omega), hat]
                    show some (AObj.cells (cI _) _) = some (AObj.cells (cI _) _)
                    rw [Int.add_assoc]
                    rfl
                  · exact keep_set (Keeps.trans hkX (Keeps.app _ _) hlX) (Nat.le_refl _)
                  · simp only [List.length_set, List.length_append, List.length_singleton]; omega
                · subst hu
                  refine W.skip (W.region ?_)
                  refine WO.op (G.load_agg2 rfl tRI rfl rfl (row_ptr ((app_lt hJX).trans hX)) rfl rfl) rfl ?_
                  refine WO.op (G.load_agg2 rfl tRI rfl rfl (row_ptr (app_at rfl)) rfl rfl) rfl ?_
                  refine WO.call rfl (Has.at (rplus_has (look 0 w p.1 + amt false (l.take k) p.1) q.2 (sm_big (by omega)) (sm_big (by omega)) (sm_big (by omega)) _)) rfl ?_
                  refine WO.op (G.store_agg ((app_lt hJX).trans hX) rfl rfl tRI rfl rfl rfl) rfl (WO.nil (W.region ?_))
                  refine WO.op rfl rfl ?_
                  refine WO.as (v' := iA ((k + 1 : Nat) : Int)) rfl rfl (int_i64 (by omega) (by omega)) ?_
                  refine WO.op rfl rfl (WO.nil ⟨(k + 1, _), ⟨by omega, hkl, ?_, ?_, ?_⟩, by simp only; omega, fits_fr ⟨rfl, rfl, rfl, rfl, rfl, rfl, rfl, trivial⟩, rfl⟩)
                  · simp only
                    rw [List.getElem?_set_self (by simp; omega), hat]
                    show some (AObj.cells (cI _) _) = some (AObj.cells (cI _) _)
                    rw [Int.add_assoc]
                    rfl
                  · exact keep_set (Keeps.trans hkX (Keeps.app _ _) hlX) (Nat.le_refl _)
                  · simp only [List.length_set, List.length_append, List.length_singleton]; omega
              · rw [if_neg hqp, Int.add_zero] at hat
                refine WT.as (v' := .bool false) rfl rfl rfl (by simp [hqp]) (WT.nil (W.cond (b := false) rfl (fun h => by cases h) (fun _ => W.skip (W.region ?_))))
                refine WO.op rfl rfl ?_
                refine WO.as (v' := iA ((k + 1 : Nat) : Int)) rfl rfl (int_i64 (by omega) (by omega)) ?_
                refine WO.op rfl rfl (WO.nil ⟨(k + 1, X), ⟨by omega, hkl, ?_, hkX, hlX⟩, by simp only; omega, fits_fr ⟨rfl, rfl, rfl, rfl, rfl, rfl, rfl, trivial⟩, rfl⟩)
                simp only
                rw [hat]
                exact hX
            · have hke : k = l.length := by omega
              subst hke
              have hkHX : Ext.Keeps H X := Keeps.trans hkJ hkX hlJ
              have hLX : X[L]? = some (rlO w cnt) := (hkHX L hLlt).trans hL
              refine WO.as (v' := .bool false) rfl rfl (bdF (by omega)) (WO.nil (W.cond (b := false) rfl (fun h => by cases h) (fun _ => W.exit ?_)))
              have hlg := hlarge p.1 hall ht0
              rw [List.take_length] at hX hzb
              have hsml := ismall_has (look 0 w p.1 + amt undo l p.1) (sm_big (by omega)) X
              have hnw := fun h : i64 (look 0 w p.1 + amt undo l p.1) => RefI.new hI hp rfl h
              generalize look 0 w p.1 + amt undo l p.1 = z at hX hlg hsml hnw
              refine W.seq (W.region ?_)
              refine WO.op (G.load_agg2 rfl tRI rfl rfl (row_ptr hX) rfl rfl) rfl ?_
              by_cases hz : i64 z
              · rw [smallI_in hz] at hsml
                refine WO.call rfl (Has.at hsml) rfl ?_
                refine WO.op rfl rfl ?_
                refine WO.op rfl rfl ?_
                refine WO.op rfl rfl ?_
                refine WO.op rfl rfl ?_
                refine WO.op rfl rfl (WO.nil (W.seq (W.seq (W.region ?_))))
                refine WO.op rfl rfl ?_
                refine WO.op rfl rfl (WO.nil (W.cond (b := false) rfl (fun h => by cases h) (fun _ => W.skip (W.region ?_))))
                refine WO.op rfl rfl ?_
                refine WO.op rfl rfl ?_
                refine WO.op rfl rfl ?_
                refine WO.op (SlU.idxG rfl rfl f1) rfl ?_
                refine WO.op (congrArg (withH _) f2) rfl ?_
                refine WO.op (G.load_row rfl tS rfl (f4' _).2.1 f5) rfl ?_
                refine WO.op rfl rfl ?_
                refine WO.op (v := .agg [.str p.1, iA z]) rfl rfl ?_
                refine WO.call rfl (Has.at (putA_has N (p.1, z) (by omega) _)) rfl ?_
                refine WO.op rfl rfl (WO.nil (W.region ?_))
                refine WO.op rfl rfl ?_
                refine WO.as (v' := iA ((jf + 1 : Nat) : Int)) rfl rfl (int_i64 (by omega) (by omega)) ?_
                have hrl := rput_len N (p.1, z)
                refine WO.op rfl rfl (WO.nil ⟨(jf + 1, rput N (p.1, z), X), ⟨hlt, hnw hz, by simp only; omega, hkHX, by simp only; omega⟩, by simp only; omega, fits_fr ⟨rfl, rfl, rfl, rfl, rfl, trivial⟩, rfl⟩)
              · have hC : C = 11 := hlg hz
                subst hC
                rw [smallI_out hz] at hsml
                refine WO.call rfl (Has.at hsml) rfl ?_
                refine WO.op rfl rfl ?_
                refine WO.op rfl rfl ?_
                refine WO.op rfl rfl ?_
                refine WO.op rfl rfl ?_
                refine WO.op rfl rfl (WO.nil (W.seq (W.seq (W.region ?_))))
                refine WO.op rfl rfl ?_
                refine WO.op rfl rfl (WO.nil (W.cond (b := true) rfl (fun _ => ?_) (fun h => by cases h)))
                refine W.seq (W.region ?_)
                refine WO.op rfl rfl (WO.nil (W.ret ⟨trivial, _, _, _, rfl, SealsN.same _ rfl, hLX, rfl, fun j a b ha hb => .inl ⟨Option.some.inj (ha.symm.trans hb), ha⟩, fun id hid _ => hkHX id hid⟩))
          · rw [amt_none hnew, Int.add_zero]
            exact app_at rfl
        · have hold : p.1 ∈ names (l.take j) := Classical.not_not.1 fun h => hfi (hk2.2 h)
          refine WO.as (v' := .bool true) rfl rfl (bnF (by omega)) (WO.nil (W.cond (b := true) rfl (fun _ => W.exit ?_) (fun h => by cases h)))
          refine W.region ?_
          refine WO.op rfl rfl ?_
          refine WO.as (v' := iA ((j + 1 : Nat) : Int)) rfl rfl (int_i64 (by omega) (by omega)) ?_
          exact WO.op rfl rfl (WO.nil ⟨(j + 1, N, J), ⟨hlt, hI.old hp hold, by simp only; omega, hkJ, hlJ⟩, by simp only; omega, fits_fr ⟨rfl, rfl, rfl, rfl, rfl, trivial⟩, rfl⟩)
      · have hje : j = l.length := by omega
        subst hje
        have hC : C = 0 := hgood N hI hall ht0
        have hN : N = N2 := hlast N hI
        subst hC
        subst hN
        refine WO.as (v' := .bool false) rfl rfl (bdF (by omega)) (WO.nil (W.cond (b := false) rfl (fun h => by cases h) (fun _ => W.exit ?_)))
        refine W.seq (W.region ?_)
        refine WO.op rfl rfl ?_
        refine WO.op rfl rfl ?_
        refine WO.op rfl rfl ?_
        refine WO.op rfl rfl ?_
        refine WO.op (G.store_ptr rfl rfl (postsA_cell _) tP rfl hLJ (by show 0 < 2; decide)) rfl (WO.nil (W.seq (W.region ?_)))
        have hLJlt : L < J.length := by omega
        have hL2 : (J.set L (.cells [postsA N, iA cnt] 29))[L]? = some (.cells [postsA N, iA cnt] 29) := List.getElem?_set_self hLJlt
        refine WO.op rfl rfl ?_
        refine WO.op rfl rfl ?_
        refine WO.op rfl rfl ?_
        refine WO.op (G.load_ptr (v := iA cnt) rfl tInt rfl hL2 rfl) rfl ?_
        refine WO.as (v' := iA (cnt + 1)) rfl rfl (int_i64 hcnt rfl) ?_
        refine WO.op rfl rfl ?_
        refine WO.op rfl rfl ?_
        refine WO.op (G.store_ptr rfl rfl rfl tInt rfl hL2 (by show 1 < 2; decide)) rfl (WO.nil (W.seq (W.region ?_)))
        refine WO.op rfl rfl (WO.nil (W.ret ⟨trivial, _, [postsA N, iA (cnt + 1)], 29, rfl, SealsN.same _ rfl, ?_, rfl, fun j a b ha hb => .inr ?_, fun id hid hne => ?_⟩))
        · rw [List.getElem?_set_self (by rw [List.length_set]; exact hLJlt)]; rfl
        · have hab : a = b := Option.some.inj (ha.symm.trans hb)
          subst hab
          have hcl : a.closed = true := by
            match j, ha with
            | 0, ha => cases ha; exact postsA_closed _
            | 1, ha => cases ha; rfl
          exact ⟨SealsN.same _ hcl, hcl⟩
        · rw [List.getElem?_set_ne (fun e => hne e.symm), List.getElem?_set_ne (fun e => hne e.symm)]
          exact hkJ id hid
    · have hC : C = 2 := hrange hall (by rw [total_sumP]; exact h0)
      subst hC
      have hd1 : (digs (sumP l).natAbs).length ≠ 0 := fun e => h0 (by have := digs_nil.1 e; omega)
      refine WO.as (v' := .bool true) rfl rfl (bdT (by omega)) (WO.nil (W.cond (b := true) rfl (fun _ => ?_) (fun h => by cases h)))
      refine W.seq (W.region ?_)
      refine WO.op rfl rfl (WO.nil (W.ret ⟨trivial, _, _, _, rfl, SealsN.same _ rfl, hLA, rfl, fun j a b ha hb => .inl ⟨Option.some.inj (ha.symm.trans hb), ha⟩, fun id hid _ => hkA id hid⟩))
end
end Go.AM.C

/- postings, with a row of its own. -/
namespace Go.AM.C
open Go.Proofs
noncomputable section
set_option linter.unusedVariables false
set_option linter.unusedSimpArgs false

def rowV (N : Nat) (out : Posts) : AVal := if out = [] then .nils else .sl (N + (out.length - 1)) 0 out.length none 2
def rowH (H : Heap) (out : Posts) : Heap := if out = [] then H else H ++ List.replicate (out.length - 1) .dead ++ [.cells (postC out) 40]
theorem row_out (H : Heap) (out : Posts) : OutOK (rowH H out) H.length (rowV H.length out) out ∧ (rowV H.length out = .nils ∨ out ≠ []) ∧ Ext.Keeps H (rowH H out) ∧ H.length ≤ (rowH H out).length := by
  unfold rowV rowH
  by_cases h : out = []
  · rw [if_pos h, if_pos h]
    exact ⟨.inl ⟨rfl, h⟩, .inl rfl, fun _ _ => rfl, Nat.le_refl _⟩
  · rw [if_neg h, if_neg h]
    refine ⟨.inr ⟨_, 40, by omega, rfl, app_at (by simp)⟩, .inr h, fun id hid => ?_, by simp⟩
    rw [List.append_assoc]
    exact List.getElem?_append_left hid
theorem row_one (H : Heap) (p : List UInt8 × Int) : (rowV H.length [p], rowH H [p]) = (.sl H.length 0 1 none 2, H ++ [.cells [.str p.1, iA p.2] 40]) := by
  unfold rowV rowH
  rw [if_neg (by simp), if_neg (by simp)]
  simp [postC]
theorem row_snoc (H : Heap) {out : Posts} (hne : out ≠ []) (p : List UInt8 × Int) : (rowV H.length (out ++ [p]), rowH H (out ++ [p])) = (.sl (rowH H out).length 0 (out.length + 1) none 2, (rowH H out).set (H.length + (out.length - 1)) .dead ++ [.cells (postC out ++ [.str p.1, iA p.2]) 40]) := by
  have hpos := List.length_pos_iff.2 hne
  unfold rowV rowH
  rw [if_neg (by simp), if_neg (by simp), if_neg hne]
  have e1 : (out ++ [p]).length - 1 = out.length - 1 + 1 := by simp; omega
  refine Prod.ext ?_ ?_
  · simp only [List.length_append, List.length_replicate, List.length_cons, List.length_nil]
    congr 1
    omega
  · simp only
    rw [app_set (by simp), e1, List.replicate_succ', postC_app]
    simp only [List.append_assoc]

set_option maxRecDepth 100000 in
theorem postings_row (l : Posts) (hll : l.length < 9223372036854775808) (H : Heap) : Has 10 [islP l] H (rowV H.length (cut8 l)) (rowH H (cut8 l)) := by
  have fin : ∀ k, l.take 8 = l.take k → (l.take k).map cutP = cut8 l := fun k h => by unfold cut8; rw [h]
  generalize cut8 l = R at fin
  refine Has.of (l := [textE]) ?_
  refine does_run sT (show ST.fn 10 = some Tryz.f10 by kernel_rfl) rfl (by kernel_rfl) (Nat.le_of_ble_eq_true rfl) ?_
  unfold islP
  refine W.seq (W.region ?_)
  refine WO.op rfl rfl (WO.nil (W.seq (W.region ?_)))
  refine WO.op rfl rfl (WO.nil (W.seq (W.seq (W.region ?_))))
  refine WO.op rfl rfl (WO.nil (W.block ?_))
  refine W.fits (F' := fr [(0, .isl (postC l) 0 l.length none true), (3, rowV H.length ((l.take 0).map cutP)), (4, iA ((0 : Nat) : Int))]) (fits_fr ⟨rfl, rfl, rfl, trivial⟩) ?_
  refine W.heq (H' := rowH H ((l.take 0).map cutP)) rfl ?_
  refine W.loopI (fun j : Nat => j ≤ l.length ∧ j ≤ 8) (fun j => 8 - j)
    (fun j => fr [(0, .isl (postC l) 0 l.length none true), (3, rowV H.length ((l.take j).map cutP)), (4, iA (j : Int))]) (fun j => rowH H ((l.take j).map cutP)) ?_ 0 ⟨Nat.zero_le _, Nat.zero_le _⟩
  rintro j ⟨hj, hj8⟩
  have htk1 : ∀ p, l[j]? = some p → (l.take (j + 1)).map cutP = (l.take j).map cutP ++ [cutP p] := fun p hp => by rw [List.take_add_one, hp, List.map_append]; rfl
  have hfin := fin j
  have hol : ((l.take j).map cutP).length ≤ 8 := by simp; omega
  generalize (l.take j).map cutP = O at *
  refine W.seq (W.seq (W.region ?_))
  refine WO.op rfl rfl ?_
  refine WO.op rfl rfl ?_
  refine WO.op (G.len_isl rfl rfl rfl tP rfl) rfl ?_
  by_cases hlt : j < l.length
  · refine WO.as (v' := .bool true) rfl rfl (bdT (by omega)) ?_
    refine WO.op rfl rfl ?_
    refine WO.op rfl rfl ?_
    by_cases hlt8 : j < 8
    · refine WO.as (v' := .bool true) rfl rfl (bdT (by omega)) ?_
      refine WO.op rfl rfl (WO.nil (W.cond (b := true) rfl (fun _ => W.skip ?_) (fun h => by cases h)))
      obtain ⟨p, hp⟩ : ∃ p, l[j]? = some p := ⟨_, List.getElem?_eq_getElem hlt⟩
      obtain ⟨hc1, hc2⟩ := postC_at l j p hp
      have htk := htk1 p hp
      refine W.seq (W.block (W.draw0 rfl (by kernel_rfl) ?_))
      refine WT.op rfl rfl rfl ?_
      refine WT.op rfl rfl rfl ?_
      refine WT.op rfl rfl rfl ?_
      refine WT.op (G.idx_isl rfl rfl tP rfl tp (by omega) (by omega)) rfl rfl ?_
      refine WT.op rfl rfl rfl ?_
      refine WT.op (G.load_ip (v := .str p.1) rfl tS rfl (by rw [Int.toNat_natCast, Nat.zero_add, Nat.add_zero]; exact hc1)) rfl rfl ?_
      refine WT.op (textA p.1 _) rfl rfl ?_
      refine WT.op rfl rfl rfl ?_
      refine WT.op rfl rfl rfl ?_
      refine WT.op (G.idx_isl rfl rfl tP rfl tp (by omega) (by omega)) rfl rfl ?_
      refine WT.op rfl rfl rfl ?_
      refine WT.op (G.load_ip (v := iA p.2) rfl tI rfl (by rw [Int.toNat_natCast, Nat.zero_add]; exact hc2)) rfl rfl ?_
      refine WT.op (v := .agg [.str (p.1.take 22), iA p.2]) rfl rfl rfl ?_
      refine WT.op (v := .isl [.str (p.1.take 22), iA p.2] 0 1 (some 1) true) rfl rfl rfl ?_
      by_cases ho : O = []
      · subst ho
        rw [List.nil_append] at htk
        have e := row_one H (cutP p)
        rw [← htk] at e
        refine WT.op (v := rowV H.length ((l.take (j + 1)).map cutP)) (H1 := rowH H ((l.take (j + 1)).map cutP)) (Eq.trans (G.append_nils_isl (ti := ti27) (te := ti40) (cap2 := some 1) (cl := true) rfl rfl rfl tP rfl tp rfl rfl (by decide)) (congrArg some e.symm)) rfl rfl ?_
        refine WT.op rfl rfl rfl (WT.nil (W.region ?_))
        refine WO.op rfl rfl ?_
        refine WO.as (v' := iA ((j + 1 : Nat) : Int)) rfl rfl (int_i64 (by omega) (by omega)) ?_
        exact WO.op rfl rfl (WO.nil ⟨j + 1, ⟨by omega, by omega⟩, by omega, fits_fr ⟨rfl, rfl, rfl, trivial⟩, rfl⟩)
      · have e := row_snoc H ho (cutP p)
        rw [← htk] at e
        have hpos := List.length_pos_iff.2 ho
        have hH : (rowH H O)[H.length + (O.length - 1)]? = some (.cells (postC O) 40) := by
          unfold rowH
          rw [if_neg ho]
          exact app_at (by simp)
        have hV : rowV H.length O = .sl (H.length + (O.length - 1)) 0 O.length none 2 := by unfold rowV; rw [if_neg ho]
        refine WT.op (v := rowV H.length ((l.take (j + 1)).map cutP)) (H1 := rowH H ((l.take (j + 1)).map cutP)) (Eq.trans (G.append_sl_isl (ti := ti27) (te := ti40) (cap2 := some 1) (cl := true) (id := H.length + (O.length - 1)) (len := O.length) (vs := postC O) (ty := 40) rfl (congrArg (fun x => [x, AVal.isl [.str (p.1.take 22), iA p.2] 0 1 (some 1) true]) hV) rfl tP rfl tp rfl rfl (by decide) (by decide) hH (postC_len _) (by omega)) (congrArg some e.symm)) rfl rfl ?_
        refine WT.op rfl rfl rfl (WT.nil (W.region ?_))
        refine WO.op rfl rfl ?_
        refine WO.as (v' := iA ((j + 1 : Nat) : Int)) rfl rfl (int_i64 (by omega) (by omega)) ?_
        exact WO.op rfl rfl (WO.nil ⟨j + 1, ⟨by omega, by omega⟩, by omega, fits_fr ⟨rfl, rfl, rfl, trivial⟩, rfl⟩)
    · have hje : j = 8 := by omega
      subst hje
      have hO := hfin rfl
      subst hO
      refine WO.as (v' := .bool false) rfl rfl (bdF (by omega)) ?_
      refine WO.op rfl rfl (WO.nil (W.cond (b := false) rfl (fun h => by cases h) (fun _ => W.exit ?_)))
      refine W.seq (W.region ?_)
      refine WO.op rfl rfl ?_
      exact WO.op rfl rfl (WO.nil (W.ret ⟨trivial, _, rfl, Wk.refl _, rfl⟩))
  · have hje : j = l.length := by omega
    subst hje
    have hO := hfin (by rw [List.take_length, List.take_of_length_le (by omega)])
    subst hO
    refine WO.as (v' := .bool false) rfl rfl (bdF (by omega)) ?_
    refine WO.op rfl rfl ?_
    refine WO.skip rfl ?_
    refine WO.skip rfl ?_
    refine WO.op rfl rfl (WO.nil (W.cond (b := false) rfl (fun h => by cases h) (fun _ => W.exit ?_)))
    refine W.seq (W.region ?_)
    refine WO.op rfl rfl ?_
    exact WO.op rfl rfl (WO.nil (W.ret ⟨trivial, _, rfl, Wk.refl _, rfl⟩))
end
end Go.AM.C

/- LedgerAll: what is called where the order is drawn; the tables. -/
namespace Go.AM.C
open Go.Proofs
noncomputable section
set_option linter.unusedVariables false
set_option linter.unusedSimpArgs false

theorem errA_inj {k c : Nat} (h : errA k = errA c) : k = c := by
  unfold errA at h
  split at h
  · split at h
    · omega
    · cases h
  · split at h
    · cases h
    · injection h with _ h
      injection h with _ h
      omega
def sameR (args : List AVal) (H : Heap) (v : AVal) (H' : Heap) : Prop := ∃ k c : Nat, k < 9223372036854775808 ∧ args = [errA k, .int .i64 (c : Int)] ∧ v = .bool (decide (k = c)) ∧ H' = H
theorem sameR_has : ∀ args H v H', sameR args H v H' → Has 17 args H v H' := by
  rintro _ H _ _ ⟨k, c, hk, rfl, rfl, rfl⟩
  exact same_has k c hk _
theorem sameR_fun : ∀ args H v H1 u H2, sameR args H v H1 → sameR args H u H2 → v = u ∧ H1 = H2 := by
  rintro _ H _ _ _ _ ⟨k, c, hk, rfl, rfl, rfl⟩ ⟨k', c', hk', h, rfl, rfl⟩
  injection h with h1 h2
  injection h2 with h2
  injection h2 with _ h2
  have e1 := errA_inj h1
  have e2 : c = c' := by omega
  subst e1; subst e2
  exact ⟨rfl, rfl⟩

structure RGood (H : Heap) (L : Nat) (w l : Posts) (cnt : Int) : Prop where
  hL : H[L]? = some (rlO w cnt)
  ss : SS w
  i : ∀ e ∈ w, i64 e.2
  n : w.length < 268435456
  c : -9223372036854775808 ≤ cnt + 1 ∧ cnt + 1 < 9223372036854775808
  b : ∀ p ∈ l, i64 p.2 ∧ p.1.length < 4611686018427387904
  l : l.length < 1048576
def rpostR (args : List AVal) (H : Heap) (v : AVal) (H' : Heap) : Prop := ∃ L w l cnt undo, RGood H L w l cnt ∧ args = [.ptr L 0, postsA l, .bool undo] ∧ v = iA (bookCode undo w l : Int) ∧
  H' = H.set L (.cells (if bookCode undo w l = 0 then [postsA (srt (bookE w (sumsOf undo l))), iA (cnt + 1)] else [postsA w, iA cnt]) 29)
theorem rlO_inj {w w' : Posts} {c c' : Int} (h : rlO w c = rlO w' c') : w = w' ∧ c = c' := by
  unfold rlO at h
  injection h with h
  injection h with h1 h2
  injection h2 with h2
  injection h2 with _ h2
  exact ⟨postsA_inj h1, h2⟩
theorem lgO_inj {s s' : AVal} {c c' : Int} (h : lgO s c = lgO s' c') : s = s' ∧ c = c' := by
  unfold lgO at h
  injection h with h
  injection h with h1 h2
  injection h2 with h2
  injection h2 with _ h2
  exact ⟨h1, h2⟩
theorem rpostR_has : ∀ args H v H', rpostR args H v H' → Has 18 args H v H' := by
  rintro _ H _ _ ⟨L, w, l, cnt, undo, g, rfl, rfl, rfl⟩
  exact rpost_has undo g.hL g.ss g.i g.n g.c g.b g.l
theorem rpostR_fun : ∀ args H v H1 u H2, rpostR args H v H1 → rpostR args H u H2 → v = u ∧ H1 = H2 := by
  rintro _ H _ _ _ _ ⟨L, w, l, cnt, undo, g, rfl, rfl, rfl⟩ ⟨L', w', l', cnt', undo', g', h, rfl, rfl⟩
  injection h with h1 h2
  injection h2 with h2 h3
  injection h3 with h3
  injection h1 with h1
  injection h3 with h3
  have e := postsA_inj h2
  subst h1; subst h3; subst e
  obtain ⟨e1, e2⟩ := rlO_inj (Option.some.inj (g.hL.symm.trans g'.hL))
  subst e1; subst e2
  exact ⟨rfl, rfl⟩

def allR (args : List AVal) (H : Heap) (v : AVal) (H' : Heap) : Prop := ∃ L src cnt m n, H[L]? = some (lgO src cnt) ∧ IsM src m ∧ GM m n ∧ n < 1073741824 ∧ args = [.ptr L 0] ∧ v = postsA (allE m) ∧ H' = H
theorem allR_has : ∀ args H v H', allR args H v H' → Has 20 args H v H' := by
  rintro _ H _ _ ⟨L, src, cnt, m, n, hL, hs, hm, hn, rfl, rfl, rfl⟩
  exact all_gm rfl hm hn hs _ L cnt hL
theorem allR_fun : ∀ args H v H1 u H2, allR args H v H1 → allR args H u H2 → v = u ∧ H1 = H2 := by
  rintro _ H _ _ _ _ ⟨L, src, cnt, m, n, hL, hs, hm, hn, rfl, rfl, rfl⟩ ⟨L', src', cnt', m', n', hL', hs', hm', hn', h, rfl, rfl⟩
  injection h with h1 h2
  injection h1 with h1
  subst h1
  obtain ⟨e1, e2⟩ := lgO_inj (Option.some.inj (hL.symm.trans hL'))
  subst e1
  have e := isM_inj hs hs'
  subst e
  exact ⟨rfl, rfl⟩
def rallR (args : List AVal) (H : Heap) (v : AVal) (H' : Heap) : Prop := ∃ L w cnt, H[L]? = some (rlO w cnt) ∧ w.length < 1073741824 ∧ args = [.ptr L 0] ∧ v = postsA (nz w) ∧ H' = H
theorem rallR_has : ∀ args H v H', rallR args H v H' → Has 21 args H v H' := by
  rintro _ H _ _ ⟨L, w, cnt, hL, hn, rfl, rfl, rfl⟩
  exact rall_has hL hn
theorem rallR_fun : ∀ args H v H1 u H2, rallR args H v H1 → rallR args H u H2 → v = u ∧ H1 = H2 := by
  rintro _ H _ _ _ _ ⟨L, w, cnt, hL, hn, rfl, rfl, rfl⟩ ⟨L', w', cnt', hL', hn', h, rfl, rfl⟩
  injection h with h1 h2
  injection h1 with h1
  subst h1
  obtain ⟨e1, e2⟩ := rlO_inj (Option.some.inj (hL.symm.trans hL'))
  subst e1
  exact ⟨rfl, rfl⟩
def alikeR (args : List AVal) (H : Heap) (v : AVal) (H' : Heap) : Prop := ∃ Z : Posts, Z.length < 4611686018427387904 ∧ args = [postsA Z, postsA Z] ∧ v = .bool true ∧ H' = H
theorem alikeR_has : ∀ args H v H', alikeR args H v H' → Has 19 args H v H' := by
  rintro _ H _ _ ⟨Z, hZ, rfl, rfl, rfl⟩
  exact alike_self Z hZ _
theorem alikeR_fun : ∀ args H v H1 u H2, alikeR args H v H1 → alikeR args H u H2 → v = u ∧ H1 = H2 := by
  rintro _ H _ _ _ _ ⟨Z, hZ, rfl, rfl, rfl⟩ ⟨Z', hZ', h, rfl, rfl⟩
  exact ⟨rfl, rfl⟩
def lenR (args : List AVal) (H : Heap) (v : AVal) (H' : Heap) : Prop := ∃ L src cnt, H[L]? = some (lgO src cnt) ∧ args = [.ptr L 0] ∧ v = iA cnt ∧ H' = H
theorem lenR_has : ∀ args H v H', lenR args H v H' → Has 22 args H v H' := by
  rintro _ H _ _ ⟨L, src, cnt, hL, rfl, rfl, rfl⟩
  exact len_has hL
theorem lenR_fun : ∀ args H v H1 u H2, lenR args H v H1 → lenR args H u H2 → v = u ∧ H1 = H2 := by
  rintro _ H _ _ _ _ ⟨L, src, cnt, hL, rfl, rfl, rfl⟩ ⟨L', src', cnt', hL', h, rfl, rfl⟩
  injection h with h1 h2
  injection h1 with h1
  subst h1
  obtain ⟨e1, e2⟩ := lgO_inj (Option.some.inj (hL.symm.trans hL'))
  subst e2
  exact ⟨rfl, rfl⟩
def balR (args : List AVal) (H : Heap) (v : AVal) (H' : Heap) : Prop := ∃ L src cnt m k, H[L]? = some (lgO src cnt) ∧ IsM src m ∧ (m.map (·.1)).Nodup ∧ args = [.ptr L 0, .str k] ∧ v = iA (look 0 m k) ∧ H' = H
theorem balR_has : ∀ args H v H', balR args H v H' → Has 23 args H v H' := by
  rintro _ H _ _ ⟨L, src, cnt, m, k, hL, hs, hm, rfl, rfl, rfl⟩
  exact balance_has hL hs hm k
theorem balR_fun : ∀ args H v H1 u H2, balR args H v H1 → balR args H u H2 → v = u ∧ H1 = H2 := by
  rintro _ H _ _ _ _ ⟨L, src, cnt, m, k, hL, hs, hm, rfl, rfl, rfl⟩ ⟨L', src', cnt', m', k', hL', hs', hm', h, rfl, rfl⟩
  injection h with h1 h2
  injection h1 with h1
  injection h2 with h2
  injection h2 with h2
  subst h1; subst h2
  obtain ⟨e1, e2⟩ := lgO_inj (Option.some.inj (hL.symm.trans hL'))
  subst e1
  have e := isM_inj hs hs'
  subst e
  exact ⟨rfl, rfl⟩

abbrev sameE : Ent := ⟨17, relX sameR, true, relX_quiet fun _ _ _ _ ⟨_, _, _, _, _, h⟩ => h⟩
abbrev rpostE : Ent := ⟨18, relX rpostR, false, fun h => by cases h⟩
abbrev allRE : Ent := ⟨20, relX allR, true, relX_quiet fun _ _ _ _ ⟨_, _, _, _, _, _, _, _, _, _, _, h⟩ => h⟩
abbrev rallE : Ent := ⟨21, relX rallR, true, relX_quiet fun _ _ _ _ ⟨_, _, _, _, _, _, _, h⟩ => h⟩
abbrev alikeE : Ent := ⟨19, relX alikeR, true, relX_quiet fun _ _ _ _ ⟨_, _, _, _, h⟩ => h⟩
abbrev lenE : Ent := ⟨22, relX lenR, true, relX_quiet fun _ _ _ _ ⟨_, _, _, _, _, _, h⟩ => h⟩
abbrev balE : Ent := ⟨23, relX balR, true, relX_quiet fun _ _ _ _ ⟨_, _, _, _, _, _, _, _, _, _, h⟩ => h⟩
abbrev SW : Sg := mkS Tryz.prog (tyOf tys) (fun t => Nat.beq t 29) globF pinF (fun _ => false) false [rofE, rplusE, sameE, rpostE, allRE, rallE, alikeE, lenE, balE]
theorem sW : Sound Tryz.prog SW := mkS_sound mixed (fun t i h => tyOf_ok tys_ok t i h)
  ⟨relX_ok rofR_has _ rfl rfl, relX_ok rplusR_has _ rfl rfl, relX_ok sameR_has _ rfl rfl, relX_ok rpostR_has _ rfl rfl, relX_ok allR_has _ rfl rfl, relX_ok rallR_has _ rfl rfl, relX_ok alikeR_has _ rfl rfl, relX_ok lenR_has _ rfl rfl, relX_ok balR_has _ rfl rfl, trivial⟩ globF_ok
theorem Has.inA {f : FuncId} {args : List AVal} {H H' : Heap} {v : AVal} (h : Has f args H v H') : DoesC Tryz.prog SW f args H v H' := DoesC.glob rfl rfl h
section
variable {H : Heap}
theorem rofW {x : Int} (hx : i64 x) : callS SW 12 [iA x] H = some (rI x, H) := (show callS SW 12 [iA x] H = relX rofR [iA x] H from rfl).trans (rofA hx H)
theorem rplusW {u1 u2 : AVal} {x y : Int} (h1 : IsI u1 x) (h2 : IsI u2 y) (hx : Sm x.natAbs) (hy : Sm y.natAbs) (hxy : Sm (x.natAbs + y.natAbs)) : callS SW 11 [u1, u2] H = some (rI (x + y), H) :=
  (show callS SW 11 [u1, u2] H = relX rplusR [u1, u2] H from rfl).trans (rplusA h1 h2 hx hy hxy H)
theorem sameW {k c : Nat} (hk : k < 9223372036854775808) : callS SW 17 [errA k, iA (c : Int)] H = some (.bool (decide (k = c)), H) :=
  (show callS SW 17 [errA k, iA (c : Int)] H = relX sameR [errA k, iA (c : Int)] H from rfl).trans (relX_eq sameR_fun ⟨k, c, hk, rfl, rfl, rfl⟩)
theorem rpostW {L : Nat} {w l : Posts} {cnt : Int} (undo : Bool) (g : RGood H L w l cnt) : callS SW 18 [.ptr L 0, postsA l, .bool undo] H = some (iA (bookCode undo w l : Int), H.set L (.cells (if bookCode undo w l = 0 then [postsA (srt (bookE w (sumsOf undo l))), iA (cnt + 1)] else [postsA w, iA cnt]) 29)) :=
  (show callS SW 18 [.ptr L 0, postsA l, .bool undo] H = relX rpostR [.ptr L 0, postsA l, .bool undo] H from rfl).trans (relX_eq rpostR_fun ⟨L, w, l, cnt, undo, g, rfl, rfl, rfl⟩)
theorem allW {L : Nat} {src : AVal} {cnt : Int} {m : Posts} {n : Nat} (hL : H[L]? = some (lgO src cnt)) (hs : IsM src m) (hm : GM m n) (hn : n < 1073741824) : callS SW 20 [.ptr L 0] H = some (postsA (allE m), H) :=
  (show callS SW 20 [.ptr L 0] H = relX allR [.ptr L 0] H from rfl).trans (relX_eq allR_fun ⟨L, src, cnt, m, n, hL, hs, hm, hn, rfl, rfl, rfl⟩)
theorem rallW {L : Nat} {w : Posts} {cnt : Int} (hL : H[L]? = some (rlO w cnt)) (hn : w.length < 1073741824) : callS SW 21 [.ptr L 0] H = some (postsA (nz w), H) :=
  (show callS SW 21 [.ptr L 0] H = relX rallR [.ptr L 0] H from rfl).trans (relX_eq rallR_fun ⟨L, w, cnt, hL, hn, rfl, rfl, rfl⟩)
theorem alikeW {Z : Posts} (hZ : Z.length < 4611686018427387904) : callS SW 19 [postsA Z, postsA Z] H = some (.bool true, H) :=
  (show callS SW 19 [postsA Z, postsA Z] H = relX alikeR [postsA Z, postsA Z] H from rfl).trans (relX_eq alikeR_fun ⟨Z, hZ, rfl, rfl, rfl⟩)
theorem lenW {L : Nat} {src : AVal} {cnt : Int} (hL : H[L]? = some (lgO src cnt)) : callS SW 22 [.ptr L 0] H = some (iA cnt, H) :=
  (show callS SW 22 [.ptr L 0] H = relX lenR [.ptr L 0] H from rfl).trans (relX_eq lenR_fun ⟨L, src, cnt, hL, rfl, rfl, rfl⟩)
theorem balW {L : Nat} {src : AVal} {cnt : Int} {m : Posts} (hL : H[L]? = some (lgO src cnt)) (hs : IsM src m) (hm : (m.map (·.1)).Nodup) (k : List UInt8) : callS SW 23 [.ptr L 0, .str k] H = some (iA (look 0 m k), H) :=
  (show callS SW 23 [.ptr L 0, .str k] H = relX balR [.ptr L 0, .str k] H from rfl).trans (relX_eq balR_fun ⟨L, src, cnt, m, k, hL, hs, hm, rfl, rfl, rfl⟩)
end

/-! #### the books of both -/
theorem look_srt {m : Posts} (h : (m.map (·.1)).Nodup) (k : List UInt8) : look 0 (srt m) k = look 0 m k := by unfold look; rw [srt_get h]
theorem code_srt {m : Posts} (h : (m.map (·.1)).Nodup) (undo : Bool) (l : Posts) : bookCode undo (srt m) l = bookCode undo m l := by
  have : allSmall undo (srt m) l = allSmall undo m l := by
    unfold allSmall
    congr 1
    funext e
    rw [look_srt h]
  unfold bookCode
  rw [this]
theorem books_srt {m : Posts} (h : (m.map (·.1)).Nodup) (undo : Bool) (l : Posts) : srt (bookE (srt m) (sumsOf undo l)) = srt (bookE m (sumsOf undo l)) := by
  have h1 := bookE_nodup (sumsOf undo l) _ h
  have h2 := bookE_nodup (sumsOf undo l) _ (srt_ss h).nodup
  refine ss_ext (srt_ss h2) (srt_ss h1) fun k => ?_
  rw [srt_get h2, srt_get h1, getE_books, getE_books, look_srt h, srt_get h]
theorem srt_i64 {m : Posts} (h : (m.map (·.1)).Nodup) (hm : ∀ e ∈ m, i64 e.2) : ∀ e ∈ srt m, i64 e.2 := fun e he => hm e ((srt_perm h).mem_iff.1 he)
theorem book_sum {undo : Bool} {m l : Posts} (h : total undo l = 0) : sumP (bookE m (sumsOf undo l)) = sumP m := by rw [sumP_book, sumO_sums, h]; omega
theorem code0_total {undo : Bool} {m l : Posts} (h : bookCode undo m l = 0) : total undo l = 0 := by
  unfold bookCode at h
  split at h
  · split at h
    · assumption
    · cases h
  · cases h
/-- The rows of both are sealed alike; one more posting. -/
theorem outQ_one {X : Heap} {N : Nat} {v : AVal} {out : Posts} (ho : OutOK X N v out) (hN : N ≤ X.length) (p : List UInt8 × Int) (hl : out.length < 1073741824) :
    ∃ v' J, OutOK J N v' (out ++ [p]) ∧ (∀ id, id < N → J[id]? = X[id]?) ∧ N ≤ J.length ∧ ∀ (S : Sg) (call : Calling) (d : Bool) (g : Operand → AVal) (c : Call), S.ty = S0.ty → c.callee = .builtin .append → c.args.toList.map g = [v, .sl X.length 0 1 (some 1) 2] → c.argTypes.toList = [27, 27] →
      denG S call d g (X ++ [.cells [.str p.1, iA p.2] 40]) (.call c) = some (v', J) := by
  rcases ho with ⟨rfl, rfl⟩ | ⟨id, ty, hid, rfl, hH⟩
  · refine ⟨.sl (X ++ [AObj.cells [.str p.1, iA p.2] 40]).length 0 1 none 2, X ++ [.cells [.str p.1, iA p.2] 40] ++ [.cells [.str p.1, iA p.2] 40], .inr ⟨_, 40, by simp; omega, rfl, app_at rfl⟩, fun id hid => ?_, by simp; omega, fun S call d g c hS hc ha hta => ?_⟩
    · rw [List.getElem?_append_left (by simp; omega), List.getElem?_append_left (by omega)]
    · exact G.append_nils (ti := ti27) (te := ti40) (id2 := X.length) (cap2 := some 1) hc ha hta (by rw [hS]; rfl) rfl (by rw [hS]; rfl) (app_at rfl) rfl rfl (by decide)
  · have hidl : id < X.length := (List.getElem?_eq_some_iff.1 hH).1
    refine ⟨.sl (X ++ [AObj.cells [.str p.1, iA p.2] 40]).length 0 (out.length + 1) none 2, (X ++ [AObj.cells [.str p.1, iA p.2] 40]).set id .dead ++ [AObj.cells (postC out ++ [.str p.1, iA p.2]) 40], .inr ⟨(X ++ [AObj.cells [.str p.1, iA p.2] 40]).length, 40, by simp; omega, by rw [show (out ++ [p]).length = out.length + 1 by simp], by rw [postC_app]; exact app_at (by simp)⟩, fun j hj => ?_, by simp; omega, fun S call d g c hS hc ha hta => ?_⟩
    · rw [List.getElem?_append_left (by simp; omega), List.getElem?_set_ne (by omega), List.getElem?_append_left (by omega)]
    · exact G.append_sl (ti := ti27) (te := ti40) (id2 := X.length) (cap2 := some 1) (id := id) (len := out.length) (vs := postC out) (ty := ty) hc ha hta (by rw [hS]; rfl) rfl (by rw [hS]; rfl) (app_at rfl) rfl rfl (by decide) (by decide) (by rw [app_lt hidl]; exact hH) (postC_len _) hl
theorem slf_out {H : Heap} {N : Nat} {v : AVal} {l : Posts} (h : OutOK H N v l) : SlF H v l := by
  rcases h with ⟨rfl, rfl⟩ | ⟨id, ty, hN, rfl, hH⟩
  · exact ⟨fun H' _ => rfl, fun j p hj => by simp at hj⟩
  · have hid : id < H.length := (List.getElem?_eq_some_iff.1 hH).1
    refine ⟨fun H' _ => rfl, fun j p hj => ?_⟩
    obtain ⟨h1, h2⟩ := postC_at l j p hj
    have hjl : j < l.length := (List.getElem?_eq_some_iff.1 hj).1
    refine ⟨.ptr id (0 + j * 2), .ptr id (0 + j * 2 + 0), .ptr id (0 + j * 2 + 1), postC l, 0 + j * 2, ?_, rfl, rfl, fun H' hk => ⟨row_ptr ((hk id hid).trans hH), row_ptr ((hk id hid).trans hH), row_ptr ((hk id hid).trans hH)⟩, by rw [Nat.zero_add]; exact h1, by rw [Nat.zero_add]; exact h2⟩
    show (if ti40.size = 2 ∧ 0 ≤ (j : Int) ∧ (j : Int) < (l.length : Int) then fNat (0 + (j : Int).toNat * 2) fun o => some (AVal.ptr id o) else none) = _
    rw [if_pos ⟨rfl, by omega, by omega⟩, fNat_eq, Int.toNat_natCast]

/-! #### the row of operations -/
abbrev Ops := List (Int × Posts × Bool)
def opC (l : Ops) : List AVal := l.flatMap fun o => [iA o.1, islP o.2.1, .bool o.2.2]
theorem opC_len (l : Ops) : (opC l).length = l.length * 3 := by
  induction l with
  | nil => rfl
  | cons o l ih => simp only [opC, List.flatMap_cons, List.length_append, List.length_cons, List.length_nil] at ih ⊢; omega
theorem opC_at : ∀ (l : Ops) (j : Nat) (o : Int × Posts × Bool), l[j]? = some o → (opC l)[j * 3]? = some (iA o.1) ∧ (opC l)[j * 3 + 1]? = some (islP o.2.1) ∧ (opC l)[j * 3 + 2]? = some (.bool o.2.2)
  | [], j, o, h => by simp at h
  | x :: l, 0, o, h => by
    have : x = o := by simpa using h
    subst this
    exact ⟨rfl, rfl, rfl⟩
  | x :: l, j + 1, o, h => by
    obtain ⟨h1, h2, h3⟩ := opC_at l j o (by simpa using h)
    have e : ∀ k, (opC (x :: l))[(j + 1) * 3 + k]? = (opC l)[j * 3 + k]? := fun k => by
      show (iA x.1 :: islP x.2.1 :: AVal.bool x.2.2 :: opC l)[(j + 1) * 3 + k]? = _
      rw [show (j + 1) * 3 + k = (j * 3 + k) + 1 + 1 + 1 by omega]
      rfl
    exact ⟨(e 0).trans h1, (e 1).trans h2, (e 2).trans h3⟩
end
end Go.AM.C

/- LedgerAll answers true. -/
namespace Go.AM
set_option linter.unusedVariables false
set_option linter.unusedSimpArgs false
/-- What is known between two pieces, one way or another. -/
theorem W.midE {P : Program} {S : Sg} {n : Nat} {F : Fr} {H : Heap} {K : Ex → Fr → Heap → Prop} {p q : Code} {α : Type} (I : α → Prop) (FF : α → List (Nat × AVal)) (HH : α → Heap)
    (h1 : W P S n p F H (fun x F' H' => x = .normal ∧ ∃ a, I a ∧ AllF F' (FF a) ∧ H' = HH a)) (h2 : ∀ a, I a → W P S n q (fr (FF a)) (HH a) K) : W P S n (.seq p q) F H K := by
  refine W.seq (h1.mono fun x F' H' h => ?_)
  obtain ⟨rfl, a, ha, hl, rfl⟩ := h
  exact W.fits (fits_fr hl) (h2 a ha)
end Go.AM
namespace Go.AM.C
open Go.Proofs
noncomputable section
set_option linter.unusedVariables false
set_option linter.unusedSimpArgs false

theorem tOps : S0.ty 22 = some ti22 := rfl
theorem tOp : S0.ty 32 = some ti32 := rfl
theorem tBl : S0.ty 4 = some ti4 := rfl
theorem outOK_app {X : Heap} {N : Nat} {v : AVal} {out : Posts} (Z : Heap) (h : OutOK X N v out) : OutOK (X ++ Z) N v out := by
  rcases h with h | ⟨id, ty, h1, h2, h3⟩
  · exact .inl h
  · exact .inr ⟨id, ty, h1, h2, by rw [List.getElem?_append_left (List.getElem?_eq_some_iff.1 h3).1]; exact h3⟩
theorem rminus_is {u : AVal} {z : Int} (h : IsI u z) (hz : Sm z.natAbs) (H : Heap) : Has 13 [u] H (rI (-z)) H := by
  refine Has.wk (rminus_has z (Nat.lt_trans hz (by decide)) H) rfl fun j a' a ha' ha => ?_
  match j, ha', ha with
  | 0, ha', ha => cases ha'; cases ha; exact h.wk
structure RoundI (l : Ops) (i : Nat) (H : Heap) (src : AVal) (m : Posts) (c : Nat) : Prop where
  i1 : i ≤ l.length
  i2 : i ≤ 40
  l0 : H[0]? = some (lgO src (c : Int))
  l1 : H[1]? = some (rlO (srt m) (c : Int))
  isM : IsM src m
  gm : GM m (9 * i)
  sum : sumP m = 0
  c : c ≤ i
  two : 2 ≤ H.length
/-- What a booking leaves in both. -/
theorem both (undo : Bool) {src : AVal} {m qs : Posts} {i c : Nat} (hM : IsM src m) (hm : GM m (9 * i)) (hs : sumP m = 0) (hc : c ≤ i) (hq : GP qs 9) : ∃ (src' : AVal) (m' : Posts) (c' : Nat),
    AObj.cells (if bookCode undo m qs = 0 then [imapA (bookE m (sumsOf undo qs)), iA ((c : Int) + 1)] else [src, iA (c : Int)]) 91 = lgO src' (c' : Int) ∧
    AObj.cells (if bookCode undo m qs = 0 then [postsA (srt (bookE m (sumsOf undo qs))), iA ((c : Int) + 1)] else [postsA (srt m), iA (c : Int)]) 29 = rlO (srt m') (c' : Int) ∧
    IsM src' m' ∧ GM m' (9 * (i + 1)) ∧ sumP m' = 0 ∧ c' ≤ i + 1 := by
  by_cases h : bookCode undo m qs = 0
  · refine ⟨imapA (bookE m (sumsOf undo qs)), bookE m (sumsOf undo qs), c + 1, by rw [if_pos h]; rfl, by rw [if_pos h]; rfl, .inl rfl, ?_, ?_, by omega⟩
    · have := hm.book hq h
      rwa [show 9 * i + 9 = 9 * (i + 1) by omega] at this
    · rw [book_sum (code0_total h), hs]
  · refine ⟨src, m, c, by rw [if_neg h], by rw [if_neg h], hM, ⟨hm.nd, hm.i, hm.k, by have := hm.n; omega⟩, hs, by omega⟩

set_option maxRecDepth 100000 in
set_option maxHeartbeats 8000000 in
theorem all_answers (l : Ops) (hll : l.length < 9223372036854775808) (hlp : ∀ o ∈ l, (∀ p ∈ o.2.1, i64 p.2) ∧ o.2.1.length < 9223372036854775808) (H : Heap) :
    Has 3 [.isl (opC l) 0 l.length none true] H (.bool true) H := by
  refine DoesC.glob (S := SW) rfl rfl ?_
  refine does_pure sW (show SW.fn 3 = some Tryz.f3 by kernel_rfl) rfl (by kernel_rfl) (Nat.le_of_ble_eq_true rfl) rfl rfl ?_
  refine W.seq (W.region ?_)
  refine WO.op rfl rfl (WO.nil (W.seq (W.region ?_)))
  refine WO.call rfl (Has.inA (begun_has _)) rfl ?_
  refine WO.op rfl rfl (WO.nil (W.seq (W.seq (W.region ?_))))
  refine WO.op rfl rfl ?_
  refine WO.op rfl rfl (WO.nil (W.cond (b := false) rfl (fun h => by cases h) (fun _ => W.skip (W.seq (W.region ?_)))))
  refine WO.call rfl (Has.inA (new_has _)) rfl ?_
  refine WO.op rfl rfl ?_
  refine WO.op rfl rfl ?_
  refine WO.op rfl rfl ?_
  refine WO.op rfl rfl (WO.nil (W.seq (W.seq (W.region ?_))))
  refine WO.op rfl rfl (WO.nil (W.block ?_))
  refine W.fits (F' := fr [(0, .isl (opC l) 0 l.length none true), (4, .ptr 0 0), (5, .ptr 1 0), (6, iA ((0 : Nat) : Int))]) (fits_fr ⟨rfl, rfl, rfl, rfl, trivial⟩) ?_
  refine W.heq (H' := [lgO .nilm ((0 : Nat) : Int), rlO [] ((0 : Nat) : Int)]) rfl ?_
  refine W.loopI (α := Nat × Heap × AVal × Posts × Nat) (fun x => RoundI l x.1 x.2.1 x.2.2.1 x.2.2.2.1 x.2.2.2.2) (fun x => 40 - x.1)
    (fun x => fr [(0, .isl (opC l) 0 l.length none true), (4, .ptr 0 0), (5, .ptr 1 0), (6, iA (x.1 : Int))]) (fun x => x.2.1) ?_ (0, [lgO .nilm ((0 : Nat) : Int), rlO [] ((0 : Nat) : Int)], .nilm, [], 0)
    ⟨Nat.zero_le _, Nat.zero_le _, rfl, by rw [srt_nil]; rfl, .inr ⟨rfl, rfl⟩, gm_nil, rfl, Nat.le_refl _, Nat.le_refl _⟩
  rintro ⟨i, HH, src, m, c⟩ hR
  obtain ⟨i1, i2, l0, l1, isM, gm, hsum, hc, htwo⟩ := hR
  simp only at i1 i2 l0 l1 isM gm hsum hc htwo
  change W _ _ _ _ (fr [(0, .isl (opC l) 0 l.length none true), (4, .ptr 0 0), (5, .ptr 1 0), (6, iA (i : Int))]) HH _
  refine W.seq (W.seq (W.region ?_))
  refine WO.op rfl rfl ?_
  refine WO.op rfl rfl ?_
  refine WO.op (G.len_isl rfl rfl rfl tOps rfl) rfl ?_
  by_cases hlt : i < l.length
  · refine WO.as (v' := .bool true) rfl rfl (bdT (by omega)) ?_
    refine WO.op rfl rfl ?_
    refine WO.op rfl rfl ?_
    by_cases hlt40 : i < 40
    · refine WO.as (v' := .bool true) rfl rfl (bdT (by omega)) ?_
      refine WO.op rfl rfl (WO.nil (W.cond (b := true) rfl (fun _ => W.skip ?_) (fun h => by cases h)))
      obtain ⟨o, ho⟩ : ∃ o, l[i]? = some o := ⟨_, List.getElem?_eq_getElem hlt⟩
      obtain ⟨kind, raw, even⟩ := o
      obtain ⟨oc0, oc1, oc2⟩ := opC_at l i _ ho
      simp only at oc0 oc1 oc2
      obtain ⟨hpi, hpl⟩ := hlp _ (List.mem_of_getElem? ho)
      simp only at hpi hpl
      refine W.seq (W.block (W.seq (W.region ?_)))
      have hpc := postings_row raw hpl HH
      obtain ⟨r1, r2, r3, r4⟩ := row_out HH (cut8 raw)
      have hgp := gp_cut8 hpi
      generalize rowV HH.length (cut8 raw) = pv at *
      generalize rowH HH (cut8 raw) = X at *
      generalize cut8 raw = ps at *
      refine WO.op rfl rfl ?_
      refine WO.op rfl rfl ?_
      refine WO.op (G.idx_isl rfl rfl tOps rfl tOp (by omega) (by omega)) rfl ?_
      refine WO.op rfl rfl ?_
      refine WO.op (G.load_ip (v := islP raw) rfl tP rfl (by rw [Int.toNat_natCast, Nat.zero_add]; exact oc1)) rfl ?_
      refine WO.call rfl (Has.inA hpc) rfl ?_
      refine WO.op rfl rfl (WO.nil ?_)
      refine W.midE (α := Posts × Heap) (fun a => GP a.1 9 ∧ Ext.Keeps HH a.2 ∧ HH.length ≤ a.2.length) (fun a => [(0, .isl (opC l) 0 l.length none true), (4, .ptr 0 0), (5, .ptr 1 0), (6, iA (i : Int)), (7, postsA a.1)]) (fun a => a.2) ?_ ?_
      · refine W.seq (W.region ?_)
        refine WO.op rfl rfl ?_
        refine WO.op rfl rfl ?_
        refine WO.op (G.idx_isl rfl rfl tOps rfl tOp (by omega) (by omega)) rfl ?_
        refine WO.op rfl rfl ?_
        refine WO.op (G.load_ip (v := .bool even) rfl tBl rfl (by rw [Int.toNat_natCast, Nat.zero_add]; exact oc2)) rfl ?_
        cases even with
        | false =>
          refine WO.sealP (t := 7) (by decide) r1 r2 fun J hJ hJl => WO.nil (W.cond (b := false) rfl (fun h => by cases h) (fun _ => W.skip ?_))
          exact ⟨rfl, (ps, J), ⟨⟨hgp.b, Nat.le_trans hgp.n (by decide)⟩, fun id hid => (hJ id hid).trans (r3 id hid), by simp only; omega⟩, ⟨rfl, rfl, rfl, rfl, rfl, trivial⟩, rfl⟩
        | true =>
          refine WO.nil (W.cond (b := true) rfl (fun _ => ?_) (fun h => by cases h))
          have hsl := slf_out r1
          have hli : ∀ p ∈ ps, i64 p.2 := fun p hp => (hgp.b p hp).1
          have hpn := hgp.n
          refine W.seq (W.region ?_)
          refine WO.op (v := rI0) rfl rfl ?_
          refine WO.op rfl rfl ?_
          refine WO.op (G.store_last (B := X) rfl rfl rfl rfl tRI rfl rfl rfl) rfl (WO.nil (W.seq (W.seq (W.region ?_))))
          refine WO.op rfl rfl ?_
          refine WO.op (v := .int .i64 (ps.length : Int)) (congrArg (withH _) (hsl.len _ (Keeps.app _ _))) rfl ?_
          refine WO.op rfl rfl (WO.nil (W.block ?_))
          refine W.fits (F' := fr [(0, .isl (opC l) 0 l.length none true), (4, .ptr 0 0), (5, .ptr 1 0), (6, iA (i : Int)), (7, pv), (8, .ptr X.length 0), (45, iA (ps.length : Int)), (46, iA ((0 : Nat) : Int))]) (fits_fr ⟨rfl, rfl, rfl, rfl, rfl, rfl, rfl, rfl, trivial⟩) ?_
          refine W.loopI (α := Nat × AVal × AVal) (fun x => x.1 ≤ ps.length ∧ IsI (.agg [x.2.1, x.2.2]) (sumP (ps.take x.1))) (fun x => ps.length - x.1)
            (fun x => fr [(0, .isl (opC l) 0 l.length none true), (4, .ptr 0 0), (5, .ptr 1 0), (6, iA (i : Int)), (7, pv), (8, .ptr X.length 0), (45, iA (ps.length : Int)), (46, iA (x.1 : Int))]) (fun x => X ++ [.cells [x.2.1, x.2.2] 36]) ?_ (0, .bool false, .nils) ⟨Nat.zero_le _, .inr ⟨rfl, rfl⟩⟩
          rintro ⟨j, ca, cb⟩ ⟨hj, hs⟩
          simp only at hj hs
          change W _ _ _ _ (fr [(0, .isl (opC l) 0 l.length none true), (4, .ptr 0 0), (5, .ptr 1 0), (6, iA (i : Int)), (7, pv), (8, .ptr X.length 0), (45, iA (ps.length : Int)), (46, iA (j : Int))]) (X ++ [.cells [ca, cb] 36]) _
          have hSA : (X ++ [AObj.cells [ca, cb] 36])[X.length]? = some (.cells [ca, cb] 36) := app_at rfl
          have htb := take_bound hli (by omega) j
          have hsm := sm_big (Nat.le_trans htb (by decide))
          refine W.seq (W.region ?_)
          by_cases hjl : j < ps.length
          · obtain ⟨p, hp⟩ : ∃ p, ps[j]? = some p := ⟨_, List.getElem?_eq_getElem hjl⟩
            have hpi2 := hli p (List.mem_of_getElem? hp)
            obtain ⟨a, a0, a1, row, off, f1, f2, f3, f4, f5, f6⟩ := hsl.at_ j p hp
            have f4' := f4 _ (Keeps.app X [AObj.cells [ca, cb] 36])
            refine WO.as (v' := .bool true) rfl rfl (bdT (by omega)) (WO.nil (W.seq (W.cond (b := true) rfl (fun _ => W.skip ?_) (fun h => by cases h))))
            refine W.seq (W.block (W.seq (W.region ?_)))
            refine WO.op rfl rfl ?_
            refine WO.op rfl rfl (WO.nil (W.draw0 rfl (by kernel_rfl) ?_))
            refine WT.op (G.load_agg2 rfl tRI rfl rfl (row_ptr hSA) rfl rfl) rfl rfl ?_
            refine WT.op rfl rfl rfl ?_
            refine WT.op rfl rfl rfl ?_
            refine WT.op (SlU.idxG rfl rfl f1) rfl rfl ?_
            refine WT.op (congrArg (withH _) f3) rfl rfl ?_
            refine WT.op (G.load_row rfl tI rfl f4'.2.2 f6) rfl rfl ?_
            refine WT.op (rofW hpi2) rfl rfl ?_
            refine WT.op (rplusW hs (.inl rfl) hsm (sm_big (Nat.le_trans (i64_nat hpi2) (by decide))) (sm_big (by have := i64_nat hpi2; omega))) rfl rfl ?_
            refine WT.op (G.store_last (B := X) rfl rfl rfl rfl tRI rfl rfl rfl) rfl rfl (WT.nil (W.region ?_))
            refine WO.as (v' := iA ((j + 1 : Nat) : Int)) rfl rfl (int_i64 (by omega) (by omega)) ?_
            refine WO.op rfl rfl (WO.nil ⟨(j + 1, _, _), ⟨by omega, .inl ?_⟩, by simp only; omega, fits_fr ⟨rfl, rfl, rfl, rfl, rfl, rfl, rfl, rfl, trivial⟩, rfl⟩)
            simp only
            rw [sumP_take hp]
            rfl
          · have hje : j = ps.length := by omega
            subst hje
            rw [List.take_length] at hs hsm htb
            refine WO.as (v' := .bool false) rfl rfl (bdF (by omega)) (WO.nil (W.seq (W.cond (b := false) rfl (fun h => by cases h) (fun _ => W.exit ?_))))
            have hmin := rminus_is hs hsm (X ++ [AObj.cells [ca, cb] 36])
            have hsml := ismall_has (-(sumP ps)) (sm_big (by omega)) (X ++ [AObj.cells [ca, cb] 36])
            have q1 := outOK_app [AObj.cells [ca, cb] 36] r1
            generalize -(sumP ps) = z at hmin hsml
            refine W.seq (W.region ?_)
            refine WO.op (G.load_agg2 rfl tRI rfl rfl (row_ptr hSA) rfl rfl) rfl ?_
            refine WO.call rfl (Has.inA hmin) rfl ?_
            have hlenY : HH.length ≤ (X ++ [AObj.cells [ca, cb] 36]).length := by simp; omega
            have hkY : Ext.Keeps HH (X ++ [AObj.cells [ca, cb] 36]) := Keeps.trans r3 (Keeps.app _ _) r4
            generalize X ++ [AObj.cells [ca, cb] 36] = Y at *
            by_cases hz : i64 z
            · rw [smallI_in hz] at hsml
              refine WO.call rfl (Has.inA hsml) rfl ?_
              refine WO.op rfl rfl ?_
              refine WO.op rfl rfl ?_
              refine WO.op rfl rfl ?_
              refine WO.op rfl rfl ?_
              refine WO.op rfl rfl (WO.nil (W.seq (W.region ?_)))
              refine WO.op rfl rfl (WO.nil (W.cond (b := true) rfl (fun _ => W.region ?_) (fun h => by cases h)))
              obtain ⟨v2, J, s1, s2, s3, s4⟩ := outQ_one q1 hlenY ([114, 101, 115, 116], z) (by omega)
              refine WO.op rfl rfl ?_
              refine WO.op rfl rfl ?_
              refine WO.op (v := .agg [.str [114, 101, 115, 116], iA z]) rfl rfl ?_
              refine WO.op (v := .sl Y.length 0 1 (some 1) 2) (H1 := Y ++ [.cells [.str [114, 101, 115, 116], iA z] 40]) rfl rfl ?_
              refine WO.op (s4 _ _ _ _ _ rfl rfl rfl rfl) rfl ?_
              refine WO.op rfl rfl ?_
              refine WO.sealP (t := 7) (by decide) s1 (.inr (by simp)) fun J2 hJ hJl => WO.nil ?_
              refine ⟨rfl, (ps ++ [([114, 101, 115, 116], z)], J2), ⟨⟨fun p hp => ?_, by simp only [List.length_append, List.length_singleton]; omega⟩, fun id hid => ((hJ id hid).trans (s2 id hid)).trans (hkY id hid), by simp only; omega⟩, ⟨rfl, rfl, rfl, rfl, rfl, trivial⟩, rfl⟩
              rcases List.mem_append.1 hp with h | h
              · exact hgp.b p h
              · rw [List.mem_singleton.1 h]; exact ⟨hz, by show 4 < 4611686018427387904; decide⟩
            · rw [smallI_out hz] at hsml
              refine WO.call rfl (Has.inA hsml) rfl ?_
              refine WO.op rfl rfl ?_
              refine WO.op rfl rfl ?_
              refine WO.op rfl rfl ?_
              refine WO.op rfl rfl ?_
              refine WO.op rfl rfl (WO.nil (W.seq (W.region ?_)))
              refine WO.op rfl rfl ?_
              refine WO.sealP (t := 7) (by decide) q1 r2 fun J hJ hJl => WO.nil (W.cond (b := false) rfl (fun h => by cases h) (fun _ => W.skip ?_))
              exact ⟨rfl, (ps, J), ⟨⟨hgp.b, Nat.le_trans hgp.n (by decide)⟩, fun id hid => (hJ id hid).trans (hkY id hid), by simp only; omega⟩, ⟨rfl, rfl, rfl, rfl, rfl, trivial⟩, rfl⟩
      · clear r1 r2 r3 r4 hgp hpc
        rintro ⟨qs, J⟩ ⟨hq, hkJ, hlJ⟩
        simp only at hq hkJ hlJ
        change W _ _ _ _ (fr [(0, .isl (opC l) 0 l.length none true), (4, .ptr 0 0), (5, .ptr 1 0), (6, iA (i : Int)), (7, postsA qs)]) J _
        have hJ0 : J[0]? = some (lgO src (c : Int)) := (hkJ 0 (by omega)).trans l0
        have hJ1 : J[1]? = some (rlO (srt m) (c : Int)) := (hkJ 1 (by omega)).trans l1
        obtain ⟨src', m', c', e1, e2, isM', gm', hsum', hc'⟩ := both (!decide (kind = 0)) isM gm hsum hc hq
        have hpost := post_gm (m := m) (l := qs) hJ0 isM gm ⟨⟨by omega, by omega⟩, ⟨by omega, by omega⟩⟩ hq (by decide)
        have hundo := undo_gm (m := m) (l := qs) hJ0 isM gm ⟨⟨by omega, by omega⟩, ⟨by omega, by omega⟩⟩ hq (by decide)
        have hC2 : bookCode (!decide (kind = 0)) m qs < 9223372036854775808 := by unfold bookCode; split <;> (try split) <;> (try split) <;> omega
        have hlen1 : (srt m).length = m.length := srt_len m
        have hmn := gm.n
        have hqn := hq.n
        have hrg : RGood (J.set 0 (lgO src' (c' : Int))) 1 (srt m) qs (c : Int) := ⟨by rw [List.getElem?_set_ne (by decide)]; exact hJ1, srt_ss gm.nd, srt_i64 gm.nd gm.i, by omega, ⟨by omega, by omega⟩, hq.b, by omega⟩
        have hrp := rpostW (!decide (kind = 0)) hrg
        rw [code_srt gm.nd, books_srt gm.nd, e2] at hrp
        have hmn' := gm'.n
        have hlen2 : (srt m').length = m'.length := srt_len m'
        refine W.seq (W.region ?_)
        refine WO.op rfl rfl (WO.nil ?_)
        refine W.mid [(0, .isl (opC l) 0 l.length none true), (4, .ptr 0 0), (5, .ptr 1 0), (6, iA (i : Int)), (7, postsA qs), (12, errA (bookCode (!decide (kind = 0)) m qs))] (H1 := J.set 0 (lgO src' (c' : Int))) ?_ ?_
        · refine W.seq (W.region ?_)
          refine WO.op rfl rfl ?_
          refine WO.op rfl rfl ?_
          refine WO.op (G.idx_isl rfl rfl tOps rfl tOp (by omega) (by omega)) rfl ?_
          refine WO.op rfl rfl ?_
          refine WO.op (G.load_ip (v := iA kind) rfl tInt rfl (by rw [Int.toNat_natCast, Nat.zero_add, Nat.add_zero]; exact oc0)) rfl ?_
          by_cases hk : kind = 0
          · have hu : (!decide (kind = 0)) = false := by rw [decide_eq_true hk]; rfl
            rw [hu] at e1 ⊢
            rw [e1] at hpost
            refine WO.as (v' := .bool true) rfl rfl (bdT hk) (WO.nil (W.cond (b := true) rfl (fun _ => W.region ?_) (fun h => by cases h)))
            refine WO.op rfl rfl ?_
            refine WO.op rfl rfl ?_
            refine WO.call rfl (Has.inA hpost) rfl ?_
            exact WO.op rfl rfl (WO.nil ⟨rfl, ⟨rfl, rfl, rfl, rfl, rfl, rfl, trivial⟩, rfl⟩)
          · have hu : (!decide (kind = 0)) = true := by rw [decide_eq_false hk]; rfl
            rw [hu] at e1 ⊢
            rw [e1] at hundo
            refine WO.as (v' := .bool false) rfl rfl (bdF hk) (WO.nil (W.cond (b := false) rfl (fun h => by cases h) (fun _ => W.region ?_)))
            refine WO.op rfl rfl ?_
            refine WO.op rfl rfl ?_
            refine WO.call rfl (Has.inA hundo) rfl ?_
            exact WO.op rfl rfl (WO.nil ⟨rfl, ⟨rfl, rfl, rfl, rfl, rfl, rfl, trivial⟩, rfl⟩)
        · have hsame := sameW (H := (J.set 0 (lgO src' (c' : Int))).set 1 (rlO (srt m') (c' : Int))) (k := bookCode (!decide (kind = 0)) m qs) (c := bookCode (!decide (kind = 0)) m qs) hC2
          rw [decide_eq_true rfl] at hsame
          have hQ0 : ((J.set 0 (lgO src' (c' : Int))).set 1 (rlO (srt m') (c' : Int)))[0]? = some (lgO src' (c' : Int)) := by rw [List.getElem?_set_ne (by decide), List.getElem?_set_self (by omega)]
          have hQ1 : ((J.set 0 (lgO src' (c' : Int))).set 1 (rlO (srt m') (c' : Int)))[1]? = some (rlO (srt m') (c' : Int)) := by rw [List.getElem?_set_self (by rw [List.length_set]; omega)]
          have hQl : 2 ≤ ((J.set 0 (lgO src' (c' : Int))).set 1 (rlO (srt m') (c' : Int))).length := by rw [List.length_set, List.length_set]; omega
          clear hpost hundo e1 e2 hrg l0 l1 hJ0 hJ1
          generalize bookCode (!decide (kind = 0)) m qs = C at *
          generalize (J.set 0 (lgO src' (c' : Int))).set 1 (rlO (srt m') (c' : Int)) = Q at *
          have hall := allW hQ0 isM' gm' (by omega)
          have hral := rallW hQ1 (by omega)
          rw [nz_srt] at hral
          have hlenb := lenW hQ0
          have hbal := fun (X : Heap) (h : X[0]? = some (lgO src' (c' : Int))) (k : List UInt8) => balW h isM' gm'.nd k
          have hsumZ := sumP_all gm'.nd
          have hlookZ := fun e (h : e ∈ allE m') => all_look h
          have hiZ := all_i64 gm'.i
          have hallC := fun (X : Heap) (h : X[0]? = some (lgO src' (c' : Int))) => all_gm rfl gm' (by omega) isM' X 0 (c' : Int) h
          have hZl : (allE m').length ≤ m'.length := by
            rw [← nz_srt]
            exact Nat.le_trans (nz_len _) (by omega)
          rw [hsum'] at hsumZ
          generalize hZ : allE m' = Z at *
          have halk := alikeW (H := Q) (Z := Z) (by omega)
          refine W.seq (W.seq (W.draw0 rfl (by kernel_rfl) ?_))
          refine WT.op rfl rfl rfl ?_
          refine WT.op rfl rfl rfl ?_
          refine WT.op rfl rfl rfl ?_
          refine WT.op rfl rfl rfl ?_
          refine WT.op rfl rfl rfl ?_
          refine WT.op (G.idx_isl rfl rfl tOps rfl tOp (by omega) (by omega)) rfl rfl ?_
          refine WT.op rfl rfl rfl ?_
          refine WT.op (G.load_ip (v := iA kind) rfl tInt rfl (by rw [Int.toNat_natCast, Nat.zero_add, Nat.add_zero]; exact oc0)) rfl rfl ?_
          refine WT.op (v := .bool (!decide (kind = 0))) rfl rfl rfl ?_
          refine WT.op hrp rfl rfl ?_
          refine WT.op hsame rfl rfl ?_
          refine WT.op rfl rfl rfl ?_
          refine WT.op rfl rfl rfl ?_
          refine WT.op rfl rfl rfl ?_
          refine WT.op hall rfl rfl ?_
          refine WT.op rfl rfl rfl ?_
          refine WT.op hral rfl rfl ?_
          refine WT.op halk rfl rfl ?_
          refine WT.op rfl rfl rfl ?_
          refine WT.op rfl rfl rfl ?_
          refine WT.op rfl rfl rfl ?_
          refine WT.op rfl rfl rfl ?_
          refine WT.op hlenb rfl rfl ?_
          refine WT.op rfl rfl rfl ?_
          refine WT.op rfl rfl rfl ?_
          refine WT.op rfl rfl rfl ?_
          refine WT.op (G.load_ptr (v := iA (c' : Int)) rfl tInt rfl hQ1 rfl) rfl rfl ?_
          refine WT.as (v' := .bool false) rfl rfl rfl (bnT rfl) ?_
          refine WT.op rfl rfl rfl (WT.nil (W.cond (b := false) rfl (fun h => by cases h) (fun _ => W.skip ?_)))
          refine W.seq (W.region ?_)
          refine WO.op (v := rI0) rfl rfl ?_
          refine WO.op rfl rfl ?_
          refine WO.op (G.store_last (B := Q) rfl rfl rfl rfl tRI rfl rfl rfl) rfl (WO.nil (W.seq (W.seq (W.region ?_))))
          have hsl : ∀ X, SlF X (postsA Z) Z := fun X => slf_postsA X Z
          refine WO.op rfl rfl ?_
          refine WO.call rfl (Has.inA (hallC _ ((app_lt (by omega)).trans hQ0))) rfl ?_
          generalize postsA Z = va at hsl ⊢
          refine WO.op (v := .int .i64 (Z.length : Int)) (congrArg (withH _) ((hsl _).len _ (fun _ _ => rfl))) rfl ?_
          refine WO.op rfl rfl (WO.nil (W.block ?_))
          refine W.fits (F' := fr [(0, .isl (opC l) 0 l.length none true), (4, .ptr 0 0), (5, .ptr 1 0), (6, iA (i : Int)), (13, .ptr Q.length 0), (113, va), (114, iA (Z.length : Int)), (115, iA ((0 : Nat) : Int))]) (fits_fr ⟨rfl, rfl, rfl, rfl, rfl, rfl, rfl, rfl, trivial⟩) ?_
          refine W.loopI (α := Nat × AVal × AVal × Heap) (fun x => x.1 ≤ Z.length ∧ IsI (.agg [x.2.1, x.2.2.1]) (sumP (Z.take x.1)) ∧ x.2.2.2[Q.length]? = some (.cells [x.2.1, x.2.2.1] 36) ∧ Ext.Keeps Q x.2.2.2) (fun x => Z.length - x.1)
            (fun x => fr [(0, .isl (opC l) 0 l.length none true), (4, .ptr 0 0), (5, .ptr 1 0), (6, iA (i : Int)), (13, .ptr Q.length 0), (113, va), (114, iA (Z.length : Int)), (115, iA (x.1 : Int))]) (fun x => x.2.2.2) ?_ (0, .bool false, .nils, Q ++ [.cells [.bool false, .nils] 36]) ⟨Nat.zero_le _, .inr ⟨rfl, rfl⟩, app_at rfl, Keeps.app _ _⟩
          rintro ⟨k, ca, cb, X⟩ ⟨hk, hs, hX, hkX⟩
          simp only at hk hs hX hkX
          change W _ _ _ _ (fr [(0, .isl (opC l) 0 l.length none true), (4, .ptr 0 0), (5, .ptr 1 0), (6, iA (i : Int)), (13, .ptr Q.length 0), (113, va), (114, iA (Z.length : Int)), (115, iA (k : Int))]) X _
          have hQX : Q.length < X.length := (List.getElem?_eq_some_iff.1 hX).1
          have htb := take_bound hiZ (by omega) k
          have hsm := sm_big (Nat.le_trans htb (by decide))
          refine W.seq (W.region ?_)
          by_cases hkl : k < Z.length
          · obtain ⟨p, hp⟩ : ∃ p, Z[k]? = some p := ⟨_, List.getElem?_eq_getElem hkl⟩
            have hpm := List.mem_of_getElem? hp
            have hpi2 := hiZ p hpm
            have hpl2 := hlookZ p hpm
            obtain ⟨a, a0, a1, row, off, f1, f2, f3, f4, f5, f6⟩ := (hsl []).at_ k p hp
            have f4' : ∀ X : Heap, rowAt X a = some (row, off) ∧ rowAt X a0 = some (row, off) ∧ rowAt X a1 = some (row, off + 1) := fun X => f4 X fun id hid => absurd hid (Nat.not_lt_zero id)
            refine WO.as (v' := .bool true) rfl rfl (bdT (by omega)) (WO.nil (W.seq (W.cond (b := true) rfl (fun _ => W.skip ?_) (fun h => by cases h))))
            refine W.seq (W.block (W.seq (W.region ?_)))
            refine WO.op (SlU.idxG rfl rfl f1) rfl ?_
            refine WO.op (G.load_agg2 rfl tp rfl rfl (f4' _).1 f5 f6) rfl ?_
            refine WO.op rfl rfl ?_
            refine WO.op (G.store_last (B := X) rfl rfl rfl rfl tp rfl rfl rfl) rfl (WO.nil (W.seq (W.draw0 rfl (by kernel_rfl) ?_)))
            have hX2 : (X ++ [AObj.cells [.str p.1, iA p.2] 40])[Q.length]? = some (.cells [ca, cb] 36) := (app_lt hQX).trans hX
            have hX3 : (X ++ [AObj.cells [.str p.1, iA p.2] 40])[X.length]? = some (.cells [.str p.1, iA p.2] 40) := app_at rfl
            refine WT.op (G.load_agg2 rfl tRI rfl rfl (row_ptr hX2) rfl rfl) rfl rfl ?_
            refine WT.op rfl rfl rfl ?_
            refine WT.op (G.load_ptr (v := iA p.2) rfl tI rfl hX3 rfl) rfl rfl ?_
            refine WT.op (rofW hpi2) rfl rfl ?_
            refine WT.op (rplusW hs (.inl rfl) hsm (sm_big (Nat.le_trans (i64_nat hpi2) (by decide))) (sm_big (by have := i64_nat hpi2; omega))) rfl rfl ?_
            refine WT.op (G.store_agg hX2 rfl rfl tRI rfl rfl rfl) rfl rfl (WT.nil (W.seq (W.draw0 rfl (by kernel_rfl) ?_)))
            have hs2 : IsI (.agg (cI (sumP (Z.take k) + p.2))) (sumP (Z.take (k + 1))) := .inl (by rw [sumP_take hp]; rfl)
            have hX4 : ((X ++ [AObj.cells [.str p.1, iA p.2] 40]).set Q.length (.cells (cI (sumP (Z.take k) + p.2)) 36))[X.length]? = some (.cells [.str p.1, iA p.2] 40) := by rw [List.getElem?_set_ne (by omega)]; exact hX3
            have hX5 : ((X ++ [AObj.cells [.str p.1, iA p.2] 40]).set Q.length (.cells (cI (sumP (Z.take k) + p.2)) 36))[0]? = some (lgO src' (c' : Int)) := by
              rw [List.getElem?_set_ne (by omega), app_lt (by omega)]
              exact (hkX 0 (by omega)).trans hQ0
            have hX6 : ((X ++ [AObj.cells [.str p.1, iA p.2] 40]).set Q.length (.cells (cI (sumP (Z.take k) + p.2)) 36))[Q.length]? = some (.cells (cI (sumP (Z.take k) + p.2)) 36) := List.getElem?_set_self (by simp; omega)
            have hkX2 : Ext.Keeps Q ((X ++ [AObj.cells [.str p.1, iA p.2] 40]).set Q.length (.cells (cI (sumP (Z.take k) + p.2)) 36)) := keep_set (Keeps.trans hkX (Keeps.app _ _) (by omega)) (Nat.le_refl _)
            have hb := hbal _ hX5 p.1
            rw [hpl2] at hb
            refine WT.op rfl rfl rfl ?_
            refine WT.op rfl rfl rfl ?_
            refine WT.op (G.load_ptr (v := .str p.1) rfl tS rfl hX4 rfl) rfl rfl ?_
            refine WT.op hb rfl rfl ?_
            refine WT.op rfl rfl rfl ?_
            refine WT.op (G.load_ptr (v := iA p.2) rfl tI rfl hX4 rfl) rfl rfl ?_
            refine WT.as (v' := .bool false) rfl rfl rfl (bnT rfl) (WT.nil (W.cond (b := false) rfl (fun h => by cases h) (fun _ => W.skip (W.region ?_))))
            refine WO.as (v' := iA ((k + 1 : Nat) : Int)) rfl rfl (int_i64 (by omega) (by omega)) ?_
            exact WO.op rfl rfl (WO.nil ⟨(k + 1, _, _, _), ⟨hkl, hs2, hX6, hkX2⟩, by simp only; omega, fits_fr ⟨rfl, rfl, rfl, rfl, rfl, rfl, rfl, rfl, trivial⟩, rfl⟩)
          · have hke : k = Z.length := by omega
            subst hke
            rw [List.take_length, hsumZ] at hs
            have hln := isI_len hs X
            refine WO.as (v' := .bool false) rfl rfl (bdF (by omega)) (WO.nil (W.seq (W.cond (b := false) rfl (fun h => by cases h) (fun _ => W.exit ?_))))
            refine W.seq (W.region ?_)
            refine WO.op rfl rfl ?_
            refine WO.op (G.load_ptr (v := cb) rfl tRN rfl hX rfl) rfl ?_
            refine WO.op (v := .int .i64 ((digs (0 : Int).natAbs).length : Int)) (congrArg (withH _) hln) rfl ?_
            have hd0 : (digs (0 : Int).natAbs).length = 0 := digs_nil.2 rfl
            rw [hd0]
            refine WO.as (v' := .bool false) rfl rfl rfl (WO.nil (W.cond (b := false) rfl (fun h => by cases h) (fun _ => W.skip (W.region ?_))))
            refine WO.op rfl rfl ?_
            refine WO.as (v' := iA ((i + 1 : Nat) : Int)) rfl rfl (int_i64 (by omega) (by omega)) ?_
            exact WO.op rfl rfl (WO.nil ⟨(i + 1, X, src', m', c'), ⟨hlt, hlt40, (hkX 0 (by omega)).trans hQ0, (hkX 1 (by omega)).trans hQ1, isM', gm', hsum', hc', by simp only; omega⟩, by simp only; omega, fits_fr ⟨rfl, rfl, rfl, rfl, trivial⟩, rfl⟩)
    · have hje : i = 40 := by omega
      subst hje
      refine WO.as (v' := .bool false) rfl rfl (bdF (by omega)) ?_
      refine WO.op rfl rfl (WO.nil (W.cond (b := false) rfl (fun h => by cases h) (fun _ => W.exit ?_)))
      refine W.seq (W.region ?_)
      exact WO.op rfl rfl (WO.nil (W.ret ⟨trivial, _, rfl, Seals.same _ rfl⟩))
  · have hje : i = l.length := by omega
    subst hje
    refine WO.as (v' := .bool false) rfl rfl (bdF (by omega)) ?_
    refine WO.op rfl rfl ?_
    refine WO.skip rfl ?_
    refine WO.skip rfl ?_
    refine WO.op rfl rfl (WO.nil (W.cond (b := false) rfl (fun h => by cases h) (fun _ => W.exit ?_)))
    refine W.seq (W.region ?_)
    exact WO.op rfl rfl (WO.nil (W.ret ⟨trivial, _, rfl, Seals.same _ rfl⟩))
end
end Go.AM.C

/- DeskNone answers true: by a closed run. -/
namespace Go.AM.C
open Go.Proofs
noncomputable section
set_option linter.unusedVariables false
set_option linter.unusedSimpArgs false
/-- begun is told. -/
def bgM : Memo := [([], .bool true)]
theorem bgM_ok : AllM 8 bgM := fun e he H => by
  cases List.mem_singleton.1 he
  exact begun_has H
noncomputable def baseB : List Ent := qNo (memX bgM) 8 :: baseM10
theorem baseB_ok (S : Sg) (hg : S.glob = S0.glob) (hp : S.pin = S0.pin) : AllE Tryz.prog S baseB := ⟨memX_ok S hg hp bgM_ok, baseM10_ok S hg hp⟩
abbrev SB : Sg := SC baseB
theorem sB : Sound Tryz.prog SB := sc_sound (baseB_ok _ (sc_glob _) (sc_pin _))
theorem none_den : givesB (den SB 5000 7 [] []) true = true := by kernel_rfl
theorem none_has (H : Heap) : Has 7 [] H (.bool true) H := Has.un (run_B sB rfl none_den H)
end
end Go.AM.C

