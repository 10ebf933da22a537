/- Part of a proof over the program's translation: From the rows' condition to the abstract machine: what the listed variables hold; the list in another order. -/
import Derived.Lay
import Derived.LaidHandle
import Derived.OpenShut
import Derived.Test.YtooafhbgdhjijaaGreatDoorRo1
/- From the rows' condition to the abstract machine: what the listed variables hold; the list in another order. -/
namespace Go.AM.C
open Go.Proofs Go.Proofs.YtooafhbgdhjijaaGreatDoor Go.RowKit
noncomputable section
set_option linter.unusedVariables false
set_option linter.unusedSimpArgs false

abbrev laidL2 : List (String × DataW Unit) := [("unicode/utf8.first", Rows.laid_unicode_utf8_first), ("unicode/utf8.acceptRanges", Rows.laid_unicode_utf8_acceptRanges), ("internal/strconv.uint64pow10", Rows.laid_internal_strconv_uint64pow10), ("math/bits.deBruijn32tab", Rows.laid_math_bits_deBruijn32tab), ("math/bits.deBruijn64tab", Rows.laid_math_bits_deBruijn64tab), ("strconv.ErrSyntax", Rows.laid_strconv_ErrSyntax), ("strconv.ErrRange", Rows.laid_strconv_ErrRange), ("errors.errorType", Rows.laid_errors_errorType)]
abbrev laidD2 : List (String × DataW Unit) := [("unicode/utf8.first", Rows.laid_unicode_utf8_first), ("unicode/utf8.acceptRanges", Rows.laid_unicode_utf8_acceptRanges), ("internal/strconv.uint64pow10", Rows.laid_internal_strconv_uint64pow10), ("math/bits.deBruijn32tab", Rows.laid_math_bits_deBruijn32tab), ("math/bits.deBruijn64tab", Rows.laid_math_bits_deBruijn64tab), ("strconv.ErrSyntax", Rows.laid_strconv_ErrSyntax), ("strconv.ErrRange", Rows.laid_strconv_ErrRange)]
theorem laid_nh2 : (laidL2.filter fun x => x.2.handleName?.isNone) = laidD2 := by kernel_rfl
theorem laid_h2 : (laidL2.filter fun x => x.2.handleName?.isSome) = [("errors.errorType", Rows.laid_errors_errorType)] := by kernel_rfl


theorem handle_of_laid2 {W : World} (h : laidMetH Tryz.prog laidL2 W) : W.cell? ⟨0, 0, none⟩ = some (.iface 336 (.agg #[.pointer (some ⟨16, 45, none⟩)])) := by
  have h' : laidMet Tryz.prog laidD2 W ∧ handlesMet Tryz.prog [("errors.errorType", Rows.laid_errors_errorType)] W := h
  obtain ⟨name, u, ty, e1, e2, e3, e4, e5⟩ := h'.2 _ (List.mem_singleton.2 rfl)
  have en : name = [101, 114, 114, 111, 114] := (Option.some.inj e1).symm
  subst en
  obtain rfl := Option.some.inj (errRt.symm.trans e2)
  have hm : ty ∈ (List.range Tryz.prog.types.size).filter fun t => Tryz.prog.rowNamed t [101, 114, 114, 111, 114] := List.mem_filter.2 ⟨List.mem_range.2 e3, e4⟩
  rw [errRow] at hm
  obtain rfl := List.mem_singleton.1 hm
  have hh : typeHandle Tryz.prog 45 = .pointer (some ⟨16, 45, none⟩) := by kernel_rfl
  rw [hh] at e5
  simpa using World.var?_cell errG e5 0
theorem data_of_laid2 {W : World} (h : laidMetH Tryz.prog laidL2 W) : laidMet Tryz.prog laidD2 W := by
  have h' : laidMet Tryz.prog laidD2 W ∧ handlesMet Tryz.prog [("errors.errorType", Rows.laid_errors_errorType)] W := h
  exact h'.1
theorem pow10_cells2 {W : World} (h : laidMetH Tryz.prog laidL2 W) : ∀ r, r < 20 → W.cell? ⟨4, r, none⟩ = some (.int .u64 (pow10Z.getD r 0)) :=
  arr_ints (data_of_laid2 h) pow10Z (by rw [← pow10_row]; simp [laidD2]) (show Tryz.prog.globalNamed "internal/strconv.uint64pow10" = some 4 by kernel_rfl) (show _ = some 400 by kernel_rfl) Tryz.underlying400 Tryz.underlying97 (by kernel_rfl)
theorem bruijn_cells2 {W : World} (h : laidMetH Tryz.prog laidL2 W) : ∀ r, r < 64 → W.cell? ⟨10, r, none⟩ = some (.int .u8 (bruijnZ.getD r 0)) :=
  arr_ints (data_of_laid2 h) bruijnZ (by rw [← bruijn_row]; simp [laidD2]) (show Tryz.prog.globalNamed "math/bits.deBruijn64tab" = some 10 by kernel_rfl) (show _ = some 456 by kernel_rfl) Tryz.underlying456 Tryz.underlying5 (by kernel_rfl)


theorem glob_of_laid2 {W : World} (h : laidMetH Tryz.prog laidL2 W) : Glob S0 (ctxW W) W := by
  intro g
  refine ⟨?_, fun v hv => ?_⟩
  · show VR _ _ (globF g) _
    unfold globF
    cases h1 : Nat.beq g 4 with
    | true =>
      rw [Nat.eq_of_beq_eq_true h1, cond_true, pow10_is]
      exact vr_row pow10Z (by kernel_rfl) (by decide) (pow10_cells2 h)
    | false =>
      rw [cond_false]
      cases h2 : Nat.beq g 10 with
      | true =>
        rw [Nat.eq_of_beq_eq_true h2, cond_true, bruijn_is]
        exact vr_row bruijnZ (by kernel_rfl) (by decide) (bruijn_cells2 h)
      | false => exact .any _
  · have hv' : pinF g = some v := hv
    unfold pinF at hv'
    cases h1 : Nat.beq g 0 with
    | true =>
      rw [h1] at hv'
      cases hv'
      rw [Nat.eq_of_beq_eq_true h1]
      exact ⟨cellW_lt (handle_of_laid2 h), handle_of_laid2 h⟩
    | false => rw [h1] at hv'; cases hv'


noncomputable def witW02 (os : Os) : World :=
  let w0 := World.holding Tryz.prog os ⟨#[], #[], []⟩
  { w0 with heap := w0.heap.modify 0 fun
      | .cells _ t frozen => .cells #[.iface 336 (.agg #[.pointer (some ⟨16, 45, none⟩)])] t frozen
      | o => o }
noncomputable def witW2 (os : Os) : World := (witW02 os).layVars Tryz.prog laidD2
theorem witW_os2 (os : Os) : (witW2 os).os = os := World.layVars_os _ _ _
theorem witW_met2 (os : Os) (args : Array Value) : laidMetH Tryz.prog laidL2 ((witW2 os).forCall (fun _ _ => 0) ⟨#[], args, []⟩).memory := by
  have h : laidMet Tryz.prog laidD2 (witW2 os) := by
    have e1 : (laidD2.filter fun x => (laidD2.map (·.1)).contains x.1) = laidD2 := List.filter_eq_self.2 fun x hx => List.contains_iff_mem.2 (List.mem_map.2 ⟨x, hx, rfl⟩)
    have e2 : (laidD2.filter fun x => !(laidD2.map (·.1)).contains x.1) = [] := List.filter_eq_nil_iff.2 fun x hx => by rw [List.contains_iff_mem.2 (List.mem_map.2 ⟨x, hx, rfl⟩)]; simp
    refine laidMet_layVars (w0 := witW02 os) (laidD2.map (·.1)) [] (by rw [e1]; rfl) (by rw [e1]; kernel_rfl) (by rw [e1]; kernel_rfl) (by rw [e2]; exact LaidIn.none)
  have h2 : laidMet Tryz.prog laidD2 ((witW2 os).forCall (fun _ _ => 0) ⟨#[], args, []⟩).memory := h.of_heap (by simp [World.memory, World.forCall, Input.heap])
  exact laidMetH_of_parts (by rw [laid_nh2]; exact h2) (by rw [laid_h2]; kernel_rfl)
theorem witW_shaped2 (os : Os) : (witW2 os).Shaped Tryz.prog := World.shaped_of_ZipB (by kernel_rfl) (by kernel_rfl)
end
end Go.AM.C

