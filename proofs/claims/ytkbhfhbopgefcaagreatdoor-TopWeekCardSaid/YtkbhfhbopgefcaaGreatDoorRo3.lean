/- Part of a proof over the program's translation: From the rows' condition to the abstract machine: what the listed variables hold; the list in another order. -/
import Derived.Lay
import Derived.LaidHandle
import Derived.OpenShut
import Derived.Test.YtkbhfhbopgefcaaGreatDoorRo1
/- From the rows' condition to the abstract machine: what the listed variables hold; the list in another order. -/
namespace Go.AM.C
open Go.Proofs Go.Proofs.YtkbhfhbopgefcaaGreatDoor Go.RowKit
noncomputable section
set_option linter.unusedVariables false
set_option linter.unusedSimpArgs false

abbrev laidL3 : List (String × DataW Unit) := [("math/bits.deBruijn32tab", Rows.laid_math_bits_deBruijn32tab), ("math/bits.deBruijn64tab", Rows.laid_math_bits_deBruijn64tab), ("internal/strconv.uint64pow10", Rows.laid_internal_strconv_uint64pow10), ("unicode/utf8.acceptRanges", Rows.laid_unicode_utf8_acceptRanges), ("errors.errorType", Rows.laid_errors_errorType), ("strconv.ErrRange", Rows.laid_strconv_ErrRange), ("strconv.ErrSyntax", Rows.laid_strconv_ErrSyntax), ("unicode/utf8.first", Rows.laid_unicode_utf8_first)]
abbrev laidD3 : List (String × DataW Unit) := [("math/bits.deBruijn32tab", Rows.laid_math_bits_deBruijn32tab), ("math/bits.deBruijn64tab", Rows.laid_math_bits_deBruijn64tab), ("internal/strconv.uint64pow10", Rows.laid_internal_strconv_uint64pow10), ("unicode/utf8.acceptRanges", Rows.laid_unicode_utf8_acceptRanges), ("strconv.ErrRange", Rows.laid_strconv_ErrRange), ("strconv.ErrSyntax", Rows.laid_strconv_ErrSyntax), ("unicode/utf8.first", Rows.laid_unicode_utf8_first)]
theorem laid_nh3 : (laidL3.filter fun x => x.2.handleName?.isNone) = laidD3 := by kernel_rfl
theorem laid_h3 : (laidL3.filter fun x => x.2.handleName?.isSome) = [("errors.errorType", Rows.laid_errors_errorType)] := by kernel_rfl


theorem handle_of_laid3 {W : World} (h : laidMetH Tryz.prog laidL3 W) : W.cell? ⟨10, 0, none⟩ = some (.iface 416 (.agg #[.pointer (some ⟨16, 23, none⟩)])) := by
  have h' : laidMet Tryz.prog laidD3 W ∧ handlesMet Tryz.prog [("errors.errorType", Rows.laid_errors_errorType)] W := h
  obtain ⟨name, u, ty, e1, e2, e3, e4, e5⟩ := h'.2 _ (List.mem_singleton.2 rfl)
  have en : name = [101, 114, 114, 111, 114] := (Option.some.inj e1).symm
  subst en
  obtain rfl := Option.some.inj (errRt.symm.trans e2)
  have hm : ty ∈ (List.range Tryz.prog.types.size).filter fun t => Tryz.prog.rowNamed t [101, 114, 114, 111, 114] := List.mem_filter.2 ⟨List.mem_range.2 e3, e4⟩
  rw [errRow] at hm
  obtain rfl := List.mem_singleton.1 hm
  have hh : typeHandle Tryz.prog 23 = .pointer (some ⟨16, 23, none⟩) := by kernel_rfl
  rw [hh] at e5
  simpa using World.var?_cell errG e5 0
theorem data_of_laid3 {W : World} (h : laidMetH Tryz.prog laidL3 W) : laidMet Tryz.prog laidD3 W := by
  have h' : laidMet Tryz.prog laidD3 W ∧ handlesMet Tryz.prog [("errors.errorType", Rows.laid_errors_errorType)] W := h
  exact h'.1
theorem pow10_cells3 {W : World} (h : laidMetH Tryz.prog laidL3 W) : ∀ r, r < 20 → W.cell? ⟨7, r, none⟩ = some (.int .u64 (pow10Z.getD r 0)) :=
  arr_ints (data_of_laid3 h) pow10Z (by rw [← pow10_row]; simp [laidD3]) (show Tryz.prog.globalNamed "internal/strconv.uint64pow10" = some 7 by kernel_rfl) (show _ = some 303 by kernel_rfl) Tryz.underlying303 Tryz.underlying85 (by kernel_rfl)
theorem bruijn_cells3 {W : World} (h : laidMetH Tryz.prog laidL3 W) : ∀ r, r < 64 → W.cell? ⟨8, r, none⟩ = some (.int .u8 (bruijnZ.getD r 0)) :=
  arr_ints (data_of_laid3 h) bruijnZ (by rw [← bruijn_row]; simp [laidD3]) (show Tryz.prog.globalNamed "math/bits.deBruijn64tab" = some 8 by kernel_rfl) (show _ = some 350 by kernel_rfl) Tryz.underlying350 Tryz.underlying5 (by kernel_rfl)


theorem glob_of_laid3 {W : World} (h : laidMetH Tryz.prog laidL3 W) : Glob S0 (ctxW W) W := by
  intro g
  refine ⟨?_, fun v hv => ?_⟩
  · show VR _ _ (globF g) _
    unfold globF
    cases h1 : Nat.beq g 7 with
    | true =>
      rw [Nat.eq_of_beq_eq_true h1, cond_true, pow10_is]
      exact vr_row pow10Z (by kernel_rfl) (by decide) (pow10_cells3 h)
    | false =>
      rw [cond_false]
      cases h2 : Nat.beq g 8 with
      | true =>
        rw [Nat.eq_of_beq_eq_true h2, cond_true, bruijn_is]
        exact vr_row bruijnZ (by kernel_rfl) (by decide) (bruijn_cells3 h)
      | false => exact .any _
  · have hv' : pinF g = some v := hv
    unfold pinF at hv'
    cases h1 : Nat.beq g 10 with
    | true =>
      rw [h1] at hv'
      cases hv'
      rw [Nat.eq_of_beq_eq_true h1]
      exact ⟨cellW_lt (handle_of_laid3 h), handle_of_laid3 h⟩
    | false => rw [h1] at hv'; cases hv'


noncomputable def witW03 (os : Os) : World :=
  let w0 := World.holding Tryz.prog os ⟨#[], #[], []⟩
  { w0 with heap := w0.heap.modify 10 fun
      | .cells _ t frozen => .cells #[.iface 416 (.agg #[.pointer (some ⟨16, 23, none⟩)])] t frozen
      | o => o }
noncomputable def witW3 (os : Os) : World := (witW03 os).layVars Tryz.prog laidD3
theorem witW_os3 (os : Os) : (witW3 os).os = os := World.layVars_os _ _ _
theorem witW_met3 (os : Os) (args : Array Value) : laidMetH Tryz.prog laidL3 ((witW3 os).forCall (fun _ _ => 0) ⟨#[], args, []⟩).memory := by
  have h : laidMet Tryz.prog laidD3 (witW3 os) := by
    have e1 : (laidD3.filter fun x => (laidD3.map (·.1)).contains x.1) = laidD3 := List.filter_eq_self.2 fun x hx => List.contains_iff_mem.2 (List.mem_map.2 ⟨x, hx, rfl⟩)
    have e2 : (laidD3.filter fun x => !(laidD3.map (·.1)).contains x.1) = [] := List.filter_eq_nil_iff.2 fun x hx => by rw [List.contains_iff_mem.2 (List.mem_map.2 ⟨x, hx, rfl⟩)]; simp
    refine laidMet_layVars (w0 := witW03 os) (laidD3.map (·.1)) [] (by rw [e1]; rfl) (by rw [e1]; kernel_rfl) (by rw [e1]; kernel_rfl) (by rw [e2]; exact LaidIn.none)
  have h2 : laidMet Tryz.prog laidD3 ((witW3 os).forCall (fun _ _ => 0) ⟨#[], args, []⟩).memory := h.of_heap (by simp [World.memory, World.forCall, Input.heap])
  exact laidMetH_of_parts (by rw [laid_nh3]; exact h2) (by rw [laid_h3]; kernel_rfl)
theorem witW_shaped3 (os : Os) : (witW3 os).Shaped Tryz.prog := World.shaped_of_ZipB (by kernel_rfl) (by kernel_rfl)
end
end Go.AM.C

