/- Part of a proof over the program's translation: From the rows' condition to the abstract machine: what the listed variables hold. -/
import Derived.Test.YtjlmihjhakfchaaGreatDoorRows
import Derived.Lay
import Derived.LaidHandle
import Derived.OpenShut
import Derived.Test.YtjlmihjhakfchaaGreatDoorN0
/- From the rows' condition to the abstract machine: what the listed variables hold. -/
namespace Go.AM.C
open Go.Proofs Go.Proofs.YtjlmihjhakfchaaGreatDoor Go.RowKit
noncomputable section
set_option linter.unusedVariables false
set_option linter.unusedSimpArgs false

abbrev laidL : List (String × DataW Unit) := [("unicode/utf8.first", Rows.laid_unicode_utf8_first), ("unicode/utf8.acceptRanges", Rows.laid_unicode_utf8_acceptRanges), ("strconv.ErrSyntax", Rows.laid_strconv_ErrSyntax), ("strconv.ErrRange", Rows.laid_strconv_ErrRange), ("internal/strconv.uint64pow10", Rows.laid_internal_strconv_uint64pow10), ("math/bits.deBruijn32tab", Rows.laid_math_bits_deBruijn32tab), ("math/bits.deBruijn64tab", Rows.laid_math_bits_deBruijn64tab), ("errors.errorType", Rows.laid_errors_errorType)]
abbrev laidD : List (String × DataW Unit) := [("unicode/utf8.first", Rows.laid_unicode_utf8_first), ("unicode/utf8.acceptRanges", Rows.laid_unicode_utf8_acceptRanges), ("strconv.ErrSyntax", Rows.laid_strconv_ErrSyntax), ("strconv.ErrRange", Rows.laid_strconv_ErrRange), ("internal/strconv.uint64pow10", Rows.laid_internal_strconv_uint64pow10), ("math/bits.deBruijn32tab", Rows.laid_math_bits_deBruijn32tab), ("math/bits.deBruijn64tab", Rows.laid_math_bits_deBruijn64tab)]
theorem laid_nh : (laidL.filter fun x => x.2.handleName?.isNone) = laidD := by kernel_rfl
theorem laid_h : (laidL.filter fun x => x.2.handleName?.isSome) = [("errors.errorType", Rows.laid_errors_errorType)] := by kernel_rfl

theorem laidVars_mem {P : Program} {w : World} {n : String} {d : DataW Unit} : ∀ {l : List (String × DataW Unit)} {ps : List MemPlace}, DataW.LaidVars P w l ps → (n, d) ∈ l →
    ∃ g t cs fuel p, P.globalNamed n = some g ∧ (P.globals[g]?).map (·.type) = some t ∧ w.var? P n = some cs ∧ DataW.trod (fun _ => ()) P w 0 (fun _ => true) false fuel t cs.toList = some (d, p)
  | [], _, _, h => by cases h
  | (n', d') :: l, ps, hv, h => by
    obtain ⟨g, t, cs, fuel, p, q, h1, h2, h3, h4, h5, _⟩ := hv
    rcases List.mem_cons.1 h with e | h
    · cases e; exact ⟨g, t, cs, fuel, p, h1, h2, h3, h4⟩
    · exact laidVars_mem h5 h
theorem arr_ints {P : Program} {W : World} {l : List (String × DataW Unit)} (hL : laidMet P l W) {nm : String} {g t e n : Nat} {k : IntKind} (zs : List Int) (hmem : (nm, DataW.agg (zs.map fun z => (.lit (.int k z)))) ∈ l)
    (hg : P.globalNamed nm = some g) (ht : (P.globals[g]?).map (·.type) = some t) (hu : P.underlying t = some (.array n e)) (hue : P.underlying e = some (.int k)) (hc : P.cellsOf e = 1) :
    ∀ r, r < n → W.cell? ⟨g, r, none⟩ = some (.int k (zs.getD r 0)) := by
  intro r hr
  obtain ⟨ps, hv, _, _⟩ := hL
  obtain ⟨g', t', cs, fuel, p, a1, a2, a3, a4⟩ := laidVars_mem hv hmem
  obtain rfl := Option.some.inj (hg.symm.trans a1)
  obtain rfl := Option.some.inj (ht.symm.trans a2)
  obtain ⟨xs, m, _, ex, _, hl, hel⟩ := DataW.trod_array hu a4
  have hE := hel r hr
  rw [hc, Nat.mul_one, List.getElem?_eq_getElem (by omega)] at hE
  obtain ⟨z, e1, e2, _⟩ := DataW.trod_int hue hE
  have e3 : (xs.map (·.1)) = zs.map fun z => (.lit (.int k z)) := (DataW.agg.inj (Prod.mk.inj ex).1).symm
  have hzl : zs.length = xs.length := by have := congrArg List.length e3; simpa using this.symm
  have e4 : (xs.map (·.1))[r]? = (zs.map fun z => (DataW.lit (.int k z) : DataW Unit))[r]? := by rw [e3]
  rw [List.getElem?_map, List.getElem?_map, List.getElem?_eq_getElem (by omega : r < xs.length), List.getElem?_eq_getElem (by omega : r < zs.length), e2] at e4
  have hz : z = zs.getD r 0 := by
    simp only [Option.map_some, Option.some.injEq, DataW.lit.injEq, Lit.int.injEq, true_and] at e4
    rw [e4, List.getD, List.getElem?_eq_getElem (by omega : r < zs.length)]; rfl
  rw [World.var?_cell a1 a3 r, ← hz]
  have : cs.toList[r]? = some (.int k z) := by
    have h0 : ((cs.toList.drop r).take 1)[0]? = some (.int k z) := by rw [e1]; rfl
    simpa using h0
  simpa using this

def pow10Z : List Int := (List.range 20).map fun i => ((10 ^ i : Nat) : Int)
def bruijnZ : List Int := [0, 1, 56, 2, 57, 49, 28, 3, 61, 58, 42, 50, 38, 29, 17, 4, 62, 47, 59, 36, 45, 43, 51, 22, 53, 39, 33, 30, 24, 18, 12, 5, 63, 55, 48, 27, 60, 41, 37, 16, 46, 35, 44, 21, 52, 32, 23, 11, 54, 26, 40, 15, 34, 20, 31, 10, 25, 14, 19, 9, 13, 8, 7, 6]
theorem pow10_row : Rows.laid_internal_strconv_uint64pow10 = (DataW.agg (pow10Z.map fun z => .lit (.int .u64 z)) : DataW Unit) := by kernel_rfl
theorem bruijn_row : Rows.laid_math_bits_deBruijn64tab = (DataW.agg (bruijnZ.map fun z => .lit (.int .u8 z)) : DataW Unit) := by kernel_rfl
theorem pow10_is : pow10 = pow10Z.map fun z => .int .u64 z := by kernel_rfl
theorem bruijn_is : bruijn = bruijnZ.map fun z => .int .u8 z := by kernel_rfl
theorem errRt : (Tryz.prog.cutTypes.find? (·.1 == "internal/reflectlite.rtype")).map (·.2) = some 353 := by kernel_rfl
theorem errRow : ((List.range Tryz.prog.types.size).filter fun t => Tryz.prog.rowNamed t [101, 114, 114, 111, 114]) = [25] := by kernel_rfl
theorem errG : Tryz.prog.globalNamed "errors.errorType" = some 0 := by kernel_rfl

theorem handle_of_laid {W : World} (h : laidMetH Tryz.prog laidL W) : W.cell? ⟨0, 0, none⟩ = some (.iface 353 (.agg #[.pointer (some ⟨16, 25, none⟩)])) := by
  have h' : laidMet Tryz.prog laidD W ∧ handlesMet Tryz.prog [("errors.errorType", Rows.laid_errors_errorType)] W := h
  obtain ⟨name, u, ty, e1, e2, e3, e4, e5⟩ := h'.2 _ (List.mem_singleton.2 rfl)
  have en : name = [101, 114, 114, 111, 114] := (Option.some.inj e1).symm
  subst en
  obtain rfl := Option.some.inj (errRt.symm.trans e2)
  have hm : ty ∈ (List.range Tryz.prog.types.size).filter fun t => Tryz.prog.rowNamed t [101, 114, 114, 111, 114] := List.mem_filter.2 ⟨List.mem_range.2 e3, e4⟩
  rw [errRow] at hm
  obtain rfl := List.mem_singleton.1 hm
  have hh : typeHandle Tryz.prog 25 = .pointer (some ⟨16, 25, none⟩) := by kernel_rfl
  rw [hh] at e5
  simpa using World.var?_cell errG e5 0
theorem data_of_laid {W : World} (h : laidMetH Tryz.prog laidL W) : laidMet Tryz.prog laidD W := by
  have h' : laidMet Tryz.prog laidD W ∧ handlesMet Tryz.prog [("errors.errorType", Rows.laid_errors_errorType)] W := h
  exact h'.1
theorem pow10_cells {W : World} (h : laidMetH Tryz.prog laidL W) : ∀ r, r < 20 → W.cell? ⟨4, r, none⟩ = some (.int .u64 (pow10Z.getD r 0)) :=
  arr_ints (data_of_laid h) pow10Z (by rw [← pow10_row]; simp [laidD]) (show Tryz.prog.globalNamed "internal/strconv.uint64pow10" = some 4 by kernel_rfl) (show _ = some 408 by kernel_rfl) Tryz.underlying408 Tryz.underlying92 (by kernel_rfl)
theorem bruijn_cells {W : World} (h : laidMetH Tryz.prog laidL W) : ∀ r, r < 64 → W.cell? ⟨10, r, none⟩ = some (.int .u8 (bruijnZ.getD r 0)) :=
  arr_ints (data_of_laid h) bruijnZ (by rw [← bruijn_row]; simp [laidD]) (show Tryz.prog.globalNamed "math/bits.deBruijn64tab" = some 10 by kernel_rfl) (show _ = some 479 by kernel_rfl) Tryz.underlying479 Tryz.underlying5 (by kernel_rfl)

/-- All that there is, is not written. -/
def ctxW (W : World) : Ctx := ⟨fun _ => none, fun b => b < W.heap.size⟩
theorem rel_ctxW (W : World) : Rel (ctxW W) W [] := ⟨fun id o b off h => (by simp at h), fun i j b o1 o2 ⟨x, hx, _⟩ => (by simp at hx), fun id b off h => (by cases h), fun id b off ⟨x, hx, _⟩ => (by simp at hx), fun b h => h⟩
theorem cellW_lt {w : World} {b o : Nat} {v : Value} (h : w.cell? ⟨b, o, none⟩ = some v) : b < w.heap.size := by
  rcases Nat.lt_or_ge b w.heap.size with h' | h'
  · exact h'
  · simp [World.cell?, Array.getElem?_eq_none h'] at h
theorem vr_row {W : World} {g n : Nat} {k : IntKind} (zs : List Int) (hn : zs.length = n) (h0 : 0 < n) (h : ∀ r, r < n → W.cell? ⟨g, r, none⟩ = some (.int k (zs.getD r 0))) : VR (ctxW W) W (.ip (zs.map fun z => .int k z) 0 true) (.pointer (some ⟨g, 0, none⟩)) := by
  have := VR.ip (c := ctxW W) (w := W) (zs.map fun z => .int k z) 0 true g 0 (fun r => .int k (zs.getD r 0)) (fun _ a ha => by obtain ⟨z, _, rfl⟩ := List.mem_map.1 ha; rfl) (cellW_lt (h 0 h0)) (fun j hj => by rw [Nat.zero_add]; exact h j (by simpa [hn] using hj)) (fun j a ha => by
    rw [List.getElem?_map] at ha
    cases hz : zs[j]? with
    | none => rw [hz] at ha; cases ha
    | some z =>
      rw [hz] at ha
      cases ha
      have : zs.getD j 0 = z := by rw [List.getD_eq_getElem?_getD, hz]; rfl
      rw [this]
      exact .int _ _)
  exact this
theorem glob_of_laid {W : World} (h : laidMetH Tryz.prog laidL W) : Glob S0 (ctxW W) W := by
  intro g
  refine ⟨?_, fun v hv => ?_⟩
  · show VR _ _ (globF g) _
    unfold globF
    cases h1 : Nat.beq g 4 with
    | true =>
      rw [Nat.eq_of_beq_eq_true h1, cond_true, pow10_is]
      exact vr_row pow10Z (by kernel_rfl) (by decide) (pow10_cells h)
    | false =>
      rw [cond_false]
      cases h2 : Nat.beq g 10 with
      | true =>
        rw [Nat.eq_of_beq_eq_true h2, cond_true, bruijn_is]
        exact vr_row bruijnZ (by kernel_rfl) (by decide) (bruijn_cells h)
      | false => exact .any _
  · have hv' : pinF g = some v := hv
    unfold pinF at hv'
    cases h1 : Nat.beq g 0 with
    | true =>
      rw [h1] at hv'
      cases hv'
      rw [Nat.eq_of_beq_eq_true h1]
      exact ⟨cellW_lt (handle_of_laid h), handle_of_laid h⟩
    | false => rw [h1] at hv'; cases hv'

/-! #### a world that meets the condition -/
noncomputable def witW0 (os : Os) : World :=
  let w0 := World.holding Tryz.prog os ⟨#[], #[], []⟩
  { w0 with heap := w0.heap.modify 0 fun
      | .cells _ t frozen => .cells #[.iface 353 (.agg #[.pointer (some ⟨16, 25, none⟩)])] t frozen
      | o => o }
noncomputable def witW (os : Os) : World := (witW0 os).layVars Tryz.prog laidD
theorem witW_os (os : Os) : (witW os).os = os := World.layVars_os _ _ _
theorem witW_met (os : Os) (args : Array Value) : laidMetH Tryz.prog laidL ((witW os).forCall (fun _ _ => 0) ⟨#[], args, []⟩).memory := by
  have h : laidMet Tryz.prog laidD (witW os) := by
    have e1 : (laidD.filter fun x => (laidD.map (·.1)).contains x.1) = laidD := List.filter_eq_self.2 fun x hx => List.contains_iff_mem.2 (List.mem_map.2 ⟨x, hx, rfl⟩)
    have e2 : (laidD.filter fun x => !(laidD.map (·.1)).contains x.1) = [] := List.filter_eq_nil_iff.2 fun x hx => by rw [List.contains_iff_mem.2 (List.mem_map.2 ⟨x, hx, rfl⟩)]; simp
    refine laidMet_layVars (w0 := witW0 os) (laidD.map (·.1)) [] (by rw [e1]; rfl) (by rw [e1]; kernel_rfl) (by rw [e1]; kernel_rfl) (by rw [e2]; exact LaidIn.none)
  have h2 : laidMet Tryz.prog laidD ((witW os).forCall (fun _ _ => 0) ⟨#[], args, []⟩).memory := h.of_heap (by simp [World.memory, World.forCall, Input.heap])
  exact laidMetH_of_parts (by rw [laid_nh]; exact h2) (by rw [laid_h]; kernel_rfl)
theorem witW_shaped (os : Os) : (witW os).Shaped Tryz.prog := World.shaped_of_ZipB (by kernel_rfl) (by kernel_rfl)
end
end Go.AM.C

