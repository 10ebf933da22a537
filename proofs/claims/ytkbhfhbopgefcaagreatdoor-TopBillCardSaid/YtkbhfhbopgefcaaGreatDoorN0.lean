/- Part of a proof over the program's translation: Contracts, 1: the tables; limbs, made.; Contracts, 2: Of, Zero, Small, compare, Cmp.; Contracts, 3: compare, Cmp. .. -/
import Derived.Test.YtkbhfhbopgefcaaGreatDoorProg
import Derived.KernelRfl
import Derived.Test.YtkbhfhbopgefcaaGreatDoorA5
noncomputable section
/- Contracts, 1: the tables; limbs, made. -/
namespace Go.AM.C
open Go.Proofs
noncomputable section
set_option linter.unusedVariables false
set_option linter.unusedSimpArgs false

noncomputable def ti115 : TI := ⟨.slice 85, 1, 24, [.nils], false, [], false, msOf Tryz.prog 115⟩
theorem ti115_ok : tiOf Tryz.prog 115 = some ti115 := by kernel_rfl
noncomputable def ti85 : TI := ⟨.int .u64, 1, 8, [.int .u64 0], false, [], true, msOf Tryz.prog 85⟩
theorem ti85_ok : tiOf Tryz.prog 85 = some ti85 := by kernel_rfl
noncomputable def ti125 : TI := ⟨.struct (sfsOf Tryz.prog 125), 1, 24, [.nils], true, [(0, 1, false)], false, msOf Tryz.prog 125⟩
theorem ti125_ok : tiOf Tryz.prog 125 = some ti125 := by kernel_rfl
noncomputable def ti70 : TI := ⟨.pointer 125, 1, 8, [.nilp], false, [], true, msOf Tryz.prog 70⟩
theorem ti70_ok : tiOf Tryz.prog 70 = some ti70 := by kernel_rfl
noncomputable def ti3 : TI := ⟨.int .i64, 1, 8, [.int .i64 0], false, [], true, msOf Tryz.prog 3⟩
theorem ti3_ok : tiOf Tryz.prog 3 = some ti3 := by kernel_rfl
noncomputable def ti4 : TI := ⟨.bool, 1, 1, [.bool false], false, [], true, msOf Tryz.prog 4⟩
theorem ti4_ok : tiOf Tryz.prog 4 = some ti4 := by kernel_rfl
noncomputable def ti2 : TI := ⟨.int .i64, 1, 8, [.int .i64 0], false, [], true, msOf Tryz.prog 2⟩
theorem ti2_ok : tiOf Tryz.prog 2 = some ti2 := by kernel_rfl
noncomputable def ti23 : TI := ⟨.interface (imsOf Tryz.prog 23), 1, 16, [.nili], false, [], true, msOf Tryz.prog 23⟩
theorem ti23_ok : tiOf Tryz.prog 23 = some ti23 := by kernel_rfl
noncomputable def ti56 : TI := ⟨.pointer 118, 1, 8, [.nilp], false, [], true, msOf Tryz.prog 56⟩
theorem ti56_ok : tiOf Tryz.prog 56 = some ti56 := by kernel_rfl
noncomputable def ti118 : TI := ⟨.struct (sfsOf Tryz.prog 118), 2, 16, [.bool false, .nilp], true, [(0, 1, false), (1, 1, false)], true, msOf Tryz.prog 118⟩
theorem ti118_ok : tiOf Tryz.prog 118 = some ti118 := by kernel_rfl
noncomputable def ti63 : TI := ⟨.int .i64, 1, 8, [.int .i64 0], false, [], true, msOf Tryz.prog 63⟩
theorem ti63_ok : tiOf Tryz.prog 63 = some ti63 := by kernel_rfl
noncomputable def ti141 : TI := ⟨odsOf Tryz.prog 141, 1, 0, [.any], false, [], false, msOf Tryz.prog 141⟩
theorem ti141_ok : tiOf Tryz.prog 141 = some ti141 := by kernel_rfl
noncomputable def ti9 : TI := ⟨.string, 1, 16, [.str []], false, [], true, msOf Tryz.prog 9⟩
theorem ti9_ok : tiOf Tryz.prog 9 = some ti9 := by kernel_rfl
noncomputable def ti120 : TI := ⟨.slice 9, 1, 24, [.nils], false, [], false, msOf Tryz.prog 120⟩
theorem ti120_ok : tiOf Tryz.prog 120 = some ti120 := by kernel_rfl
noncomputable def ti40 : TI := ⟨.int .i64, 1, 8, [.int .i64 0], false, [], true, msOf Tryz.prog 40⟩
theorem ti40_ok : tiOf Tryz.prog 40 = some ti40 := by kernel_rfl
noncomputable def ti71 : TI := ⟨odsOf Tryz.prog 71, 1, 0, [.any], false, [], false, msOf Tryz.prog 71⟩
theorem ti71_ok : tiOf Tryz.prog 71 = some ti71 := by kernel_rfl
noncomputable def ti203 : TI := ⟨odsOf Tryz.prog 203, 1, 0, [.any], false, [], false, msOf Tryz.prog 203⟩
theorem ti203_ok : tiOf Tryz.prog 203 = some ti203 := by kernel_rfl
noncomputable def ti205 : TI := ⟨odsOf Tryz.prog 205, 1, 0, [.any], false, [], false, msOf Tryz.prog 205⟩
theorem ti205_ok : tiOf Tryz.prog 205 = some ti205 := by kernel_rfl
noncomputable def ti101 : TI := ⟨.slice 5, 1, 24, [.nils], false, [], false, msOf Tryz.prog 101⟩
theorem ti101_ok : tiOf Tryz.prog 101 = some ti101 := by kernel_rfl
noncomputable def ti5 : TI := ⟨.int .u8, 1, 1, [.int .u8 0], false, [], true, msOf Tryz.prog 5⟩
theorem ti5_ok : tiOf Tryz.prog 5 = some ti5 := by kernel_rfl
noncomputable def ti195 : TI := ⟨.map 9 2, 1, 8, [.nilm], false, [], false, msOf Tryz.prog 195⟩
theorem ti195_ok : tiOf Tryz.prog 195 = some ti195 := by kernel_rfl
noncomputable def ti253 : TI := ⟨.map 9 56, 1, 8, [.nilm], false, [], false, msOf Tryz.prog 253⟩
theorem ti253_ok : tiOf Tryz.prog 253 = some ti253 := by kernel_rfl
noncomputable def ti159 : TI := ⟨.slice 148, 1, 24, [.nils], false, [], false, msOf Tryz.prog 159⟩
theorem ti159_ok : tiOf Tryz.prog 159 = some ti159 := by kernel_rfl
noncomputable def ti148 : TI := ⟨.struct (sfsOf Tryz.prog 148), 2, 24, [.str [], .int .i64 0], true, [(0, 1, false), (1, 1, false)], true, msOf Tryz.prog 148⟩
theorem ti148_ok : tiOf Tryz.prog 148 = some ti148 := by kernel_rfl
noncomputable def ti197 : TI := ⟨.struct (sfsOf Tryz.prog 197), 2, 16, [.nilm, .int .i64 0], true, [(0, 1, false), (1, 1, false)], false, msOf Tryz.prog 197⟩
theorem ti197_ok : tiOf Tryz.prog 197 = some ti197 := by kernel_rfl
noncomputable def ti144 : TI := ⟨.pointer 197, 1, 8, [.nilp], false, [], true, msOf Tryz.prog 144⟩
theorem ti144_ok : tiOf Tryz.prog 144 = some ti144 := by kernel_rfl
noncomputable def ti257 : TI := ⟨.pointer 259, 1, 8, [.nilp], false, [], true, msOf Tryz.prog 257⟩
theorem ti257_ok : tiOf Tryz.prog 257 = some ti257 := by kernel_rfl
noncomputable def ti365 : TI := ⟨.pointer 257, 1, 8, [.nilp], false, [], true, msOf Tryz.prog 365⟩
theorem ti365_ok : tiOf Tryz.prog 365 = some ti365 := by kernel_rfl
noncomputable def ti259 : TI := ⟨.struct (sfsOf Tryz.prog 259), 3, 40, [.int .i64 0, .str [], .nili], true, [(0, 1, false), (1, 1, false), (2, 1, false)], true, msOf Tryz.prog 259⟩
theorem ti259_ok : tiOf Tryz.prog 259 = some ti259 := by kernel_rfl
noncomputable def ti20 : TI := ⟨.interface (imsOf Tryz.prog 20), 1, 16, [.nili], false, [], true, msOf Tryz.prog 20⟩
theorem ti20_ok : tiOf Tryz.prog 20 = some ti20 := by kernel_rfl
noncomputable def ti97 : TI := ⟨.map 3 4, 1, 8, [.nilm], false, [], false, msOf Tryz.prog 97⟩
theorem ti97_ok : tiOf Tryz.prog 97 = some ti97 := by kernel_rfl
noncomputable def ti99 : TI := ⟨.struct (sfsOf Tryz.prog 99), 1, 8, [.nilm], true, [(0, 1, false)], false, msOf Tryz.prog 99⟩
theorem ti99_ok : tiOf Tryz.prog 99 = some ti99 := by kernel_rfl
noncomputable def ti35 : TI := ⟨.pointer 99, 1, 8, [.nilp], false, [], true, msOf Tryz.prog 35⟩
theorem ti35_ok : tiOf Tryz.prog 35 = some ti35 := by kernel_rfl
noncomputable def ti445 : TI := ⟨.slice 35, 1, 24, [.nils], false, [], false, msOf Tryz.prog 445⟩
theorem ti445_ok : tiOf Tryz.prog 445 = some ti445 := by kernel_rfl
noncomputable def ti350 : TI := ⟨.array 64 5, 64, 64, [.int .u8 0, .int .u8 0, .int .u8 0, .int .u8 0, .int .u8 0, .int .u8 0, .int .u8 0, .int .u8 0, .int .u8 0, .int .u8 0, .int .u8 0, .int .u8 0, .int .u8 0, .int .u8 0, .int .u8 0, .int .u8 0, .int .u8 0, .int .u8 0, .int .u8 0, .int .u8 0, .int .u8 0, .int .u8 0, .int .u8 0, .int .u8 0, .int .u8 0, .int .u8 0, .int .u8 0, .int .u8 0, .int .u8 0, .int .u8 0, .int .u8 0, .int .u8 0, .int .u8 0, .int .u8 0, .int .u8 0, .int .u8 0, .int .u8 0, .int .u8 0, .int .u8 0, .int .u8 0, .int .u8 0, .int .u8 0, .int .u8 0, .int .u8 0, .int .u8 0, .int .u8 0, .int .u8 0, .int .u8 0, .int .u8 0, .int .u8 0, .int .u8 0, .int .u8 0, .int .u8 0, .int .u8 0, .int .u8 0, .int .u8 0, .int .u8 0, .int .u8 0, .int .u8 0, .int .u8 0, .int .u8 0, .int .u8 0, .int .u8 0, .int .u8 0], true, [], true, msOf Tryz.prog 350⟩
theorem ti350_ok : tiOf Tryz.prog 350 = some ti350 := by kernel_rfl
noncomputable def ti149 : TI := ⟨.slice 2, 1, 24, [.nils], false, [], false, msOf Tryz.prog 149⟩
theorem ti149_ok : tiOf Tryz.prog 149 = some ti149 := by kernel_rfl
noncomputable def ti91 : TI := ⟨.slice 3, 1, 24, [.nils], false, [], false, msOf Tryz.prog 91⟩
theorem ti91_ok : tiOf Tryz.prog 91 = some ti91 := by kernel_rfl
noncomputable def ti331 : TI := ⟨.slice 159, 1, 24, [.nils], false, [], false, msOf Tryz.prog 331⟩
theorem ti331_ok : tiOf Tryz.prog 331 = some ti331 := by kernel_rfl
noncomputable def ti163 : TI := ⟨.struct (sfsOf Tryz.prog 163), 19, 200, [.int .i64 0, .int .i64 0, .int .i64 0, .int .i64 0, .int .i64 0, .int .i64 0, .str [], .str [], .int .i64 0, .int .i64 0, .bool false, .int .i64 0, .int .i64 0, .int .i64 0, .str [], .int .i64 0, .str [], .nils, .int .i64 0], true, [(0, 1, false), (1, 1, false), (2, 1, false), (3, 9, true), (12, 1, false), (13, 1, false), (14, 1, false), (15, 1, false), (16, 1, false), (17, 1, false), (18, 1, false)], false, msOf Tryz.prog 163⟩
theorem ti163_ok : tiOf Tryz.prog 163 = some ti163 := by kernel_rfl
noncomputable def ti153 : TI := ⟨.struct (sfsOf Tryz.prog 153), 9, 88, [.int .i64 0, .int .i64 0, .int .i64 0, .str [], .str [], .int .i64 0, .int .i64 0, .bool false, .int .i64 0], true, [(0, 1, false), (1, 1, false), (2, 1, false), (3, 1, false), (4, 1, false), (5, 1, false), (6, 1, false), (7, 1, false), (8, 1, false)], true, msOf Tryz.prog 153⟩
theorem ti153_ok : tiOf Tryz.prog 153 = some ti153 := by kernel_rfl
noncomputable def ti150 : TI := ⟨odsOf Tryz.prog 150, 1, 0, [.any], false, [], false, msOf Tryz.prog 150⟩
theorem ti150_ok : tiOf Tryz.prog 150 = some ti150 := by kernel_rfl
noncomputable def tys : List (Nat × TI) := [(115, ti115), (85, ti85), (125, ti125), (70, ti70), (3, ti3), (4, ti4), (2, ti2), (23, ti23), (56, ti56), (118, ti118), (63, ti63), (141, ti141), (9, ti9), (120, ti120), (40, ti40), (71, ti71), (203, ti203), (205, ti205), (101, ti101), (5, ti5), (195, ti195), (253, ti253), (159, ti159), (148, ti148), (197, ti197), (144, ti144), (257, ti257), (365, ti365), (259, ti259), (20, ti20), (97, ti97), (99, ti99), (35, ti35), (445, ti445), (350, ti350), (149, ti149), (91, ti91), (331, ti331), (163, ti163), (153, ti153), (150, ti150)]
theorem tys_ok : AllT Tryz.prog tys := ⟨ti115_ok, ti85_ok, ti125_ok, ti70_ok, ti3_ok, ti4_ok, ti2_ok, ti23_ok, ti56_ok, ti118_ok, ti63_ok, ti141_ok, ti9_ok, ti120_ok, ti40_ok, ti71_ok, ti203_ok, ti205_ok, ti101_ok, ti5_ok, ti195_ok, ti253_ok, ti159_ok, ti148_ok, ti197_ok, ti144_ok, ti257_ok, ti365_ok, ti259_ok, ti20_ok, ti97_ok, ti99_ok, ti35_ok, ti445_ok, ti350_ok, ti149_ok, ti91_ok, ti331_ok, ti163_ok, ti153_ok, ti150_ok, trivial⟩


theorem mixed : Tryz.prog.follows .mixedOrders = true := by kernel_rfl
/-- What the package variables hold that are read: two tables; the handle of the type 'error'. -/
def pow10 : List AVal := (List.range 20).map fun i => .int .u64 ((10 ^ i : Nat) : Int)
def bruijn : List AVal := [0, 1, 56, 2, 57, 49, 28, 3, 61, 58, 42, 50, 38, 29, 17, 4, 62, 47, 59, 36, 45, 43, 51, 22, 53, 39, 33, 30, 24, 18, 12, 5, 63, 55, 48, 27, 60, 41, 37, 16, 46, 35, 44, 21, 52, 32, 23, 11, 54, 26, 40, 15, 34, 20, 31, 10, 25, 14, 19, 9, 13, 8, 7, 6].map fun k => .int .u8 ((k : Nat) : Int)
def globF (g : Nat) : AVal := bif Nat.beq g 7 then .ip pow10 0 true else bif Nat.beq g 8 then .ip bruijn 0 true else .any
def pinF (g : Nat) : Option Value := bif Nat.beq g 10 then some (.iface 416 (.agg #[.pointer (some ⟨16, 23, none⟩)])) else none
theorem globF_ok (g : Nat) : (globF g).closed = true ∨ globF g = .any := by
  unfold globF
  cases Nat.beq g 7 with
  | true => exact .inl rfl
  | false =>
    cases Nat.beq g 8 with
    | true => exact .inl rfl
    | false => exact .inr rfl
abbrev mk (l : List Ent) : Sg := mkS Tryz.prog (tyOf tys) (fun _ => false) globF pinF (fun _ => false) false l
theorem mk_sound {l : List Ent} (h : AllE Tryz.prog (mk l) l) : Sound Tryz.prog (mk l) := mkS_sound mixed (fun t i h => tyOf_ok tys_ok t i h) h globF_ok
abbrev S0 : Sg := mk []
theorem s0 : Sound Tryz.prog S0 := mk_sound trivial
/-- Told of one table, it holds of any. -/
abbrev Has (f : FuncId) (args : List AVal) (H : Heap) (v : AVal) (H' : Heap) : Prop := DoesC Tryz.prog S0 f args H v H'
theorem Has.at {l : List Ent} {f : FuncId} {args : List AVal} {H H' : Heap} {v : AVal} (h : Has f args H v H') : DoesC Tryz.prog (mk l) f args H v H' := DoesC.glob rfl rfl h
theorem Has.of {l : List Ent} {f : FuncId} {args : List AVal} {H H' : Heap} {v : AVal} (h : DoesC Tryz.prog (mk l) f args H v H') : Has f args H v H' := DoesC.glob rfl rfl h

/-! #### (*Nat).limbs -/
theorem limbs_np (n : Nat) (H : Heap) : Has 84 [.obj (.np n)] H (.isl (limbs n) 0 (limbs n).length none true) H := by
  refine does_pure s0 (show S0.fn 84 = some Tryz.f84 by kernel_rfl) rfl (by kernel_rfl) (Nat.le_of_ble_eq_true rfl) rfl rfl ?_
  refine W.seq (W.region ?_)
  repeat refine WO.op rfl rfl ?_
  refine WO.nil (W.seq (W.seq (W.region ?_)))
  repeat refine WO.op rfl rfl ?_
  refine WO.nil (W.cond (b := false) rfl (fun h => by cases h) (fun _ => W.skip (W.seq (W.region ?_))))
  repeat refine WO.op rfl rfl ?_
  refine WO.nil (W.ret ⟨trivial, _, rfl, Seals.same _ rfl⟩)

/-! #### made -/
/-- A row of the caller's: the 0s at its end go. -/
theorem made_sl (id : Nat) (l : List Nat) (k c : Nat) (H : Heap) (ty : TypeId) (hH : H[id]? = some (.cells (u64s l) ty)) (hk : k ≤ l.length) (hc : k ≤ c) (hb : k < 9223372036854775808) :
    Has 90 [.sl id 0 k (some c) 1] H (.ip [.sl id 0 (trimN l k) (some c) 1] 0 false) H := by
  generalize hT : trimN l k = T
  refine does_run s0 (show S0.fn 90 = some Tryz.f90 by kernel_rfl) rfl (by kernel_rfl) (Nat.le_of_ble_eq_true rfl) ?_
  refine W.seq (W.region ?_)
  repeat refine WO.op rfl rfl ?_
  refine WO.nil (W.seq (W.block (W.fits (F' := fr [(0, .sl id 0 k (some c) 1)]) (fits_fr ⟨rfl, trivial⟩) ?_)))
  refine W.loopI (fun j : Nat => j ≤ k ∧ trimN l j = T) (fun j => j) (fun j => fr [(0, .sl id 0 j (some c) 1)]) (fun _ => H) ?_ k ⟨Nat.le_refl _, hT⟩
  rintro j ⟨hj, htr⟩
  have ht : S0.ty 115 = some ti115 := rfl
  have he : S0.ty 85 = some ti85 := rfl
  by_cases hz : j = 0 ∨ l.getD (j - 1) 0 ≠ 0
  · -- it ends here
    have hend : j = T := by
      rw [← htr]
      cases j with
      | zero => rfl
      | succ j => unfold trimN; rw [if_neg]; simpa using hz
    clear htr
    subst hend
    refine W.seq (W.seq (W.region ?_))
    refine WO.op rfl rfl ?_
    refine WO.op rfl rfl ?_
    cases j with
    | zero =>
      refine WO.as (v' := .bool false) rfl rfl rfl ?_
      refine WO.op rfl rfl ?_
      repeat refine WO.skip rfl ?_
      refine WO.op rfl rfl ?_
      refine WO.nil (W.cond (b := false) rfl (fun h => by cases h) (fun _ => W.exit ?_))
      refine W.seq (W.region ?_)
      repeat refine WO.op rfl rfl ?_
      exact WO.nil (W.ret ⟨trivial, _, rfl, Wk.refl _, rfl⟩)
    | succ j =>
      refine WO.as (v' := .bool true) rfl rfl (by simp) ?_
      refine WO.op rfl rfl ?_
      refine WO.op rfl rfl ?_
      refine WO.op rfl rfl ?_
      refine WO.op rfl rfl ?_
      refine WO.as (v' := .int .i64 (j : Int)) rfl rfl (int_i64 (by omega) (by omega)) ?_
      refine WO.op (G.idx_sl rfl rfl ht rfl he rfl (by omega) (by omega)) rfl ?_
      refine WO.op (G.load_ptr rfl he rfl hH (u64s_at (by omega))) rfl ?_
      refine WO.as (v' := .bool false) rfl rfl (by simpa using hz) ?_
      repeat refine WO.op rfl rfl ?_
      refine WO.nil (W.cond (b := false) rfl (fun h => by cases h) (fun _ => W.exit ?_))
      refine W.seq (W.region ?_)
      repeat refine WO.op rfl rfl ?_
      exact WO.nil (W.ret ⟨trivial, _, rfl, Wk.refl _, rfl⟩)
  · -- one less
    obtain ⟨j, rfl⟩ : ∃ m, j = m + 1 := ⟨j - 1, by omega⟩
    have h0 : l.getD j 0 = 0 := by
      by_cases h : l.getD j 0 = 0
      · exact h
      · exact absurd (Or.inr (by simpa using h)) hz
    have htr' : trimN l j = T := by rw [← htr]; conv => rhs; unfold trimN; rw [if_pos h0]
    refine W.seq (W.seq (W.region ?_))
    refine WO.op rfl rfl ?_
    refine WO.op rfl rfl ?_
    refine WO.as (v' := .bool true) rfl rfl (by simp) ?_
    refine WO.op rfl rfl ?_
    refine WO.op rfl rfl ?_
    refine WO.op rfl rfl ?_
    refine WO.op rfl rfl ?_
    refine WO.as (v' := .int .i64 (j : Int)) rfl rfl (int_i64 (by omega) (by omega)) ?_
    refine WO.op (G.idx_sl rfl rfl ht rfl he rfl (by omega) (by omega)) rfl ?_
    refine WO.op (G.load_ptr rfl he rfl hH (u64s_at (by omega))) rfl ?_
    refine WO.as (v' := .bool true) rfl rfl (by rw [h0]; rfl) ?_
    repeat refine WO.op rfl rfl ?_
    refine WO.nil (W.cond (b := true) rfl (fun _ => W.skip ?_) (fun h => by cases h))
    refine W.block (W.region ?_)
    refine WO.op rfl rfl ?_
    refine WO.op rfl rfl ?_
    refine WO.op rfl rfl ?_
    refine WO.as (v' := .int .i64 (j : Int)) rfl rfl (int_i64 (by omega) (by omega)) ?_
    refine WO.op (G.slice_sl (l := 0) (h := j) rfl ht rfl he rfl rfl ⟨_, rfl⟩ (by omega) (by simp; omega) (by simp; omega)) rfl ?_
    refine WO.op rfl rfl ?_
    refine WO.nil ⟨j, ⟨by omega, htr'⟩, by omega, fits_fr ⟨rfl, trivial⟩, rfl⟩
end
end Go.AM.C

/- Contracts, 2: Of, Zero, Small, compare, Cmp. -/
namespace Go.AM.C
open Go.Proofs
noncomputable section
set_option linter.unusedVariables false
set_option linter.unusedSimpArgs false

theorem tU : S0.ty 115 = some ti115 := rfl
theorem tu : S0.ty 85 = some ti85 := rfl

/-! #### Of -/
theorem of_np (n : Nat) (hn : n < B64) (H : Heap) : Has 59 [.int .u64 (n : Int)] H (.obj (.np n)) H := by
  refine does_pure s0 (show S0.fn 59 = some Tryz.f59 by kernel_rfl) rfl (by kernel_rfl) (Nat.le_of_ble_eq_true rfl) rfl rfl ?_
  refine W.seq (W.region ?_)
  repeat refine WO.op rfl rfl ?_
  refine WO.nil (W.seq (W.region ?_))
  refine WO.op rfl rfl ?_
  refine WO.op rfl rfl ?_
  refine WO.call (f := 90) (args := [.sl 0 0 1 (some 1) 1]) rfl (made_sl 0 [n] 1 1 _ 85 rfl (by simp) (by omega) (by omega)) rfl ?_
  refine WO.op rfl rfl (WO.nil (W.ret ⟨trivial, _, rfl, ?_⟩))
  refine seals_np (l := [n]) rfl (trimN_le _ _) ?_
  rw [trim_lims (Dig.mk hn .nil) (by simp)]
  simp [val]

/-! #### Zero, Small -/
theorem zero_np (n : Nat) (H : Heap) : Has 47 [.obj (.np n)] H (.bool (decide (n = 0))) H := by
  refine does_pure s0 (show S0.fn 47 = some Tryz.f47 by kernel_rfl) rfl (by kernel_rfl) (Nat.le_of_ble_eq_true rfl) rfl rfl ?_
  refine W.seq (W.region ?_)
  repeat refine WO.op rfl rfl ?_
  refine WO.nil (W.seq (W.region ?_))
  refine WO.op rfl rfl ?_
  refine WO.call rfl (limbs_np n _) rfl ?_
  refine WO.op rfl rfl ?_
  refine WO.as (v' := .bool (decide (n = 0))) rfl rfl ?_ ?_
  · have : ((limbs n).length : Int) = 0 ↔ n = 0 := by rw [limbs_lims, u64s_len]; have := @lims_len_zero n; omega
    exact bdE this
  refine WO.op rfl rfl (WO.nil (W.ret ⟨trivial, _, rfl, Seals.same _ rfl⟩))

theorem small_np (n : Nat) (H : Heap) : Has 150 [.obj (.np n)] H (.tup [.int .u64 ((if n < B64 then n else 0 : Nat) : Int), .bool (decide (n < B64))]) H := by
  refine does_pure s0 (show S0.fn 150 = some Tryz.f150 by kernel_rfl) rfl (by kernel_rfl) (Nat.le_of_ble_eq_true rfl) rfl rfl ?_
  have hs := SlU.isl (H := []) (l := lims n) (cap := none) (cl := true) tU rfl tu rfl
  rw [show (AVal.isl (u64s (lims n)) 0 (lims n).length none true) = .isl (limbs n) 0 (limbs n).length none true by rw [limbs_lims, u64s_len]] at hs
  refine W.seq (W.region ?_)
  repeat refine WO.op rfl rfl ?_
  refine WO.nil (W.seq (W.seq (W.region ?_)))
  refine WO.op rfl rfl ?_
  refine WO.call rfl (limbs_np n _) rfl ?_
  refine WO.op rfl rfl (WO.nil (W.seq (W.region ?_)))
  refine WO.op rfl rfl ?_
  refine WO.op (hs.lenG rfl rfl rfl) rfl (WO.nil (W.block (W.seq (W.region ?_))))
  by_cases h0 : n = 0
  · subst h0
    refine WO.as (v' := .bool true) rfl rfl rfl ?_
    refine WO.op rfl rfl (WO.nil (W.cond (b := true) rfl (fun _ => W.seq (W.region ?_)) (fun h => by cases h)))
    repeat refine WO.op rfl rfl ?_
    refine WO.nil (W.ret ⟨trivial, _, rfl, Seals.same _ rfl⟩)
  · have hne : (lims n).length ≠ 0 := fun h => h0 (lims_len_zero.1 h)
    refine WO.as (v' := .bool false) rfl rfl (bdF (by omega)) ?_
    refine WO.op rfl rfl (WO.nil (W.cond (b := false) rfl (fun h => by cases h) (fun _ => W.seq (W.region ?_))))
    by_cases h1 : n < B64
    · have hl := lims_small h1 h0
      rw [hl] at hs ⊢
      refine WO.as (v' := .bool true) rfl rfl rfl ?_
      refine WO.op rfl rfl (WO.nil (W.cond (b := true) rfl (fun _ => W.seq (W.region ?_)) (fun h => by cases h)))
      obtain ⟨p, row, off, h2, h3, h4⟩ := hs.at_ 0 (by simp)
      refine WO.op rfl rfl ?_
      refine WO.op (SlU.idxG (j := 0) rfl rfl h2) rfl ?_
      refine WO.op (SlU.loadG rfl tu rfl h3 h4) rfl ?_
      repeat refine WO.op rfl rfl ?_
      refine WO.nil (W.ret ⟨trivial, _, rfl, ?_⟩)
      rw [if_pos h1, decide_eq_true h1]
      exact Seals.same _ rfl
    · have hl : (lims n).length ≠ 1 := fun h => h1 (by
        have := val_lt (dig_lims n)
        rw [h, val_lims] at this
        simpa using this)
      refine WO.as (v' := .bool false) rfl rfl (bdF (by omega)) ?_
      refine WO.op rfl rfl (WO.nil (W.cond (b := false) rfl (fun h => by cases h) (fun _ => W.skip ?_)))
      refine W.seq (W.region ?_)
      repeat refine WO.op rfl rfl ?_
      refine WO.nil (W.ret ⟨trivial, _, rfl, ?_⟩)
      rw [if_neg h1, decide_eq_false h1]
      exact Seals.same _ rfl
end
end Go.AM.C

/- Contracts, 3: compare, Cmp. -/
namespace Go.AM.C
open Go.Proofs
noncomputable section
set_option linter.unusedVariables false
set_option linter.unusedSimpArgs false

theorem compare_sl {H : Heap} {va vb : AVal} {la lb : List Nat} (ha : SlU S0 115 H va la) (hb : SlU S0 115 H vb lb) (ba : la.length < 4611686018427387904) (bb : lb.length < 4611686018427387904) :
    Has 100 [va, vb] H (.int .i64 (cmpL la lb)) H := by
  generalize hR : cmpL la lb = R
  refine does_run s0 (show S0.fn 100 = some Tryz.f100 by kernel_rfl) rfl (by kernel_rfl) (Nat.le_of_ble_eq_true rfl) ?_
  refine W.seq (W.region ?_)
  repeat refine WO.op rfl rfl ?_
  refine WO.nil (W.seq (W.seq (W.region ?_)))
  refine WO.op rfl rfl ?_
  refine WO.op (ha.lenG rfl rfl rfl) rfl ?_
  refine WO.op rfl rfl ?_
  refine WO.op (hb.lenG rfl rfl rfl) rfl ?_
  by_cases hl : la.length = lb.length
  · refine WO.as (v' := .bool false) rfl rfl (bnT (by omega)) (WO.nil (W.cond (b := false) rfl (fun h => by cases h) (fun _ => W.skip ?_)))
    refine W.seq (W.seq (W.region ?_))
    refine WO.op rfl rfl ?_
    refine WO.op (ha.lenG rfl rfl rfl) rfl ?_
    refine WO.as (v' := .int .i64 ((la.length : Int) - 1)) rfl rfl (int_i64 (by omega) rfl) ?_
    refine WO.op rfl rfl (WO.nil (W.block (W.fits (F' := fr [(0, va), (1, vb), (5, .int .i64 ((la.length : Int) - 1))]) (fits_fr ⟨rfl, rfl, rfl, trivial⟩) ?_)))
    have hR' : cmpTop la lb la.length = R := by rw [← hR]; unfold cmpL; rw [if_neg (by omega), if_neg (by omega)]
    refine W.loopI (fun k : Nat => k ≤ la.length ∧ cmpTop la lb k = R) (fun k => k) (fun k => fr [(0, va), (1, vb), (5, .int .i64 ((k : Int) - 1))]) (fun _ => H) ?_ la.length ⟨Nat.le_refl _, hR'⟩
    rintro k ⟨hk, hkR⟩
    refine W.seq (W.seq (W.region ?_))
    refine WO.op rfl rfl ?_
    cases k with
    | zero =>
      refine WO.as (v' := .bool false) rfl rfl (bdF (by omega)) (WO.nil (W.cond (b := false) rfl (fun h => by cases h) (fun _ => W.exit ?_)))
      refine W.seq (W.region ?_)
      refine WO.op rfl rfl (WO.nil (W.ret ⟨trivial, _, rfl, ?_, rfl⟩))
      rw [← hkR]
      exact Wk.refl _
    | succ k =>
      refine WO.as (v' := .bool true) rfl rfl (bdT (by omega)) (WO.nil (W.cond (b := true) rfl (fun _ => W.skip ?_) (fun h => by cases h)))
      obtain ⟨p, row, off, h2, h3, h4⟩ := ha.at_ k (by omega)
      obtain ⟨p', row', off', h2', h3', h4'⟩ := hb.at_ k (by omega)
      have e1 : ((k + 1 : Nat) : Int) - 1 = (k : Int) := by omega
      rw [e1]
      refine W.seq (W.block (W.block (W.seq (W.draw0 rfl (by kernel_rfl) ?_))))
      rw [cmpTop] at hkR
      refine WT.op rfl rfl rfl ?_
      refine WT.op rfl rfl rfl ?_
      refine WT.op (SlU.idxG rfl rfl h2) rfl rfl ?_
      refine WT.op (SlU.loadG rfl tu rfl h3 h4) rfl rfl ?_
      refine WT.op rfl rfl rfl ?_
      refine WT.op rfl rfl rfl ?_
      refine WT.op (SlU.idxG rfl rfl h2') rfl rfl ?_
      refine WT.op (SlU.loadG rfl tu rfl h3' h4') rfl rfl ?_
      refine WT.op rfl rfl rfl ?_
      refine WT.op rfl rfl rfl (WT.nil (W.cond rfl (fun hb => ?_) (fun hb => ?_)))
      · have hlt : la.getD k 0 < lb.getD k 0 := by have := of_decide_eq_true hb; omega
        rw [if_pos hlt] at hkR
        refine W.seq (W.region ?_)
        refine WO.op rfl rfl (WO.nil (W.ret ⟨trivial, _, rfl, ?_, rfl⟩))
        rw [← hkR]
        exact Wk.refl _
      · have hlt : ¬ la.getD k 0 < lb.getD k 0 := by have := of_decide_eq_false hb; omega
        rw [if_neg hlt] at hkR
        refine W.seq (W.draw0 rfl (by kernel_rfl) ?_)
        refine WT.op rfl rfl rfl ?_
        refine WT.op rfl rfl rfl ?_
        refine WT.op (SlU.idxG rfl rfl h2) rfl rfl ?_
        refine WT.op (SlU.loadG rfl tu rfl h3 h4) rfl rfl ?_
        refine WT.op rfl rfl rfl ?_
        refine WT.op rfl rfl rfl ?_
        refine WT.op (SlU.idxG rfl rfl h2') rfl rfl ?_
        refine WT.op (SlU.loadG rfl tu rfl h3' h4') rfl rfl ?_
        refine WT.op rfl rfl rfl ?_
        refine WT.op rfl rfl rfl (WT.nil (W.cond rfl (fun hb => ?_) (fun hb => ?_)))
        · have hgt : lb.getD k 0 < la.getD k 0 := by have := of_decide_eq_true hb; omega
          rw [if_pos hgt] at hkR
          refine W.seq (W.region ?_)
          refine WO.op rfl rfl (WO.nil (W.ret ⟨trivial, _, rfl, ?_, rfl⟩))
          rw [← hkR]
          exact Wk.refl _
        · have hgt : ¬ lb.getD k 0 < la.getD k 0 := by have := of_decide_eq_false hb; omega
          rw [if_neg hgt] at hkR
          refine W.skip (W.region ?_)
          refine WO.op rfl rfl ?_
          refine WO.as (v' := .int .i64 ((k : Int) - 1)) rfl rfl (int_i64 (by omega) rfl) ?_
          refine WO.op rfl rfl (WO.nil ⟨k, ⟨by omega, hkR⟩, by omega, fits_fr ⟨rfl, rfl, rfl, trivial⟩, ?_⟩)
          simp
  · refine WO.as (v' := .bool true) rfl rfl (bnF (by omega)) (WO.nil (W.cond (b := true) rfl (fun _ => W.seq (W.region ?_)) (fun h => by cases h)))
    refine WO.op rfl rfl ?_
    refine WO.op (ha.lenG rfl rfl rfl) rfl ?_
    refine WO.op rfl rfl ?_
    refine WO.op (hb.lenG rfl rfl rfl) rfl ?_
    refine WO.as (v' := .int .i64 ((la.length : Int) - lb.length)) rfl rfl (int_i64 (by omega) rfl) ?_
    refine WO.op rfl rfl ?_
    refine WO.as (v' := .int .i64 R) rfl rfl (int_eq ?_) ?_
    · rw [← hR]; unfold cmpL
      simp only [Bool.false_eq_true, if_false, if_true]
      by_cases h : la.length < lb.length
      · rw [if_pos h]; split <;> split <;> omega
      · rw [if_neg h, if_pos (show lb.length < la.length by omega)]; split <;> split <;> omega
    refine WO.op rfl rfl (WO.nil (W.ret ⟨trivial, _, rfl, Wk.refl _, rfl⟩))

theorem slu_np (n : Nat) (H : Heap) : SlU S0 115 H (.isl (limbs n) 0 (limbs n).length none true) (lims n) := by
  rw [limbs_lims, u64s_len]
  exact SlU.isl tU rfl tu rfl

theorem cmp_np (n m : Nat) (hn : Fit n) (hm : Fit m) (H : Heap) : Has 61 [.obj (.np n), .obj (.np m)] H (.int .i64 (cmpN n m)) H := by
  unfold Fit at hn hm
  refine does_pure s0 (show S0.fn 61 = some Tryz.f61 by kernel_rfl) rfl (by kernel_rfl) (Nat.le_of_ble_eq_true rfl) rfl rfl ?_
  refine W.seq (W.region ?_)
  repeat refine WO.op rfl rfl ?_
  refine WO.nil (W.seq (W.region ?_))
  refine WO.op rfl rfl ?_
  refine WO.call rfl (limbs_np n _) rfl ?_
  refine WO.op rfl rfl ?_
  refine WO.call rfl (limbs_np m _) rfl ?_
  refine WO.call rfl (compare_sl (slu_np n _) (slu_np m _) (by omega) (by omega)) rfl ?_
  refine WO.op rfl rfl (WO.nil (W.ret ⟨trivial, _, rfl, ?_⟩))
  rw [cmpL_lims]
  exact Seals.same _ rfl
end
end Go.AM.C

/- Contracts, 4: Add. -/
namespace Go.AM.C
open Go.Proofs
noncomputable section
set_option linter.unusedVariables false
set_option linter.unusedSimpArgs false

/-! #### math/bits.Add64 -/
theorem twoI_eq (a b : Int) (H : Heap) : twoI a b H = some (.tup [.int .u64 a, .int .u64 b], H) := rfl
theorem add64_has (x y c : Nat) (hc : c ≤ 1) (H : Heap) : Has 102 [.int .u64 (x : Int), .int .u64 (y : Int), .int .u64 (c : Int)] H (.tup [.int .u64 (((x + y + c) % B64 : Nat) : Int), .int .u64 (((x + y + c) / B64 : Nat) : Int)]) H := by
  refine DoesC.of_ext (x := add64X) (add64_ok Tryz.func102 (by kernel_rfl) (by kernel_rfl) (by kernel_rfl) (by kernel_rfl)) ?_
  show (if 0 ≤ (x : Int) ∧ 0 ≤ (y : Int) ∧ 0 ≤ (c : Int) ∧ (c : Int) ≤ 1 then twoI (((x : Int) + y + c) % 18446744073709551616) (((x : Int) + y + c) / 18446744073709551616) H else none) = _
  have e1 : ((x : Int) + y + c) % 18446744073709551616 = ((x + y + c) % 18446744073709551616 : Nat) := by omega
  have e2 : ((x : Int) + y + c) / 18446744073709551616 = ((x + y + c) / 18446744073709551616 : Nat) := by omega
  rw [if_pos ⟨by omega, by omega, by omega, by omega⟩, twoI_eq, e1, e2]

set_option maxRecDepth 100000 in
theorem add_np (n m : Nat) (hn : Fit n) (hm : Fit m) (H : Heap) : Has 60 [.obj (.np n), .obj (.np m)] H (.obj (.np (n + m))) H := by
  unfold Fit at hn hm
  obtain ⟨p, q, hpq, hlen, hL, hcase⟩ : ∃ p q, p + q = n + m ∧ (lims q).length ≤ (lims p).length ∧ (lims p).length ≤ 1073741824 ∧
      ((p = n ∧ q = m ∧ ¬ (lims n).length < (lims m).length) ∨ (p = m ∧ q = n ∧ (lims n).length < (lims m).length)) := by
    by_cases h : (lims n).length < (lims m).length
    · exact ⟨m, n, by omega, by omega, by omega, .inr ⟨rfl, rfl, h⟩⟩
    · exact ⟨n, m, by omega, by omega, by omega, .inl ⟨rfl, rfl, h⟩⟩
  rw [← hpq]
  refine does_pure s0 (show S0.fn 60 = some Tryz.f60 by kernel_rfl) rfl (by kernel_rfl) (Nat.le_of_ble_eq_true rfl) rfl rfl ?_
  refine W.seq (W.region ?_)
  repeat refine WO.op rfl rfl ?_
  refine WO.nil (W.seq (W.region ?_))
  refine WO.op rfl rfl ?_
  refine WO.call rfl (limbs_np n _) rfl ?_
  refine WO.op rfl rfl ?_
  refine WO.call rfl (limbs_np m _) rfl ?_
  repeat refine WO.op rfl rfl ?_
  refine WO.nil (W.mid (H1 := []) [(5, .isl (limbs p) 0 (limbs p).length none true), (6, .isl (limbs q) 0 (limbs q).length none true)] ?_ ?_)
  · -- the longer one first
    refine W.seq (W.region ?_)
    refine WO.op rfl rfl ?_
    refine WO.op ((slu_np n _).lenG rfl rfl rfl) rfl ?_
    refine WO.op rfl rfl ?_
    refine WO.op ((slu_np m _).lenG rfl rfl rfl) rfl ?_
    refine WO.op rfl rfl (WO.nil (W.cond rfl (fun hb => ?_) (fun hb => ?_)))
    · have h := of_decide_eq_true hb
      rcases hcase with ⟨_, _, h'⟩ | ⟨rfl, rfl, _⟩
      · omega
      · refine W.region ?_
        repeat refine WO.op rfl rfl ?_
        exact WO.nil ⟨rfl, ⟨rfl, rfl, trivial⟩, rfl⟩
    · have h := of_decide_eq_false hb
      rcases hcase with ⟨rfl, rfl, _⟩ | ⟨_, _, h'⟩
      · exact W.skip ⟨rfl, ⟨rfl, rfl, trivial⟩, rfl⟩
      · omega
  · clear hcase hpq hn hm
    have tp := slu_np p
    have tq := slu_np q
    generalize hP : (AVal.isl (limbs p) 0 (limbs p).length none true) = vp at *
    generalize hQ : (AVal.isl (limbs q) 0 (limbs q).length none true) = vq at *
    generalize hl : (lims p).length = L at *
    refine W.seq (W.region ?_)
    refine WO.op rfl rfl ?_
    refine WO.op ((tp _).lenG rfl rfl rfl) rfl ?_
    rw [hl]
    refine WO.as (v' := .int .i64 ((L + 1 : Nat) : Int)) rfl rfl (int_i64 (by omega) (by omega)) ?_
    refine WO.op (G.make (l := L + 1) (c := L + 1) rfl rfl tU rfl tu rfl (by omega) (by show (L + 1) * 8 ≤ _; omega) (by omega)) rfl ?_
    refine WO.op rfl rfl (WO.nil (W.seq (W.region ?_)))
    refine WO.op rfl rfl (WO.nil (W.seq (W.seq (W.region ?_))))
    refine WO.op rfl rfl ?_
    refine WO.op ((tp _).lenG rfl rfl rfl) rfl ?_
    rw [hl]
    refine WO.op rfl rfl (WO.nil (W.block ?_))
    refine W.heq (H' := [.cells (u64s (List.replicate (L + 1) 0)) 85]) (by simp [u64s]) ?_
    refine W.fits (F' := fr [(5, vp), (6, vq), (7, .sl 0 0 (L + 1) (some (L + 1)) 1), (8, .int .u64 ((0 : Nat) : Int)), (27, .int .i64 (L : Int)), (28, .int .i64 ((0 : Nat) : Int))]) (fits_fr ⟨rfl, rfl, rfl, rfl, rfl, rfl, trivial⟩) ?_
    refine W.loopI (α := Nat × List Nat × Nat) (fun s => s.1 ≤ L ∧ s.2.1.length = L + 1 ∧ Dig s.2.1 ∧ s.2.2 ≤ 1 ∧ val (s.2.1.take s.1) + B64 ^ s.1 * s.2.2 = valK (lims p) s.1 + valK (lims q) s.1) (fun s => L - s.1)
      (fun s => fr [(5, vp), (6, vq), (7, .sl 0 0 (L + 1) (some (L + 1)) 1), (8, .int .u64 (s.2.2 : Int)), (27, .int .i64 (L : Int)), (28, .int .i64 (s.1 : Int))]) (fun s => [.cells (u64s s.2.1) 85]) ?_ (0, List.replicate (L + 1) 0, 0)
      ⟨by simp, by simp, Dig.replicate _ (by decide), by simp, by simp [valK, val]⟩
    rintro ⟨i, out, c⟩ ⟨hi, hol, hod, hc, hv⟩
    simp only at hi hol hod hc hv
    refine W.seq (W.region ?_)
    by_cases hiL : i < L
    · refine WO.as (v' := .bool true) rfl rfl (bdT (by simp only; omega)) (WO.nil (W.seq (W.cond (b := true) rfl (fun _ => W.skip ?_) (fun h => by cases h))))
      obtain ⟨a1, a2, a3, ha1, ha2, ha3⟩ := (tp [.cells (u64s out) 85]).at_ i (by omega)
      refine W.seq (W.block (W.seq (W.region ?_)))
      repeat refine WO.op rfl rfl ?_
      refine WO.nil (W.seq (W.region ?_))
      refine WO.op rfl rfl (WO.nil ?_)
      refine W.mid (H1 := [.cells (u64s out) 85]) [(5, vp), (6, vq), (7, .sl 0 0 (L + 1) (some (L + 1)) 1), (8, .int .u64 (c : Int)), (9, .int .i64 (i : Int)), (10, .int .u64 (((lims q).getD i 0 : Nat) : Int)), (27, .int .i64 (L : Int)), (28, .int .i64 (i : Int))] ?_ ?_
      · refine W.seq (W.region ?_)
        refine WO.op rfl rfl ?_
        refine WO.op rfl rfl ?_
        refine WO.op ((tq _).lenG rfl rfl rfl) rfl ?_
        refine WO.op rfl rfl (WO.nil (W.cond rfl (fun hb => ?_) (fun hb => ?_)))
        · have h : i < (lims q).length := by have := of_decide_eq_true hb; omega
          obtain ⟨b1, b2, b3, hb1, hb2, hb3⟩ := (tq [.cells (u64s out) 85]).at_ i h
          refine W.region ?_
          refine WO.op rfl rfl ?_
          refine WO.op rfl rfl ?_
          refine WO.op (SlU.idxG rfl rfl hb1) rfl ?_
          refine WO.op (SlU.loadG rfl tu rfl hb2 hb3) rfl ?_
          refine WO.op rfl rfl (WO.nil ⟨rfl, ⟨rfl, rfl, rfl, rfl, rfl, rfl, rfl, rfl, trivial⟩, rfl⟩)
        · have h : (lims q).length ≤ i := by have := of_decide_eq_false hb; omega
          refine W.skip ⟨rfl, ⟨rfl, rfl, rfl, rfl, rfl, ?_, rfl, rfl, trivial⟩, rfl⟩
          rw [getD_eq_zero h]
          rfl
      · refine W.region ?_
        refine WO.op rfl rfl ?_
        refine WO.op rfl rfl ?_
        refine WO.op rfl rfl ?_
        refine WO.op rfl rfl ?_
        refine WO.op (SlU.idxG rfl rfl ha1) rfl ?_
        refine WO.op (SlU.loadG rfl tu rfl ha2 ha3) rfl ?_
        refine WO.op rfl rfl ?_
        refine WO.op rfl rfl ?_
        refine WO.call rfl (add64_has ((lims p).getD i 0) ((lims q).getD i 0) c hc _) rfl ?_
        refine WO.op rfl rfl ?_
        refine WO.op rfl rfl ?_
        refine WO.op rfl rfl ?_
        refine WO.op (G.idx_sl rfl rfl tU rfl tu rfl (by omega) (by omega)) rfl ?_
        refine WO.op (G.store_u64 rfl rfl tu rfl rfl (by omega)) rfl ?_
        refine WO.op rfl rfl (WO.nil (W.region ?_))
        refine WO.as (v' := .int .i64 ((i + 1 : Nat) : Int)) rfl rfl (int_i64 (by omega) (by omega)) ?_
        refine WO.op rfl rfl (WO.nil ⟨(i + 1, out.set i (((lims p).getD i 0 + (lims q).getD i 0 + c) % B64), ((lims p).getD i 0 + (lims q).getD i 0 + c) / B64), ⟨by simp only; omega, by simpa using hol, hod.set i (Nat.mod_lt _ (by decide)), ?_, ?_⟩, by simp only; omega, fits_fr ⟨rfl, rfl, rfl, rfl, rfl, rfl, trivial⟩, ?_⟩)
        · have h1 := (dig_lims p).getD i
          have h2 := (dig_lims q).getD i
          simp only
          unfold B64 at h1 h2 ⊢
          omega
        · have := add_step (x := (lims p).getD i 0) (y := (lims q).getD i 0) (by omega) hv
          simp only
          rw [this, valK, valK]
          omega
        · rfl
    · have hie : i = L := by omega
      subst hie
      refine WO.as (v' := .bool false) rfl rfl (bdF (by simp only; omega)) (WO.nil (W.seq (W.cond (b := false) rfl (fun h => by cases h) (fun _ => W.exit ?_))))
      refine W.seq (W.region ?_)
      refine WO.op rfl rfl ?_
      refine WO.op rfl rfl ?_
      refine WO.op ((tp _).lenG rfl rfl rfl) rfl ?_
      rw [hl]
      refine WO.op rfl rfl ?_
      refine WO.op (G.idx_sl rfl rfl tU rfl tu rfl (by omega) (by omega)) rfl ?_
      refine WO.op (G.store_u64 rfl rfl tu rfl rfl (by simp only; omega)) rfl (WO.nil (W.seq (W.region ?_)))
      refine WO.heq (H' := [.cells (u64s (out.set i c)) 85]) rfl ?_
      refine WO.op rfl rfl ?_
      refine WO.call rfl (made_sl 0 (out.set i c) (i + 1) (i + 1) _ 85 rfl (by simp [hol]) (by omega) (by omega)) rfl ?_
      refine WO.op rfl rfl (WO.nil (W.ret ⟨trivial, _, rfl, ?_⟩))
      refine seals_np rfl (by have := trimN_le (out.set i c) (i + 1); simp only [List.length_set]; omega) ?_
      refine trim_of (hod.set i (by unfold B64; omega)) (by simp [hol]) ?_
      have h1 := val_take_succ (l := out.set i c) (k := i) (by simp [hol])
      rw [List.take_of_length_le (by simp [hol]), val_set_take, getD_set_at (by omega)] at h1
      rw [h1, hv, valK_all (by omega), valK_all (by omega), val_lims, val_lims]
end
end Go.AM.C

/- Contracts, 5: fault.Of, Sub. -/
namespace Go.AM.C
open Go.Proofs
noncomputable section
set_option linter.unusedVariables false
set_option linter.unusedSimpArgs false

/-- An error without a place. -/
def errA (k : Nat) : AVal := if k = 0 then .nili else .iface 63 (.int .i64 (k : Int))
theorem errA_closed (k : Nat) : (errA k).closed = true := by unfold errA; split <;> rfl

theorem faultOf (k : Nat) (hk : k < 9223372036854775808) (H : Heap) : Has 15 [.int .i64 (k : Int)] H (errA k) H := by
  refine does_pure s0 (show S0.fn 15 = some Tryz.f15 by kernel_rfl) rfl (by kernel_rfl) (Nat.le_of_ble_eq_true rfl) rfl (errA_closed k) ?_
  refine W.seq (W.region ?_)
  repeat refine WO.op rfl rfl ?_
  refine WO.nil (W.seq (W.seq (W.region ?_)))
  refine WO.op rfl rfl ?_
  refine WO.op rfl rfl (WO.nil (W.cond rfl (fun hb => ?_) (fun hb => ?_)))
  · have h : k = 0 := by have := of_decide_eq_true hb; omega
    refine W.seq (W.region ?_)
    refine WO.op rfl rfl (WO.nil (W.ret ⟨trivial, _, rfl, ?_⟩))
    unfold errA
    rw [if_pos h]
    exact Seals.same _ rfl
  · have h : ¬ k = 0 := by have := of_decide_eq_false hb; omega
    refine W.skip (W.seq (W.region ?_))
    refine WO.op rfl rfl ?_
    refine WO.op rfl rfl ?_
    refine WO.op rfl rfl (WO.nil (W.ret ⟨trivial, _, rfl, ?_⟩))
    unfold errA
    rw [if_neg h]
    exact Seals.same _ rfl

theorem sub64_has (x y b : Nat) (hb : b ≤ 1) (H : Heap) : Has 189 [.int .u64 (x : Int), .int .u64 (y : Int), .int .u64 (b : Int)] H (.tup [.int .u64 (((x + B64 - y - b) % B64 : Nat) : Int), .int .u64 ((if x < y + b then 1 else 0 : Nat) : Int)]) H := by
  refine DoesC.of_ext (x := sub64X) (sub64_ok Tryz.func189 (by kernel_rfl) (by kernel_rfl) (by kernel_rfl) (by kernel_rfl)) ?_
  show (if 0 ≤ (x : Int) ∧ 0 ≤ (y : Int) ∧ 0 ≤ (b : Int) ∧ (b : Int) ≤ 1 then twoI (Int.ofNat (subA (x : Int).toNat (y : Int).toNat (b : Int).toNat)) (Int.ofNat (subB (x : Int).toNat (y : Int).toNat (b : Int).toNat)) H else none) = _
  rw [if_pos ⟨by omega, by omega, by omega, by omega⟩, twoI_eq]
  unfold subA subB
  rfl

set_option maxRecDepth 100000 in
theorem sub_np (n m : Nat) (hn : Fit n) (hm : Fit m) (H : Heap) : Has 134 [.obj (.np n), .obj (.np m)] H (if n < m then .tup [.nilp, errA 2] else .tup [.obj (.np (n - m)), .nili]) H := by
  unfold Fit at hn hm
  have hcl : (if n < m then AVal.tup [.nilp, errA 2] else .tup [.obj (.np (n - m)), .nili]).closed = true := by split <;> rfl
  refine does_pure s0 (show S0.fn 134 = some Tryz.f134 by kernel_rfl) rfl (by kernel_rfl) (Nat.le_of_ble_eq_true rfl) rfl hcl ?_
  clear hcl
  refine W.seq (W.region ?_)
  repeat refine WO.op rfl rfl ?_
  refine WO.nil (W.seq (W.region ?_))
  refine WO.op rfl rfl ?_
  refine WO.call rfl (limbs_np n _) rfl ?_
  refine WO.op rfl rfl ?_
  refine WO.call rfl (limbs_np m _) rfl ?_
  repeat refine WO.op rfl rfl ?_
  refine WO.nil (W.seq (W.seq (W.region ?_)))
  refine WO.op rfl rfl ?_
  refine WO.op rfl rfl ?_
  refine WO.call rfl (compare_sl (slu_np n _) (slu_np m _) (by omega) (by omega)) rfl ?_
  rw [cmpL_lims]
  by_cases hlt : n < m
  · rw [if_pos hlt]
    refine WO.as (v' := .bool true) rfl rfl (bdT (by unfold cmpN; rw [if_pos hlt]; decide)) (WO.nil (W.cond (b := true) rfl (fun _ => ?_) (fun h => by cases h)))
    refine W.seq (W.region ?_)
    refine WO.call (f := 15) (args := [.int .i64 ((2 : Nat) : Int)]) rfl (faultOf 2 (by omega) _) rfl ?_
    repeat refine WO.op rfl rfl ?_
    exact WO.nil (W.ret ⟨trivial, _, rfl, Seals.same _ rfl⟩)
  · rw [if_neg hlt]
    refine WO.as (v' := .bool false) rfl rfl (bdF (by unfold cmpN; rw [if_neg hlt]; split <;> omega)) (WO.nil (W.cond (b := false) rfl (fun h => by cases h) (fun _ => W.skip ?_)))
    have hLm : (lims m).length ≤ (lims n).length := by
      by_cases h : (lims n).length < (lims m).length
      · exact absurd (lims_len_lt h) hlt
      · omega
    have tp := slu_np n
    have tq := slu_np m
    generalize hP : (AVal.isl (limbs n) 0 (limbs n).length none true) = vp at *
    generalize hQ : (AVal.isl (limbs m) 0 (limbs m).length none true) = vq at *
    generalize hl : (lims n).length = L at *
    refine W.seq (W.region ?_)
    refine WO.op rfl rfl ?_
    refine WO.op ((tp _).lenG rfl rfl rfl) rfl ?_
    rw [hl]
    refine WO.op (G.make (l := L) (c := L) rfl rfl tU rfl tu rfl (by omega) (by show L * 8 ≤ _; omega) (by omega)) rfl ?_
    refine WO.op rfl rfl (WO.nil (W.seq (W.region ?_)))
    refine WO.op rfl rfl (WO.nil (W.seq (W.seq (W.region ?_))))
    refine WO.op rfl rfl ?_
    refine WO.op ((tp _).lenG rfl rfl rfl) rfl ?_
    rw [hl]
    refine WO.op rfl rfl (WO.nil (W.block ?_))
    refine W.heq (H' := [.cells (u64s (List.replicate L 0)) 85]) (by simp [u64s]) ?_
    refine W.fits (F' := fr [(6, vp), (7, vq), (8, .sl 0 0 L (some L) 1), (9, .int .u64 ((0 : Nat) : Int)), (25, .int .i64 (L : Int)), (26, .int .i64 ((0 : Nat) : Int))]) (fits_fr ⟨rfl, rfl, rfl, rfl, rfl, rfl, trivial⟩) ?_
    refine W.loopI (α := Nat × List Nat × Nat) (fun s => s.1 ≤ L ∧ s.2.1.length = L ∧ Dig s.2.1 ∧ s.2.2 ≤ 1 ∧ val (s.2.1.take s.1) + valK (lims m) s.1 = valK (lims n) s.1 + B64 ^ s.1 * s.2.2) (fun s => L - s.1)
      (fun s => fr [(6, vp), (7, vq), (8, .sl 0 0 L (some L) 1), (9, .int .u64 (s.2.2 : Int)), (25, .int .i64 (L : Int)), (26, .int .i64 (s.1 : Int))]) (fun s => [.cells (u64s s.2.1) 85]) ?_ (0, List.replicate L 0, 0)
      ⟨by simp, by simp, Dig.replicate _ (by decide), by simp, by simp [valK, val]⟩
    rintro ⟨i, out, c⟩ ⟨hi, hol, hod, hc, hv⟩
    simp only at hi hol hod hc hv
    refine W.seq (W.region ?_)
    by_cases hiL : i < L
    · refine WO.as (v' := .bool true) rfl rfl (bdT (by simp only; omega)) (WO.nil (W.seq (W.cond (b := true) rfl (fun _ => W.skip ?_) (fun h => by cases h))))
      obtain ⟨a1, a2, a3, ha1, ha2, ha3⟩ := (tp [.cells (u64s out) 85]).at_ i (by omega)
      refine W.seq (W.block (W.seq (W.region ?_)))
      repeat refine WO.op rfl rfl ?_
      refine WO.nil (W.seq (W.region ?_))
      refine WO.op rfl rfl (WO.nil ?_)
      refine W.mid (H1 := [.cells (u64s out) 85]) [(6, vp), (7, vq), (8, .sl 0 0 L (some L) 1), (9, .int .u64 (c : Int)), (10, .int .i64 (i : Int)), (11, .int .u64 (((lims m).getD i 0 : Nat) : Int)), (25, .int .i64 (L : Int)), (26, .int .i64 (i : Int))] ?_ ?_
      · refine W.seq (W.region ?_)
        refine WO.op rfl rfl ?_
        refine WO.op rfl rfl ?_
        refine WO.op ((tq _).lenG rfl rfl rfl) rfl ?_
        refine WO.op rfl rfl (WO.nil (W.cond rfl (fun hb => ?_) (fun hb => ?_)))
        · have h : i < (lims m).length := by have := of_decide_eq_true hb; omega
          obtain ⟨b1, b2, b3, hb1, hb2, hb3⟩ := (tq [.cells (u64s out) 85]).at_ i h
          refine W.region ?_
          refine WO.op rfl rfl ?_
          refine WO.op rfl rfl ?_
          refine WO.op (SlU.idxG rfl rfl hb1) rfl ?_
          refine WO.op (SlU.loadG rfl tu rfl hb2 hb3) rfl ?_
          refine WO.op rfl rfl (WO.nil ⟨rfl, ⟨rfl, rfl, rfl, rfl, rfl, rfl, rfl, rfl, trivial⟩, rfl⟩)
        · have h : (lims m).length ≤ i := by have := of_decide_eq_false hb; omega
          refine W.skip ⟨rfl, ⟨rfl, rfl, rfl, rfl, rfl, ?_, rfl, rfl, trivial⟩, rfl⟩
          rw [getD_eq_zero h]
          rfl
      · refine W.region ?_
        refine WO.op rfl rfl ?_
        refine WO.op rfl rfl ?_
        refine WO.op rfl rfl ?_
        refine WO.op rfl rfl ?_
        refine WO.op (SlU.idxG rfl rfl ha1) rfl ?_
        refine WO.op (SlU.loadG rfl tu rfl ha2 ha3) rfl ?_
        refine WO.op rfl rfl ?_
        refine WO.op rfl rfl ?_
        refine WO.call rfl (sub64_has ((lims n).getD i 0) ((lims m).getD i 0) c hc _) rfl ?_
        refine WO.op rfl rfl ?_
        refine WO.op rfl rfl ?_
        refine WO.op rfl rfl ?_
        refine WO.op (G.idx_sl rfl rfl tU rfl tu rfl (by omega) (by omega)) rfl ?_
        refine WO.op (G.store_u64 rfl rfl tu rfl rfl (by omega)) rfl ?_
        refine WO.op rfl rfl (WO.nil (W.region ?_))
        refine WO.as (v' := .int .i64 ((i + 1 : Nat) : Int)) rfl rfl (int_i64 (by omega) (by omega)) ?_
        have h1 := (dig_lims n).getD i
        have h2 := (dig_lims m).getD i
        refine WO.op rfl rfl (WO.nil ⟨(i + 1, out.set i (((lims n).getD i 0 + B64 - (lims m).getD i 0 - c) % B64), if (lims n).getD i 0 < (lims m).getD i 0 + c then 1 else 0), ⟨by simp only; omega, by simpa using hol, hod.set i (Nat.mod_lt _ (by decide)), ?_, ?_⟩, by simp only; omega, fits_fr ⟨rfl, rfl, rfl, rfl, rfl, rfl, trivial⟩, rfl⟩)
        · simp only; split <;> omega
        · have := sub_step (x := (lims n).getD i 0) (y := (lims m).getD i 0) (by omega) h1 h2 hc _ _ hv
          simp only
          rw [valK, valK]
          exact this
    · have hie : i = L := by omega
      subst hie
      refine WO.as (v' := .bool false) rfl rfl (bdF (by simp only; omega)) (WO.nil (W.seq (W.cond (b := false) rfl (fun h => by cases h) (fun _ => W.exit ?_))))
      refine W.seq (W.region ?_)
      refine WO.op rfl rfl ?_
      refine WO.call rfl (made_sl 0 out i i _ 85 rfl (by omega) (by omega) (by omega)) rfl ?_
      refine WO.op rfl rfl ?_
      refine WO.op rfl rfl (WO.nil (W.ret ⟨trivial, _, rfl, ?_⟩))
      refine seals_tup2 (seals_np rfl (by have := trimN_le out i; simp only; omega) ?_) (Seals.same _ rfl)
      refine trim_of hod (by omega) ?_
      rw [List.take_of_length_le (by omega), valK_all (by omega), valK_all (by omega), val_lims, val_lims] at hv
      have hvl := val_lt hod
      rw [hol] at hvl
      have hc0 : c = 0 := by
        by_cases hc1 : c = 1
        · subst hc1; omega
        · omega
      subst hc0
      omega
end
end Go.AM.C

/- Contracts, 6: num: New, Of, Abs, Sign, Neg, Add, Sub, Cmp, Small. -/
namespace Go.AM.C
open Go.Proofs
noncomputable section
set_option linter.unusedVariables false
set_option linter.unusedSimpArgs false

/-- A number told by its sign and its size. -/
def sz (b : Bool) (n : Nat) : Int := bif b then -(n : Int) else n
theorem sz_abs (b : Bool) (n : Nat) : (sz b n).natAbs = n := by cases b <;> simp [sz]
theorem wk_zp {b : Bool} {z : Int} {n : Nat} (hb : b = decide (z < 0)) (hn : n = z.natAbs) : Wk (.ip [.bool b, .obj (.np n)] 0 true) (.obj (.zp z)) := by
  subst hb; subst hn; exact Wk.to_obj (.zp z)

theorem new_zp (b : Bool) (n : Nat) (H : Heap) : Has 49 [.bool b, .obj (.np n)] H (.obj (.zp (sz b n))) H := by
  refine does_pure s0 (show S0.fn 49 = some Tryz.f49 by kernel_rfl) rfl (by kernel_rfl) (Nat.le_of_ble_eq_true rfl) rfl rfl ?_
  refine W.seq (W.region ?_)
  repeat refine WO.op rfl rfl ?_
  refine WO.nil (W.seq (W.region ?_))
  refine WO.op rfl rfl ?_
  refine WO.op rfl rfl ?_
  cases b with
  | true =>
    refine WO.op rfl rfl ?_
    refine WO.call rfl (zero_np n _) rfl ?_
    repeat refine WO.op rfl rfl ?_
    refine WO.nil (W.ret ⟨trivial, _, rfl, Seals.wk' _ (.ip [.bool (!decide (n = 0)), .obj (.np n)] 0 true) _ (Seals.same _ rfl) (wk_zp ?_ ?_)⟩)
    · rw [Bool.eq_iff_iff]; simp [sz]; omega
    · simp [sz]
  | false =>
    refine WO.skip rfl ?_
    refine WO.skip rfl ?_
    refine WO.skip rfl ?_
    repeat refine WO.op rfl rfl ?_
    refine WO.nil (W.ret ⟨trivial, _, rfl, Seals.wk' _ (.ip [.bool false, .obj (.np n)] 0 true) _ (Seals.same _ rfl) (wk_zp ?_ ?_)⟩)
    · symm; rw [decide_eq_false_iff_not]; simp [sz]
    · simp [sz]

theorem ofz (z : Int) (h : -9223372036854775808 ≤ z ∧ z < 9223372036854775808) (H : Heap) : Has 62 [.int .i64 z] H (.obj (.zp z)) H := by
  refine does_pure s0 (show S0.fn 62 = some Tryz.f62 by kernel_rfl) rfl (by kernel_rfl) (Nat.le_of_ble_eq_true rfl) rfl rfl ?_
  refine W.seq (W.region ?_)
  repeat refine WO.op rfl rfl ?_
  refine WO.nil (W.seq (W.seq (W.region ?_)))
  refine WO.op rfl rfl ?_
  refine WO.op rfl rfl (WO.nil (W.cond rfl (fun hb => ?_) (fun hb => ?_)))
  · have hz := of_decide_eq_true hb
    have e1 : wrapI .u64 z = z + 18446744073709551616 := by unfold wrapI; simp only; omega
    refine W.seq (W.region ?_)
    refine WO.op rfl rfl ?_
    refine WO.as (v' := .int .u64 (z + 18446744073709551616)) rfl rfl (int_eq e1) ?_
    refine WO.as (v' := .int .u64 ((z.natAbs : Nat) : Int)) rfl rfl (int_eq (by unfold wrapI; simp only; omega)) ?_
    refine WO.call rfl (of_np z.natAbs (by unfold B64; omega) _) rfl ?_
    refine WO.call rfl (new_zp true z.natAbs _) rfl ?_
    refine WO.op rfl rfl (WO.nil (W.ret ⟨trivial, _, rfl, ?_⟩))
    rw [show z = sz true z.natAbs by simp only [sz, cond_true]; omega]
    simp only [sz_abs]
    exact Seals.same _ rfl
  · have hz := of_decide_eq_false hb
    refine W.skip (W.seq (W.region ?_))
    refine WO.op rfl rfl ?_
    refine WO.as (v' := .int .u64 ((z.natAbs : Nat) : Int)) rfl rfl (int_u64 (by omega) (by omega)) ?_
    refine WO.call rfl (of_np z.natAbs (by unfold B64; omega) _) rfl ?_
    refine WO.call rfl (new_zp false z.natAbs _) rfl ?_
    refine WO.op rfl rfl (WO.nil (W.ret ⟨trivial, _, rfl, ?_⟩))
    rw [show z = sz false z.natAbs by simp only [sz, cond_false]; omega]
    simp only [sz_abs]
    exact Seals.same _ rfl

/-- A number as it may stand: a nil pointer is 0. -/
def IsZ (v : AVal) (z : Int) : Prop := v = .obj (.zp z) ∨ v = .nilp ∧ z = 0
theorem IsZ.cl {v : AVal} {z : Int} (h : IsZ v z) : v.closed = true := by rcases h with rfl | ⟨rfl, _⟩ <;> rfl
theorem IsZ.mk (z : Int) : IsZ (.obj (.zp z)) z := .inl rfl
theorem IsZ.nil : IsZ .nilp 0 := .inr ⟨rfl, rfl⟩

theorem absz {v : AVal} {z : Int} (h : IsZ v z) (H : Heap) : Has 55 [v] H (.obj (.np z.natAbs)) H := by
  refine does_pure s0 (show S0.fn 55 = some Tryz.f55 by kernel_rfl) rfl (by kernel_rfl) (Nat.le_of_ble_eq_true rfl) (by simp [h.cl]) rfl ?_
  rcases h with rfl | ⟨rfl, rfl⟩
  · refine W.seq (W.region ?_)
    repeat refine WO.op rfl rfl ?_
    refine WO.nil (W.seq (W.seq (W.region ?_)))
    repeat refine WO.op rfl rfl ?_
    refine WO.nil (W.cond (b := false) rfl (fun h => by cases h) (fun _ => W.skip (W.seq (W.region ?_))))
    repeat refine WO.op rfl rfl ?_
    refine WO.nil (W.ret ⟨trivial, _, rfl, Seals.same _ rfl⟩)
  · refine W.seq (W.region ?_)
    repeat refine WO.op rfl rfl ?_
    refine WO.nil (W.seq (W.seq (W.region ?_)))
    refine WO.op rfl rfl ?_
    refine WO.op rfl rfl ?_
    refine WO.op rfl rfl ?_
    repeat refine WO.skip rfl ?_
    refine WO.op rfl rfl (WO.nil (W.cond (b := true) rfl (fun _ => W.seq (W.region ?_)) (fun h => by cases h)))
    refine WO.call (f := 59) (args := [.int .u64 ((0 : Nat) : Int)]) rfl (of_np 0 (by decide) _) rfl ?_
    refine WO.op rfl rfl (WO.nil (W.ret ⟨trivial, _, rfl, Seals.same _ rfl⟩))

theorem signz {v : AVal} {z : Int} (h : IsZ v z) (H : Heap) : Has 54 [v] H (.int .i64 z.sign) H := by
  refine does_pure s0 (show S0.fn 54 = some Tryz.f54 by kernel_rfl) rfl (by kernel_rfl) (Nat.le_of_ble_eq_true rfl) (by simp [h.cl]) rfl ?_
  refine W.seq (W.region ?_)
  repeat refine WO.op rfl rfl ?_
  refine WO.nil (W.seq (W.block (W.seq (W.region ?_))))
  refine WO.op rfl rfl ?_
  refine WO.call rfl (absz h _) rfl ?_
  refine WO.call rfl (zero_np _ _) rfl ?_
  refine WO.op rfl rfl (WO.nil (W.cond rfl (fun hb => ?_) (fun hb => ?_)))
  · have hz : z = 0 := by have := of_decide_eq_true hb; omega
    refine W.seq (W.region ?_)
    refine WO.op rfl rfl (WO.nil (W.ret ⟨trivial, _, rfl, ?_⟩))
    rw [hz]
    exact Seals.same _ rfl
  · have hz : z ≠ 0 := by have := of_decide_eq_false hb; omega
    rcases h with rfl | ⟨_, h⟩
    · refine W.seq (W.region ?_)
      repeat refine WO.op rfl rfl ?_
      refine WO.nil (W.cond (b := decide (z < 0)) rfl (fun hb => ?_) (fun hb => ?_))
      · have hn := of_decide_eq_true hb
        refine W.seq (W.region ?_)
        refine WO.op rfl rfl (WO.nil (W.ret ⟨trivial, _, rfl, ?_⟩))
        rw [Int.sign_eq_neg_one_of_neg hn]
        exact Seals.same _ rfl
      · have hn := of_decide_eq_false hb
        refine W.skip (W.seq (W.region ?_))
        refine WO.op rfl rfl (WO.nil (W.ret ⟨trivial, _, rfl, ?_⟩))
        rw [Int.sign_eq_one_of_pos (by omega)]
        exact Seals.same _ rfl
    · exact absurd h hz

theorem negz {v : AVal} {z : Int} (h : IsZ v z) (H : Heap) : Has 52 [v] H (.obj (.zp (-z))) H := by
  refine does_pure s0 (show S0.fn 52 = some Tryz.f52 by kernel_rfl) rfl (by kernel_rfl) (Nat.le_of_ble_eq_true rfl) (by simp [h.cl]) rfl ?_
  refine W.seq (W.region ?_)
  repeat refine WO.op rfl rfl ?_
  refine WO.nil (W.seq (W.region ?_))
  refine WO.op rfl rfl ?_
  refine WO.call rfl (signz h _) rfl ?_
  refine WO.as (v' := .bool (decide (0 ≤ z))) rfl rfl (bdE ?_) ?_
  · rcases Int.lt_trichotomy z 0 with h | h | h
    · rw [Int.sign_eq_neg_one_of_neg h]; omega
    · subst h; decide
    · rw [Int.sign_eq_one_of_pos h]; omega
  refine WO.op rfl rfl ?_
  refine WO.call rfl (absz h _) rfl ?_
  refine WO.call rfl (new_zp _ _ _) rfl ?_
  refine WO.op rfl rfl (WO.nil (W.ret ⟨trivial, _, rfl, ?_⟩))
  rw [show -z = sz (decide (0 ≤ z)) z.natAbs by
    unfold sz
    by_cases h : 0 ≤ z
    · rw [decide_eq_true h]; simp only [cond_true]; omega
    · rw [decide_eq_false h]; simp only [cond_false]; omega]
  exact Seals.same _ rfl
end
end Go.AM.C

/- Contracts, 7: num: Add, Sub, Cmp, Small. -/
namespace Go.AM.C
open Go.Proofs
noncomputable section
set_option linter.unusedVariables false
set_option linter.unusedSimpArgs false

abbrev FitZ (z : Int) : Prop := Fit z.natAbs

theorem sign_lt {z : Int} : z.sign < 0 ↔ z < 0 := by
  rcases Int.lt_trichotomy z 0 with h | h | h
  · rw [Int.sign_eq_neg_one_of_neg h]; omega
  · subst h; decide
  · rw [Int.sign_eq_one_of_pos h]; omega

set_option maxRecDepth 100000 in
theorem addz {u v : AVal} {x y : Int} (hu : IsZ u x) (hv : IsZ v y) (hx : FitZ x) (hy : FitZ y) (H : Heap) : Has 87 [u, v] H (.obj (.zp (x + y))) H := by
  refine does_pure s0 (show S0.fn 87 = some Tryz.f87 by kernel_rfl) rfl (by kernel_rfl) (Nat.le_of_ble_eq_true rfl) (by simp [hu.cl, hv.cl]) rfl ?_
  refine W.seq (W.region ?_)
  repeat refine WO.op rfl rfl ?_
  refine WO.nil (W.seq (W.region ?_))
  refine WO.op rfl rfl ?_
  refine WO.call rfl (signz hu _) rfl ?_
  refine WO.as (v' := .bool (decide (x < 0))) rfl rfl (bdE sign_lt) ?_
  refine WO.op rfl rfl ?_
  refine WO.call rfl (signz hv _) rfl ?_
  refine WO.as (v' := .bool (decide (y < 0))) rfl rfl (bdE sign_lt) ?_
  refine WO.op rfl rfl ?_
  refine WO.op rfl rfl (WO.nil (W.seq (W.seq (W.region ?_))))
  refine WO.op rfl rfl ?_
  refine WO.op rfl rfl ?_
  refine WO.op rfl rfl (WO.nil (W.cond rfl (fun hb => ?_) (fun hb => ?_)))
  · have hs : decide (x < 0) = decide (y < 0) := by simpa using hb
    refine W.seq (W.region ?_)
    refine WO.op rfl rfl ?_
    refine WO.op rfl rfl ?_
    refine WO.call rfl (absz hu _) rfl ?_
    refine WO.op rfl rfl ?_
    refine WO.call rfl (absz hv _) rfl ?_
    refine WO.call rfl (add_np _ _ hx hy _) rfl ?_
    refine WO.call rfl (new_zp (decide (x < 0)) (x.natAbs + y.natAbs) _) rfl ?_
    refine WO.op rfl rfl (WO.nil (W.ret ⟨trivial, _, rfl, ?_⟩))
    rw [show x + y = sz (decide (x < 0)) (x.natAbs + y.natAbs) by
      unfold sz
      by_cases h : x < 0
      · have h2 : y < 0 := of_decide_eq_true (by rw [← hs]; exact decide_eq_true h)
        rw [decide_eq_true h]; simp only [cond_true]; omega
      · have h2 : ¬ y < 0 := of_decide_eq_false (by rw [← hs]; exact decide_eq_false h)
        rw [decide_eq_false h]; simp only [cond_false]; omega]
    exact Seals.same _ rfl
  · have hs : decide (x < 0) ≠ decide (y < 0) := by simpa using hb
    have hxy : (x < 0 ∧ 0 ≤ y) ∨ (0 ≤ x ∧ y < 0) := by
      by_cases h : x < 0
      · by_cases h2 : y < 0
        · exact absurd ((decide_eq_true h).trans (decide_eq_true h2).symm) hs
        · omega
      · by_cases h2 : y < 0
        · omega
        · exact absurd ((decide_eq_false h).trans (decide_eq_false h2).symm) hs
    refine W.skip (W.seq (W.seq (W.region ?_)))
    refine WO.op rfl rfl ?_
    refine WO.call rfl (absz hu _) rfl ?_
    refine WO.op rfl rfl ?_
    refine WO.call rfl (absz hv _) rfl ?_
    refine WO.call rfl (cmp_np _ _ hx hy _) rfl ?_
    by_cases hlt : x.natAbs < y.natAbs
    · refine WO.as (v' := .bool true) rfl rfl (bdT (by unfold cmpN; rw [if_pos hlt]; decide)) (WO.nil (W.cond (b := true) rfl (fun _ => ?_) (fun h => by cases h)))
      refine W.seq (W.region ?_)
      refine WO.op rfl rfl ?_
      refine WO.call rfl (absz hv _) rfl ?_
      refine WO.op rfl rfl ?_
      refine WO.call rfl (absz hu _) rfl ?_
      refine WO.call rfl (sub_np _ _ hy hx _) rfl ?_
      rw [if_neg (by omega)]
      refine WO.op rfl rfl ?_
      refine WO.op rfl rfl ?_
      refine WO.op rfl rfl ?_
      refine WO.op rfl rfl ?_
      refine WO.op rfl rfl (WO.nil (W.seq (W.region ?_)))
      refine WO.op rfl rfl ?_
      refine WO.op rfl rfl ?_
      refine WO.call rfl (new_zp (decide (y < 0)) (y.natAbs - x.natAbs) _) rfl ?_
      refine WO.op rfl rfl (WO.nil (W.ret ⟨trivial, _, rfl, ?_⟩))
      rw [show x + y = sz (decide (y < 0)) (y.natAbs - x.natAbs) by
        unfold sz
        by_cases h : y < 0
        · rw [decide_eq_true h]; simp only [cond_true]; omega
        · rw [decide_eq_false h]; simp only [cond_false]; omega]
      exact Seals.same _ rfl
    · refine WO.as (v' := .bool false) rfl rfl (bdF (by unfold cmpN; rw [if_neg hlt]; split <;> omega)) (WO.nil (W.cond (b := false) rfl (fun h => by cases h) (fun _ => W.skip ?_)))
      refine W.seq (W.region ?_)
      refine WO.op rfl rfl ?_
      refine WO.call rfl (absz hu _) rfl ?_
      refine WO.op rfl rfl ?_
      refine WO.call rfl (absz hv _) rfl ?_
      refine WO.call rfl (sub_np _ _ hx hy _) rfl ?_
      rw [if_neg hlt]
      refine WO.op rfl rfl ?_
      refine WO.op rfl rfl ?_
      refine WO.op rfl rfl ?_
      refine WO.op rfl rfl ?_
      refine WO.op rfl rfl (WO.nil (W.seq (W.region ?_)))
      refine WO.op rfl rfl ?_
      refine WO.op rfl rfl ?_
      refine WO.call rfl (new_zp (decide (x < 0)) (x.natAbs - y.natAbs) _) rfl ?_
      refine WO.op rfl rfl (WO.nil (W.ret ⟨trivial, _, rfl, ?_⟩))
      rw [show x + y = sz (decide (x < 0)) (x.natAbs - y.natAbs) by
        unfold sz
        by_cases h : x < 0
        · rw [decide_eq_true h]; simp only [cond_true]; omega
        · rw [decide_eq_false h]; simp only [cond_false]; omega]
      exact Seals.same _ rfl

theorem subz {u v : AVal} {x y : Int} (hu : IsZ u x) (hv : IsZ v y) (hx : FitZ x) (hy : FitZ y) (H : Heap) : Has 133 [u, v] H (.obj (.zp (x - y))) H := by
  refine does_pure s0 (show S0.fn 133 = some Tryz.f133 by kernel_rfl) rfl (by kernel_rfl) (Nat.le_of_ble_eq_true rfl) (by simp [hu.cl, hv.cl]) rfl ?_
  refine W.seq (W.region ?_)
  repeat refine WO.op rfl rfl ?_
  refine WO.nil (W.seq (W.region ?_))
  refine WO.op rfl rfl ?_
  refine WO.op rfl rfl ?_
  refine WO.call rfl (negz hv _) rfl ?_
  refine WO.call rfl (addz hu (IsZ.mk (-y)) hx (by show Fit (-y).natAbs; rw [Int.natAbs_neg]; exact hy) _) rfl ?_
  refine WO.op rfl rfl (WO.nil (W.ret ⟨trivial, _, rfl, ?_⟩))
  rw [show x - y = x + -y by omega]
  exact Seals.same _ rfl

theorem cmpz {u v : AVal} {x y : Int} (hu : IsZ u x) (hv : IsZ v y) (hx : FitZ x) (hy : FitZ y) (H : Heap) : Has 86 [u, v] H (.int .i64 (x - y).sign) H := by
  refine does_pure s0 (show S0.fn 86 = some Tryz.f86 by kernel_rfl) rfl (by kernel_rfl) (Nat.le_of_ble_eq_true rfl) (by simp [hu.cl, hv.cl]) rfl ?_
  refine W.seq (W.region ?_)
  repeat refine WO.op rfl rfl ?_
  refine WO.nil (W.seq (W.region ?_))
  refine WO.op rfl rfl ?_
  refine WO.op rfl rfl ?_
  refine WO.call rfl (subz hu hv hx hy _) rfl ?_
  refine WO.call rfl (signz (IsZ.mk _) _) rfl ?_
  exact WO.op rfl rfl (WO.nil (W.ret ⟨trivial, _, rfl, Seals.same _ rfl⟩))

/-- What int64 holds. -/
def small64 (z : Int) : Bool := decide (-9223372036854775808 ≤ z) && decide (z < 9223372036854775808)
def smallA (z : Int) : AVal := .tup [.int .i64 (bif small64 z then z else 0), .bool (small64 z)]

set_option maxRecDepth 100000 in
theorem smallz {v : AVal} {z : Int} (h : IsZ v z) (H : Heap) : Has 151 [v] H (smallA z) H := by
  have hRc : (smallA z).closed = true := rfl
  generalize hR : smallA z = R at hRc ⊢
  refine does_pure s0 (show S0.fn 151 = some Tryz.f151 by kernel_rfl) rfl (by kernel_rfl) (Nat.le_of_ble_eq_true rfl) (by simp [h.cl]) hRc ?_
  clear hRc
  refine W.seq (W.region ?_)
  repeat refine WO.op rfl rfl ?_
  refine WO.nil (W.seq (W.region ?_))
  refine WO.op rfl rfl ?_
  refine WO.call rfl (absz h _) rfl ?_
  refine WO.call rfl (small_np _ _) rfl ?_
  refine WO.op rfl rfl ?_
  refine WO.op rfl rfl ?_
  refine WO.op rfl rfl ?_
  refine WO.op rfl rfl ?_
  refine WO.op rfl rfl (WO.nil (W.seq (W.block (W.seq (W.region ?_)))))
  by_cases hB : z.natAbs < B64
  · rw [if_pos hB, decide_eq_true hB]
    refine WO.op rfl rfl ?_
    refine WO.op rfl rfl ?_
    refine WO.op rfl rfl (WO.nil (W.cond (b := false) rfl (fun h => by cases h) (fun _ => ?_)))
    refine W.seq (W.region ?_)
    refine WO.op rfl rfl ?_
    refine WO.call rfl (signz h _) rfl ?_
    by_cases hneg : z < 0
    · refine WO.as (v' := .bool true) rfl rfl (bdT (sign_lt.2 hneg)) ?_
      refine WO.op rfl rfl ?_
      refine WO.op rfl rfl ?_
      refine WO.op rfl rfl ?_
      refine WO.op rfl rfl ?_
      refine WO.op rfl rfl (WO.nil (W.cond rfl (fun hb => ?_) (fun hb => ?_)))
      · have hz : (z.natAbs : Int) ≤ 9223372036854775808 := of_decide_eq_true hb
        refine W.seq (W.region ?_)
        refine WO.op rfl rfl ?_
        refine WO.as (v' := .int .u64 (18446744073709551616 - (z.natAbs : Int))) rfl rfl (int_eq (by unfold wrapI; simp only; omega)) ?_
        refine WO.as (v' := .int .i64 z) rfl rfl (int_eq (by unfold wrapI; simp only; split <;> omega)) ?_
        refine WO.op rfl rfl ?_
        refine WO.op rfl rfl (WO.nil (W.ret ⟨trivial, _, rfl, ?_⟩))
        have e : small64 z = true := by unfold small64; rw [decide_eq_true (by omega), decide_eq_true (by omega)]; rfl
        have e2 : R = .tup [.int .i64 z, .bool true] := by rw [← hR]; unfold smallA; rw [e]; rfl
        subst e2
        exact Seals.same _ rfl
      · have hz : ¬ (z.natAbs : Int) ≤ 9223372036854775808 := of_decide_eq_false hb
        refine W.seq (W.region ?_)
        refine WO.op rfl rfl ?_
        refine WO.call rfl (signz h _) rfl ?_
        refine WO.as (v' := .bool false) rfl rfl (bdF (by rw [Int.sign_eq_neg_one_of_neg hneg]; decide)) ?_
        refine WO.op rfl rfl ?_
        refine WO.skip rfl ?_
        refine WO.skip rfl ?_
        refine WO.op rfl rfl ?_
        refine WO.op rfl rfl (WO.nil (W.cond (b := false) rfl (fun h => by cases h) (fun _ => W.skip (W.seq (W.region ?_)))))
        refine WO.op rfl rfl ?_
        refine WO.op rfl rfl (WO.nil (W.ret ⟨trivial, _, rfl, ?_⟩))
        have e : small64 z = false := by unfold small64; rw [decide_eq_false (by omega)]; rfl
        have e2 : R = .tup [.int .i64 0, .bool false] := by rw [← hR]; unfold smallA; rw [e]; rfl
        subst e2
        exact Seals.same _ rfl
    · refine WO.as (v' := .bool false) rfl rfl (bdF (fun h => hneg (sign_lt.1 h))) ?_
      refine WO.op rfl rfl ?_
      refine WO.skip rfl ?_
      refine WO.skip rfl ?_
      refine WO.op rfl rfl ?_
      refine WO.op rfl rfl (WO.nil (W.cond (b := false) rfl (fun h => by cases h) (fun _ => ?_)))
      refine W.seq (W.region ?_)
      refine WO.op rfl rfl ?_
      refine WO.call rfl (signz h _) rfl ?_
      refine WO.as (v' := .bool true) rfl rfl (bdT ?_) ?_
      · have := mt sign_lt.1 hneg; omega
      refine WO.op rfl rfl ?_
      refine WO.op rfl rfl ?_
      refine WO.op rfl rfl ?_
      refine WO.op rfl rfl ?_
      refine WO.op rfl rfl (WO.nil (W.cond rfl (fun hb => ?_) (fun hb => ?_)))
      · have hz : (z.natAbs : Int) < 9223372036854775808 := of_decide_eq_true hb
        refine W.seq (W.region ?_)
        refine WO.op rfl rfl ?_
        refine WO.as (v' := .int .i64 z) rfl rfl (int_i64 (by omega) (by omega)) ?_
        refine WO.op rfl rfl ?_
        refine WO.op rfl rfl (WO.nil (W.ret ⟨trivial, _, rfl, ?_⟩))
        have e : small64 z = true := by unfold small64; rw [decide_eq_true (by omega), decide_eq_true (by omega)]; rfl
        have e2 : R = .tup [.int .i64 z, .bool true] := by rw [← hR]; unfold smallA; rw [e]; rfl
        subst e2
        exact Seals.same _ rfl
      · have hz : ¬ (z.natAbs : Int) < 9223372036854775808 := of_decide_eq_false hb
        refine W.skip (W.seq (W.region ?_))
        refine WO.op rfl rfl ?_
        refine WO.op rfl rfl (WO.nil (W.ret ⟨trivial, _, rfl, ?_⟩))
        have e : small64 z = false := by unfold small64; rw [decide_eq_true (by omega), decide_eq_false (by omega)]; rfl
        have e2 : R = .tup [.int .i64 0, .bool false] := by rw [← hR]; unfold smallA; rw [e]; rfl
        subst e2
        exact Seals.same _ rfl
  · rw [if_neg hB, decide_eq_false hB]
    refine WO.op rfl rfl ?_
    refine WO.op rfl rfl ?_
    refine WO.op rfl rfl (WO.nil (W.cond (b := true) rfl (fun _ => W.seq (W.region ?_)) (fun h => by cases h)))
    refine WO.op rfl rfl ?_
    refine WO.op rfl rfl (WO.nil (W.ret ⟨trivial, _, rfl, ?_⟩))
    have e : small64 z = false := by
      unfold small64; unfold B64 at hB
      by_cases h : -9223372036854775808 ≤ z
      · rw [decide_eq_true h, decide_eq_false (by omega)]; rfl
      · rw [decide_eq_false h]; rfl
    have e2 : R = .tup [.int .i64 0, .bool false] := by rw [← hR]; unfold smallA; rw [e]; rfl
    subst e2
    exact Seals.same _ rfl
end
end Go.AM.C

