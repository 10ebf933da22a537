/- Part of a proof over the program's translation: Contracts, 29: numbers of one limb: twos, odd, less, bit, Clone.; Contracts, 30: numbers of one limb: less, bit, Clone, common: the greatest common divisor.; Contracts, 31: common: the greatest common divisor of numbers of one limb. .. -/
import Derived.Lib.TrailingZeros
import Derived.Test.YtkbhfhbopgefcaaGreatDoorA8
import Derived.Test.YtkbhfhbopgefcaaGreatDoorN4
noncomputable section
/- Contracts, 29: numbers of one limb: twos, odd, less, bit, Clone. -/
namespace Go.AM.C
open Go.Proofs
noncomputable section
set_option linter.unusedVariables false
set_option linter.unusedSimpArgs false

theorem tA64 : S0.ty 350 = some ti350 := rfl
theorem tA8 : S0.ty 5 = some ti5 := rfl
def ntz (x : Nat) : Nat := Lib.ctz 64 x
theorem ntz_lt {x : Nat} (h0 : x ≠ 0) (hx : x < B64) : ntz x < 64 := (Lib.lowest_bit 64 x h0 hx).2
theorem ntz_spec {x : Nat} (h0 : x ≠ 0) (hx : x < B64) : ∃ m, x = 2 ^ ntz x * (2 * m + 1) := by
  have e : ntz x = Lib.ctzFrom 64 x := by unfold ntz Lib.ctz; rw [if_neg h0]
  rw [e]
  obtain ⟨m, hm, _⟩ := Lib.ctzFrom_spec 64 x (by omega) hx
  exact ⟨m, hm⟩

theorem bruijn_at {j : Nat} (h : j < 64) : bruijn[j]? = some (.int .u8 ((Lib.deBruijn64tab.getD j 0 : Nat) : Int)) := by
  have : bruijn = Lib.deBruijn64tab.map fun k => .int .u8 ((k : Nat) : Int) := rfl
  rw [this, List.getElem?_map, List.getD_eq_getElem?_getD]
  have hl : j < Lib.deBruijn64tab.length := h
  rw [List.getElem?_eq_getElem hl]
  rfl
theorem tab_small : ∀ j, j < 64 → Lib.deBruijn64tab.getD j 0 < 64 := by decide

theorem and_u64 {x y : Nat} (hx : x < B64) (hy : y < B64) : wrapI .u64 ((BitVec.ofInt 64 (x : Int) &&& BitVec.ofInt 64 (y : Int)).toNat : Int) = ((x &&& y : Nat) : Int) := by
  have e : (BitVec.ofInt 64 (x : Int) &&& BitVec.ofInt 64 (y : Int)).toNat = x &&& y := by
    rw [BitVec.toNat_and, BitVec.ofInt_natCast, BitVec.ofInt_natCast, BitVec.toNat_ofNat, BitVec.toNat_ofNat, Nat.mod_eq_of_lt hx, Nat.mod_eq_of_lt hy]
  rw [e]
  have : x &&& y ≤ x := Nat.and_le_left
  exact wrap_u64 (by unfold B64 at hx; omega)

theorem ntz_ex (x : Nat) (h0 : x ≠ 0) (hx : x < B64) : ∃ ng pw pr j : Nat, wrapI .u64 (0 - (x : Int)) = (ng : Int) ∧ wrapI .u64 ((BitVec.ofInt 64 (x : Int) &&& BitVec.ofInt 64 (ng : Int)).toNat : Int) = (pw : Int) ∧
    wrapI .u64 ((pw : Int) * 285870213051353865) = (pr : Int) ∧ Int.fdiv (pr : Int) 288230376151711744 = (j : Int) ∧ j < 64 ∧ bruijn[j]? = some (.int .u8 (ntz x : Int)) ∧ ntz x < 64 := by
  have hlb := Lib.lowest_bit 64 x h0 hx
  have hd := Lib.deBruijn64_at (Lib.ctz 64 x) hlb.2
  have hx' : x < 18446744073709551616 := hx
  refine ⟨2 ^ 64 - x, 2 ^ ntz x, 2 ^ ntz x * 285870213051353865 % 18446744073709551616, 2 ^ ntz x * 285870213051353865 % 18446744073709551616 / 288230376151711744, ?_, ?_, ?_, ?_, hd.1, ?_, hlb.2⟩
  · unfold wrapI; simp only; omega
  · rw [show 2 ^ ntz x = x &&& (2 ^ 64 - x) from hlb.1.symm]
    exact and_u64 hx (by unfold B64; omega)
  · unfold wrapI; simp only; rw [Int.natCast_emod, Int.natCast_mul]; rfl
  · generalize 2 ^ ntz x * 285870213051353865 % 18446744073709551616 = m
    rw [Int.fdiv_eq_ediv_of_nonneg _ (by decide)]
    rw [Int.natCast_ediv]; rfl
  · exact (bruijn_at hd.1).trans (by rw [hd.2]; rfl)

theorem idx_bruijn {call : Calling} {j : Nat} (h : j < 64) : withH [] (elemAddr S0 350 (.ip bruijn 0 true) (j : Int)) = some (.ip bruijn (0 + j * 1) true, []) := by
  simp only [elemAddr, tA64]
  show withH [] (match S0.ty 5 with | some te => if 0 ≤ (j : Int) ∧ (j : Int) < ((64 : Nat) : Int) then ptrAdd (.ip bruijn 0 true) ((j : Int).toNat * te.size) else none | none => none) = _
  simp only [tA8]
  rw [if_pos ⟨by omega, by omega⟩]
  rfl
theorem ntz_has (x : Nat) (h0 : x ≠ 0) (hx : x < B64) (H : Heap) : Has 251 [.int .u64 (x : Int)] H (.int .i64 (ntz x : Int)) H := by
  obtain ⟨ng, pw, pr, j, h1, h2, h3, h4, h5, h6, h7⟩ := ntz_ex x h0 hx
  generalize ntz x = k at *
  refine does_pure s0 (show S0.fn 251 = some Tryz.f251 by kernel_rfl) rfl (by kernel_rfl) (Nat.le_of_ble_eq_true rfl) rfl rfl ?_
  refine W.seq (W.region ?_)
  repeat refine WO.op rfl rfl ?_
  refine WO.nil (W.seq (W.seq (W.region ?_)))
  refine WO.op rfl rfl ?_
  refine WO.as (v' := .bool false) rfl rfl (bdF (by omega)) (WO.nil (W.cond (b := false) rfl (fun h => by cases h) (fun _ => W.skip (W.seq (W.region ?_)))))
  refine WO.op rfl rfl ?_
  refine WO.op rfl rfl ?_
  refine WO.as (v' := .int .u64 (ng : Int)) rfl rfl (int_eq h1) ?_
  refine WO.as (v' := .int .u64 (pw : Int)) rfl rfl (int_eq h2) ?_
  refine WO.as (v' := .int .u64 (pr : Int)) rfl rfl (int_eq h3) ?_
  refine WO.as (v' := .int .u64 (j : Int)) rfl rfl (int_eq h4) ?_
  refine WO.op (v := .ip bruijn (0 + j * 1) true) (H1 := []) (idx_bruijn (call := callS S0) h5) rfl ?_
  refine WO.op (G.load_ip (v := .int .u8 (k : Int)) rfl tA8 rfl (by rw [show 0 + j * 1 = j by omega]; exact h6)) rfl ?_
  refine WO.as (v' := .int .i64 (k : Int)) rfl rfl (int_i64 (by omega) rfl) ?_
  exact WO.op rfl rfl (WO.nil (W.ret ⟨trivial, _, rfl, Seals.same _ rfl⟩))

/-! #### a row of one limb -/
theorem slu_1 {id x : Nat} {H : Heap} {ty : TypeId} {cap : Option Nat} (hH : H[id]? = some (.cells (u64s [x]) ty)) : SlU S0 115 H (.sl id 0 1 cap 1) [x] :=
  SlU.sl (l := [x]) tU rfl tu rfl hH (Nat.le_refl _)
theorem at_1 {id x : Nat} {H : Heap} {ty : TypeId} (hH : H[id]? = some (.cells (u64s [x]) ty)) {cap : Option Nat} : elemAddr S0 115 (.sl id 0 1 cap 1) ((0 : Nat) : Int) = some (.ptr id 0) := by
  rfl
theorem made_1 (id x : Nat) (cap : Option Nat) (H : Heap) (ty : TypeId) (hH : H[id]? = some (.cells (u64s [x]) ty)) (hx : x ≠ 0) : Has 90 [.sl id 0 1 cap 1] H (.ip [.sl id 0 1 cap 1] 0 false) H := by
  refine does_run s0 (show S0.fn 90 = some Tryz.f90 by kernel_rfl) rfl (by kernel_rfl) (Nat.le_of_ble_eq_true rfl) ?_
  refine W.seq (W.region ?_)
  repeat refine WO.op rfl rfl ?_
  refine WO.nil (W.seq (W.block (W.fits (F' := fr [(0, .sl id 0 1 cap 1)]) (fits_fr ⟨rfl, trivial⟩) ?_)))
  refine W.loopI (fun _ : Unit => True) (fun _ => 0) (fun _ => fr [(0, .sl id 0 1 cap 1)]) (fun _ => H) ?_ () trivial
  intro _ _
  refine W.seq (W.seq (W.region ?_))
  refine WO.op rfl rfl ?_
  refine WO.op rfl rfl ?_
  refine WO.as (v' := .bool true) rfl rfl rfl ?_
  refine WO.op rfl rfl ?_
  refine WO.op rfl rfl ?_
  refine WO.op rfl rfl ?_
  refine WO.op rfl rfl ?_
  refine WO.as (v' := .int .i64 ((0 : Nat) : Int)) rfl rfl rfl ?_
  refine WO.op (SlU.idxG rfl rfl (at_1 hH)) rfl ?_
  refine WO.op (G.load_ptr (v := .int .u64 (x : Int)) rfl tu rfl hH rfl) rfl ?_
  refine WO.as (v' := .bool false) rfl rfl (bdF (by omega)) ?_
  repeat refine WO.op rfl rfl ?_
  refine WO.nil (W.cond (b := false) rfl (fun h => by cases h) (fun _ => W.exit ?_))
  refine W.seq (W.region ?_)
  repeat refine WO.op rfl rfl ?_
  exact WO.nil (W.ret ⟨trivial, _, rfl, Wk.refl _, rfl⟩)

theorem twos_1 {H : Heap} {va : AVal} {x : Nat} (ha : SlU S0 115 H va [x]) (h0 : x ≠ 0) (hx : x < B64) : Has 185 [va] H (.int .i64 (ntz x : Int)) H := by
  have hlt := ntz_lt h0 hx
  obtain ⟨a1, a2, a3, ha1, ha2, ha3⟩ := ha.at_ 0 (by simp)
  have ha3 : a2[a3]? = some (.int .u64 (x : Int)) := ha3
  refine does_run s0 (show S0.fn 185 = some Tryz.f185 by kernel_rfl) rfl (by kernel_rfl) (Nat.le_of_ble_eq_true rfl) ?_
  refine W.seq (W.region ?_)
  repeat refine WO.op rfl rfl ?_
  refine WO.nil (W.seq (W.region ?_))
  repeat refine WO.op rfl rfl ?_
  refine WO.nil (W.seq (W.block (W.fits (F' := fr [(0, va), (3, .int .i64 ((0 : Nat) : Int))]) (fits_fr ⟨rfl, rfl, trivial⟩) ?_)))
  refine W.loopI (fun _ : Unit => True) (fun _ => 0) (fun _ => fr [(0, va), (3, .int .i64 ((0 : Nat) : Int))]) (fun _ => H) ?_ () trivial
  intro _ _
  refine W.seq (W.seq (W.region ?_))
  refine WO.op rfl rfl ?_
  refine WO.op rfl rfl ?_
  refine WO.op (SlU.idxG rfl rfl ha1) rfl ?_
  refine WO.op (SlU.loadG rfl tu rfl ha2 ha3) rfl ?_
  refine WO.as (v' := .bool false) rfl rfl (bdF (by omega)) ?_
  refine WO.nil (W.cond (b := false) rfl (fun h => by cases h) (fun _ => W.exit ?_))
  refine W.seq (W.region ?_)
  refine WO.op rfl rfl ?_
  refine WO.as (v' := .int .i64 ((0 : Nat) : Int)) rfl rfl rfl ?_
  refine WO.op rfl rfl ?_
  refine WO.op rfl rfl ?_
  refine WO.op (SlU.idxG rfl rfl ha1) rfl ?_
  refine WO.op (SlU.loadG rfl tu rfl ha2 ha3) rfl ?_
  refine WO.call rfl (ntz_has x h0 hx _) rfl ?_
  refine WO.as (v' := .int .i64 (ntz x : Int)) rfl rfl (int_i64 (by omega) (by omega)) ?_
  refine WO.op rfl rfl (WO.nil (W.ret ⟨trivial, _, rfl, Wk.refl _, rfl⟩))

theorem shr_ex (x k : Nat) (hk : k < 64) : Int.fdiv (x : Int) (2 ^ (min (k : Int).toNat 64)) = ((x / 2 ^ k : Nat) : Int) := by
  have : min (k : Int).toNat 64 = k := by simp; omega
  rw [this, show (2 : Int) ^ k = ((2 ^ k : Nat) : Int) by rw [Int.natCast_pow]; rfl]
  exact (Int.ofNat_fdiv x (2 ^ k)).symm
theorem shr_op {call : Calling} {d : Bool} {g : Operand → AVal} {H : Heap} {x y : Operand} {t yt : TypeId} {m k : Nat} (hx : g x = .int .u64 (m : Int)) (hy : g y = .int .i64 (k : Int)) (h : 0 ≤ k) :
    denG S0 call d g H (.binOp .shr t x y yt) = some (.int .u64 (Int.fdiv (m : Int) (2 ^ (min (k : Int).toNat 64))), H) := by
  simp only [denG, hx, hy]
  show withH H (shiftBin .shr .u64 (m : Int) (k : Int)) = _
  unfold shiftBin
  rw [if_neg (by omega)]
  rfl
theorem odd_1 (id x : Nat) (H : Heap) (ty : TypeId) (hH : H[id]? = some (.cells (u64s [x]) ty)) (h0 : x ≠ 0) (hx : x < B64) : Has 186 [.sl id 0 1 none 1] H (.sl id 0 1 none 1) (H.set id (.cells (u64s [x / 2 ^ ntz x]) ty)) := by
  have hlt := ntz_lt h0 hx
  have hne : x / 2 ^ ntz x ≠ 0 := by
    obtain ⟨m, hm⟩ := ntz_spec h0 hx
    have : 2 ^ ntz x ≤ x := Nat.le_trans (Nat.le_mul_of_pos_right _ (show 0 < 2 * m + 1 by omega)) (Nat.le_of_eq hm.symm)
    exact Nat.ne_of_gt (Nat.div_pos this (Nat.pow_pos (by decide)))
  have hid : id < H.length := (List.getElem?_eq_some_iff.1 hH).1
  have hH2 : (H.set id (.cells (u64s [x / 2 ^ ntz x]) ty))[id]? = some (.cells (u64s [x / 2 ^ ntz x]) ty) := by rw [List.getElem?_set_self hid]
  have hsh := shr_ex x (ntz x) hlt
  have htw := twos_1 (slu_1 (cap := none) hH) h0 hx
  have hq : AVal.int .i64 (wrapI .i64 ((ntz x : Int).tdiv 64)) = .int .i64 ((0 : Nat) : Int) := by
    have e : (ntz x : Int).tdiv 64 = ((ntz x / 64 : Nat) : Int) := (Int.ofNat_tdiv _ 64).symm
    rw [e]
    exact int_i64 (by omega) (by omega)
  have hr : (ntz x : Int).tmod 64 = (ntz x : Int) := by
    have e : (ntz x : Int).tmod 64 = ((ntz x % 64 : Nat) : Int) := (Int.ofNat_tmod _ 64).symm
    rw [e]
    omega
  generalize hy : x / 2 ^ ntz x = y at *
  generalize ntz x = k at *
  refine does_run s0 (show S0.fn 186 = some Tryz.f186 by kernel_rfl) rfl (by kernel_rfl) (Nat.le_of_ble_eq_true rfl) ?_
  refine W.seq (W.region ?_)
  repeat refine WO.op rfl rfl ?_
  refine WO.nil (W.seq (W.region ?_))
  refine WO.op rfl rfl ?_
  refine WO.call rfl htw rfl ?_
  refine WO.op rfl rfl (WO.nil (W.seq (W.region ?_)))
  refine WO.op rfl rfl ?_
  refine WO.op rfl rfl ?_
  refine WO.as (v' := .int .i64 ((0 : Nat) : Int)) rfl rfl (hq) ?_
  refine WO.op (G.slice_sl (l := 0) (h := 1) rfl tU rfl tu rfl ⟨_, rfl⟩ rfl (by omega) (by simp) (by simp)) rfl ?_
  refine WO.op rfl rfl ?_
  refine WO.as (v' := .int .i64 (k : Int)) rfl rfl (int_eq hr) ?_
  refine WO.op rfl rfl ?_
  refine WO.op rfl rfl (WO.nil (W.seq (W.seq (W.region ?_))))
  refine WO.op rfl rfl ?_
  refine WO.op ((slu_1 (cap := none) hH).lenG rfl rfl rfl) rfl ?_
  refine WO.op rfl rfl (WO.nil (W.block ?_))
  refine W.fits (F' := fr [(0, .sl id 0 1 none 1), (3, .int .i64 (k : Int)), (14, .int .i64 ((1 : Nat) : Int)), (15, .int .i64 ((0 : Nat) : Int))]) (fits_fr ⟨rfl, rfl, rfl, rfl, trivial⟩) ?_
  refine W.loopI (α := Bool) (fun _ => True) (fun b => if b then 0 else 1) (fun b => fr [(0, .sl id 0 1 none 1), (3, .int .i64 (k : Int)), (14, .int .i64 ((1 : Nat) : Int)), (15, .int .i64 (((if b then 1 else 0) : Nat) : Int))]) (fun b => if b then H.set id (.cells (u64s [y]) ty) else H) ?_ false trivial
  intro b _
  refine W.seq (W.region ?_)
  cases b with
  | false =>
    refine WO.as (v' := .bool true) rfl rfl rfl (WO.nil (W.seq (W.cond (b := true) rfl (fun _ => W.skip ?_) (fun h => by cases h))))
    refine W.heq (H' := H) rfl ?_
    refine W.seq (W.block (W.seq (W.region ?_)))
    refine WO.op rfl rfl ?_
    refine WO.op rfl rfl (WO.nil (W.seq (W.region ?_)))
    refine WO.op rfl rfl ?_
    refine WO.op rfl rfl ?_
    refine WO.op (SlU.idxG rfl rfl (at_1 hH)) rfl ?_
    refine WO.op (G.load_ptr (v := .int .u64 (x : Int)) rfl tu rfl hH rfl) rfl ?_
    refine WO.op rfl rfl ?_
    refine WO.as (v' := .int .u64 (y : Int)) (shr_op rfl rfl (Nat.zero_le _)) rfl (int_eq hsh) ?_
    refine WO.op (SlU.idxG rfl rfl (at_1 hH)) rfl ?_
    refine WO.op (G.store_ptr (v := .int .u64 (y : Int)) rfl rfl rfl tu rfl hH (by simp [u64s])) rfl (WO.nil (W.seq (W.region ?_)))
    refine WO.op rfl rfl ?_
    refine WO.op rfl rfl ?_
    refine WO.op rfl rfl ?_
    refine WO.op ((slu_1 (cap := none) hH2).lenG rfl rfl rfl) rfl ?_
    refine WO.as (v' := .bool false) rfl rfl rfl (WO.nil (W.cond (b := false) rfl (fun h => by cases h) (fun _ => W.skip ?_)))
    refine W.region ?_
    refine WO.as (v' := .int .i64 ((1 : Nat) : Int)) rfl rfl rfl ?_
    exact WO.op rfl rfl (WO.nil ⟨true, trivial, by decide, fits_fr ⟨rfl, rfl, rfl, rfl, trivial⟩, rfl⟩)
  | true =>
    refine WO.as (v' := .bool false) rfl rfl rfl (WO.nil (W.seq (W.cond (b := false) rfl (fun h => by cases h) (fun _ => W.exit ?_))))
    refine W.heq (H' := H.set id (.cells (u64s [y]) ty)) rfl ?_
    refine W.seq (W.region ?_)
    refine WO.op rfl rfl ?_
    refine WO.call rfl (made_1 id y none _ ty hH2 hne) rfl ?_
    repeat refine WO.op rfl rfl ?_
    exact WO.nil (W.ret ⟨trivial, _, rfl, Wk.refl _, rfl⟩)
end
end Go.AM.C

/- Contracts, 30: numbers of one limb: less, bit, Clone, common: the greatest common divisor. -/
namespace Go.AM.C
open Go.Proofs
noncomputable section
set_option linter.unusedVariables false
set_option linter.unusedSimpArgs false

theorem less_1 (i j x y : Nat) (H : Heap) (ty tj : TypeId) (hij : i ≠ j) (hI : H[i]? = some (.cells (u64s [x]) ty)) (hJ : H[j]? = some (.cells (u64s [y]) tj)) (hxy : y < x) (hx : x < B64) :
    Has 188 [.sl i 0 1 none 1, .sl j 0 1 none 1] H (.sl i 0 1 none 1) (H.set i (.cells (u64s [x - y]) ty)) := by
  have hid : i < H.length := (List.getElem?_eq_some_iff.1 hI).1
  have hH2 : (H.set i (.cells (u64s [x - y]) ty))[i]? = some (.cells (u64s [x - y]) ty) := by rw [List.getElem?_set_self hid]
  have hne : x - y ≠ 0 := by omega
  have hsub := sub64_has x y 0 (by omega)
  have e1 : (x + B64 - y - 0) % B64 = x - y := by
    have : x + B64 - y - 0 = (x - y) + B64 := by omega
    rw [this, Nat.add_mod_right, Nat.mod_eq_of_lt (by omega)]
  have e2 : (if x < y + 0 then 1 else 0 : Nat) = 0 := if_neg (by omega)
  rw [e1, e2] at hsub
  generalize x - y = z at *
  refine does_run s0 (show S0.fn 188 = some Tryz.f188 by kernel_rfl) rfl (by kernel_rfl) (Nat.le_of_ble_eq_true rfl) ?_
  refine W.seq (W.region ?_)
  repeat refine WO.op rfl rfl ?_
  refine WO.nil (W.seq (W.region ?_))
  refine WO.op rfl rfl (WO.nil (W.seq (W.seq (W.region ?_))))
  refine WO.op rfl rfl ?_
  refine WO.op ((slu_1 (cap := none) hI).lenG rfl rfl rfl) rfl ?_
  refine WO.op rfl rfl (WO.nil (W.block ?_))
  refine W.fits (F' := fr [(0, .sl i 0 1 none 1), (1, .sl j 0 1 none 1), (5, .int .u64 ((0 : Nat) : Int)), (9, .int .i64 ((1 : Nat) : Int)), (10, .int .i64 ((0 : Nat) : Int))]) (fits_fr ⟨rfl, rfl, rfl, rfl, rfl, trivial⟩) ?_
  refine W.loopI (α := Bool) (fun _ => True) (fun b => if b then 0 else 1) (fun b => fr [(0, .sl i 0 1 none 1), (1, .sl j 0 1 none 1), (5, .int .u64 ((0 : Nat) : Int)), (9, .int .i64 ((1 : Nat) : Int)), (10, .int .i64 (((if b then 1 else 0) : Nat) : Int))]) (fun b => if b then H.set i (.cells (u64s [z]) ty) else H) ?_ false trivial
  intro b _
  refine W.seq (W.region ?_)
  cases b with
  | false =>
    refine WO.as (v' := .bool true) rfl rfl rfl (WO.nil (W.seq (W.cond (b := true) rfl (fun _ => W.skip ?_) (fun h => by cases h))))
    refine W.heq (H' := H) rfl ?_
    refine W.seq (W.block (W.seq (W.region ?_)))
    refine WO.op rfl rfl ?_
    refine WO.op rfl rfl (WO.nil (W.seq (W.region ?_)))
    refine WO.op rfl rfl (WO.nil (W.seq (W.seq (W.region ?_))))
    refine WO.op rfl rfl ?_
    refine WO.op rfl rfl ?_
    refine WO.op ((slu_1 (cap := none) hJ).lenG rfl rfl rfl) rfl ?_
    refine WO.as (v' := .bool true) rfl rfl rfl (WO.nil (W.cond (b := true) rfl (fun _ => ?_) (fun h => by cases h)))
    refine W.region ?_
    refine WO.op rfl rfl ?_
    refine WO.op rfl rfl ?_
    refine WO.op (SlU.idxG rfl rfl (at_1 hJ)) rfl ?_
    refine WO.op (G.load_ptr (v := .int .u64 (y : Int)) rfl tu rfl hJ rfl) rfl ?_
    refine WO.op rfl rfl (WO.nil (W.region ?_))
    refine WO.op rfl rfl ?_
    refine WO.op rfl rfl ?_
    refine WO.op rfl rfl ?_
    refine WO.op rfl rfl ?_
    refine WO.op (SlU.idxG rfl rfl (at_1 hI)) rfl ?_
    refine WO.op (G.load_ptr (v := .int .u64 (x : Int)) rfl tu rfl hI rfl) rfl ?_
    refine WO.op rfl rfl ?_
    refine WO.op rfl rfl ?_
    refine WO.call rfl (hsub _) rfl ?_
    refine WO.op rfl rfl ?_
    refine WO.op rfl rfl ?_
    refine WO.op rfl rfl ?_
    refine WO.op (SlU.idxG rfl rfl (at_1 hI)) rfl ?_
    refine WO.op (G.store_ptr (v := .int .u64 (z : Int)) rfl rfl rfl tu rfl hI (by simp [u64s])) rfl ?_
    refine WO.op rfl rfl (WO.nil (W.region ?_))
    refine WO.as (v' := .int .i64 ((1 : Nat) : Int)) rfl rfl rfl ?_
    exact WO.op rfl rfl (WO.nil ⟨true, trivial, by decide, fits_fr ⟨rfl, rfl, rfl, rfl, rfl, trivial⟩, rfl⟩)
  | true =>
    refine WO.as (v' := .bool false) rfl rfl rfl (WO.nil (W.seq (W.cond (b := false) rfl (fun h => by cases h) (fun _ => W.exit ?_))))
    refine W.heq (H' := H.set i (.cells (u64s [z]) ty)) rfl ?_
    refine W.seq (W.region ?_)
    refine WO.op rfl rfl ?_
    refine WO.call rfl (made_1 i z none _ ty hH2 hne) rfl ?_
    repeat refine WO.op rfl rfl ?_
    exact WO.nil (W.ret ⟨trivial, _, rfl, Wk.refl _, rfl⟩)

theorem shl_op {call : Calling} {d : Bool} {g : Operand → AVal} {H : Heap} {x y : Operand} {t yt : TypeId} {m k : Nat} (hx : g x = .int .u64 (m : Int)) (hy : g y = .int .i64 (k : Int)) (h : 0 ≤ k) :
    denG S0 call d g H (.binOp .shl t x y yt) = some (.int .u64 (wrapI .u64 ((m : Int) * 2 ^ (min (k : Int).toNat 64))), H) := by
  simp only [denG, hx, hy]
  show withH H (shiftBin .shl .u64 (m : Int) (k : Int)) = _
  unfold shiftBin
  rw [if_neg (by omega)]
  rfl
theorem pow_lt64 {k : Nat} (h : k < 64) : 2 ^ k < B64 := Nat.lt_of_lt_of_le (Nat.pow_lt_pow_right (by decide) h) (Nat.le_refl _)
theorem bit_1 (k : Nat) (hk : k < 64) (H : Heap) : Has 187 [.int .i64 (k : Int)] H (.obj (.np (2 ^ k))) H := by
  have hp := pow_lt64 hk
  have hp0 : 2 ^ k ≠ 0 := Nat.ne_of_gt (Nat.pow_pos (by decide))
  have hq : AVal.int .i64 (wrapI .i64 ((k : Int).tdiv 64)) = .int .i64 ((0 : Nat) : Int) := by
    have e : (k : Int).tdiv 64 = ((k / 64 : Nat) : Int) := (Int.ofNat_tdiv _ 64).symm
    rw [e]
    exact int_i64 (by omega) (by omega)
  have hr : (k : Int).tmod 64 = (k : Int) := by
    have e : (k : Int).tmod 64 = ((k % 64 : Nat) : Int) := (Int.ofNat_tmod _ 64).symm
    rw [e]
    omega
  have hsh : wrapI .u64 (((1 : Nat) : Int) * 2 ^ (min (k : Int).toNat 64)) = ((2 ^ k : Nat) : Int) := by
    have e : min (k : Int).toNat 64 = k := by simp; omega
    have e2 : ((1 : Nat) : Int) * 2 ^ k = ((2 ^ k : Nat) : Int) := by rw [Int.natCast_pow]; simp
    rw [e, e2]
    generalize (2 : Nat) ^ k = q at hp ⊢
    exact wrap_u64 (by unfold B64 at hp; omega)
  have hl : lims (2 ^ k) = [2 ^ k] := lims_small hp hp0
  generalize 2 ^ k = y at *
  refine does_pure s0 (show S0.fn 187 = some Tryz.f187 by kernel_rfl) rfl (by kernel_rfl) (Nat.le_of_ble_eq_true rfl) rfl rfl ?_
  refine W.seq (W.region ?_)
  repeat refine WO.op rfl rfl ?_
  refine WO.nil (W.seq (W.region ?_))
  refine WO.op rfl rfl ?_
  refine WO.as (v' := .int .i64 ((0 : Nat) : Int)) rfl rfl hq ?_
  refine WO.as (v' := .int .i64 ((1 : Nat) : Int)) rfl rfl rfl ?_
  refine WO.op (G.make (l := 1) (c := 1) rfl rfl tU rfl tu rfl (by omega) (by decide) (by omega)) rfl ?_
  refine WO.op rfl rfl (WO.nil (W.seq (W.region ?_)))
  have hH : ([] ++ [AObj.cells (List.replicate 1 (AVal.int .u64 0)) 85] : Heap)[0]? = some (.cells (u64s [0]) 85) := rfl
  refine WO.op rfl rfl ?_
  refine WO.op rfl rfl ?_
  refine WO.as (v' := .int .i64 ((0 : Nat) : Int)) rfl rfl hq ?_
  refine WO.op rfl rfl ?_
  refine WO.as (v' := .int .i64 (k : Int)) rfl rfl (int_eq hr) ?_
  refine WO.as (v' := .int .u64 (y : Int)) (shl_op (m := 1) rfl rfl (Nat.zero_le _)) rfl (int_eq hsh) ?_
  refine WO.op (SlU.idxG rfl rfl (at_1 (cap := some 1) hH)) rfl ?_
  refine WO.op (G.store_ptr (v := .int .u64 (y : Int)) rfl rfl rfl tu rfl hH (by simp [u64s])) rfl (WO.nil (W.seq (W.region ?_)))
  have hH2 : (List.set ([] ++ [AObj.cells (List.replicate 1 (AVal.int .u64 0)) 85] : Heap) 0 (.cells ((u64s [0]).set 0 (.int .u64 (y : Int))) 85))[0]? = some (.cells (u64s [y]) 85) := rfl
  refine WO.op rfl rfl ?_
  refine WO.call rfl (made_1 0 y (some 1) _ _ hH2 hp0) rfl ?_
  refine WO.op rfl rfl ?_
  exact WO.nil (W.ret ⟨trivial, _, rfl, seals_np hH2 (Nat.le_refl _) (by rw [hl]; rfl)⟩)

theorem den_clone {H : Heap} {n x : Nat} (hg : H[n]? = some (.cells [] 85)) : denAppend S0 H 115 115 (.sl n 0 0 (some 0) 1) (.isl (u64s [x]) 0 1 none true) = some (.sl H.length 0 1 none 1, H ++ [AObj.cells (u64s [x]) 85]) := by
  have h1 : sliceCells H 1 (.sl n 0 0 (some 0) 1) = some ([], 0) := by simp only [sliceCells, hg]; rfl
  show (match sliceCells H 1 (.sl n 0 0 (some 0) 1) with
    | none => none
    | some (olds, _) => some (AVal.sl H.length 0 1 none 1, H ++ [AObj.cells (olds ++ u64s [x]) 85])) = _
  rw [h1]
  rfl
theorem G.app_clone {call : Calling} {d : Bool} {g : Operand → AVal} {H : Heap} {c : Call} {n x : Nat} (hc : c.callee = .builtin .append) (ha : c.args.toList.map g = [.sl n 0 0 (some 0) 1, .isl (u64s [x]) 0 1 none true]) (hta : c.argTypes.toList = [115, 115]) (hg : H[n]? = some (.cells [] 85)) :
    denG S0 call d g H (.call c) = some (.sl H.length 0 1 none 1, H ++ [AObj.cells (u64s [x]) 85]) := by
  simp only [denG, hc, ha, hta]
  exact den_clone hg
theorem clone_1 (x : Nat) (H : Heap) : Has 88 [.isl (u64s [x]) 0 1 none true] H (.sl (H.length + 1) 0 1 none 1) (H ++ [.cells [] 85] ++ [.cells (u64s [x]) 85]) := by
  refine does_run s0 (show S0.fn 88 = some Tryz.f88 by kernel_rfl) rfl (by kernel_rfl) (Nat.le_of_ble_eq_true rfl) ?_
  refine W.seq (W.region ?_)
  repeat refine WO.op rfl rfl ?_
  refine WO.nil (W.seq (W.seq (W.region ?_)))
  refine WO.op rfl rfl ?_
  refine WO.op rfl rfl (WO.nil (W.cond (b := false) rfl (fun h => by cases h) (fun _ => W.skip (W.seq (W.region ?_)))))
  refine WO.op (v := .sl H.length 0 0 (some 0) 1) (H1 := H ++ [.cells [] 85]) rfl rfl ?_
  refine WO.op rfl rfl ?_
  refine WO.op (v := .sl (H ++ [AObj.cells [] 85]).length 0 1 none 1) (H1 := H ++ [.cells [] 85] ++ [.cells (u64s [x]) 85]) (G.app_clone (n := H.length) rfl rfl rfl (by simp)) rfl ?_
  refine WO.op rfl rfl (WO.nil (W.ret ⟨trivial, _, rfl, ?_, rfl⟩))
  rw [List.length_append]
  exact Wk.refl _

/-! #### the plain law -/
def oddp (x : Nat) : Nat := x / 2 ^ ntz x
theorem oddp_spec {x : Nat} (h0 : x ≠ 0) (hx : x < B64) : x = 2 ^ ntz x * oddp x ∧ oddp x % 2 = 1 ∧ oddp x ≠ 0 ∧ oddp x ≤ x := by
  obtain ⟨m, hm⟩ := ntz_spec h0 hx
  have e : oddp x = 2 * m + 1 := by
    unfold oddp
    generalize ntz x = k at *
    subst hm
    exact Nat.mul_div_cancel_left _ (Nat.pow_pos (by decide))
  refine ⟨by rw [e]; exact hm, by rw [e]; omega, by rw [e]; omega, ?_⟩
  unfold oddp
  exact Nat.div_le_self _ _
theorem odd_cop {n : Nat} (h : n % 2 = 1) (k : Nat) : Nat.gcd n (2 ^ k) = 1 := by
  have : Nat.Coprime n 2 := by
    unfold Nat.Coprime
    rw [Nat.gcd_comm, Nat.gcd_rec, h]
    rfl
  exact Nat.Coprime.pow_right k this
theorem gcd_odd_left {n m : Nat} (h : m % 2 = 1) (k : Nat) : Nat.gcd (2 ^ k * n) m = Nat.gcd n m := by
  have : Nat.Coprime (2 ^ k) m := by unfold Nat.Coprime; rw [Nat.gcd_comm]; exact odd_cop h k
  exact Nat.Coprime.gcd_mul_left_cancel n this
theorem gcd_twos {x y : Nat} (hx0 : x ≠ 0) (hy0 : y ≠ 0) (hx : x < B64) (hy : y < B64) : 2 ^ min (ntz x) (ntz y) * Nat.gcd (oddp x) (oddp y) = Nat.gcd x y := by
  obtain ⟨ex, ox, _, _⟩ := oddp_spec hx0 hx
  obtain ⟨ey, oy, _, _⟩ := oddp_spec hy0 hy
  generalize oddp x = a at *
  generalize oddp y = b at *
  generalize ntz x = j at *
  generalize ntz y = k at *
  subst ex
  subst ey
  rcases Nat.le_total j k with h | h
  · obtain ⟨d, rfl⟩ := Nat.le.dest h
    rw [Nat.min_eq_left (by omega), Nat.pow_add, Nat.mul_assoc, Nat.gcd_mul_left]
    congr 1
    rw [Nat.gcd_comm a (2 ^ d * b), gcd_odd_left ox, Nat.gcd_comm]
  · obtain ⟨d, rfl⟩ := Nat.le.dest h
    rw [Nat.min_eq_right (by omega), Nat.pow_add, Nat.mul_assoc, Nat.gcd_mul_left]
    congr 1
    rw [gcd_odd_left oy]
theorem gcd_step {p q : Nat} (hq : q % 2 = 1) (hqp : q < p) (hp : p < B64) : Nat.gcd (oddp (p - q)) q = Nat.gcd p q := by
  obtain ⟨e, _, _, _⟩ := oddp_spec (x := p - q) (by omega) (by omega)
  have h1 : Nat.gcd (p - q) q = Nat.gcd p q := Nat.gcd_sub_self_left (by omega)
  rw [← h1]
  conv => rhs; rw [e]
  rw [gcd_odd_left hq]
end
end Go.AM.C

/- Contracts, 31: common: the greatest common divisor of numbers of one limb. -/
namespace Go.AM.C
open Go.Proofs
noncomputable section
set_option linter.unusedVariables false
set_option linter.unusedSimpArgs false

theorem fit_small {n : Nat} (h : n < B64) : Fit n := fit_of_log (by
  by_cases h0 : n = 0
  · subst h0; decide
  · have := (Nat.log2_lt h0 (k := 64)).2 h
    omega)
theorem cmp_1 {p q : Nat} (hp0 : p ≠ 0) (hq0 : q ≠ 0) (hp : p < B64) (hq : q < B64) : cmpL [p] [q] = cmpN p q := by
  have := cmpL_lims p q
  rwa [lims_small hp hp0, lims_small hq hq0] at this
theorem slu_isl1 (x : Nat) (H : Heap) : SlU S0 115 H (.isl (u64s [x]) 0 1 none true) [x] := SlU.isl (l := [x]) tU rfl tu rfl
abbrev gEmp : AObj := .cells [] 85
def gH (p q : Nat) (sw : Bool) : Heap := bif sw then [gEmp, .cells (u64s [q]) 85, gEmp, .cells (u64s [p]) 85] else [gEmp, .cells (u64s [p]) 85, gEmp, .cells (u64s [q]) 85]
def gA (sw : Bool) : Nat := bif sw then 3 else 1
theorem gH_a (p q : Nat) (sw : Bool) : (gH p q sw)[gA sw]? = some (.cells (u64s [p]) 85) := by cases sw <;> rfl
theorem gH_b (p q : Nat) (sw : Bool) : (gH p q sw)[gA (!sw)]? = some (.cells (u64s [q]) 85) := by cases sw <;> rfl
theorem gH_ne (sw : Bool) : gA sw ≠ gA (!sw) := by cases sw <;> decide
theorem gH_set (p q r : Nat) (sw : Bool) : (gH p q sw).set (gA sw) (.cells (u64s [r]) 85) = gH r q sw := by cases sw <;> rfl
theorem gH_swap (p q : Nat) (sw : Bool) : gH p q sw = gH q p (!sw) := by cases sw <;> rfl

theorem min_op {call : Calling} {d : Bool} {g : Operand → AVal} {H : Heap} {c : Call} {j k : Nat} {t t' : TypeId} (hc : c.callee = .builtin .min) (ha : c.args.toList.map g = [.int .i64 (j : Int), .int .i64 (k : Int)]) (hta : c.argTypes.toList = [t, t']) :
    denG S0 call d g H (.call c) = some (.int .i64 ((min j k : Nat) : Int), H) := by
  simp only [denG, hc, ha, hta]
  have e : (if ((k : Int) < (j : Int)) then (k : Int) else (j : Int)) = ((min j k : Nat) : Int) := by
    rw [Nat.min_def]
    split <;> split <;> omega
  show withH H (some (AVal.int .i64 (if ((k : Int) < (j : Int)) then (k : Int) else (j : Int)))) = _
  rw [e]
  rfl

set_option maxRecDepth 100000 in
theorem common_1 (x y : Nat) (hx0 : x ≠ 0) (hy0 : y ≠ 0) (hx : x < B64) (hy : y < B64) (H : Heap) :
    Has 132 [.isl (u64s [x]) 0 1 none true, .isl (u64s [y]) 0 1 none true] H (.obj (.np (Nat.gcd x y))) H := by
  have hg := gcd_twos hx0 hy0 hx hy
  have h1 := ntz_lt hx0 hx
  have h2 := ntz_lt hy0 hy
  obtain ⟨_, ox, ox0, oxl⟩ := oddp_spec hx0 hx
  obtain ⟨_, oy, oy0, oyl⟩ := oddp_spec hy0 hy
  refine does_pure s0 (show S0.fn 132 = some Tryz.f132 by kernel_rfl) rfl (by kernel_rfl) (Nat.le_of_ble_eq_true rfl) rfl rfl ?_
  refine W.seq (W.region ?_)
  refine WO.op rfl rfl (WO.nil (W.seq (W.region ?_)))
  refine WO.op rfl rfl ?_
  refine WO.call rfl (twos_1 (slu_isl1 x _) hx0 hx) rfl ?_
  refine WO.op rfl rfl ?_
  refine WO.call rfl (twos_1 (slu_isl1 y _) hy0 hy) rfl ?_
  refine WO.op (min_op (j := ntz x) (k := ntz y) rfl rfl rfl) rfl ?_
  refine WO.op rfl rfl (WO.nil (W.seq (W.region ?_)))
  refine WO.op rfl rfl ?_
  refine WO.call rfl (clone_1 x _) rfl ?_
  refine WO.call rfl (odd_1 1 x _ 85 rfl hx0 hx) rfl ?_
  refine WO.op rfl rfl ?_
  refine WO.call rfl (clone_1 y _) rfl ?_
  refine WO.call rfl (odd_1 3 y _ 85 rfl hy0 hy) rfl ?_
  refine WO.op rfl rfl ?_
  refine WO.op rfl rfl (WO.nil (W.block ?_))
  have hk : min (ntz x) (ntz y) < 64 := by omega
  change 2 ^ min (ntz x) (ntz y) * Nat.gcd (oddp x) (oddp y) = Nat.gcd x y at hg
  refine W.heq (H' := gH (oddp x) (oddp y) false) rfl ?_
  rw [← hg]
  have hpx : oddp x < B64 := by omega
  have hpy : oddp y < B64 := by omega
  generalize min (ntz x) (ntz y) = k at *
  generalize oddp x = a at *
  generalize oddp y = b at *
  refine W.fits (F' := fr [(0, .sl 1 0 1 none 1), (1, .sl 3 0 1 none 1), (5, .int .i64 (k : Int))]) (fits_fr ⟨rfl, rfl, rfl, trivial⟩) ?_
  refine W.loopI (α := Nat × Nat × Bool) (fun s => s.1 % 2 = 1 ∧ s.2.1 % 2 = 1 ∧ s.1 < B64 ∧ s.2.1 < B64 ∧ Nat.gcd s.1 s.2.1 = Nat.gcd a b) (fun s => s.1 + s.2.1)
    (fun s => fr [(0, .sl (gA s.2.2) 0 1 none 1), (1, .sl (gA (!s.2.2)) 0 1 none 1), (5, .int .i64 (k : Int))]) (fun s => gH s.1 s.2.1 s.2.2) ?_ (a, b, false) ⟨ox, oy, hpx, hpy, rfl⟩
  rintro ⟨p, q, sw⟩ ⟨op, oq, hp, hq, hgc⟩
  simp only at op oq hp hq hgc
  have hp0 : p ≠ 0 := by omega
  have hq0 : q ≠ 0 := by omega
  have hA := gH_a p q sw
  have hB := gH_b p q sw
  have hc := cmp_1 hp0 hq0 hp hq
  refine W.block (W.seq (W.seq (W.region ?_)))
  refine WO.op rfl rfl ?_
  refine WO.op rfl rfl ?_
  refine WO.call rfl (compare_sl (slu_1 (cap := none) hA) (slu_1 (cap := none) hB) (by simp) (by simp)) rfl ?_
  rw [hc]
  rcases Nat.lt_trichotomy p q with hlt | heq | hgt
  · have hcn : cmpN p q = -1 := by unfold cmpN; rw [if_pos hlt]
    rw [hcn]
    refine WO.nil (W.block (W.seq (W.region ?_)))
    refine WO.op rfl rfl ?_
    refine WO.op rfl rfl (WO.nil (W.cond (b := false) rfl (fun h => by cases h) (fun _ => W.seq (W.region ?_))))
    refine WO.op rfl rfl ?_
    refine WO.op rfl rfl (WO.nil (W.cond (b := true) rfl (fun _ => W.region ?_) (fun h => by cases h)))
    refine WO.op rfl rfl ?_
    refine WO.op rfl rfl ?_
    refine WO.op rfl rfl ?_
    refine WO.op rfl rfl (WO.nil (W.region ?_))
    refine WO.op rfl rfl ?_
    refine WO.op rfl rfl ?_
    refine WO.call rfl (less_1 (gA (!sw)) (gA sw) q p (gH p q sw) 85 85 (gH_ne sw).symm hB hA hlt hq) rfl ?_
    refine WO.heq (H' := gH (q - p) p (!sw)) (by rw [gH_swap, gH_set]) ?_
    have hne : q - p ≠ 0 := by omega
    refine WO.call rfl (odd_1 (gA (!sw)) (q - p) _ 85 (gH_a _ _ _) hne (by omega)) rfl ?_
    obtain ⟨_, e1, e2, e3⟩ := oddp_spec hne (by omega : q - p < B64)
    have hst := gcd_step op hlt hq
    refine WO.heq (H' := gH (oddp (q - p)) p (!sw)) (gH_set _ _ _ _) ?_
    refine WO.op rfl rfl (WO.nil ⟨(oddp (q - p), p, !sw), ⟨e1, op, by simp only; omega, hp, ?_⟩, by simp only; omega, fits_fr ⟨rfl, by cases sw <;> rfl, rfl, trivial⟩, rfl⟩)
    rw [← hgc, Nat.gcd_comm p q]
    exact hst
  · subst heq
    have hcn : cmpN p p = 0 := by unfold cmpN; rw [if_neg (Nat.lt_irrefl _), if_neg (Nat.lt_irrefl _)]
    rw [hcn]
    refine WO.nil (W.block (W.seq (W.region ?_)))
    refine WO.op rfl rfl ?_
    refine WO.op rfl rfl (WO.nil (W.cond (b := true) rfl (fun _ => W.seq (W.region ?_)) (fun h => by cases h)))
    refine WO.op rfl rfl ?_
    refine WO.call rfl (made_1 (gA sw) p none _ _ hA hp0) rfl ?_
    refine WO.op rfl rfl ?_
    refine WO.call rfl (bit_1 k hk _) rfl ?_
    refine WO.seal1 (id := gA sw) (t := 23) (a' := .obj (.np p)) (by decide) hA rfl (fun c w v hv => ?_) ?_ ?_
    · have hv' : VR c w (.ip [.sl (gA sw) 0 1 none 1] 0 false) v := hv
      cases hv' with
      | ip _ _ _ b o g hcl hF hcell hh =>
        have hh0 := hh 0 _ rfl
        generalize g 0 = u at hh0
        cases hh0 with
        | sl _ _ _ _ _ b o ca h => exact ⟨_, h⟩
    · show Seals _ (.ip [.sl (gA sw) 0 1 none 1] 0 false) _
      exact seals_np (l := [p]) (by rw [only_at]; exact hA) (Nat.le_refl _) (lims_small hp hp0).symm
    refine WO.call rfl (mul_np p (2 ^ k) (fit_small hp) (fit_small (pow_lt64 hk)) _) rfl ?_
    refine WO.op rfl rfl (WO.nil (W.ret ⟨trivial, _, rfl, ?_⟩))
    rw [← hgc, Nat.gcd_self, Nat.mul_comm]
    exact Seals.same _ rfl
  · have hcn : cmpN p q = 1 := by unfold cmpN; rw [if_neg (by omega), if_pos hgt]
    rw [hcn]
    refine WO.nil (W.block (W.seq (W.region ?_)))
    refine WO.op rfl rfl ?_
    refine WO.op rfl rfl (WO.nil (W.cond (b := false) rfl (fun h => by cases h) (fun _ => W.seq (W.region ?_))))
    refine WO.op rfl rfl ?_
    refine WO.op rfl rfl (WO.nil (W.cond (b := false) rfl (fun h => by cases h) (fun _ => W.skip (W.region ?_))))
    refine WO.op rfl rfl ?_
    refine WO.op rfl rfl ?_
    refine WO.call rfl (less_1 (gA sw) (gA (!sw)) p q (gH p q sw) 85 85 (gH_ne sw) hA hB hgt hp) rfl ?_
    refine WO.heq (H' := gH (p - q) q sw) (gH_set _ _ _ _) ?_
    have hne : p - q ≠ 0 := by omega
    refine WO.call rfl (odd_1 (gA sw) (p - q) _ 85 (gH_a _ _ _) hne (by omega)) rfl ?_
    obtain ⟨_, e1, e2, e3⟩ := oddp_spec hne (by omega : p - q < B64)
    have hst := gcd_step oq hgt hp
    refine WO.heq (H' := gH (oddp (p - q)) q sw) (gH_set _ _ _ _) ?_
    refine WO.op rfl rfl (WO.nil ⟨(oddp (p - q), q, sw), ⟨e1, oq, by simp only; omega, hq, hst.trans hgc⟩, by simp only; omega, fits_fr ⟨rfl, rfl, rfl, trivial⟩, rfl⟩)

end
end Go.AM.C

/- Contracts, 23: num: Mul. -/
namespace Go.AM.C
open Go.Proofs
noncomputable section
set_option linter.unusedVariables false
set_option linter.unusedSimpArgs false

theorem sign_mul_lt (x y : Int) : x.sign * y.sign < 0 ↔ x * y < 0 := by
  rw [← Int.sign_mul]
  exact sign_lt
theorem sign_range (x : Int) : x.sign = -1 ∨ x.sign = 0 ∨ x.sign = 1 := by
  rcases Int.lt_trichotomy x 0 with h | h | h
  · exact .inl (Int.sign_eq_neg_one_of_neg h)
  · subst h; exact .inr (.inl rfl)
  · exact .inr (.inr (Int.sign_eq_one_of_pos h))

theorem mulz {u v : AVal} {x y : Int} (hu : IsZ u x) (hv : IsZ v y) (hx : FitZ x) (hy : FitZ y) (H : Heap) : Has 30 [u, v] H (.obj (.zp (x * y))) H := by
  obtain ⟨b, hb⟩ : ∃ b, b = decide (x * y < 0) := ⟨_, rfl⟩
  have hres : x * y = sz b (x.natAbs * y.natAbs) := by
    rw [← Int.natAbs_mul]
    unfold sz
    by_cases h : x * y < 0
    · rw [hb, decide_eq_true h]; simp only [cond_true]; omega
    · rw [hb, decide_eq_false h]; simp only [cond_false]; omega
  refine does_pure s0 (show S0.fn 30 = some Tryz.f30 by kernel_rfl) rfl (by kernel_rfl) (Nat.le_of_ble_eq_true rfl) (by simp [hu.cl, hv.cl]) rfl ?_
  refine W.seq (W.region ?_)
  refine WO.op rfl rfl (WO.nil (W.seq (W.region ?_)))
  refine WO.op rfl rfl ?_
  refine WO.call rfl (signz hu _) rfl ?_
  refine WO.op rfl rfl ?_
  refine WO.call rfl (signz hv _) rfl ?_
  refine WO.as (v' := .int .i64 (x.sign * y.sign)) rfl rfl (int_i64 ?_ rfl) ?_
  · rcases sign_range x with h | h | h <;> rcases sign_range y with k | k | k <;> rw [h, k] <;> decide
  refine WO.as (v' := .bool b) rfl rfl ((bdE (sign_mul_lt x y)).trans (by rw [hb])) ?_
  refine WO.op rfl rfl ?_
  refine WO.call rfl (absz hu _) rfl ?_
  refine WO.op rfl rfl ?_
  refine WO.call rfl (absz hv _) rfl ?_
  refine WO.call rfl (mul_np _ _ hx hy _) rfl ?_
  refine WO.call rfl (new_zp _ _ _) rfl ?_
  refine WO.op rfl rfl (WO.nil (W.ret ⟨trivial, _, rfl, ?_⟩))
  rw [hres]
  simp only [sz_abs]
  exact Seals.same _ rfl
end
end Go.AM.C

/- Contracts, 18: what closed runs go by: numbers. -/
namespace Go.AM.C
open Go.Proofs
noncomputable section
set_option linter.unusedVariables false
set_option linter.unusedSimpArgs false

noncomputable def memN : List Nat → Nat → Bool
  | [], _ => false
  | a :: l, n => bif Nat.beq a n then true else memN l n
/-- Functions that look at memory that others write. -/
noncomputable def impureL : List Nat := [88, 92, 104, 112, 141, 143, 144, 186, 301, 302]
/-- Types whose boxes are written. -/
noncomputable def writtenL : List Nat := [197, 227, 235, 217, 342]
noncomputable def SC (l : List Ent) : Sg := mkS Tryz.prog (tiOf Tryz.prog) (memN writtenL) globF pinF (fun f => !memN impureL f) true l
theorem sc_sound {l : List Ent} (h : AllE Tryz.prog (SC l) l) : Sound Tryz.prog (SC l) := mkS_sound mixed (fun t i h => h) h globF_ok
theorem sc_glob (l : List Ent) : (SC l).glob = S0.glob := (show (SC l).glob = globF from rfl).trans (show globF = S0.glob from rfl)
theorem sc_pin (l : List Ent) : (SC l).pin = S0.pin := (show (SC l).pin = pinF from rfl).trans (show pinF = S0.pin from rfl)
theorem Has.sc {l : List Ent} {f : FuncId} {args : List AVal} {H H' : Heap} {v : AVal} (h : Has f args H v H') : DoesC Tryz.prog (SC l) f args H v H' := DoesC.glob (sc_glob l) (sc_pin l) h
theorem Has.un {l : List Ent} {f : FuncId} {args : List AVal} {H H' : Heap} {v : AVal} (h : DoesC Tryz.prog (SC l) f args H v H') : Has f args H v H' := DoesC.glob (sc_glob l).symm (sc_pin l).symm h

noncomputable def natSm (n : Nat) : Bool := Nat.blt n.log2 68719476736
theorem natSm_fit {n : Nat} (h : natSm n = true) : Fit n := fit_of_log (by simpa [natSm, Nat.blt_eq] using h)
noncomputable def npV (n : Nat) : Option AVal := fNat n fun n => some (.obj (.np n))
theorem npV_eq (n : Nat) : npV n = some (.obj (.np n)) := by unfold npV; rw [fNat_eq]

noncomputable def zeroG (n : Nat) : Option AVal := some (.bool (Nat.beq n 0))
noncomputable def smallG (n : Nat) : Option AVal := bif Nat.blt n 18446744073709551616 then some (.tup [.int .u64 (n : Int), .bool true]) else some (.tup [.int .u64 0, .bool false])
noncomputable def limbsX : Ext := fun args H => match args with
  | [.obj (.np n)] => some (.isl (limbs n) 0 (limbs n).length none true, H)
  | _ => none
noncomputable def cmpG (n m : Nat) : Option AVal := bif natSm n && natSm m then (bif Nat.blt n m then some (.int .i64 (-1)) else bif Nat.blt m n then some (.int .i64 1) else some (.int .i64 0)) else none
noncomputable def addG (n m : Nat) : Option AVal := bif natSm n && natSm m then npV (Nat.add n m) else none
noncomputable def mulG (n m : Nat) : Option AVal := bif natSm n && natSm m then npV (Nat.mul n m) else none
noncomputable def subG (n m : Nat) : Option AVal := bif natSm n && natSm m then (bif Nat.blt n m then some (.tup [.nilp, errA 2]) else fNat (Nat.sub n m) fun d => some (.tup [.obj (.np d), .nili])) else none
noncomputable def ofX : Ext := fun args H => match args with
  | [.int .u64 (.ofNat k)] => bif Nat.blt k 18446744073709551616 then (match npV k with
    | some v => some (v, H)
    | none => none) else none
  | _ => none

theorem zeroG_ok (n : Nat) (v : AVal) (h : zeroG n = some v) (H : Heap) : Has 47 [.obj (.np n)] H v H := by
  unfold zeroG at h
  cases h
  have : Nat.beq n 0 = decide (n = 0) := by rw [Bool.eq_iff_iff]; simp
  rw [this]
  exact zero_np n H
theorem blt_lt {n m : Nat} : Nat.blt n m = true ↔ n < m := by rw [Nat.blt_eq]
theorem blt_ge {n m : Nat} : Nat.blt n m = false ↔ ¬ n < m := by rw [← Bool.not_eq_true, blt_lt]
theorem smallG_ok (n : Nat) (v : AVal) (h : smallG n = some v) (H : Heap) : Has 150 [.obj (.np n)] H v H := by
  have hs := small_np n H
  unfold smallG at h
  cases hb : Nat.blt n 18446744073709551616 with
  | true =>
    rw [hb] at h
    cases h
    have : n < B64 := blt_lt.1 hb
    rw [if_pos this, decide_eq_true this] at hs
    exact hs
  | false =>
    rw [hb] at h
    cases h
    have : ¬ n < B64 := blt_ge.1 hb
    rw [if_neg this, decide_eq_false this] at hs
    exact hs
theorem cmpG_ok (n m : Nat) (v : AVal) (h : cmpG n m = some v) (H : Heap) : Has 61 [.obj (.np n), .obj (.np m)] H v H := by
  unfold cmpG at h
  cases hb : natSm n && natSm m with
  | false => rw [hb] at h; cases h
  | true =>
    rw [hb] at h
    rw [Bool.and_eq_true] at hb
    have hc := cmp_np n m (natSm_fit hb.1) (natSm_fit hb.2) H
    unfold cmpN at hc
    simp only [cond_true] at h
    cases h1 : Nat.blt n m with
    | true => rw [h1] at h; cases h; rw [if_pos (blt_lt.1 h1)] at hc; exact hc
    | false =>
      rw [h1, cond_false] at h
      rw [if_neg (blt_ge.1 h1)] at hc
      cases h2 : Nat.blt m n with
      | true => rw [h2] at h; cases h; rw [if_pos (blt_lt.1 h2)] at hc; exact hc
      | false => rw [h2] at h; cases h; rw [if_neg (blt_ge.1 h2)] at hc; exact hc
theorem addG_ok (n m : Nat) (v : AVal) (h : addG n m = some v) (H : Heap) : Has 60 [.obj (.np n), .obj (.np m)] H v H := by
  unfold addG at h
  cases hb : natSm n && natSm m with
  | false => rw [hb] at h; cases h
  | true =>
    rw [hb, cond_true, npV_eq] at h
    rw [Bool.and_eq_true] at hb
    cases h
    exact add_np n m (natSm_fit hb.1) (natSm_fit hb.2) H
theorem mulG_ok (n m : Nat) (v : AVal) (h : mulG n m = some v) (H : Heap) : Has 63 [.obj (.np n), .obj (.np m)] H v H := by
  unfold mulG at h
  cases hb : natSm n && natSm m with
  | false => rw [hb] at h; cases h
  | true =>
    rw [hb, cond_true, npV_eq] at h
    rw [Bool.and_eq_true] at hb
    cases h
    exact mul_np n m (natSm_fit hb.1) (natSm_fit hb.2) H
theorem subG_ok (n m : Nat) (v : AVal) (h : subG n m = some v) (H : Heap) : Has 134 [.obj (.np n), .obj (.np m)] H v H := by
  unfold subG at h
  cases hb : natSm n && natSm m with
  | false => rw [hb] at h; cases h
  | true =>
    rw [hb, cond_true] at h
    rw [Bool.and_eq_true] at hb
    have hc := sub_np n m (natSm_fit hb.1) (natSm_fit hb.2) H
    cases h1 : Nat.blt n m with
    | true => rw [h1] at h; cases h; rw [if_pos (blt_lt.1 h1)] at hc; exact hc
    | false => rw [h1, cond_false, fNat_eq] at h; cases h; rw [if_neg (blt_ge.1 h1)] at hc; exact hc
theorem limbsX_ok (S : Sg) (hg : S.glob = S0.glob) (hp : S.pin = S0.pin) : ExtAt Tryz.prog S 84 limbsX := by
  intro args H v H' hx
  unfold limbsX at hx
  split at hx
  · cases hx; exact DoesC.glob hg hp (limbs_np _ _)
  · cases hx
theorem ofX_ok (S : Sg) (hg : S.glob = S0.glob) (hp : S.pin = S0.pin) : ExtAt Tryz.prog S 59 ofX := by
  intro args H v H' hx
  unfold ofX at hx
  split at hx
  · rename_i k
    cases hb : Nat.blt k 18446744073709551616 with
    | false => rw [hb] at hx; cases hx
    | true =>
      rw [hb, cond_true, npV_eq] at hx
      cases hx
      exact DoesC.glob hg hp (of_np k (blt_lt.1 hb) _)
  · cases hx

/-! #### num -/
noncomputable def intOf : AVal → Option Int
  | .obj (.zp z) => some z
  | .nilp => some 0
  | .ip [.bool b, v] 0 true => match natOf v with
    | some n => match n with
      | 0 => bif b then none else some 0
      | m + 1 => bif b then some (.negSucc m) else some (.ofNat (Nat.succ m))
    | none => none
  | _ => none
theorem intOf_wk {v : AVal} {z : Int} (h : intOf v = some z) : ∃ v0, IsZ v0 z ∧ Wk v v0 := by
  unfold intOf at h
  split at h
  · cases h; exact ⟨_, IsZ.mk _, Wk.refl _⟩
  · cases h; exact ⟨_, IsZ.nil, Wk.refl _⟩
  · rename_i b v
    have step : ∀ {n : Nat}, natOf v = some n → ∀ {z : Int}, b = decide (z < 0) → n = z.natAbs → Wk (.ip [.bool b, v] 0 true) (.obj (.zp z)) := fun hn z hb hz => by
      refine Wk.trans ?_ (wk_zp (n := _) hb hz)
      refine Wk.ip (cl' := true) rfl (fun j x y hx hy => ?_) (fun _ a ha => ?_)
      · match j with
        | 0 => cases hx; cases hy; exact Wk.refl _
        | 1 => cases hx; cases hy; exact natOf_wk hn
        | j + 2 => simp at hx
      · simp only [List.mem_cons, List.not_mem_nil, or_false] at ha
        rcases ha with rfl | rfl <;> rfl
    split at h
    · rename_i n hn
      split at h
      · cases b with
        | true => cases h
        | false => cases h; exact ⟨_, IsZ.mk _, step hn rfl rfl⟩
      · rename_i m
        cases b with
        | true => cases h; exact ⟨_, IsZ.mk _, step hn (by simp) rfl⟩
        | false => cases h; exact ⟨_, IsZ.mk _, step hn (by symm; rw [decide_eq_false_iff_not]; show ¬ ((m + 1 : Nat) : Int) < 0; omega) rfl⟩
    · cases h
  · cases h
noncomputable def zpV (z : Int) : Option AVal := fInt z fun z => some (.obj (.zp z))
theorem zpV_eq (z : Int) : zpV z = some (.obj (.zp z)) := by unfold zpV; rw [fInt_eq]
noncomputable def int1 (g : Int → Option AVal) : Ext := fun args H => match args with
  | [x] => match intOf x with
    | some n => match g n with
      | some v => some (v, H)
      | none => none
    | none => none
  | _ => none
noncomputable def int2 (g : Int → Int → Option AVal) : Ext := fun args H => match args with
  | [x, y] => match intOf x with
    | some n => match intOf y with
      | some m => match g n m with
        | some v => some (v, H)
        | none => none
      | none => none
    | none => none
  | _ => none
theorem int1_ok {S : Sg} {f : FuncId} {g : Int → Option AVal} (h : ∀ x n v, g n = some v → IsZ x n → ∀ H, DoesC Tryz.prog S f [x] H v H) : ExtAt Tryz.prog S f (int1 g) := by
  intro args H v H' hx
  unfold int1 at hx
  split at hx
  · split at hx
    · rename_i n hn
      split at hx
      · rename_i v' hv
        cases hx
        obtain ⟨v0, h0, hw⟩ := intOf_wk hn
        exact DoesC.arg1 hw (h v0 n v hv h0 H)
      · cases hx
    · cases hx
  · cases hx
theorem int2_ok {S : Sg} {f : FuncId} {g : Int → Int → Option AVal} (h : ∀ x y n m v, g n m = some v → IsZ x n → IsZ y m → ∀ H, DoesC Tryz.prog S f [x, y] H v H) : ExtAt Tryz.prog S f (int2 g) := by
  intro args H v H' hx
  unfold int2 at hx
  split at hx
  · split at hx
    · rename_i n hn
      split at hx
      · rename_i m hm
        split at hx
        · rename_i v' hv
          cases hx
          obtain ⟨v0, h0, hw⟩ := intOf_wk hn
          obtain ⟨u0, k0, kw⟩ := intOf_wk hm
          exact DoesC.arg2 hw kw (h v0 u0 n m v hv h0 k0 H)
        · cases hx
      · cases hx
    · cases hx
  · cases hx

noncomputable def absG (z : Int) : Option AVal := npV z.natAbs
noncomputable def signG (z : Int) : Option AVal := some (.int .i64 z.sign)
noncomputable def negG (z : Int) : Option AVal := zpV (-z)
noncomputable def zaddG (x y : Int) : Option AVal := bif smallB x && smallB y then zpV (x + y) else none
noncomputable def zsubG (x y : Int) : Option AVal := bif smallB x && smallB y then zpV (x - y) else none
noncomputable def zmulG (x y : Int) : Option AVal := bif smallB x && smallB y then zpV (x * y) else none
noncomputable def zcmpG (x y : Int) : Option AVal := bif smallB x && smallB y then some (.int .i64 (x - y).sign) else none
noncomputable def zsmallG (z : Int) : Option AVal := match small64 z with
  | true => some (.tup [.int .i64 z, .bool true])
  | false => some (.tup [.int .i64 0, .bool false])
noncomputable def zofX : Ext := fun args H => match args with
  | [.int .i64 z] => match small64 z with
    | true => match zpV z with
      | some v => some (v, H)
      | none => none
    | false => none
  | _ => none
noncomputable def znewX : Ext := fun args H => match args with
  | [.bool b, x] => match natOf x with
    | some n => match zpV (sz b n) with
      | some v => some (v, H)
      | none => none
    | none => none
  | _ => none
theorem zofX_ok (S : Sg) (hg : S.glob = S0.glob) (hp : S.pin = S0.pin) : ExtAt Tryz.prog S 62 zofX := by
  intro args H v H' hx
  unfold zofX at hx
  split at hx
  · rename_i z
    cases hb : small64 z with
    | false => rw [hb] at hx; cases hx
    | true =>
      rw [hb] at hx
      simp only [zpV_eq] at hx
      cases hx
      refine DoesC.glob hg hp (ofz z ?_ _)
      unfold small64 at hb
      rw [Bool.and_eq_true, decide_eq_true_eq, decide_eq_true_eq] at hb
      exact hb
  · cases hx
theorem znewX_ok (S : Sg) (hg : S.glob = S0.glob) (hp : S.pin = S0.pin) : ExtAt Tryz.prog S 49 znewX := by
  intro args H v H' hx
  unfold znewX at hx
  split at hx
  · rename_i b x
    split at hx
    · rename_i n hn
      simp only [zpV_eq] at hx
      cases hx
      exact DoesC.arg2 (Wk.refl _) (natOf_wk hn) (DoesC.glob hg hp (new_zp b n _))
    · cases hx
  · cases hx
theorem zcond {x y : Int} {o : Option AVal} {v : AVal} (h : (bif smallB x && smallB y then o else none) = some v) : FitZ x ∧ FitZ y ∧ o = some v := by
  cases hb : smallB x && smallB y with
  | false => rw [hb] at h; cases h
  | true =>
    rw [hb] at h
    rw [Bool.and_eq_true] at hb
    exact ⟨smallB_fit hb.1, smallB_fit hb.2, h⟩
theorem zsmallG_ok {x : AVal} {z : Int} {v : AVal} (h : zsmallG z = some v) (hx : IsZ x z) (H : Heap) : Has 151 [x] H v H := by
  have hs := smallz hx H
  unfold zsmallG at h
  unfold smallA at hs
  cases hb : small64 z with
  | true => rw [hb] at h hs; cases h; exact hs
  | false => rw [hb] at h hs; cases h; exact hs

noncomputable def qNo (x : Ext) (f : FuncId) : Ent := ⟨f, x, false, fun h => by cases h⟩
/-- What all closed runs go by. -/
noncomputable def base : List Ent := [
  qNo limbsX 84, qNo ofX 59, qNo (nat1 zeroG) 47, qNo (nat1 smallG) 150, qNo (nat2 cmpG) 61,
  qNo (nat2 mulG) 63, qNo (nat2 addG) 60, qNo (nat2 subG) 134,
  qNo zofX 62, qNo znewX 49, qNo (int1 absG) 55, qNo (int1 signG) 54, qNo (int1 negG) 52,
  qNo (int2 zaddG) 87, qNo (int2 zsubG) 133, qNo (int2 zmulG) 30, qNo (int2 zcmpG) 86, qNo (int1 zsmallG) 151,
  qNo add64X 102, qNo sub64X 189, qNo idxByteX 247, qNo cntByteX 311, qNo joinX 93, qNo repX 57, qNo codeX 269]
theorem base_ok (S : Sg) (hg : S.glob = S0.glob) (hp : S.pin = S0.pin) : AllE Tryz.prog S base :=
  ⟨limbsX_ok S hg hp, ofX_ok S hg hp, nat1_ok fun n v h H => DoesC.glob hg hp (zeroG_ok n v h H), nat1_ok fun n v h H => DoesC.glob hg hp (smallG_ok n v h H), nat2_ok fun n m v h H => DoesC.glob hg hp (cmpG_ok n m v h H),
   nat2_ok (g := mulG) fun n m v h H => DoesC.glob hg hp (mulG_ok n m v h H), nat2_ok (g := addG) fun n m v h H => DoesC.glob hg hp (addG_ok n m v h H), nat2_ok fun n m v h H => DoesC.glob hg hp (subG_ok n m v h H), zofX_ok S hg hp, znewX_ok S hg hp,
   int1_ok (g := absG) fun x n v h hx H => DoesC.glob hg hp (by unfold absG at h; rw [npV_eq] at h; cases h; exact absz hx H),
   int1_ok (g := signG) fun x n v h hx H => DoesC.glob hg hp (by unfold signG at h; cases h; exact signz hx H),
   int1_ok (g := negG) fun x n v h hx H => DoesC.glob hg hp (by unfold negG at h; rw [zpV_eq] at h; cases h; exact negz hx H),
   int2_ok (g := zaddG) fun x y n m v h hx hy H => DoesC.glob hg hp (by obtain ⟨h1, h2, h3⟩ := zcond h; rw [zpV_eq] at h3; cases h3; exact addz hx hy h1 h2 H),
   int2_ok (g := zsubG) fun x y n m v h hx hy H => DoesC.glob hg hp (by obtain ⟨h1, h2, h3⟩ := zcond h; rw [zpV_eq] at h3; cases h3; exact subz hx hy h1 h2 H),
   int2_ok (g := zmulG) fun x y n m v h hx hy H => DoesC.glob hg hp (by obtain ⟨h1, h2, h3⟩ := zcond h; rw [zpV_eq] at h3; cases h3; exact mulz hx hy h1 h2 H),
   int2_ok (g := zcmpG) fun x y n m v h hx hy H => DoesC.glob hg hp (by obtain ⟨h1, h2, h3⟩ := zcond h; cases h3; exact cmpz hx hy h1 h2 H),
   int1_ok (g := zsmallG) fun x n v h hx H => DoesC.glob hg hp (zsmallG_ok h hx H),
   addc_ok S, subb_ok S, idxX_ok S, cntX_ok S, joinX_ok S hg, repX_ok S hg, codeX_ok S hg hp, trivial⟩
end
end Go.AM.C

/- Contracts, 32: common, as closed runs may use it. -/
namespace Go.AM.C
open Go.Proofs
noncomputable section
set_option linter.unusedVariables false
set_option linter.unusedSimpArgs false

noncomputable def oneL (x : Nat) : Bool := Nat.ble 1 x && Nat.blt x 18446744073709551616
theorem oneL_ok {x : Nat} (h : oneL x = true) : x ≠ 0 ∧ x < B64 := by
  unfold oneL at h
  rw [Bool.and_eq_true] at h
  exact ⟨by have := Nat.le_of_ble_eq_true h.1; omega, blt_lt.1 h.2⟩
noncomputable def commonX : Ext := fun args H => match args with
  | [.isl [.int .u64 (.ofNat x)] 0 1 none true, .isl [.int .u64 (.ofNat y)] 0 1 none true] => bif oneL x && oneL y then (match npV (Nat.gcd x y) with
    | some v => some (v, H)
    | none => none) else none
  | _ => none
theorem commonX_ok (S : Sg) (hg : S.glob = S0.glob) (hp : S.pin = S0.pin) : ExtAt Tryz.prog S 132 commonX := by
  intro args H v H' hx
  unfold commonX at hx
  split at hx
  · rename_i x y
    cases hb : oneL x && oneL y with
    | false => rw [hb] at hx; cases hx
    | true =>
      rw [hb, cond_true, npV_eq] at hx
      rw [Bool.and_eq_true] at hb
      obtain ⟨hx0, hx1⟩ := oneL_ok hb.1
      obtain ⟨hy0, hy1⟩ := oneL_ok hb.2
      cases hx
      exact DoesC.glob hg hp (common_1 x y hx0 hy0 hx1 hy1 _)
  · cases hx
end
end Go.AM.C

