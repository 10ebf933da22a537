/- Part of a proof over the program's translation: Contracts, 29: numbers of one limb: twos, odd, less, bit, Clone.; Contracts, 30: numbers of one limb: less, bit, Clone, common: the greatest common divisor.; Contracts, 31: common: the greatest common divisor of numbers of one limb. .. -/
import Derived.Lib.TrailingZeros
import Derived.Test.YtooafhbgdhjijaaGreatDoorA8
import Derived.Test.YtooafhbgdhjijaaGreatDoorN4
noncomputable section
/- Contracts, 29: numbers of one limb: twos, odd, less, bit, Clone. -/
namespace Go.AM.C
open Go.Proofs
noncomputable section
set_option linter.unusedVariables false
set_option linter.unusedSimpArgs false

theorem tA64 : S0.ty 456 = some ti456 := rfl
theorem tA8 : S0.ty 5 = some ti5 := rfl
def ntz (x : Nat) : Nat := Lib.ctz 64 x
theorem ntz_lt {x : Nat} (h0 : x ≠ 0) (hx : x < B64) : ntz x < 64 := (Lib.lowest_bit 64 x h0 hx).2
theorem ntz_spec {x : Nat} (h0 : x ≠ 0) (hx : x < B64) : ∃ m, x = 2 ^ ntz x * (2 * m + 1) := by
  have e : ntz x = Lib.ctzFrom 64 x := by unfold ntz Lib.ctz; rw [if_neg h0]
  rw [e]
  obtain ⟨m, hm, _⟩ := Lib.ctzFrom_spec 64 x (by omega) hx
  exact ⟨m, hm⟩

theorem bruijn_at {j : Nat} (h : j < 64) : bruijn[j]? = some (.int .u8 ((Lib.deBruijn64tab.getD j 0 : Nat) : Int)) := by
  have : bruijn = Lib.deBruijn64tab.map fun k => .int .u8 ((k : Nat) : Int) := rfl
  rw [this, List.getElem?_map, List.getD_eq_getElem?_getD]
  have hl : j < Lib.deBruijn64tab.length := h
  rw [List.getElem?_eq_getElem hl]
  rfl
theorem tab_small : ∀ j, j < 64 → Lib.deBruijn64tab.getD j 0 < 64 := by decide

theorem and_u64 {x y : Nat} (hx : x < B64) (hy : y < B64) : wrapI .u64 ((BitVec.ofInt 64 (x : Int) &&& BitVec.ofInt 64 (y : Int)).toNat : Int) = ((x &&& y : Nat) : Int) := by
  have e : (BitVec.ofInt 64 (x : Int) &&& BitVec.ofInt 64 (y : Int)).toNat = x &&& y := by
    rw [BitVec.toNat_and, BitVec.ofInt_natCast, BitVec.ofInt_natCast, BitVec.toNat_ofNat, BitVec.toNat_ofNat, Nat.mod_eq_of_lt hx, Nat.mod_eq_of_lt hy]
  rw [e]
  have : x &&& y ≤ x := Nat.and_le_left
  exact wrap_u64 (by unfold B64 at hx; omega)

theorem ntz_ex (x : Nat) (h0 : x ≠ 0) (hx : x < B64) : ∃ ng pw pr j : Nat, wrapI .u64 (0 - (x : Int)) = (ng : Int) ∧ wrapI .u64 ((BitVec.ofInt 64 (x : Int) &&& BitVec.ofInt 64 (ng : Int)).toNat : Int) = (pw : Int) ∧
    wrapI .u64 ((pw : Int) * 285870213051353865) = (pr : Int) ∧ Int.fdiv (pr : Int) 288230376151711744 = (j : Int) ∧ j < 64 ∧ bruijn[j]? = some (.int .u8 (ntz x : Int)) ∧ ntz x < 64 := by
  have hlb := Lib.lowest_bit 64 x h0 hx
  have hd := Lib.deBruijn64_at (Lib.ctz 64 x) hlb.2
  have hx' : x < 18446744073709551616 := hx
  refine ⟨2 ^ 64 - x, 2 ^ ntz x, 2 ^ ntz x * 285870213051353865 % 18446744073709551616, 2 ^ ntz x * 285870213051353865 % 18446744073709551616 / 288230376151711744, ?_, ?_, ?_, ?_, hd.1, ?_, hlb.2⟩
  · unfold wrapI; simp only; omega
  · rw [show 2 ^ ntz x = x &&& (2 ^ 64 - x) from hlb.1.symm]
    exact and_u64 hx (by unfold B64; omega)
  · unfold wrapI; simp only; rw [Int.natCast_emod, Int.natCast_mul]; rfl
  · generalize 2 ^ ntz x * 285870213051353865 % 18446744073709551616 = m
    rw [Int.fdiv_eq_ediv_of_nonneg _ (by decide)]
    rw [Int.natCast_ediv]; rfl
  · exact (bruijn_at hd.1).trans (by rw [hd.2]; rfl)

theorem idx_bruijn {call : Calling} {j : Nat} (h : j < 64) : withH [] (elemAddr S0 456 (.ip bruijn 0 true) (j : Int)) = some (.ip bruijn (0 + j * 1) true, []) := by
  simp only [elemAddr, tA64]
  show withH [] (match S0.ty 5 with | some te => if 0 ≤ (j : Int) ∧ (j : Int) < ((64 : Nat) : Int) then ptrAdd (.ip bruijn 0 true) ((j : Int).toNat * te.size) else none | none => none) = _
  simp only [tA8]
  rw [if_pos ⟨by omega, by omega⟩]
  rfl
theorem ntz_has (x : Nat) (h0 : x ≠ 0) (hx : x < B64) (H : Heap) : Has 369 [.int .u64 (x : Int)] H (.int .i64 (ntz x : Int)) H := by
  obtain ⟨ng, pw, pr, j, h1, h2, h3, h4, h5, h6, h7⟩ := ntz_ex x h0 hx
  generalize ntz x = k at *
  refine does_pure s0 (show S0.fn 369 = some Tryz.f369 by kernel_rfl) rfl (by kernel_rfl) (Nat.le_of_ble_eq_true rfl) rfl rfl ?_
  refine W.seq (W.region ?_)
  repeat refine WO.op rfl rfl ?_
  refine WO.nil (W.seq (W.seq (W.region ?_)))
  refine WO.op rfl rfl ?_
  refine WO.as (v' := .bool false) rfl rfl (bdF (by omega)) (WO.nil (W.cond (b := false) rfl (fun h => by cases h) (fun _ => W.skip (W.seq (W.region ?_)))))
  refine WO.op rfl rfl ?_
  refine WO.op rfl rfl ?_
  refine WO.as (v' := .int .u64 (ng : Int)) rfl rfl (int_eq h1) ?_
  refine WO.as (v' := .int .u64 (pw : Int)) rfl rfl (int_eq h2) ?_
  refine WO.as (v' := .int .u64 (pr : Int)) rfl rfl (int_eq h3) ?_
  refine WO.as (v' := .int .u64 (j : Int)) rfl rfl (int_eq h4) ?_
  refine WO.op (v := .ip bruijn (0 + j * 1) true) (H1 := []) (idx_bruijn (call := callS S0) h5) rfl ?_
  refine WO.op (G.load_ip (v := .int .u8 (k : Int)) rfl tA8 rfl (by rw [show 0 + j * 1 = j by omega]; exact h6)) rfl ?_
  refine WO.as (v' := .int .i64 (k : Int)) rfl rfl (int_i64 (by omega) rfl) ?_
  exact WO.op rfl rfl (WO.nil (W.ret ⟨trivial, _, rfl, Seals.same _ rfl⟩))

/-! #### a row of one limb -/
theorem slu_1 {id x : Nat} {H : Heap} {ty : TypeId} {cap : Option Nat} (hH : H[id]? = some (.cells (u64s [x]) ty)) : SlU S0 33 H (.sl id 0 1 cap 1) [x] :=
  SlU.sl (l := [x]) tU rfl tu rfl hH (Nat.le_refl _)
theorem at_1 {id x : Nat} {H : Heap} {ty : TypeId} (hH : H[id]? = some (.cells (u64s [x]) ty)) {cap : Option Nat} : elemAddr S0 33 (.sl id 0 1 cap 1) ((0 : Nat) : Int) = some (.ptr id 0) := by
  rfl
theorem made_1 (id x : Nat) (cap : Option Nat) (H : Heap) (ty : TypeId) (hH : H[id]? = some (.cells (u64s [x]) ty)) (hx : x ≠ 0) : Has 106 [.sl id 0 1 cap 1] H (.ip [.sl id 0 1 cap 1] 0 false) H := by
  refine does_run s0 (show S0.fn 106 = some Tryz.f106 by kernel_rfl) rfl (by kernel_rfl) (Nat.le_of_ble_eq_true rfl) ?_
  refine W.seq (W.region ?_)
  repeat refine WO.op rfl rfl ?_
  refine WO.nil (W.seq (W.block (W.fits (F' := fr [(0, .sl id 0 1 cap 1)]) (fits_fr ⟨rfl, trivial⟩) ?_)))
  refine W.loopI (fun _ : Unit => True) (fun _ => 0) (fun _ => fr [(0, .sl id 0 1 cap 1)]) (fun _ => H) ?_ () trivial
  intro _ _
  refine W.seq (W.seq (W.region ?_))
  refine WO.op rfl rfl ?_
  refine WO.op rfl rfl ?_
  refine WO.as (v' := .bool true) rfl rfl rfl ?_
  refine WO.op rfl rfl ?_
  refine WO.op rfl rfl ?_
  refine WO.op rfl rfl ?_
  refine WO.op rfl rfl ?_
  refine WO.as (v' := .int .i64 ((0 : Nat) : Int)) rfl rfl rfl ?_
  refine WO.op (SlU.idxG rfl rfl (at_1 hH)) rfl ?_
  refine WO.op (G.load_ptr (v := .int .u64 (x : Int)) rfl tu rfl hH rfl) rfl ?_
  refine WO.as (v' := .bool false) rfl rfl (bdF (by omega)) ?_
  repeat refine WO.op rfl rfl ?_
  refine WO.nil (W.cond (b := false) rfl (fun h => by cases h) (fun _ => W.exit ?_))
  refine W.seq (W.region ?_)
  repeat refine WO.op rfl rfl ?_
  exact WO.nil (W.ret ⟨trivial, _, rfl, Wk.refl _, rfl⟩)

theorem twos_1 {H : Heap} {va : AVal} {x : Nat} (ha : SlU S0 33 H va [x]) (h0 : x ≠ 0) (hx : x < B64) : Has 346 [va] H (.int .i64 (ntz x : Int)) H := by
  have hlt := ntz_lt h0 hx
  obtain ⟨a1, a2, a3, ha1, ha2, ha3⟩ := ha.at_ 0 (by simp)
  have ha3 : a2[a3]? = some (.int .u64 (x : Int)) := ha3
  refine does_run s0 (show S0.fn 346 = some Tryz.f346 by kernel_rfl) rfl (by kernel_rfl) (Nat.le_of_ble_eq_true rfl) ?_
  refine W.seq (W.region ?_)
  repeat refine WO.op rfl rfl ?_
  refine WO.nil (W.seq (W.region ?_))
  repeat refine WO.op rfl rfl ?_
  refine WO.nil (W.seq (W.block (W.fits (F' := fr [(0, va), (3, .int .i64 ((0 : Nat) : Int))]) (fits_fr ⟨rfl, rfl, trivial⟩) ?_)))
  refine W.loopI (fun _ : Unit => True) (fun _ => 0) (fun _ => fr [(0, va), (3, .int .i64 ((0 : Nat) : Int))]) (fun _ => H) ?_ () trivial
  intro _ _
  refine W.seq (W.seq (W.region ?_))
  refine WO.op rfl rfl ?_
  refine WO.op rfl rfl ?_
  refine WO.op (SlU.idxG rfl rfl ha1) rfl ?_
  refine WO.op (SlU.loadG rfl tu rfl ha2 ha3) rfl ?_
  refine WO.as (v' := .bool false) rfl rfl (bdF (by omega)) ?_
  refine WO.nil (W.cond (b := false) rfl (fun h => by cases h) (fun _ => W.exit ?_))
  refine W.seq (W.region ?_)
  refine WO.op rfl rfl ?_
  refine WO.as (v' := .int .i64 ((0 : Nat) : Int)) rfl rfl rfl ?_
  refine WO.op rfl rfl ?_
  refine WO.op rfl rfl ?_
  refine WO.op (SlU.idxG rfl rfl ha1) rfl ?_
  refine WO.op (SlU.loadG rfl tu rfl ha2 ha3) rfl ?_
  refine WO.call rfl (ntz_has x h0 hx _) rfl ?_
  refine WO.as (v' := .int .i64 (ntz x : Int)) rfl rfl (int_i64 (by omega) (by omega)) ?_
  refine WO.op rfl rfl (WO.nil (W.ret ⟨trivial, _, rfl, Wk.refl _, rfl⟩))

theorem shr_ex (x k : Nat) (hk : k < 64) : Int.fdiv (x : Int) (2 ^ (min (k : Int).toNat 64)) = ((x / 2 ^ k : Nat) : Int) := by
  have : min (k : Int).toNat 64 = k := by simp; omega
  rw [this, show (2 : Int) ^ k = ((2 ^ k : Nat) : Int) by rw [Int.natCast_pow]; rfl]
  exact (Int.ofNat_fdiv x (2 ^ k)).symm
theorem shr_op {call : Calling} {d : Bool} {g : Operand → AVal} {H : Heap} {x y : Operand} {t yt : TypeId} {m k : Nat} (hx : g x = .int .u64 (m : Int)) (hy : g y = .int .i64 (k : Int)) (h : 0 ≤ k) :
    denG S0 call d g H (.binOp .shr t x y yt) = some (.int .u64 (Int.fdiv (m : Int) (2 ^ (min (k : Int).toNat 64))), H) := by
  simp only [denG, hx, hy]
  show withH H (shiftBin .shr .u64 (m : Int) (k : Int)) = _
  unfold shiftBin
  rw [if_neg (by omega)]
  rfl
theorem odd_1 (id x : Nat) (H : Heap) (ty : TypeId) (hH : H[id]? = some (.cells (u64s [x]) ty)) (h0 : x ≠ 0) (hx : x < B64) : Has 347 [.sl id 0 1 none 1] H (.sl id 0 1 none 1) (H.set id (.cells (u64s [x / 2 ^ ntz x]) ty)) := by
  have hlt := ntz_lt h0 hx
  have hne : x / 2 ^ ntz x ≠ 0 := by
    obtain ⟨m, hm⟩ := ntz_spec h0 hx
    have : 2 ^ ntz x ≤ x := Nat.le_trans (Nat.le_mul_of_pos_right _ (show 0 < 2 * m + 1 by omega)) (Nat.le_of_eq hm.symm)
    exact Nat.ne_of_gt (Nat.div_pos this (Nat.pow_pos (by decide)))
  have hid : id < H.length := (List.getElem?_eq_some_iff.1 hH).1
  have hH2 : (H.set id (.cells (u64s [x / 2 ^ ntz x]) ty))[id]? = some (.cells (u64s [x / 2 ^ ntz x]) ty) := by rw [List.getElem?_set_self hid]
  have hsh := shr_ex x (ntz x) hlt
  have htw := twos_1 (slu_1 (cap := none) hH) h0 hx
  have hq : AVal.int .i64 (wrapI .i64 ((ntz x : Int).tdiv 64)) = .int .i64 ((0 : Nat) : Int) := by
    have e : (ntz x : Int).tdiv 64 = ((ntz x / 64 : Nat) : Int) := (Int.ofNat_tdiv _ 64).symm
    rw [e]
    exact int_i64 (by omega) (by omega)
  have hr : (ntz x : Int).tmod 64 = (ntz x : Int) := by
    have e : (ntz x : Int).tmod 64 = ((ntz x % 64 : Nat) : Int) := (Int.ofNat_tmod _ 64).symm
    rw [e]
    omega
  generalize hy : x / 2 ^ ntz x = y at *
  generalize ntz x = k at *
  refine does_run s0 (show S0.fn 347 = some Tryz.f347 by kernel_rfl) rfl (by kernel_rfl) (Nat.le_of_ble_eq_true rfl) ?_
  refine W.seq (W.region ?_)
  repeat refine WO.op rfl rfl ?_
  refine WO.nil (W.seq (W.region ?_))
  refine WO.op rfl rfl ?_
  refine WO.call rfl htw rfl ?_
  refine WO.op rfl rfl (WO.nil (W.seq (W.region ?_)))
  refine WO.op rfl rfl ?_
  refine WO.op rfl rfl ?_
  refine WO.as (v' := .int .i64 ((0 : Nat) : Int)) rfl rfl (hq) ?_
  refine WO.op (G.slice_sl (l := 0) (h := 1) rfl tU rfl tu rfl ⟨_, rfl⟩ rfl (by omega) (by simp) (by simp)) rfl ?_
  refine WO.op rfl rfl ?_
  refine WO.as (v' := .int .i64 (k : Int)) rfl rfl (int_eq hr) ?_
  refine WO.op rfl rfl ?_
  refine WO.op rfl rfl (WO.nil (W.seq (W.seq (W.region ?_))))
  refine WO.op rfl rfl ?_
  refine WO.op ((slu_1 (cap := none) hH).lenG rfl rfl rfl) rfl ?_
  refine WO.op rfl rfl (WO.nil (W.block ?_))
  refine W.fits (F' := fr [(0, .sl id 0 1 none 1), (3, .int .i64 (k : Int)), (14, .int .i64 ((1 : Nat) : Int)), (15, .int .i64 ((0 : Nat) : Int))]) (fits_fr ⟨rfl, rfl, rfl, rfl, trivial⟩) ?_
  refine W.loopI (α := Bool) (fun _ => True) (fun b => if b then 0 else 1) (fun b => fr [(0, .sl id 0 1 none 1), (3, .int .i64 (k : Int)), (14, .int .i64 ((1 : Nat) : Int)), (15, .int .i64 (((if b then 1 else 0) : Nat) : Int))]) (fun b => if b then H.set id (.cells (u64s [y]) ty) else H) ?_ false trivial
  intro b _
  refine W.seq (W.region ?_)
  cases b with
  | false =>
    refine WO.as (v' := .bool true) rfl rfl rfl (WO.nil (W.seq (W.cond (b := true) rfl (fun _ => W.skip ?_) (fun h => by cases h))))
    refine W.heq (H' := H) rfl ?_
    refine W.seq (W.block (W.seq (W.region ?_)))
    refine WO.op rfl rfl ?_
    refine WO.op rfl rfl (WO.nil (W.seq (W.region ?_)))
    refine WO.op rfl rfl ?_
    refine WO.op rfl rfl ?_
    refine WO.op (SlU.idxG rfl rfl (at_1 hH)) rfl ?_
    refine WO.op (G.load_ptr (v := .int .u64 (x : Int)) rfl tu rfl hH rfl) rfl ?_
    refine WO.op rfl rfl ?_
    refine WO.as (v' := .int .u64 (y : Int)) (shr_op rfl rfl (Nat.zero_le _)) rfl (int_eq hsh) ?_
    refine WO.op (SlU.idxG rfl rfl (at_1 hH)) rfl ?_
    refine WO.op (G.store_ptr (v := .int .u64 (y : Int)) rfl rfl rfl tu rfl hH (by simp [u64s])) rfl (WO.nil (W.seq (W.region ?_)))
    refine WO.op rfl rfl ?_
    refine WO.op rfl rfl ?_
    refine WO.op rfl rfl ?_
    refine WO.op ((slu_1 (cap := none) hH2).lenG rfl rfl rfl) rfl ?_
    refine WO.as (v' := .bool false) rfl rfl rfl (WO.nil (W.cond (b := false) rfl (fun h => by cases h) (fun _ => W.skip ?_)))
    refine W.region ?_
    refine WO.as (v' := .int .i64 ((1 : Nat) : Int)) rfl rfl rfl ?_
    exact WO.op rfl rfl (WO.nil ⟨true, trivial, by decide, fits_fr ⟨rfl, rfl, rfl, rfl, trivial⟩, rfl⟩)
  | true =>
    refine WO.as (v' := .bool false) rfl rfl rfl (WO.nil (W.seq (W.cond (b := false) rfl (fun h => by cases h) (fun _ => W.exit ?_))))
    refine W.heq (H' := H.set id (.cells (u64s [y]) ty)) rfl ?_
    refine W.seq (W.region ?_)
    refine WO.op rfl rfl ?_
    refine WO.call rfl (made_1 id y none _ ty hH2 hne) rfl ?_
    repeat refine WO.op rfl rfl ?_
    exact WO.nil (W.ret ⟨trivial, _, rfl, Wk.refl _, rfl⟩)
end
end Go.AM.C

/- Contracts, 30: numbers of one limb: less, bit, Clone, common: the greatest common divisor. -/
namespace Go.AM.C
open Go.Proofs
noncomputable section
set_option linter.unusedVariables false
set_option linter.unusedSimpArgs false

theorem less_1 (i j x y : Nat) (H : Heap) (ty tj : TypeId) (hij : i ≠ j) (hI : H[i]? = some (.cells (u64s [x]) ty)) (hJ : H[j]? = some (.cells (u64s [y]) tj)) (hxy : y < x) (hx : x < B64) :
    Has 350 [.sl i 0 1 none 1, .sl j 0 1 none 1] H (.sl i 0 1 none 1) (H.set i (.cells (u64s [x - y]) ty)) := by
  have hid : i < H.length := (List.getElem?_eq_some_iff.1 hI).1
  have hH2 : (H.set i (.cells (u64s [x - y]) ty))[i]? = some (.cells (u64s [x - y]) ty) := by rw [List.getElem?_set_self hid]
  have hne : x - y ≠ 0 := by omega
  have hsub := sub64_has x y 0 (by omega)
  have e1 : (x + B64 - y - 0) % B64 = x - y := by
    have : x + B64 - y - 0 = (x - y) + B64 := by omega
    rw [this, Nat.add_mod_right, Nat.mod_eq_of_lt (by omega)]
  have e2 : (if x < y + 0 then 1 else 0 : Nat) = 0 := if_neg (by omega)
  rw [e1, e2] at hsub
  generalize x - y = z at *
  refine does_run s0 (show S0.fn 350 = some Tryz.f350 by kernel_rfl) rfl (by kernel_rfl) (Nat.le_of_ble_eq_true rfl) ?_
  refine W.seq (W.region ?_)
  repeat refine WO.op rfl rfl ?_
  refine WO.nil (W.seq (W.region ?_))
  refine WO.op rfl rfl (WO.nil (W.seq (W.seq (W.region ?_))))
  refine WO.op rfl rfl ?_
  refine WO.op ((slu_1 (cap := none) hI).lenG rfl rfl rfl) rfl ?_
  refine WO.op rfl rfl (WO.nil (W.block ?_))
  refine W.fits (F' := fr [(0, .sl i 0 1 none 1), (1, .sl j 0 1 none 1), (5, .int .u64 ((0 : Nat) : Int)), (9, .int .i64 ((1 : Nat) : Int)), (10, .int .i64 ((0 : Nat) : Int))]) (fits_fr ⟨rfl, rfl, rfl, rfl, rfl, trivial⟩) ?_
  refine W.loopI (α := Bool) (fun _ => True) (fun b => if b then 0 else 1) (fun b => fr [(0, .sl i 0 1 none 1), (1, .sl j 0 1 none 1), (5, .int .u64 ((0 : Nat) : Int)), (9, .int .i64 ((1 : Nat) : Int)), (10, .int .i64 (((if b then 1 else 0) : Nat) : Int))]) (fun b => if b then H.set i (.cells (u64s [z]) ty) else H) ?_ false trivial
  intro b _
  refine W.seq (W.region ?_)
  cases b with
  | false =>
    refine WO.as (v' := .bool true) rfl rfl rfl (WO.nil (W.seq (W.cond (b := true) rfl (fun _ => W.skip ?_) (fun h => by cases h))))
    refine W.heq (H' := H) rfl ?_
    refine W.seq (W.block (W.seq (W.region ?_)))
    refine WO.op rfl rfl ?_
    refine WO.op rfl rfl (WO.nil (W.seq (W.region ?_)))
    refine WO.op rfl rfl (WO.nil (W.seq (W.seq (W.region ?_))))
    refine WO.op rfl rfl ?_
    refine WO.op rfl rfl ?_
    refine WO.op ((slu_1 (cap := none) hJ).lenG rfl rfl rfl) rfl ?_
    refine WO.as (v' := .bool true) rfl rfl rfl (WO.nil (W.cond (b := true) rfl (fun _ => ?_) (fun h => by cases h)))
    refine W.region ?_
    refine WO.op rfl rfl ?_
    refine WO.op rfl rfl ?_
    refine WO.op (SlU.idxG rfl rfl (at_1 hJ)) rfl ?_
    refine WO.op (G.load_ptr (v := .int .u64 (y : Int)) rfl tu rfl hJ rfl) rfl ?_
    refine WO.op rfl rfl (WO.nil (W.region ?_))
    refine WO.op rfl rfl ?_
    refine WO.op rfl rfl ?_
    refine WO.op rfl rfl ?_
    refine WO.op rfl rfl ?_
    refine WO.op (SlU.idxG rfl rfl (at_1 hI)) rfl ?_
    refine WO.op (G.load_ptr (v := .int .u64 (x : Int)) rfl tu rfl hI rfl) rfl ?_
    refine WO.op rfl rfl ?_
    refine WO.op rfl rfl ?_
    refine WO.call rfl (hsub _) rfl ?_
    refine WO.op rfl rfl ?_
    refine WO.op rfl rfl ?_
    refine WO.op rfl rfl ?_
    refine WO.op (SlU.idxG rfl rfl (at_1 hI)) rfl ?_
    refine WO.op (G.store_ptr (v := .int .u64 (z : Int)) rfl rfl rfl tu rfl hI (by simp [u64s])) rfl ?_
    refine WO.op rfl rfl (WO.nil (W.region ?_))
    refine WO.as (v' := .int .i64 ((1 : Nat) : Int)) rfl rfl rfl ?_
    exact WO.op rfl rfl (WO.nil ⟨true, trivial, by decide, fits_fr ⟨rfl, rfl, rfl, rfl, rfl, trivial⟩, rfl⟩)
  | true =>
    refine WO.as (v' := .bool false) rfl rfl rfl (WO.nil (W.seq (W.cond (b := false) rfl (fun h => by cases h) (fun _ => W.exit ?_))))
    refine W.heq (H' := H.set i (.cells (u64s [z]) ty)) rfl ?_
    refine W.seq (W.region ?_)
    refine WO.op rfl rfl ?_
    refine WO.call rfl (made_1 i z none _ ty hH2 hne) rfl ?_
    repeat refine WO.op rfl rfl ?_
    exact WO.nil (W.ret ⟨trivial, _, rfl, Wk.refl _, rfl⟩)

theorem shl_op {call : Calling} {d : Bool} {g : Operand → AVal} {H : Heap} {x y : Operand} {t yt : TypeId} {m k : Nat} (hx : g x = .int .u64 (m : Int)) (hy : g y = .int .i64 (k : Int)) (h : 0 ≤ k) :
    denG S0 call d g H (.binOp .shl t x y yt) = some (.int .u64 (wrapI .u64 ((m : Int) * 2 ^ (min (k : Int).toNat 64))), H) := by
  simp only [denG, hx, hy]
  show withH H (shiftBin .shl .u64 (m : Int) (k : Int)) = _
  unfold shiftBin
  rw [if_neg (by omega)]
  rfl
theorem pow_lt64 {k : Nat} (h : k < 64) : 2 ^ k < B64 := Nat.lt_of_lt_of_le (Nat.pow_lt_pow_right (by decide) h) (Nat.le_refl _)
theorem bit_1 (k : Nat) (hk : k < 64) (H : Heap) : Has 349 [.int .i64 (k : Int)] H (.obj (.np (2 ^ k))) H := by
  have hp := pow_lt64 hk
  have hp0 : 2 ^ k ≠ 0 := Nat.ne_of_gt (Nat.pow_pos (by decide))
  have hq : AVal.int .i64 (wrapI .i64 ((k : Int).tdiv 64)) = .int .i64 ((0 : Nat) : Int) := by
    have e : (k : Int).tdiv 64 = ((k / 64 : Nat) : Int) := (Int.ofNat_tdiv _ 64).symm
    rw [e]
    exact int_i64 (by omega) (by omega)
  have hr : (k : Int).tmod 64 = (k : Int) := by
    have e : (k : Int).tmod 64 = ((k % 64 : Nat) : Int) := (Int.ofNat_tmod _ 64).symm
    rw [e]
    omega
  have hsh : wrapI .u64 (((1 : Nat) : Int) * 2 ^ (min (k : Int).toNat 64)) = ((2 ^ k : Nat) : Int) := by
    have e : min (k : Int).toNat 64 = k := by simp; omega
    have e2 : ((1 : Nat) : Int) * 2 ^ k = ((2 ^ k : Nat) : Int) := by rw [Int.natCast_pow]; simp
    rw [e, e2]
    generalize (2 : Nat) ^ k = q at hp ⊢
    exact wrap_u64 (by unfold B64 at hp; omega)
  have hl : lims (2 ^ k) = [2 ^ k] := lims_small hp hp0
  generalize 2 ^ k = y at *
  refine does_pure s0 (show S0.fn 349 = some Tryz.f349 by kernel_rfl) rfl (by kernel_rfl) (Nat.le_of_ble_eq_true rfl) rfl rfl ?_
  refine W.seq (W.region ?_)
  repeat refine WO.op rfl rfl ?_
  refine WO.nil (W.seq (W.region ?_))
  refine WO.op rfl rfl ?_
  refine WO.as (v' := .int .i64 ((0 : Nat) : Int)) rfl rfl hq ?_
  refine WO.as (v' := .int .i64 ((1 : Nat) : Int)) rfl rfl rfl ?_
  refine WO.op (G.make (l := 1) (c := 1) rfl rfl tU rfl tu rfl (by omega) (by decide) (by omega)) rfl ?_
  refine WO.op rfl rfl (WO.nil (W.seq (W.region ?_)))
  have hH : ([] ++ [AObj.cells (List.replicate 1 (AVal.int .u64 0)) 97] : Heap)[0]? = some (.cells (u64s [0]) 97) := rfl
  refine WO.op rfl rfl ?_
  refine WO.op rfl rfl ?_
  refine WO.as (v' := .int .i64 ((0 : Nat) : Int)) rfl rfl hq ?_
  refine WO.op rfl rfl ?_
  refine WO.as (v' := .int .i64 (k : Int)) rfl rfl (int_eq hr) ?_
  refine WO.as (v' := .int .u64 (y : Int)) (shl_op (m := 1) rfl rfl (Nat.zero_le _)) rfl (int_eq hsh) ?_
  refine WO.op (SlU.idxG rfl rfl (at_1 (cap := some 1) hH)) rfl ?_
  refine WO.op (G.store_ptr (v := .int .u64 (y : Int)) rfl rfl rfl tu rfl hH (by simp [u64s])) rfl (WO.nil (W.seq (W.region ?_)))
  have hH2 : (List.set ([] ++ [AObj.cells (List.replicate 1 (AVal.int .u64 0)) 97] : Heap) 0 (.cells ((u64s [0]).set 0 (.int .u64 (y : Int))) 97))[0]? = some (.cells (u64s [y]) 97) := rfl
  refine WO.op rfl rfl ?_
  refine WO.call rfl (made_1 0 y (some 1) _ _ hH2 hp0) rfl ?_
  refine WO.op rfl rfl ?_
  exact WO.nil (W.ret ⟨trivial, _, rfl, seals_np hH2 (Nat.le_refl _) (by rw [hl]; rfl)⟩)

theorem den_clone {H : Heap} {n x : Nat} (hg : H[n]? = some (.cells [] 97)) : denAppend S0 H 33 33 (.sl n 0 0 (some 0) 1) (.isl (u64s [x]) 0 1 none true) = some (.sl H.length 0 1 none 1, H ++ [AObj.cells (u64s [x]) 97]) := by
  have h1 : sliceCells H 1 (.sl n 0 0 (some 0) 1) = some ([], 0) := by simp only [sliceCells, hg]; rfl
  show (match sliceCells H 1 (.sl n 0 0 (some 0) 1) with
    | none => none
    | some (olds, _) => some (AVal.sl H.length 0 1 none 1, H ++ [AObj.cells (olds ++ u64s [x]) 97])) = _
  rw [h1]
  rfl
theorem G.app_clone {call : Calling} {d : Bool} {g : Operand → AVal} {H : Heap} {c : Call} {n x : Nat} (hc : c.callee = .builtin .append) (ha : c.args.toList.map g = [.sl n 0 0 (some 0) 1, .isl (u64s [x]) 0 1 none true]) (hta : c.argTypes.toList = [33, 33]) (hg : H[n]? = some (.cells [] 97)) :
    denG S0 call d g H (.call c) = some (.sl H.length 0 1 none 1, H ++ [AObj.cells (u64s [x]) 97]) := by
  simp only [denG, hc, ha, hta]
  exact den_clone hg
theorem clone_1 (x : Nat) (H : Heap) : Has 348 [.isl (u64s [x]) 0 1 none true] H (.sl (H.length + 1) 0 1 none 1) (H ++ [.cells [] 97] ++ [.cells (u64s [x]) 97]) := by
  refine does_run s0 (show S0.fn 348 = some Tryz.f348 by kernel_rfl) rfl (by kernel_rfl) (Nat.le_of_ble_eq_true rfl) ?_
  refine W.seq (W.region ?_)
  repeat refine WO.op rfl rfl ?_
  refine WO.nil (W.seq (W.seq (W.region ?_)))
  refine WO.op rfl rfl ?_
  refine WO.op rfl rfl (WO.nil (W.cond (b := false) rfl (fun h => by cases h) (fun _ => W.skip (W.seq (W.region ?_)))))
  refine WO.op (v := .sl H.length 0 0 (some 0) 1) (H1 := H ++ [.cells [] 97]) rfl rfl ?_
  refine WO.op rfl rfl ?_
  refine WO.op (v := .sl (H ++ [AObj.cells [] 97]).length 0 1 none 1) (H1 := H ++ [.cells [] 97] ++ [.cells (u64s [x]) 97]) (G.app_clone (n := H.length) rfl rfl rfl (by simp)) rfl ?_
  refine WO.op rfl rfl (WO.nil (W.ret ⟨trivial, _, rfl, ?_, rfl⟩))
  rw [List.length_append]
  exact Wk.refl _

/-! #### the plain law -/
def oddp (x : Nat) : Nat := x / 2 ^ ntz x
theorem oddp_spec {x : Nat} (h0 : x ≠ 0) (hx : x < B64) : x = 2 ^ ntz x * oddp x ∧ oddp x % 2 = 1 ∧ oddp x ≠ 0 ∧ oddp x ≤ x := by
  obtain ⟨m, hm⟩ := ntz_spec h0 hx
  have e : oddp x = 2 * m + 1 := by
    unfold oddp
    generalize ntz x = k at *
    subst hm
    exact Nat.mul_div_cancel_left _ (Nat.pow_pos (by decide))
  refine ⟨by rw [e]; exact hm, by rw [e]; omega, by rw [e]; omega, ?_⟩
  unfold oddp
  exact Nat.div_le_self _ _
theorem odd_cop {n : Nat} (h : n % 2 = 1) (k : Nat) : Nat.gcd n (2 ^ k) = 1 := by
  have : Nat.Coprime n 2 := by
    unfold Nat.Coprime
    rw [Nat.gcd_comm, Nat.gcd_rec, h]
    rfl
  exact Nat.Coprime.pow_right k this
theorem gcd_odd_left {n m : Nat} (h : m % 2 = 1) (k : Nat) : Nat.gcd (2 ^ k * n) m = Nat.gcd n m := by
  have : Nat.Coprime (2 ^ k) m := by unfold Nat.Coprime; rw [Nat.gcd_comm]; exact odd_cop h k
  exact Nat.Coprime.gcd_mul_left_cancel n this
theorem gcd_twos {x y : Nat} (hx0 : x ≠ 0) (hy0 : y ≠ 0) (hx : x < B64) (hy : y < B64) : 2 ^ min (ntz x) (ntz y) * Nat.gcd (oddp x) (oddp y) = Nat.gcd x y := by
  obtain ⟨ex, ox, _, _⟩ := oddp_spec hx0 hx
  obtain ⟨ey, oy, _, _⟩ := oddp_spec hy0 hy
  generalize oddp x = a at *
  generalize oddp y = b at *
  generalize ntz x = j at *
  generalize ntz y = k at *
  subst ex
  subst ey
  rcases Nat.le_total j k with h | h
  · obtain ⟨d, rfl⟩ := Nat.le.dest h
    rw [Nat.min_eq_left (by omega), Nat.pow_add, Nat.mul_assoc, Nat.gcd_mul_left]
    congr 1
    rw [Nat.gcd_comm a (2 ^ d * b), gcd_odd_left ox, Nat.gcd_comm]
  · obtain ⟨d, rfl⟩ := Nat.le.dest h
    rw [Nat.min_eq_right (by omega), Nat.pow_add, Nat.mul_assoc, Nat.gcd_mul_left]
    congr 1
    rw [gcd_odd_left oy]
theorem gcd_step {p q : Nat} (hq : q % 2 = 1) (hqp : q < p) (hp : p < B64) : Nat.gcd (oddp (p - q)) q = Nat.gcd p q := by
  obtain ⟨e, _, _, _⟩ := oddp_spec (x := p - q) (by omega) (by omega)
  have h1 : Nat.gcd (p - q) q = Nat.gcd p q := Nat.gcd_sub_self_left (by omega)
  rw [← h1]
  conv => rhs; rw [e]
  rw [gcd_odd_left hq]
end
end Go.AM.C

/- Contracts, 31: common: the greatest common divisor of numbers of one limb. -/
namespace Go.AM.C
open Go.Proofs
noncomputable section
set_option linter.unusedVariables false
set_option linter.unusedSimpArgs false

theorem fit_small {n : Nat} (h : n < B64) : Fit n := fit_of_log (by
  by_cases h0 : n = 0
  · subst h0; decide
  · have := (Nat.log2_lt h0 (k := 64)).2 h
    omega)
theorem cmp_1 {p q : Nat} (hp0 : p ≠ 0) (hq0 : q ≠ 0) (hp : p < B64) (hq : q < B64) : cmpL [p] [q] = cmpN p q := by
  have := cmpL_lims p q
  rwa [lims_small hp hp0, lims_small hq hq0] at this
theorem slu_isl1 (x : Nat) (H : Heap) : SlU S0 33 H (.isl (u64s [x]) 0 1 none true) [x] := SlU.isl (l := [x]) tU rfl tu rfl
abbrev gEmp : AObj := .cells [] 97
def gH (p q : Nat) (sw : Bool) : Heap := bif sw then [gEmp, .cells (u64s [q]) 97, gEmp, .cells (u64s [p]) 97] else [gEmp, .cells (u64s [p]) 97, gEmp, .cells (u64s [q]) 97]
def gA (sw : Bool) : Nat := bif sw then 3 else 1
theorem gH_a (p q : Nat) (sw : Bool) : (gH p q sw)[gA sw]? = some (.cells (u64s [p]) 97) := by cases sw <;> rfl
theorem gH_b (p q : Nat) (sw : Bool) : (gH p q sw)[gA (!sw)]? = some (.cells (u64s [q]) 97) := by cases sw <;> rfl
theorem gH_ne (sw : Bool) : gA sw ≠ gA (!sw) := by cases sw <;> decide
theorem gH_set (p q r : Nat) (sw : Bool) : (gH p q sw).set (gA sw) (.cells (u64s [r]) 97) = gH r q sw := by cases sw <;> rfl
theorem gH_swap (p q : Nat) (sw : Bool) : gH p q sw = gH q p (!sw) := by cases sw <;> rfl

theorem min_op {call : Calling} {d : Bool} {g : Operand → AVal} {H : Heap} {c : Call} {j k : Nat} {t t' : TypeId} (hc : c.callee = .builtin .min) (ha : c.args.toList.map g = [.int .i64 (j : Int), .int .i64 (k : Int)]) (hta : c.argTypes.toList = [t, t']) :
    denG S0 call d g H (.call c) = some (.int .i64 ((min j k : Nat) : Int), H) := by
  simp only [denG, hc, ha, hta]
  have e : (if ((k : Int) < (j : Int)) then (k : Int) else (j : Int)) = ((min j k : Nat) : Int) := by
    rw [Nat.min_def]
    split <;> split <;> omega
  show withH H (some (AVal.int .i64 (if ((k : Int) < (j : Int)) then (k : Int) else (j : Int)))) = _
  rw [e]
  rfl

set_option maxRecDepth 100000 in
theorem common_1 (x y : Nat) (hx0 : x ≠ 0) (hy0 : y ≠ 0) (hx : x < B64) (hy : y < B64) (H : Heap) :
    Has 297 [.isl (u64s [x]) 0 1 none true, .isl (u64s [y]) 0 1 none true] H (.obj (.np (Nat.gcd x y))) H := by
  have hg := gcd_twos hx0 hy0 hx hy
  have h1 := ntz_lt hx0 hx
  have h2 := ntz_lt hy0 hy
  obtain ⟨_, ox, ox0, oxl⟩ := oddp_spec hx0 hx
  obtain ⟨_, oy, oy0, oyl⟩ := oddp_spec hy0 hy
  refine does_pure s0 (show S0.fn 297 = some Tryz.f297 by kernel_rfl) rfl (by kernel_rfl) (Nat.le_of_ble_eq_true rfl) rfl rfl ?_
  refine W.seq (W.region ?_)
  refine WO.op rfl rfl (WO.nil (W.seq (W.region ?_)))
  refine WO.op rfl rfl ?_
  refine WO.call rfl (twos_1 (slu_isl1 x _) hx0 hx) rfl ?_
  refine WO.op rfl rfl ?_
  refine WO.call rfl (twos_1 (slu_isl1 y _) hy0 hy) rfl ?_
  refine WO.op (min_op (j := ntz x) (k := ntz y) rfl rfl rfl) rfl ?_
  refine WO.op rfl rfl (WO.nil (W.seq (W.region ?_)))
  refine WO.op rfl rfl ?_
  refine WO.call rfl (clone_1 x _) rfl ?_
  refine WO.call rfl (odd_1 1 x _ 97 rfl hx0 hx) rfl ?_
  refine WO.op rfl rfl ?_
  refine WO.call rfl (clone_1 y _) rfl ?_
  refine WO.call rfl (odd_1 3 y _ 97 rfl hy0 hy) rfl ?_
  refine WO.op rfl rfl ?_
  refine WO.op rfl rfl (WO.nil (W.block ?_))
  have hk : min (ntz x) (ntz y) < 64 := by omega
  change 2 ^ min (ntz x) (ntz y) * Nat.gcd (oddp x) (oddp y) = Nat.gcd x y at hg
  refine W.heq (H' := gH (oddp x) (oddp y) false) rfl ?_
  rw [← hg]
  have hpx : oddp x < B64 := by omega
  have hpy : oddp y < B64 := by omega
  generalize min (ntz x) (ntz y) = k at *
  generalize oddp x = a at *
  generalize oddp y = b at *
  refine W.fits (F' := fr [(0, .sl 1 0 1 none 1), (1, .sl 3 0 1 none 1), (5, .int .i64 (k : Int))]) (fits_fr ⟨rfl, rfl, rfl, trivial⟩) ?_
  refine W.loopI (α := Nat × Nat × Bool) (fun s => s.1 % 2 = 1 ∧ s.2.1 % 2 = 1 ∧ s.1 < B64 ∧ s.2.1 < B64 ∧ Nat.gcd s.1 s.2.1 = Nat.gcd a b) (fun s => s.1 + s.2.1)
    (fun s => fr [(0, .sl (gA s.2.2) 0 1 none 1), (1, .sl (gA (!s.2.2)) 0 1 none 1), (5, .int .i64 (k : Int))]) (fun s => gH s.1 s.2.1 s.2.2) ?_ (a, b, false) ⟨ox, oy, hpx, hpy, rfl⟩
  rintro ⟨p, q, sw⟩ ⟨op, oq, hp, hq, hgc⟩
  simp only at op oq hp hq hgc
  have hp0 : p ≠ 0 := by omega
  have hq0 : q ≠ 0 := by omega
  have hA := gH_a p q sw
  have hB := gH_b p q sw
  have hc := cmp_1 hp0 hq0 hp hq
  refine W.block (W.seq (W.seq (W.region ?_)))
  refine WO.op rfl rfl ?_
  refine WO.op rfl rfl ?_
  refine WO.call rfl (compare_sl (slu_1 (cap := none) hA) (slu_1 (cap := none) hB) (by simp) (by simp)) rfl ?_
  rw [hc]
  rcases Nat.lt_trichotomy p q with hlt | heq | hgt
  · have hcn : cmpN p q = -1 := by unfold cmpN; rw [if_pos hlt]
    rw [hcn]
    refine WO.nil (W.block (W.seq (W.region ?_)))
    refine WO.op rfl rfl ?_
    refine WO.op rfl rfl (WO.nil (W.cond (b := false) rfl (fun h => by cases h) (fun _ => W.seq (W.region ?_))))
    refine WO.op rfl rfl ?_
    refine WO.op rfl rfl (WO.nil (W.cond (b := true) rfl (fun _ => W.region ?_) (fun h => by cases h)))
    refine WO.op rfl rfl ?_
    refine WO.op rfl rfl ?_
    refine WO.op rfl rfl ?_
    refine WO.op rfl rfl (WO.nil (W.region ?_))
    refine WO.op rfl rfl ?_
    refine WO.op rfl rfl ?_
    refine WO.call rfl (less_1 (gA (!sw)) (gA sw) q p (gH p q sw) 97 97 (gH_ne sw).symm hB hA hlt hq) rfl ?_
    refine WO.heq (H' := gH (q - p) p (!sw)) (by rw [gH_swap, gH_set]) ?_
    have hne : q - p ≠ 0 := by omega
    refine WO.call rfl (odd_1 (gA (!sw)) (q - p) _ 97 (gH_a _ _ _) hne (by omega)) rfl ?_
    obtain ⟨_, e1, e2, e3⟩ := oddp_spec hne (by omega : q - p < B64)
    have hst := gcd_step op hlt hq
    refine WO.heq (H' := gH (oddp (q - p)) p (!sw)) (gH_set _ _ _ _) ?_
    refine WO.op rfl rfl (WO.nil ⟨(oddp (q - p), p, !sw), ⟨e1, op, by simp only; omega, hp, ?_⟩, by simp only; omega, fits_fr ⟨rfl, by cases sw <;> rfl, rfl, trivial⟩, rfl⟩)
    rw [← hgc, Nat.gcd_comm p q]
    exact hst
  · subst heq
    have hcn : cmpN p p = 0 := by unfold cmpN; rw [if_neg (Nat.lt_irrefl _), if_neg (Nat.lt_irrefl _)]
    rw [hcn]
    refine WO.nil (W.block (W.seq (W.region ?_)))
    refine WO.op rfl rfl ?_
    refine WO.op rfl rfl (WO.nil (W.cond (b := true) rfl (fun _ => W.seq (W.region ?_)) (fun h => by cases h)))
    refine WO.op rfl rfl ?_
    refine WO.call rfl (made_1 (gA sw) p none _ _ hA hp0) rfl ?_
    refine WO.op rfl rfl ?_
    refine WO.call rfl (bit_1 k hk _) rfl ?_
    refine WO.seal1 (id := gA sw) (t := 23) (a' := .obj (.np p)) (by decide) hA rfl (fun c w v hv => ?_) ?_ ?_
    · have hv' : VR c w (.ip [.sl (gA sw) 0 1 none 1] 0 false) v := hv
      cases hv' with
      | ip _ _ _ b o g hcl hF hcell hh =>
        have hh0 := hh 0 _ rfl
        generalize g 0 = u at hh0
        cases hh0 with
        | sl _ _ _ _ _ b o ca h => exact ⟨_, h⟩
    · show Seals _ (.ip [.sl (gA sw) 0 1 none 1] 0 false) _
      exact seals_np (l := [p]) (by rw [only_at]; exact hA) (Nat.le_refl _) (lims_small hp hp0).symm
    refine WO.call rfl (mul_np p (2 ^ k) (fit_small hp) (fit_small (pow_lt64 hk)) _) rfl ?_
    refine WO.op rfl rfl (WO.nil (W.ret ⟨trivial, _, rfl, ?_⟩))
    rw [← hgc, Nat.gcd_self, Nat.mul_comm]
    exact Seals.same _ rfl
  · have hcn : cmpN p q = 1 := by unfold cmpN; rw [if_neg (by omega), if_pos hgt]
    rw [hcn]
    refine WO.nil (W.block (W.seq (W.region ?_)))
    refine WO.op rfl rfl ?_
    refine WO.op rfl rfl (WO.nil (W.cond (b := false) rfl (fun h => by cases h) (fun _ => W.seq (W.region ?_))))
    refine WO.op rfl rfl ?_
    refine WO.op rfl rfl (WO.nil (W.cond (b := false) rfl (fun h => by cases h) (fun _ => W.skip (W.region ?_))))
    refine WO.op rfl rfl ?_
    refine WO.op rfl rfl ?_
    refine WO.call rfl (less_1 (gA sw) (gA (!sw)) p q (gH p q sw) 97 97 (gH_ne sw) hA hB hgt hp) rfl ?_
    refine WO.heq (H' := gH (p - q) q sw) (gH_set _ _ _ _) ?_
    have hne : p - q ≠ 0 := by omega
    refine WO.call rfl (odd_1 (gA sw) (p - q) _ 97 (gH_a _ _ _) hne (by omega)) rfl ?_
    obtain ⟨_, e1, e2, e3⟩ := oddp_spec hne (by omega : p - q < B64)
    have hst := gcd_step oq hgt hp
    refine WO.heq (H' := gH (oddp (p - q)) q sw) (gH_set _ _ _ _) ?_
    refine WO.op rfl rfl (WO.nil ⟨(oddp (p - q), q, sw), ⟨e1, oq, by simp only; omega, hq, hst.trans hgc⟩, by simp only; omega, fits_fr ⟨rfl, rfl, rfl, trivial⟩, rfl⟩)

end
end Go.AM.C

/- Contracts: the reference's Name; Text; alike. -/
namespace Go.AM.C
open Go.Proofs
noncomputable section
set_option linter.unusedVariables false
set_option linter.unusedSimpArgs false

theorem tStr : S0.ty 9 = some ti9 := rfl
theorem bad_any (s : List UInt8) : (s.any fun b => badB b.toNat) = true ↔ ∃ (j : Nat) (b : UInt8), s[j]? = some b ∧ badB b.toNat = true := by
  rw [List.any_eq_true]
  constructor
  · rintro ⟨b, hb, h⟩
    obtain ⟨j, hj, e⟩ := List.getElem_of_mem hb
    exact ⟨j, b, by rw [List.getElem?_eq_getElem hj, e], h⟩
  · rintro ⟨j, b, hj, h⟩
    exact ⟨b, List.mem_of_getElem? hj, h⟩
theorem badB_ranges {n : Nat} : badB n = true ↔ ((n < 97 ∨ 122 < n) ∧ (n < 48 ∨ 57 < n)) ∧ n ≠ 45 := by
  unfold badB
  simp only [Bool.and_eq_true, Bool.or_eq_true, Nat.blt_eq, Bool.not_eq_true', ← Bool.not_eq_true, Nat.beq_eq]

set_option maxRecDepth 100000 in
theorem refName_ok (s : List UInt8) (hs : s.length < 4611686018427387904) (H : Heap) : Has 48 [.str s] H (.bool (nameOk s)) H := by
  generalize hR : nameOk s = R
  refine does_pure s0 (show S0.fn 48 = some Tryz.f48 by kernel_rfl) rfl (by kernel_rfl) (Nat.le_of_ble_eq_true rfl) rfl rfl ?_
  refine W.seq (W.region ?_)
  refine WO.op rfl rfl (WO.nil (W.seq (W.seq (W.region ?_))))
  refine WO.op rfl rfl (WO.nil (W.block ?_))
  refine W.fits (F' := fr [(0, .str s), (3, .int .i64 ((0 : Nat) : Int))]) (fits_fr ⟨rfl, rfl, trivial⟩) ?_
  refine W.loopI (fun j : Nat => j ≤ s.length ∧ ∀ i b, i < j → s[i]? = some b → badB b.toNat = false) (fun j => s.length - j) (fun j => fr [(0, .str s), (3, .int .i64 (j : Int))]) (fun _ => []) ?_ 0 ⟨by omega, fun i b h => by omega⟩
  rintro j ⟨hj, hno⟩
  refine W.seq (W.seq (W.region ?_))
  refine WO.op rfl rfl ?_
  refine WO.op rfl rfl ?_
  refine WO.op (G.len_str rfl rfl rfl tStr rfl) rfl ?_
  by_cases hlt : j < s.length
  · obtain ⟨b, hb⟩ : ∃ b, s[j]? = some b := ⟨_, List.getElem?_eq_getElem hlt⟩
    have hb8 : b.toNat < 256 := b.toNat_lt
    refine WO.as (v' := .bool true) rfl rfl (bdT (by omega)) (WO.nil (W.cond (b := true) rfl (fun _ => W.skip ?_) (fun h => by cases h)))
    refine W.seq (W.block (W.seq (W.region ?_)))
    by_cases hbad : badB b.toNat = true
    · have hR' : R = false := by
        rw [← hR]
        unfold nameOk
        rw [(bad_any s).2 ⟨j, b, hb, hbad⟩]
        rfl
      obtain ⟨⟨h1, h2⟩, h3⟩ := badB_ranges.1 hbad
      rcases h1 with h1 | h1 <;> rcases h2 with h2 | h2
      all_goals
        repeat (first
          | refine WO.skip rfl ?_
          | refine WO.op (G.index_str rfl rfl tStr rfl hb) rfl ?_
          | refine WO.as (v' := .bool true) rfl rfl (bdT (by omega)) ?_
          | refine WO.as (v' := .bool false) rfl rfl (bdF (by omega)) ?_
          | refine WO.as (v' := .bool true) rfl rfl (bnF (by omega)) ?_
          | refine WO.op rfl rfl ?_)
        refine WO.nil (W.cond (b := true) rfl (fun _ => ?_) (fun h => by cases h))
        refine W.seq (W.region ?_)
        refine WO.op rfl rfl (WO.nil (W.ret ⟨trivial, _, rfl, ?_⟩))
        rw [hR']
        exact Seals.same _ rfl
    · have hg : ¬ (((b.toNat < 97 ∨ 122 < b.toNat) ∧ (b.toNat < 48 ∨ 57 < b.toNat)) ∧ b.toNat ≠ 45) := fun h => hbad (badB_ranges.2 h)
      have hcs : (97 ≤ b.toNat ∧ b.toNat ≤ 122) ∨ (48 ≤ b.toNat ∧ b.toNat ≤ 57) ∨ b.toNat = 45 := by omega
      rcases hcs with h1 | h1 | h1
      all_goals
        repeat (first
          | refine WO.skip rfl ?_
          | refine WO.op (G.index_str rfl rfl tStr rfl hb) rfl ?_
          | refine WO.as (v' := .bool true) rfl rfl (bdT (by omega)) ?_
          | refine WO.as (v' := .bool false) rfl rfl (bdF (by omega)) ?_
          | refine WO.as (v' := .bool false) rfl rfl (bnT (by omega)) ?_
          | refine WO.op rfl rfl ?_)
        refine WO.nil (W.cond (b := false) rfl (fun h => by cases h) (fun _ => W.skip ?_))
        refine W.region ?_
        refine WO.op rfl rfl ?_
        refine WO.as (v' := .int .i64 ((j + 1 : Nat) : Int)) rfl rfl (int_i64 (by omega) (by omega)) ?_
        refine WO.op rfl rfl (WO.nil ⟨j + 1, ⟨by omega, fun i c hi hc => ?_⟩, by omega, fits_fr ⟨rfl, rfl, trivial⟩, rfl⟩)
        by_cases hij : i = j
        · subst hij
          rw [hb] at hc
          cases hc
          simpa using hbad
        · exact hno i c (by omega) hc
  · have hje : j = s.length := by omega
    subst hje
    have hnb : (s.any fun b => badB b.toNat) = false := by
      rw [Bool.eq_false_iff]
      intro h
      obtain ⟨i, b, hi, hb⟩ := (bad_any s).1 h
      have := hno i b (List.getElem?_eq_some_iff.1 hi).1 hi
      rw [hb] at this; cases this
    unfold nameOk at hR
    rw [hnb, Bool.not_false, Bool.true_and] at hR
    refine WO.as (v' := .bool false) rfl rfl (bdF (by omega)) (WO.nil (W.cond (b := false) rfl (fun h => by cases h) (fun _ => W.exit ?_)))
    refine W.seq (W.region ?_)
    refine WO.op rfl rfl ?_
    refine WO.op (G.len_str rfl rfl rfl tStr rfl) rfl ?_
    by_cases h1 : 1 ≤ s.length
    · rw [decide_eq_true h1, Bool.true_and] at hR
      refine WO.as (v' := .bool true) rfl rfl (bdT (by omega)) ?_
      refine WO.op rfl rfl ?_
      refine WO.op rfl rfl ?_
      refine WO.op (G.len_str rfl rfl rfl tStr rfl) rfl ?_
      refine WO.as (v' := .bool R) rfl rfl (by rw [← hR]; exact bdE (by omega)) ?_
      refine WO.op rfl rfl ?_
      refine WO.op rfl rfl (WO.nil (W.ret ⟨trivial, _, rfl, Seals.same _ rfl⟩))
    · rw [decide_eq_false h1, Bool.false_and] at hR
      refine WO.as (v' := .bool false) rfl rfl (bdF (by omega)) ?_
      refine WO.op rfl rfl ?_
      refine WO.skip rfl ?_
      refine WO.skip rfl ?_
      refine WO.skip rfl ?_
      refine WO.op rfl rfl ?_
      refine WO.op rfl rfl (WO.nil (W.ret ⟨trivial, _, rfl, ?_⟩))
      rw [← hR]
      exact Seals.same _ rfl

theorem text_has (s : List UInt8) (n : Nat) (hn : n < 4611686018427387904) (H : Heap) : Has 39 [.str s, .int .i64 (n : Int)] H (.str (s.take n)) H := by
  refine does_pure s0 (show S0.fn 39 = some Tryz.f39 by kernel_rfl) rfl (by kernel_rfl) (Nat.le_of_ble_eq_true rfl) rfl rfl ?_
  refine W.seq (W.region ?_)
  repeat refine WO.op rfl rfl ?_
  refine WO.nil (W.seq (W.region ?_))
  refine WO.op rfl rfl ?_
  refine WO.op rfl rfl ?_
  refine WO.op (G.len_str rfl rfl rfl tStr rfl) rfl ?_
  refine WO.op rfl rfl ?_
  refine WO.op (min_op (j := s.length) (k := n) rfl rfl rfl) rfl ?_
  refine WO.op (G.slice_str (l := 0) (h := min s.length n) rfl tStr rfl rfl ⟨_, rfl⟩ (by omega) (by omega)) rfl ?_
  refine WO.op rfl rfl (WO.nil (W.ret ⟨trivial, _, rfl, ?_⟩))
  have e : (s.drop 0).take (min s.length n - 0) = s.take n := by
    rw [List.drop_zero, Nat.sub_zero, Nat.min_comm, ← List.take_take, List.take_length]
  rw [e]
  exact Seals.same _ rfl
theorem G.cat {S : Sg} {call : Calling} {d : Bool} {g : Operand → AVal} {H : Heap} {x y : Operand} {t yt : TypeId} {a b : List UInt8} (hx : g x = .str a) (hy : g y = .str b) (h : a.length + b.length ≤ 4611686018427387904) : denG S call d g H (.binOp .add t x y yt) = some (.str (a ++ b), H) := by
  simp only [denG, hx, hy]
  show withH H (strBin .add a b) = _
  unfold strBin
  simp only [if_pos h]
  rfl
end
end Go.AM.C

/- Contracts: alike. -/
namespace Go.AM.C
open Go.Proofs
noncomputable section
set_option linter.unusedVariables false
set_option linter.unusedSimpArgs false

theorem eqT_post : S0.eqT 40 = some [.s, .i] := by kernel_rfl
theorem neq_post {call : Calling} {d : Bool} {g : Operand → AVal} {H : Heap} {x y : Operand} {yt : TypeId} {p q : List UInt8 × Int} (hx : g x = .agg [.str p.1, iA p.2]) (hy : g y = .agg [.str q.1, iA q.2]) :
    denG S0 call d g H (.binOp .neq 40 x y yt) = some (.bool (!decide (p = q)), H) := by
  obtain ⟨a, m⟩ := p
  obtain ⟨b, n⟩ := q
  simp only [denG, hx, hy]
  have e : eqCells [.s, .i] [.str a, iA m] [.str b, iA n] = some (decide ((a, m) = (b, n))) := by
    by_cases h1 : a = b
    · subst h1
      by_cases h2 : m = n
      · subst h2; simp [eqCells, eqCell, iA]
      · have : (m == n) = false := by simpa using h2
        simp [eqCells, eqCell, iA, h2]
        rw [this]
    · simp [eqCells, eqCell, h1]
  have e2 : eqA S0 40 (.agg [.str a, iA m]) (.agg [.str b, iA n]) (isConstOp x || isConstOp y) = some (decide ((a, m) = (b, n))) := by
    unfold eqA
    simp only [eqT_post]
    exact e
  show withH H (denBin S0 .neq 40 (.agg [.str a, iA m]) (.agg [.str b, iA n]) _) = _
  unfold denBin
  simp only [e2]
  rfl

set_option maxRecDepth 100000 in
theorem alike_has {H : Heap} {va vb : AVal} {la lb : Posts} (ha : SlP H va la) (hb : SlP H vb lb) (h1 : la.length < 4611686018427387904) (h2 : lb.length < 4611686018427387904) :
    Has 19 [va, vb] H (.bool (decide (la = lb))) H := by
  generalize hR : decide (la = lb) = R
  have kk : Ext.Keeps H H := fun _ _ => rfl
  refine does_run s0 (show S0.fn 19 = some Tryz.f19 by kernel_rfl) rfl (by kernel_rfl) (Nat.le_of_ble_eq_true rfl) ?_
  refine W.seq (W.region ?_)
  refine WO.op rfl rfl (WO.nil (W.seq (W.seq (W.region ?_))))
  refine WO.op rfl rfl ?_
  refine WO.op (v := .int .i64 (la.length : Int)) (H1 := H) (congrArg (withH H) (ha.len H kk)) rfl ?_
  refine WO.op rfl rfl ?_
  refine WO.op (v := .int .i64 (lb.length : Int)) (H1 := H) (congrArg (withH H) (hb.len H kk)) rfl ?_
  by_cases hl : la.length = lb.length
  · refine WO.as (v' := .bool false) rfl rfl (bnT (by omega)) (WO.nil (W.cond (b := false) rfl (fun h => by cases h) (fun _ => W.skip (W.seq (W.seq (W.region ?_))))))
    refine WO.op rfl rfl ?_
    refine WO.op (v := .int .i64 (la.length : Int)) (H1 := H) (congrArg (withH H) (ha.len H kk)) rfl ?_
    refine WO.op rfl rfl (WO.nil (W.block ?_))
    refine W.fits (F' := fr [(0, va), (1, vb), (12, iA (la.length : Int)), (13, iA ((0 : Nat) : Int))]) (fits_fr ⟨rfl, rfl, rfl, rfl, trivial⟩) ?_
    refine W.loopI (fun j : Nat => j ≤ la.length ∧ ∀ i, i < j → la[i]? = lb[i]?) (fun j => la.length - j) (fun j => fr [(0, va), (1, vb), (12, iA (la.length : Int)), (13, iA (j : Int))]) (fun _ => H) ?_ 0 ⟨Nat.zero_le _, fun i h => by omega⟩
    rintro j ⟨hj, heq⟩
    refine W.seq (W.region ?_)
    by_cases hlt : j < la.length
    · obtain ⟨p, hp⟩ : ∃ p, la[j]? = some p := ⟨_, List.getElem?_eq_getElem hlt⟩
      obtain ⟨q, hq⟩ : ∃ q, lb[j]? = some q := ⟨_, List.getElem?_eq_getElem (by omega)⟩
      obtain ⟨a1, r1, o1, e1, f1, g1, i1⟩ := ha.at_ j p hp
      obtain ⟨a2, r2, o2, e2, f2, g2, i2⟩ := hb.at_ j q hq
      refine WO.as (v' := .bool true) rfl rfl (bdT (by omega)) (WO.nil (W.seq (W.cond (b := true) rfl (fun _ => W.skip ?_) (fun h => by cases h))))
      refine W.seq (W.block (W.seq (W.region ?_)))
      refine WO.op rfl rfl ?_
      refine WO.op rfl rfl (WO.nil (W.seq (W.draw0 rfl (by kernel_rfl) ?_)))
      refine WT.op rfl rfl rfl ?_
      refine WT.op rfl rfl rfl ?_
      refine WT.op (SlU.idxG rfl rfl e1) rfl rfl ?_
      refine WT.op (G.load_agg2 rfl tp rfl rfl (f1 H kk) g1 i1) rfl rfl ?_
      refine WT.op rfl rfl rfl ?_
      refine WT.op rfl rfl rfl ?_
      refine WT.op (SlU.idxG rfl rfl e2) rfl rfl ?_
      refine WT.op (G.load_agg2 rfl tp rfl rfl (f2 H kk) g2 i2) rfl rfl ?_
      refine WT.op (neq_post rfl rfl) rfl rfl (WT.nil (W.cond rfl (fun h => ?_) (fun h => ?_)))
      · have hpq : p ≠ q := by simpa using h
        have hR' : R = false := by
          rw [← hR]
          refine decide_eq_false fun e => hpq ?_
          rw [e, hq] at hp
          exact (Option.some.inj hp).symm
        refine W.seq (W.region ?_)
        refine WO.op rfl rfl (WO.nil (W.ret ⟨trivial, _, rfl, ?_, rfl⟩))
        rw [hR']
        exact Wk.refl _
      · have hpq : p = q := by simpa using h
        refine W.skip (W.region ?_)
        refine WO.as (v' := iA ((j + 1 : Nat) : Int)) rfl rfl (int_i64 (by omega) (by omega)) ?_
        refine WO.op rfl rfl (WO.nil ⟨j + 1, ⟨by omega, fun i hi => ?_⟩, by omega, fits_fr ⟨rfl, rfl, rfl, rfl, trivial⟩, rfl⟩)
        by_cases hij : i = j
        · subst hij; rw [hp, hq, hpq]
        · exact heq i (by omega)
    · have hje : j = la.length := by omega
      subst hje
      have hR' : R = true := by
        rw [← hR]
        refine decide_eq_true (List.ext_getElem? fun i => ?_)
        by_cases hi : i < la.length
        · exact heq i hi
        · rw [List.getElem?_eq_none (by omega), List.getElem?_eq_none (by omega)]
      refine WO.as (v' := .bool false) rfl rfl (bdF (by omega)) (WO.nil (W.seq (W.cond (b := false) rfl (fun h => by cases h) (fun _ => W.exit ?_))))
      refine W.seq (W.region ?_)
      refine WO.op rfl rfl (WO.nil (W.ret ⟨trivial, _, rfl, ?_, rfl⟩))
      rw [hR']
      exact Wk.refl _
  · have hR' : R = false := by rw [← hR]; exact decide_eq_false fun e => hl (by rw [e])
    refine WO.as (v' := .bool true) rfl rfl (bnF (by omega)) (WO.nil (W.cond (b := true) rfl (fun _ => ?_) (fun h => by cases h)))
    refine W.seq (W.region ?_)
    refine WO.op rfl rfl (WO.nil (W.ret ⟨trivial, _, rfl, ?_, rfl⟩))
    rw [hR']
    exact Wk.refl _
theorem slp_postsA (H : Heap) (l : Posts) : SlP H (postsA l) l := by
  unfold postsA
  split
  · rename_i h; subst h; exact postsOf_slp rfl
  · refine ⟨fun H' _ => rfl, fun j p hj => ?_⟩
    obtain ⟨h1, h2⟩ := postC_at l j p hj
    refine ⟨.ip (postC l) (0 + j * 2) true, postC l, 0 + j * 2, ?_, fun H' hk => rfl, by rw [Nat.zero_add]; exact h1, by rw [Nat.zero_add]; exact h2⟩
    have hjl : j < l.length := (List.getElem?_eq_some_iff.1 hj).1
    show (if 0 ≤ (j : Int) ∧ (j : Int) < (l.length : Int) then fNat (0 + (j : Int).toNat * ti40.size) fun o => some (AVal.ip (postC l) o true) else none) = _
    rw [if_pos ⟨by omega, by omega⟩, fNat_eq, Int.toNat_natCast]
    rfl
theorem allE_le (M : Posts) : (allE M).length ≤ M.length := by
  have h1 := allOf_len (keysS M) M
  rw [keysS_len] at h1
  exact h1
theorem allE_short {A M : Posts} {n : Nat} (hA : A = allE M) (h : M.length < n) : A.length < n := by
  subst hA
  exact Nat.lt_of_le_of_lt (allE_le M) h
theorem all_of {A l : Posts} (hA : A = allE l) (hnd : (l.map (·.1)).Nodup) (hk : ∀ e ∈ l, e.1.length ≤ 4611686018427387904) (hl : l.length < 1073741824) (H : Heap) (L : Nat) (vs0 : List AVal) (ty0 : TypeId) (h1 : H[L]? = some (.cells vs0 ty0)) (h2 : vs0[0]? = some (imapA l)) :
    Has 20 [.ptr L 0] H (postsA A) H := by
  subst hA
  exact ledger_all l _ H L 0 vs0 ty0 h1 h2 (.inl rfl) hnd hk hl
theorem alike_self (A : Posts) (h : A.length < 4611686018427387904) (H : Heap) : Has 19 [postsA A, postsA A] H (.bool true) H := by
  have h := alike_has (slp_postsA H A) (slp_postsA H A) h h
  rwa [decide_eq_true (rfl : A = A)] at h

end
end Go.AM.C

/- Contracts, 32: common, as closed runs may use it. -/
namespace Go.AM.C
open Go.Proofs
noncomputable section
set_option linter.unusedVariables false
set_option linter.unusedSimpArgs false

noncomputable def oneL (x : Nat) : Bool := Nat.ble 1 x && Nat.blt x 18446744073709551616
theorem oneL_ok {x : Nat} (h : oneL x = true) : x ≠ 0 ∧ x < B64 := by
  unfold oneL at h
  rw [Bool.and_eq_true] at h
  exact ⟨by have := Nat.le_of_ble_eq_true h.1; omega, blt_lt.1 h.2⟩
noncomputable def commonX : Ext := fun args H => match args with
  | [.isl [.int .u64 (.ofNat x)] 0 1 none true, .isl [.int .u64 (.ofNat y)] 0 1 none true] => bif oneL x && oneL y then (match npV (Nat.gcd x y) with
    | some v => some (v, H)
    | none => none) else none
  | _ => none
theorem commonX_ok (S : Sg) (hg : S.glob = S0.glob) (hp : S.pin = S0.pin) : ExtAt Tryz.prog S 297 commonX := by
  intro args H v H' hx
  unfold commonX at hx
  split at hx
  · rename_i x y
    cases hb : oneL x && oneL y with
    | false => rw [hb] at hx; cases hx
    | true =>
      rw [hb, cond_true, npV_eq] at hx
      rw [Bool.and_eq_true] at hb
      obtain ⟨hx0, hx1⟩ := oneL_ok hb.1
      obtain ⟨hy0, hy1⟩ := oneL_ok hb.2
      cases hx
      exact DoesC.glob hg hp (common_1 x y hx0 hy0 hx1 hy1 _)
  · cases hx
end
end Go.AM.C

