/- Part of a proof over the program's translation: CmdLong: lines and bytes, plain.; CmdLong answers true. -/
import Derived.Test.YtooafhbgdhjijaaGreatDoorN5
import Derived.Test.YtooafhbgdhjijaaGreatDoorN11
import Derived.Test.YtooafhbgdhjijaaGreatDoorCl1
noncomputable section
/- CmdLong: lines and bytes, plain. -/
namespace Go.AM
set_option linter.unusedVariables false
set_option linter.unusedSimpArgs false
/-- Bytes to a text. -/
theorem G.ofBytes {S : Sg} {call : Calling} {d : Bool} {g : Operand → AVal} {H : Heap} {x : Operand} {src dst e : TypeId} {t1 t2 t3 : TI} {id len : Nat} {cap : Option Nat} {vs : List AVal} {ty : TypeId} {l : List UInt8} (hx : g x = .sl id 0 len cap 1) (h1 : S.ty src = some t1) (hd1 : t1.desc = .slice e) (h2 : S.ty dst = some t2) (hd2 : t2.desc = .string) (h3 : S.ty e = some t3) (hd3 : t3.desc = .int .u8)
    (hH : H[id]? = some (.cells vs ty)) (hv : vs.length = len) (hb : bytesOf vs = some l) : denG S call d g H (.convert src dst x) = some (.str l, H) := by
  obtain ⟨a1, a2, a3, a4, a5, a6, a7, a8⟩ := t1
  obtain ⟨b1, b2, b3, b4, b5, b6, b7, b8⟩ := t2
  obtain ⟨c1, c2, c3, c4, c5, c6, c7, c8⟩ := t3
  simp only at hd1 hd2 hd3
  subst hd1; subst hd2; subst hd3
  have hs : sliceCells H 1 (.sl id 0 len cap 1) = some (vs, len) := by
    unfold sliceCells
    simp only [hH]
    rw [if_pos (by omega), List.drop_zero, List.take_of_length_le (by omega)]
  simp only [denG, hx, denConvert, h1, h2, h3, hs, hb]
  rfl
theorem bytesOf_rep (b : UInt8) : ∀ n, bytesOf (List.replicate n (.int .u8 (b.toNat : Int))) = some (List.replicate n b)
  | 0 => rfl
  | n + 1 => by
    rw [List.replicate_succ, List.replicate_succ]
    unfold bytesOf
    rw [bytesOf_rep b n]
    simp
end Go.AM
namespace Go.AM.C
open Go.Proofs
noncomputable section
set_option linter.unusedVariables false
set_option linter.unusedSimpArgs false
/-! #### plain -/
theorem rem10 (n : Int) : ∃ k : Nat, k < 10 ∧ Int.tmod (wrapI .i64 (Int.tmod n 10 + 10)) 10 = (k : Int) := by
  have h1 : -10 < Int.tmod n 10 ∧ Int.tmod n 10 < 10 := by
    rcases Int.le_total 0 n with h | h
    · have := Int.tmod_nonneg (b := 10) (a := n) h
      have := Int.tmod_lt_of_pos n (show (0 : Int) < 10 by decide)
      omega
    · have e : Int.tmod n 10 = -(Int.tmod (-n) 10) := by rw [Int.neg_tmod]; omega
      have := Int.tmod_nonneg (a := -n) 10 (by omega)
      have := Int.tmod_lt_of_pos (-n) (show (0 : Int) < 10 by decide)
      omega
  rw [wrap_i64 (by omega)]
  obtain ⟨m, hm⟩ : ∃ m : Nat, Int.tmod n 10 + 10 = (m : Int) := ⟨(Int.tmod n 10 + 10).toNat, by omega⟩
  rw [hm]
  exact ⟨m % 10, Nat.mod_lt _ (by decide), (Int.ofNat_tmod m 10).symm⟩
theorem lnT_len (j : Nat) : (lnT j).length = 2 * j := by
  unfold lnT
  induction j with
  | zero => rfl
  | succ j ih => rw [List.replicate_succ, List.flatten_cons, List.length_append, ih]; simp; omega
theorem lnT_succ (j : Nat) : lnS ++ lnT j ++ [32, 55] = lnS ++ lnT (j + 1) := by
  unfold lnT
  rw [List.replicate_succ', List.flatten_append, List.append_assoc]
  simp
theorem line_take (j n : Nat) (hj : j ≤ 100) (hn : n ≤ 6 + 2 * j) : (lnS ++ lnT j).take n = lineL n := by
  unfold lineL
  have e : lnT 100 = lnT j ++ lnT (100 - j) := by
    unfold lnT
    rw [← List.flatten_append, List.replicate_append_replicate, show j + (100 - j) = 100 by omega]
  rw [e, ← List.append_assoc]
  exact (List.take_append_of_le_length (by rw [List.length_append, lnT_len]; exact hn)).symm
def rowB (b : UInt8) (j : Nat) : List AVal := List.replicate j (.int .u8 (b.toNat : Int)) ++ List.replicate (201 - j) (.int .u8 0)
theorem rowB_len (b : UInt8) {j : Nat} (hj : j ≤ 201) : (rowB b j).length = 201 := by unfold rowB; simp; omega
theorem rowB_set (b : UInt8) {j : Nat} (hj : j < 201) : (rowB b j).set j (.int .u8 (b.toNat : Int)) = rowB b (j + 1) := by
  unfold rowB
  rw [List.set_append_right _ _ (by simp), List.length_replicate, Nat.sub_self, show 201 - j = (201 - (j + 1)) + 1 by omega, List.replicate_succ, List.set_cons_zero, List.replicate_succ', List.append_assoc]
  rfl
theorem rowB_last (b : UInt8) : bytesOf (rowB b 201) = some (List.replicate 201 b) := by
  unfold rowB
  rw [Nat.sub_self, List.replicate_zero, List.append_nil]
  exact bytesOf_rep b 201
end
end Go.AM.C

/- CmdLong answers true. -/
namespace Go.AM.C
open Go.Proofs
noncomputable section
set_option linter.unusedVariables false
set_option linter.unusedSimpArgs false
theorem tBs : S0.ty 67 = some ti67 := rfl
theorem tBy : S0.ty 5 = some ti5 := rfl
theorem tCm : S0.ty 64 = some ti64 := rfl
set_option maxRecDepth 100000 in
set_option maxHeartbeats 2000000 in
theorem long_has (n : Int) (b : UInt8) (H : Heap) : Has 6 [iA n, .int .u8 (b.toNat : Int)] H (.bool true) H := by
  obtain ⟨k, hk, hkn⟩ := rem10 n
  have hgl := get_line k hk
  have hsl := same_line k
  generalize errE k = Ek at hgl hsl
  have hgb := get_bytes b
  have hsb := same_bytes
  generalize errF 11 [108, 105, 110, 101] = Eb at hgb hsb
  refine does_pure s0 (show S0.fn 6 = some Tryz.f6 by kernel_rfl) rfl (by kernel_rfl) (Nat.le_of_ble_eq_true rfl) rfl rfl ?_
  refine W.seq (W.region ?_)
  refine WO.op rfl rfl (WO.nil (W.seq (W.region ?_)))
  refine WO.call rfl (begun_has _) rfl ?_
  refine WO.op rfl rfl (WO.nil (W.seq (W.seq (W.region ?_))))
  refine WO.op rfl rfl ?_
  refine WO.op rfl rfl (WO.nil (W.cond (b := false) rfl (fun h => by cases h) (fun _ => W.skip (W.seq (W.region ?_)))))
  refine WO.op rfl rfl ?_
  refine WO.op rfl rfl ?_
  refine WO.op rfl rfl ?_
  refine WO.as (v' := iA (k : Int)) rfl rfl (int_eq hkn) ?_
  refine WO.as (v' := iA ((195 + k : Nat) : Int)) rfl rfl (int_i64 (by omega) (by omega)) ?_
  refine WO.op rfl rfl (WO.nil (W.seq (W.region ?_)))
  refine WO.op rfl rfl (WO.nil (W.seq (W.block ?_)))
  refine W.fits (F' := fr [(0, iA ((195 + k : Nat) : Int)), (1, .int .u8 (b.toNat : Int)), (6, .str (lnS ++ lnT 0))]) (fits_fr ⟨rfl, rfl, rfl, trivial⟩) ?_
  refine W.loopI (fun j : Nat => j ≤ 100) (fun j => 100 - j) (fun j => fr [(0, iA ((195 + k : Nat) : Int)), (1, .int .u8 (b.toNat : Int)), (6, .str (lnS ++ lnT j))]) (fun _ => []) ?_ 0 (Nat.zero_le _)
  intro j hj
  have hlen : (lnS ++ lnT j).length = 6 + 2 * j := by rw [List.length_append, lnT_len]; rfl
  refine W.seq (W.seq (W.region ?_))
  refine WO.op rfl rfl ?_
  refine WO.op (G.len_str rfl rfl rfl tStr rfl) rfl ?_
  refine WO.op rfl rfl ?_
  by_cases hlt : 6 + 2 * j < 195 + k
  · refine WO.as (v' := .bool true) rfl rfl (bdT (by rw [hlen]; omega)) (WO.nil (W.cond (b := true) rfl (fun _ => W.skip ?_) (fun h => by cases h)))
    refine W.block (W.region ?_)
    refine WO.op rfl rfl ?_
    refine WO.op (G.cat rfl rfl (by rw [hlen]; show 6 + 2 * j + 2 ≤ _; omega)) rfl ?_
    refine WO.op rfl rfl (WO.nil ⟨j + 1, by omega, by omega, fits_fr ⟨rfl, rfl, ?_, trivial⟩, rfl⟩)
    exact congrArg AVal.str (lnT_succ j)
  · refine WO.as (v' := .bool false) rfl rfl (bdF (by rw [hlen]; omega)) (WO.nil (W.cond (b := false) rfl (fun h => by cases h) (fun _ => W.exit ?_)))
    refine W.seq (W.region ?_)
    refine WO.op rfl rfl ?_
    refine WO.op rfl rfl ?_
    refine WO.as (v' := .str (lineL (195 + k))) (G.slice_str (l := 0) (h := 195 + k) rfl tStr rfl rfl ⟨_, rfl⟩ (Nat.zero_le _) (by omega)) rfl (congrArg AVal.str (line_take j (195 + k) hj (by omega))) ?_
    refine WO.op rfl rfl (WO.nil (W.seq (W.region ?_)))
    refine WO.op rfl rfl ?_
    refine WO.call rfl (hgl _) rfl ?_
    refine WO.op rfl rfl ?_
    refine WO.op rfl rfl ?_
    refine WO.op rfl rfl ?_
    refine WO.op rfl rfl ?_
    refine WO.op (G.store_last (B := []) rfl rfl rfl rfl tCm rfl rfl rfl) rfl ?_
    refine WO.op rfl rfl (WO.nil (W.seq (W.region ?_)))
    refine WO.op (G.make (l := 201) (c := 201) rfl rfl tBs rfl tBy rfl (by decide) (by decide) (by decide)) rfl ?_
    refine WO.op rfl rfl (WO.nil (W.seq (W.seq (W.region ?_))))
    refine WO.op rfl rfl ?_
    refine WO.op rfl rfl ?_
    refine WO.op rfl rfl (WO.nil (W.block ?_))
    generalize hX : ([] ++ [AObj.cells _ _] : Heap) = X
    refine W.fits (F' := fr [(0, iA ((195 + k : Nat) : Int)), (1, .int .u8 (b.toNat : Int)), (8, .iface 165 Ek), (9, .sl X.length 0 201 (some 201) 1), (37, iA ((201 : Nat) : Int)), (38, iA ((0 : Nat) : Int))]) (fits_fr ⟨rfl, rfl, rfl, by rw [← hX]; rfl, rfl, rfl, trivial⟩) ?_
    refine W.heq (H' := X ++ [.cells (rowB b 0) 5]) rfl ?_
    refine W.loopI (fun j : Nat => j ≤ 201) (fun j => 201 - j) (fun j => fr [(0, iA ((195 + k : Nat) : Int)), (1, .int .u8 (b.toNat : Int)), (8, .iface 165 Ek), (9, .sl X.length 0 201 (some 201) 1), (37, iA ((201 : Nat) : Int)), (38, iA (j : Int))]) (fun j => X ++ [.cells (rowB b j) 5]) ?_ 0 (Nat.zero_le _)
    clear hj hlen hlt j
    intro j hj
    refine W.seq (W.region ?_)
    by_cases hlt : j < 201
    · refine WO.as (v' := .bool true) rfl rfl (bdT (by omega)) (WO.nil (W.seq (W.cond (b := true) rfl (fun _ => W.skip ?_) (fun h => by cases h))))
      refine W.seq (W.block (W.seq (W.region ?_)))
      refine WO.op rfl rfl ?_
      refine WO.op rfl rfl (WO.nil (W.region ?_))
      refine WO.op rfl rfl ?_
      refine WO.op rfl rfl ?_
      refine WO.op rfl rfl ?_
      refine WO.op (G.idx_sl rfl rfl tBs rfl tBy rfl (by omega) (by omega)) rfl ?_
      refine WO.op (G.store_ptr (v := .int .u8 (b.toNat : Int)) rfl rfl rfl tBy rfl (app_at rfl) (by rw [rowB_len b hj, Int.toNat_natCast]; omega)) rfl (WO.nil (W.region ?_))
      refine WO.as (v' := iA ((j + 1 : Nat) : Int)) rfl rfl (int_i64 (by omega) (by omega)) ?_
      refine WO.op rfl rfl (WO.nil ⟨j + 1, hlt, by omega, fits_fr ⟨rfl, rfl, rfl, rfl, rfl, rfl, trivial⟩, ?_⟩)
      rw [app_set rfl, Int.toNat_natCast, show 0 + j * 1 = j by omega, rowB_set b hlt]
    · have hje : j = 201 := by omega
      subst hje
      refine WO.as (v' := .bool false) rfl rfl (bdF (by omega)) (WO.nil (W.seq (W.cond (b := false) rfl (fun h => by cases h) (fun _ => W.exit ?_))))
      refine W.seq (W.region ?_)
      refine WO.op rfl rfl ?_
      refine WO.op (G.ofBytes rfl tBs rfl tStr rfl tBy rfl (app_at rfl) (rowB_len b (Nat.le_refl _)) (rowB_last b)) rfl ?_
      generalize X ++ [AObj.cells (rowB b 201) 5] = Y
      refine WO.call rfl (hgb _) rfl ?_
      refine WO.op rfl rfl ?_
      refine WO.op rfl rfl ?_
      refine WO.op rfl rfl ?_
      refine WO.op rfl rfl ?_
      refine WO.op (G.store_last (B := Y) rfl rfl rfl rfl tCm rfl rfl rfl) rfl ?_
      refine WO.op rfl rfl (WO.nil (W.seq (W.region ?_)))
      refine WO.op rfl rfl ?_
      refine WO.op rfl rfl ?_
      refine WO.op rfl rfl ?_
      refine WO.op rfl rfl ?_
      refine WO.call rfl (hsl _) rfl ?_
      refine WO.op rfl rfl ?_
      refine WO.as (v' := .bool (decide (5 < k))) rfl rfl (bdE (by omega)) ?_
      refine WO.as (v' := .bool true) rfl rfl (by cases decide (5 < k) <;> rfl) ?_
      refine WO.op rfl rfl ?_
      refine WO.op rfl rfl ?_
      refine WO.op rfl rfl ?_
      refine WO.call rfl (hsb _) rfl ?_
      refine WO.op rfl rfl ?_
      exact WO.op rfl rfl (WO.nil (W.ret ⟨trivial, _, rfl, Seals.same _ rfl⟩))
end
end Go.AM.C

