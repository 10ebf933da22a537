/- Part of a proof over the program's translation: begun, by a closed run.; LedgerEdge answers true.; LedgerEdge answers true. -/
import Derived.Test.YtgpgegkoihalnaaGreatDoorN4
import Derived.Test.YtgpgegkoihalnaaGreatDoorB0
noncomputable section
/- begun, by a closed run. -/
namespace Go.AM.C
open Go.Proofs
noncomputable section
set_option linter.unusedVariables false
set_option linter.unusedSimpArgs false
abbrev SMF : Sg := SC baseM10
theorem sMF : Sound Tryz.prog SMF := sc_sound (baseM10_ok _ (sc_glob _) (sc_pin _))
theorem begun_den : givesB (den SMF 5000 8 [] []) true = true := by kernel_rfl
theorem begun_has (H : Heap) : Has 8 [] H (.bool true) H := Has.un (run_B sMF rfl begun_den H)
end
end Go.AM.C

/- LedgerEdge answers true. -/
namespace Go.AM.C
open Go.Proofs
noncomputable section
set_option linter.unusedVariables false
set_option linter.unusedSimpArgs false

theorem and62 (n : Int) : ∃ v : Nat, wrapI .i64 ((BitVec.ofInt 64 n &&& BitVec.ofInt 64 4611686018427387903).toNat : Int) = (v : Int) ∧ v < 4611686018427387904 := by
  have h : (BitVec.ofInt 64 n &&& BitVec.ofInt 64 4611686018427387903).toNat ≤ 4611686018427387903 := by
    rw [BitVec.toNat_and]
    exact Nat.and_le_right
  generalize (BitVec.ofInt 64 n &&& BitVec.ofInt 64 4611686018427387903).toNat = v at h ⊢
  exact ⟨v, wrap_i64 (by omega), by omega⟩

def nA : List UInt8 := [97]
def nB : List UInt8 := [98]
def nC : List UInt8 := [99]
def nD : List UInt8 := [100]
instance i64_dec (z : Int) : Decidable (i64 z) := inferInstanceAs (Decidable (_ ∧ _))
theorem hlb2 {a b : List UInt8} {x y : Int} (hx : i64 x) (hy : i64 y) (ha : a.length ≤ 20) (hb : b.length ≤ 20) : ∀ p ∈ [(a, x), (b, y)], i64 p.2 ∧ p.1.length < 4611686018427387904 := fun p hp => by
  simp only [List.mem_cons, List.not_mem_nil, or_false] at hp
  rcases hp with rfl | rfl
  · exact ⟨hx, by simp only; omega⟩
  · exact ⟨hy, by simp only; omega⟩
theorem small64_of {z : Int} (h : i64 z) : small64 z = true := by unfold small64; unfold i64 at h; simp [h.1, h.2]
theorem small64_no {z : Int} (h : ¬ i64 z) : small64 z = false := by
  unfold i64 at h
  rw [Bool.eq_false_iff]
  intro h2
  exact h (small_i64 h2)
/-- Two postings of two names. -/
theorem two_sums {a b : List UInt8} (h : a ≠ b) (x y : Int) : sumsOf false [(a, x), (b, y)] = [(a, some x), (b, some y)] := by
  have h' : ¬ b = a := fun e => h e.symm
  simp [sumsOf, sumStep, putE, keyIdx, look, getE, sg, h, h']
theorem one_sums (a : List UInt8) (x y : Int) : sumsOf false [(a, x), (a, y)] = [(a, some (x + y))] := by
  simp [sumsOf, sumStep, putE, keyIdx, look, getE, sg]
theorem code_two {m : Posts} {a b : List UInt8} (h : a ≠ b) (ha : nameOk a = true) (hb : nameOk b = true) (x : Int) : bookCode false m [(a, x), (b, -x)] = if i64 (look 0 m a + x) ∧ i64 (look 0 m b + -x) then 0 else 11 := by
  have ht : total false [(a, x), (b, -x)] = 0 := by simp [total, sg]; omega
  unfold bookCode allSmall
  rw [if_pos (by simp [ha, hb]), if_pos ht, two_sums h]
  by_cases h1 : i64 (look 0 m a + x) ∧ i64 (look 0 m b + -x)
  · rw [if_pos h1, if_pos]
    simp [small64_of h1.1, small64_of h1.2]
  · rw [if_neg h1, if_neg]
    intro h2
    simp only [List.all_cons, List.all_nil, Bool.and_true, Bool.and_eq_true, Option.getD_some] at h2
    exact h1 ⟨small_i64 h2.1, small_i64 h2.2⟩
theorem code_one {m : Posts} {a : List UInt8} (ha : nameOk a = true) (x : Int) (h : i64 (look 0 m a)) : bookCode false m [(a, x), (a, -x)] = 0 := by
  have ht : total false [(a, x), (a, -x)] = 0 := by simp [total, sg]; omega
  unfold bookCode allSmall
  rw [if_pos (by simp [ha]), if_pos ht, one_sums, if_pos]
  have : look 0 m a + (x + -x) = look 0 m a := by omega
  simp only [List.all_cons, List.all_nil, Bool.and_true, Option.getD_some, this]
  exact small64_of h

abbrev lgC (l : List AVal) : AObj := .cells l 86
abbrev psC (l : Posts) : AObj := .cells (postC l) 40
theorem i64_iff (z : Int) : i64 z ↔ -9223372036854775808 ≤ z ∧ z < 9223372036854775808 := Iff.rfl

theorem post_e1 (v : Nat) (hv : v < 4611686018427387904) : Has 15 [.ptr 0 0, .sl 1 0 2 (some 2) 2] [lgC [.nilm, iA 0], psC [(nA, (v : Int)), (nB, -(v : Int))]] .nili [lgC [imapA [(nA, (v : Int)), (nB, -(v : Int))], iA 1], psC [(nA, (v : Int)), (nB, -(v : Int))]] := by
  have h := post_has (H := [lgC [.nilm, iA 0], psC [(nA, (v : Int)), (nB, -(v : Int))]]) (L := 0) (src := .nilm) (cnt := 0) (m := []) rfl (.inr ⟨rfl, rfl⟩) (by simp) (by simp) ⟨by decide, by decide⟩ (ps := .sl 1 0 2 (some 2) 2) (l := [(nA, v), (nB, -v)]) (postsOf_slp rfl)
    (hlb2 (by rw [i64_iff]; omega) (by rw [i64_iff]; omega) (by decide) (by decide)) (by simp)
  have hc : bookCode false [] [(nA, (v : Int)), (nB, -v)] = 0 := by
    rw [code_two (by decide) (by kernel_rfl) (by kernel_rfl), if_pos]
    simp only [i64_iff]
    have e1 : look 0 ([] : Posts) nA = 0 := rfl
    have e2 : look 0 ([] : Posts) nB = 0 := rfl
    rw [e1, e2]; omega
  have he : bookE [] (sumsOf false [(nA, (v : Int)), (nB, -v)]) = [(nA, (v : Int)), (nB, -v)] := by
    rw [two_sums (by decide)]
    simp [bookE, putE, keyIdx, look, getE, nA, nB]
  rw [hc, if_pos rfl, he] at h
  exact h
theorem post_e2 (v x : Nat) (P1 : AObj) (hv : v < 4611686018427387904) (hx : v + x = 9223372036854775807) : Has 15 [.ptr 0 0, .sl 2 0 2 (some 2) 2] [lgC [imapA [(nA, (v : Int)), (nB, -(v : Int))], iA 1], P1, psC [(nA, (x : Int)), (nC, -(x : Int))]] .nili
    [lgC [imapA [(nA, 9223372036854775807), (nB, -(v : Int)), (nC, -(x : Int))], iA 2], P1, psC [(nA, (x : Int)), (nC, -(x : Int))]] := by
  have h := post_has (H := [lgC [imapA [(nA, (v : Int)), (nB, -v)], iA 1], P1, psC [(nA, (x : Int)), (nC, -(x : Int))]]) (L := 0) (src := imapA [(nA, (v : Int)), (nB, -v)]) (cnt := 1) (m := [(nA, (v : Int)), (nB, -v)]) rfl (.inl rfl) (show ([nA, nB] : List (List UInt8)).Nodup by decide)
    (fun p hp => by simp only [List.mem_cons, List.not_mem_nil, or_false] at hp; rcases hp with rfl | rfl <;> (rw [i64_iff]; simp only; omega)) ⟨by decide, by decide⟩ (ps := .sl 2 0 2 (some 2) 2) (l := [(nA, x), (nC, -x)]) (postsOf_slp rfl)
    (hlb2 (by rw [i64_iff]; omega) (by rw [i64_iff]; omega) (by decide) (by decide)) (by simp)
  have e1 : look 0 [(nA, (v : Int)), (nB, -v)] nA = v := rfl
  have e2 : look 0 [(nA, (v : Int)), (nB, -v)] nC = 0 := rfl
  have hc : bookCode false [(nA, (v : Int)), (nB, -v)] [(nA, (x : Int)), (nC, -x)] = 0 := by
    rw [code_two (by decide) (by kernel_rfl) (by kernel_rfl), if_pos]
    simp only [i64_iff, e1, e2]
    omega
  have he : bookE [(nA, (v : Int)), (nB, -v)] (sumsOf false [(nA, (x : Int)), (nC, -x)]) = [(nA, 9223372036854775807), (nB, -(v : Int)), (nC, -(x : Int))] := by
    rw [two_sums (by decide)]
    have : (v : Int) + x = 9223372036854775807 := by omega
    simp [bookE, putE, keyIdx, look, getE, nA, nB, nC, this]
  rw [hc, if_pos rfl, he] at h
  exact h
theorem post_e3 (v x y : Nat) (P1 P2 : AObj) (hv : v < 4611686018427387904) (hx : v + x = 9223372036854775807) (hy : 0 < y ∧ y ≤ 4611686018427387904) : Has 15 [.ptr 0 0, .sl 3 0 2 (some 2) 2]
    [lgC [imapA [(nA, 9223372036854775807), (nB, -(v : Int)), (nC, -(x : Int))], iA 2], P1, P2, psC [(nA, (y : Int)), (nD, -(y : Int))]] (errA 11) [lgC [imapA [(nA, 9223372036854775807), (nB, -(v : Int)), (nC, -(x : Int))], iA 2], P1, P2, psC [(nA, (y : Int)), (nD, -(y : Int))]] := by
  have h := post_has (H := [lgC [imapA [(nA, 9223372036854775807), (nB, -(v : Int)), (nC, -(x : Int))], iA 2], P1, P2, psC [(nA, (y : Int)), (nD, -(y : Int))]]) (L := 0) (src := imapA [(nA, 9223372036854775807), (nB, -(v : Int)), (nC, -(x : Int))]) (cnt := 2) (m := [(nA, 9223372036854775807), (nB, -(v : Int)), (nC, -(x : Int))]) rfl (.inl rfl) (show ([nA, nB, nC] : List (List UInt8)).Nodup by decide)
    (fun p hp => by simp only [List.mem_cons, List.not_mem_nil, or_false] at hp; rcases hp with rfl | rfl | rfl <;> (rw [i64_iff]; simp only; omega)) ⟨by decide, by decide⟩ (ps := .sl 3 0 2 (some 2) 2) (l := [(nA, y), (nD, -y)]) (postsOf_slp rfl)
    (hlb2 (by rw [i64_iff]; omega) (by rw [i64_iff]; omega) (by decide) (by decide)) (by simp)
  have e1 : look 0 [(nA, 9223372036854775807), (nB, -(v : Int)), (nC, -(x : Int))] nA = 9223372036854775807 := rfl
  have hc : bookCode false [(nA, 9223372036854775807), (nB, -(v : Int)), (nC, -(x : Int))] [(nA, (y : Int)), (nD, -y)] = 11 := by
    rw [code_two (by decide) (by kernel_rfl) (by kernel_rfl), if_neg]
    simp only [i64_iff, e1]
    omega
  rw [hc, if_neg (by decide)] at h
  exact h
theorem post_e4 (v x y : Nat) (P1 P2 P3 : AObj) (hv : v < 4611686018427387904) (hx : v + x = 9223372036854775807) (hy : 0 < y ∧ y ≤ 4611686018427387904) : Has 15 [.ptr 0 0, .sl 4 0 2 (some 2) 2]
    [lgC [imapA [(nA, 9223372036854775807), (nB, -(v : Int)), (nC, -(x : Int))], iA 2], P1, P2, P3, psC [(nA, (y : Int)), (nA, -(y : Int))]] .nili [lgC [imapA [(nA, 9223372036854775807), (nB, -(v : Int)), (nC, -(x : Int))], iA 3], P1, P2, P3, psC [(nA, (y : Int)), (nA, -(y : Int))]] := by
  have h := post_has (H := [lgC [imapA [(nA, 9223372036854775807), (nB, -(v : Int)), (nC, -(x : Int))], iA 2], P1, P2, P3, psC [(nA, (y : Int)), (nA, -(y : Int))]]) (L := 0) (src := imapA [(nA, 9223372036854775807), (nB, -(v : Int)), (nC, -(x : Int))]) (cnt := 2) (m := [(nA, 9223372036854775807), (nB, -(v : Int)), (nC, -(x : Int))]) rfl (.inl rfl) (show ([nA, nB, nC] : List (List UInt8)).Nodup by decide)
    (fun p hp => by simp only [List.mem_cons, List.not_mem_nil, or_false] at hp; rcases hp with rfl | rfl | rfl <;> (rw [i64_iff]; simp only; omega)) ⟨by decide, by decide⟩ (ps := .sl 4 0 2 (some 2) 2) (l := [(nA, y), (nA, -y)]) (postsOf_slp rfl)
    (hlb2 (by rw [i64_iff]; omega) (by rw [i64_iff]; omega) (by decide) (by decide)) (by simp)
  have e1 : look 0 [(nA, 9223372036854775807), (nB, -(v : Int)), (nC, -(x : Int))] nA = 9223372036854775807 := rfl
  have hc : bookCode false [(nA, 9223372036854775807), (nB, -(v : Int)), (nC, -(x : Int))] [(nA, (y : Int)), (nA, -y)] = 0 := code_one (by kernel_rfl) _ (by rw [e1]; decide)
  have he : bookE [(nA, 9223372036854775807), (nB, -(v : Int)), (nC, -(x : Int))] (sumsOf false [(nA, (y : Int)), (nA, -y)]) = [(nA, 9223372036854775807), (nB, -(v : Int)), (nC, -(x : Int))] := by
    rw [one_sums]
    have : (9223372036854775807 : Int) + ((y : Int) + -y) = 9223372036854775807 := by omega
    simp only [bookE, List.foldl_cons, List.foldl_nil, e1, Option.getD_some, this]
    rfl
  rw [hc, if_pos rfl, he] at h
  exact h
end
end Go.AM.C

/- LedgerEdge answers true. -/
namespace Go.AM.C
open Go.Proofs
noncomputable section
set_option linter.unusedVariables false
set_option linter.unusedSimpArgs false

set_option maxRecDepth 100000 in
theorem edge_has (n more : Int) (H : Heap) : Has 5 [iA n, iA more] H (.bool true) H := by
  obtain ⟨v, hv, hv1⟩ := and62 n
  obtain ⟨z, hz, hz1⟩ := and62 more
  obtain ⟨x, hx⟩ : ∃ x : Nat, v + x = 9223372036854775807 := ⟨9223372036854775807 - v, by omega⟩
  obtain ⟨y, rfl⟩ : ∃ y : Nat, y = 1 + z := ⟨_, rfl⟩
  have hy : 0 < 1 + z ∧ 1 + z ≤ 4611686018427387904 := by omega
  have hyz : AVal.int .i64 (wrapI .i64 (1 + (z : Int))) = iA ((1 + z : Nat) : Int) := int_i64 (by omega) (by omega)
  generalize 1 + z = y at *
  refine does_pure s0 (show S0.fn 5 = some Tryz.f5 by kernel_rfl) rfl (by kernel_rfl) (Nat.le_of_ble_eq_true rfl) rfl rfl ?_
  refine W.seq (W.region ?_)
  refine WO.op rfl rfl (WO.nil (W.seq (W.region ?_)))
  refine WO.call rfl (begun_has _) rfl ?_
  refine WO.op rfl rfl (WO.nil (W.seq (W.seq (W.region ?_))))
  refine WO.op rfl rfl ?_
  refine WO.op rfl rfl (WO.nil (W.cond (b := false) rfl (fun h => by cases h) (fun _ => W.skip (W.seq (W.region ?_)))))
  refine WO.op rfl rfl ?_
  refine WO.as (v' := iA (v : Int)) rfl rfl (int_eq hv) ?_
  refine WO.op rfl rfl (WO.nil (W.seq (W.region ?_)))
  refine WO.op rfl rfl ?_
  refine WO.as (v' := iA (z : Int)) rfl rfl (int_eq hz) ?_
  refine WO.as (v' := iA (y : Int)) rfl rfl hyz ?_
  refine WO.op rfl rfl (WO.nil (W.seq (W.region ?_)))
  refine WO.call rfl (new_has _) rfl ?_
  refine WO.op rfl rfl (WO.nil (W.seq (W.seq (W.region ?_))))
  refine WO.op rfl rfl ?_
  refine WO.op rfl rfl ?_
  refine WO.op rfl rfl ?_
  refine WO.op rfl rfl ?_
  refine WO.as (v' := iA (-(v : Int))) rfl rfl (int_i64 (by omega) (by omega)) ?_
  refine WO.op rfl rfl ?_
  refine WO.op rfl rfl ?_
  refine WO.call rfl (post_e1 v hv1) rfl ?_
  refine WO.op rfl rfl (WO.nil (W.cond (b := false) rfl (fun h => by cases h) (fun _ => W.skip (W.seq (W.region ?_)))))
  refine WO.op rfl rfl ?_
  refine WO.as (v' := iA (x : Int)) rfl rfl (int_i64 (by omega) (by omega)) ?_
  refine WO.op rfl rfl (WO.nil (W.seq (W.region ?_)))
  refine WO.op rfl rfl ?_
  refine WO.op rfl rfl ?_
  refine WO.op rfl rfl ?_
  refine WO.op rfl rfl ?_
  refine WO.as (v' := iA (-(x : Int))) rfl rfl (int_i64 (by omega) (by omega)) ?_
  refine WO.op rfl rfl ?_
  refine WO.op rfl rfl ?_
  refine WO.call rfl (post_e2 v x _ hv1 hx) rfl ?_
  refine WO.op rfl rfl (WO.nil (W.seq (W.region ?_)))
  refine WO.op rfl rfl ?_
  refine WO.op rfl rfl ?_
  refine WO.op rfl rfl ?_
  refine WO.op rfl rfl ?_
  refine WO.as (v' := iA (-(y : Int))) rfl rfl (int_i64 (by omega) (by omega)) ?_
  refine WO.op rfl rfl ?_
  refine WO.op rfl rfl ?_
  refine WO.call rfl (post_e3 v x y _ _ hv1 hx hy) rfl ?_
  refine WO.op rfl rfl (WO.nil (W.seq (W.region ?_)))
  refine WO.op rfl rfl ?_
  refine WO.op rfl rfl ?_
  refine WO.op rfl rfl ?_
  refine WO.op rfl rfl ?_
  refine WO.as (v' := iA (-(y : Int))) rfl rfl (int_i64 (by omega) (by omega)) ?_
  refine WO.op rfl rfl ?_
  refine WO.op rfl rfl ?_
  refine WO.call rfl (post_e4 v x y _ _ _ hv1 hx hy) rfl ?_
  refine WO.op rfl rfl (WO.nil (W.seq (W.region ?_)))
  have hnd : (([(nA, 9223372036854775807), (nB, -(v : Int)), (nC, -(x : Int))] : Posts).map (·.1)).Nodup := show ([nA, nB, nC] : List (List UInt8)).Nodup by decide
  refine WO.op rfl rfl ?_
  refine WO.op rfl rfl ?_
  refine WO.op rfl rfl ?_
  refine WO.op rfl rfl ?_
  refine WO.call rfl (same_has 11 11 (by omega) _) rfl ?_
  refine WO.op rfl rfl ?_
  refine WO.op rfl rfl ?_
  refine WO.op rfl rfl ?_
  refine WO.call rfl (balance_has (m := [(nA, 9223372036854775807), (nB, -(v : Int)), (nC, -(x : Int))]) rfl (.inl rfl) hnd nA) rfl ?_
  refine WO.as (v' := .bool true) rfl rfl (bdT rfl) ?_
  refine WO.op rfl rfl ?_
  refine WO.op rfl rfl ?_
  refine WO.op rfl rfl ?_
  refine WO.call rfl (balance_has (m := [(nA, 9223372036854775807), (nB, -(v : Int)), (nC, -(x : Int))]) rfl (.inl rfl) hnd nD) rfl ?_
  refine WO.as (v' := .bool true) rfl rfl (bdT rfl) ?_
  refine WO.op rfl rfl ?_
  refine WO.op rfl rfl ?_
  refine WO.op rfl rfl ?_
  refine WO.op rfl rfl ?_
  refine WO.op rfl rfl ?_
  refine WO.op rfl rfl ?_
  refine WO.op rfl rfl ?_
  refine WO.call rfl (len_has rfl) rfl ?_
  refine WO.op rfl rfl ?_
  refine WO.op rfl rfl ?_
  refine WO.op rfl rfl ?_
  exact WO.nil (W.ret ⟨trivial, _, rfl, Seals.same _ rfl⟩)
end
end Go.AM.C

