/- Part of a proof over the program's translation: begun, by a closed run.; LedgerEdge answers true.; LedgerEdge answers true. .. -/
import Derived.Test.YtgpgegkoihalnaaGreatDoorN4
import Derived.Test.YtgpgegkoihalnaaGreatDoorN5
import Derived.Test.YtgpgegkoihalnaaGreatDoorB0
noncomputable section
/- begun, by a closed run. -/
namespace Go.AM.C
open Go.Proofs
noncomputable section
set_option linter.unusedVariables false
set_option linter.unusedSimpArgs false
abbrev SMF : Sg := SC baseM10
theorem sMF : Sound Tryz.prog SMF := sc_sound (baseM10_ok _ (sc_glob _) (sc_pin _))
theorem begun_den : givesB (den SMF 5000 8 [] []) true = true := by kernel_rfl
theorem begun_has (H : Heap) : Has 8 [] H (.bool true) H := Has.un (run_B sMF rfl begun_den H)
end
end Go.AM.C

/- LedgerEdge answers true. -/
namespace Go.AM.C
open Go.Proofs
noncomputable section
set_option linter.unusedVariables false
set_option linter.unusedSimpArgs false

theorem and62 (n : Int) : ∃ v : Nat, wrapI .i64 ((BitVec.ofInt 64 n &&& BitVec.ofInt 64 4611686018427387903).toNat : Int) = (v : Int) ∧ v < 4611686018427387904 := by
  have h : (BitVec.ofInt 64 n &&& BitVec.ofInt 64 4611686018427387903).toNat ≤ 4611686018427387903 := by
    rw [BitVec.toNat_and]
    exact Nat.and_le_right
  generalize (BitVec.ofInt 64 n &&& BitVec.ofInt 64 4611686018427387903).toNat = v at h ⊢
  exact ⟨v, wrap_i64 (by omega), by omega⟩

def nA : List UInt8 := [97]
def nB : List UInt8 := [98]
def nC : List UInt8 := [99]
def nD : List UInt8 := [100]
instance i64_dec (z : Int) : Decidable (i64 z) := inferInstanceAs (Decidable (_ ∧ _))
theorem hlb2 {a b : List UInt8} {x y : Int} (hx : i64 x) (hy : i64 y) (ha : a.length ≤ 20) (hb : b.length ≤ 20) : ∀ p ∈ [(a, x), (b, y)], i64 p.2 ∧ p.1.length < 4611686018427387904 := fun p hp => by
  simp only [List.mem_cons, List.not_mem_nil, or_false] at hp
  rcases hp with rfl | rfl
  · exact ⟨hx, by simp only; omega⟩
  · exact ⟨hy, by simp only; omega⟩
theorem small64_of {z : Int} (h : i64 z) : small64 z = true := by unfold small64; unfold i64 at h; simp [h.1, h.2]
theorem small64_no {z : Int} (h : ¬ i64 z) : small64 z = false := by
  unfold i64 at h
  rw [Bool.eq_false_iff]
  intro h2
  exact h (small_i64 h2)
/-- Two postings of two names. -/
theorem two_sums {a b : List UInt8} (h : a ≠ b) (x y : Int) : sumsOf false [(a, x), (b, y)] = [(a, some x), (b, some y)] := by
  have h' : ¬ b = a := fun e => h e.symm
  simp [sumsOf, sumStep, putE, keyIdx, look, getE, sg, h, h']
theorem one_sums (a : List UInt8) (x y : Int) : sumsOf false [(a, x), (a, y)] = [(a, some (x + y))] := by
  simp [sumsOf, sumStep, putE, keyIdx, look, getE, sg]
theorem code_two {m : Posts} {a b : List UInt8} (h : a ≠ b) (ha : nameOk a = true) (hb : nameOk b = true) (x : Int) : bookCode false m [(a, x), (b, -x)] = if i64 (look 0 m a + x) ∧ i64 (look 0 m b + -x) then 0 else 11 := by
  have ht : total false [(a, x), (b, -x)] = 0 := by simp [total, sg]; omega
  unfold bookCode allSmall
  rw [if_pos (by simp [ha, hb]), if_pos ht, two_sums h]
  by_cases h1 : i64 (look 0 m a + x) ∧ i64 (look 0 m b + -x)
  · rw [if_pos h1, if_pos]
    simp [small64_of h1.1, small64_of h1.2]
  · rw [if_neg h1, if_neg]
    intro h2
    simp only [List.all_cons, List.all_nil, Bool.and_true, Bool.and_eq_true, Option.getD_some] at h2
    exact h1 ⟨small_i64 h2.1, small_i64 h2.2⟩
theorem code_one {m : Posts} {a : List UInt8} (ha : nameOk a = true) (x : Int) (h : i64 (look 0 m a)) : bookCode false m [(a, x), (a, -x)] = 0 := by
  have ht : total false [(a, x), (a, -x)] = 0 := by simp [total, sg]; omega
  unfold bookCode allSmall
  rw [if_pos (by simp [ha]), if_pos ht, one_sums, if_pos]
  have : look 0 m a + (x + -x) = look 0 m a := by omega
  simp only [List.all_cons, List.all_nil, Bool.and_true, Option.getD_some, this]
  exact small64_of h

abbrev lgC (l : List AVal) : AObj := .cells l 86
abbrev psC (l : Posts) : AObj := .cells (postC l) 40
theorem i64_iff (z : Int) : i64 z ↔ -9223372036854775808 ≤ z ∧ z < 9223372036854775808 := Iff.rfl

theorem post_e1 (v : Nat) (hv : v < 4611686018427387904) : Has 15 [.ptr 0 0, .sl 1 0 2 (some 2) 2] [lgC [.nilm, iA 0], psC [(nA, (v : Int)), (nB, -(v : Int))]] .nili [lgC [imapA [(nA, (v : Int)), (nB, -(v : Int))], iA 1], psC [(nA, (v : Int)), (nB, -(v : Int))]] := by
  have h := post_has (H := [lgC [.nilm, iA 0], psC [(nA, (v : Int)), (nB, -(v : Int))]]) (L := 0) (src := .nilm) (cnt := 0) (m := []) rfl (.inr ⟨rfl, rfl⟩) (by simp) (by simp) ⟨by decide, by decide⟩ (ps := .sl 1 0 2 (some 2) 2) (l := [(nA, v), (nB, -v)]) (postsOf_slp rfl)
    (hlb2 (by rw [i64_iff]; omega) (by rw [i64_iff]; omega) (by decide) (by decide)) (by simp)
  have hc : bookCode false [] [(nA, (v : Int)), (nB, -v)] = 0 := by
    rw [code_two (by decide) (by kernel_rfl) (by kernel_rfl), if_pos]
    simp only [i64_iff]
    have e1 : look 0 ([] : Posts) nA = 0 := rfl
    have e2 : look 0 ([] : Posts) nB = 0 := rfl
    rw [e1, e2]; omega
  have he : bookE [] (sumsOf false [(nA, (v : Int)), (nB, -v)]) = [(nA, (v : Int)), (nB, -v)] := by
    rw [two_sums (by decide)]
    simp [bookE, putE, keyIdx, look, getE, nA, nB]
  rw [hc, if_pos rfl, he] at h
  exact h
theorem post_e2 (v x : Nat) (P1 : AObj) (hv : v < 4611686018427387904) (hx : v + x = 9223372036854775807) : Has 15 [.ptr 0 0, .sl 2 0 2 (some 2) 2] [lgC [imapA [(nA, (v : Int)), (nB, -(v : Int))], iA 1], P1, psC [(nA, (x : Int)), (nC, -(x : Int))]] .nili
    [lgC [imapA [(nA, 9223372036854775807), (nB, -(v : Int)), (nC, -(x : Int))], iA 2], P1, psC [(nA, (x : Int)), (nC, -(x : Int))]] := by
  have h := post_has (H := [lgC [imapA [(nA, (v : Int)), (nB, -v)], iA 1], P1, psC [(nA, (x : Int)), (nC, -(x : Int))]]) (L := 0) (src := imapA [(nA, (v : Int)), (nB, -v)]) (cnt := 1) (m := [(nA, (v : Int)), (nB, -v)]) rfl (.inl rfl) (show ([nA, nB] : List (List UInt8)).Nodup by decide)
    (fun p hp => by simp only [List.mem_cons, List.not_mem_nil, or_false] at hp; rcases hp with rfl | rfl <;> (rw [i64_iff]; simp only; omega)) ⟨by decide, by decide⟩ (ps := .sl 2 0 2 (some 2) 2) (l := [(nA, x), (nC, -x)]) (postsOf_slp rfl)
    (hlb2 (by rw [i64_iff]; omega) (by rw [i64_iff]; omega) (by decide) (by decide)) (by simp)
  have e1 : look 0 [(nA, (v : Int)), (nB, -v)] nA = v := rfl
  have e2 : look 0 [(nA, (v : Int)), (nB, -v)] nC = 0 := rfl
  have hc : bookCode false [(nA, (v : Int)), (nB, -v)] [(nA, (x : Int)), (nC, -x)] = 0 := by
    rw [code_two (by decide) (by kernel_rfl) (by kernel_rfl), if_pos]
    simp only [i64_iff, e1, e2]
    omega
  have he : bookE [(nA, (v : Int)), (nB, -v)] (sumsOf false [(nA, (x : Int)), (nC, -x)]) = [(nA, 9223372036854775807), (nB, -(v : Int)), (nC, -(x : Int))] := by
    rw [two_sums (by decide)]
    have : (v : Int) + x = 9223372036854775807 := by omega
    simp [bookE, putE, keyIdx, look, getE, nA, nB, nC, this]
  rw [hc, if_pos rfl, he] at h
  exact h
theorem post_e3 (v x y : Nat) (P1 P2 : AObj) (hv : v < 4611686018427387904) (hx : v + x = 9223372036854775807) (hy : 0 < y ∧ y ≤ 4611686018427387904) : Has 15 [.ptr 0 0, .sl 3 0 2 (some 2) 2]
    [lgC [imapA [(nA, 9223372036854775807), (nB, -(v : Int)), (nC, -(x : Int))], iA 2], P1, P2, psC [(nA, (y : Int)), (nD, -(y : Int))]] (errA 11) [lgC [imapA [(nA, 9223372036854775807), (nB, -(v : Int)), (nC, -(x : Int))], iA 2], P1, P2, psC [(nA, (y : Int)), (nD, -(y : Int))]] := by
  have h := post_has (H := [lgC [imapA [(nA, 9223372036854775807), (nB, -(v : Int)), (nC, -(x : Int))], iA 2], P1, P2, psC [(nA, (y : Int)), (nD, -(y : Int))]]) (L := 0) (src := imapA [(nA, 9223372036854775807), (nB, -(v : Int)), (nC, -(x : Int))]) (cnt := 2) (m := [(nA, 9223372036854775807), (nB, -(v : Int)), (nC, -(x : Int))]) rfl (.inl rfl) (show ([nA, nB, nC] : List (List UInt8)).Nodup by decide)
    (fun p hp => by simp only [List.mem_cons, List.not_mem_nil, or_false] at hp; rcases hp with rfl | rfl | rfl <;> (rw [i64_iff]; simp only; omega)) ⟨by decide, by decide⟩ (ps := .sl 3 0 2 (some 2) 2) (l := [(nA, y), (nD, -y)]) (postsOf_slp rfl)
    (hlb2 (by rw [i64_iff]; omega) (by rw [i64_iff]; omega) (by decide) (by decide)) (by simp)
  have e1 : look 0 [(nA, 9223372036854775807), (nB, -(v : Int)), (nC, -(x : Int))] nA = 9223372036854775807 := rfl
  have hc : bookCode false [(nA, 9223372036854775807), (nB, -(v : Int)), (nC, -(x : Int))] [(nA, (y : Int)), (nD, -y)] = 11 := by
    rw [code_two (by decide) (by kernel_rfl) (by kernel_rfl), if_neg]
    simp only [i64_iff, e1]
    omega
  rw [hc, if_neg (by decide)] at h
  exact h
theorem post_e4 (v x y : Nat) (P1 P2 P3 : AObj) (hv : v < 4611686018427387904) (hx : v + x = 9223372036854775807) (hy : 0 < y ∧ y ≤ 4611686018427387904) : Has 15 [.ptr 0 0, .sl 4 0 2 (some 2) 2]
    [lgC [imapA [(nA, 9223372036854775807), (nB, -(v : Int)), (nC, -(x : Int))], iA 2], P1, P2, P3, psC [(nA, (y : Int)), (nA, -(y : Int))]] .nili [lgC [imapA [(nA, 9223372036854775807), (nB, -(v : Int)), (nC, -(x : Int))], iA 3], P1, P2, P3, psC [(nA, (y : Int)), (nA, -(y : Int))]] := by
  have h := post_has (H := [lgC [imapA [(nA, 9223372036854775807), (nB, -(v : Int)), (nC, -(x : Int))], iA 2], P1, P2, P3, psC [(nA, (y : Int)), (nA, -(y : Int))]]) (L := 0) (src := imapA [(nA, 9223372036854775807), (nB, -(v : Int)), (nC, -(x : Int))]) (cnt := 2) (m := [(nA, 9223372036854775807), (nB, -(v : Int)), (nC, -(x : Int))]) rfl (.inl rfl) (show ([nA, nB, nC] : List (List UInt8)).Nodup by decide)
    (fun p hp => by simp only [List.mem_cons, List.not_mem_nil, or_false] at hp; rcases hp with rfl | rfl | rfl <;> (rw [i64_iff]; simp only; omega)) ⟨by decide, by decide⟩ (ps := .sl 4 0 2 (some 2) 2) (l := [(nA, y), (nA, -y)]) (postsOf_slp rfl)
    (hlb2 (by rw [i64_iff]; omega) (by rw [i64_iff]; omega) (by decide) (by decide)) (by simp)
  have e1 : look 0 [(nA, 9223372036854775807), (nB, -(v : Int)), (nC, -(x : Int))] nA = 9223372036854775807 := rfl
  have hc : bookCode false [(nA, 9223372036854775807), (nB, -(v : Int)), (nC, -(x : Int))] [(nA, (y : Int)), (nA, -y)] = 0 := code_one (by kernel_rfl) _ (by rw [e1]; decide)
  have he : bookE [(nA, 9223372036854775807), (nB, -(v : Int)), (nC, -(x : Int))] (sumsOf false [(nA, (y : Int)), (nA, -y)]) = [(nA, 9223372036854775807), (nB, -(v : Int)), (nC, -(x : Int))] := by
    rw [one_sums]
    have : (9223372036854775807 : Int) + ((y : Int) + -y) = 9223372036854775807 := by omega
    simp only [bookE, List.foldl_cons, List.foldl_nil, e1, Option.getD_some, this]
    rfl
  rw [hc, if_pos rfl, he] at h
  exact h
end
end Go.AM.C

/- LedgerEdge answers true. -/
namespace Go.AM.C
open Go.Proofs
noncomputable section
set_option linter.unusedVariables false
set_option linter.unusedSimpArgs false

set_option maxRecDepth 100000 in
theorem edge_has (n more : Int) (H : Heap) : Has 5 [iA n, iA more] H (.bool true) H := by
  obtain ⟨v, hv, hv1⟩ := and62 n
  obtain ⟨z, hz, hz1⟩ := and62 more
  obtain ⟨x, hx⟩ : ∃ x : Nat, v + x = 9223372036854775807 := ⟨9223372036854775807 - v, by omega⟩
  obtain ⟨y, rfl⟩ : ∃ y : Nat, y = 1 + z := ⟨_, rfl⟩
  have hy : 0 < 1 + z ∧ 1 + z ≤ 4611686018427387904 := by omega
  have hyz : AVal.int .i64 (wrapI .i64 (1 + (z : Int))) = iA ((1 + z : Nat) : Int) := int_i64 (by omega) (by omega)
  generalize 1 + z = y at *
  refine does_pure s0 (show S0.fn 5 = some Tryz.f5 by kernel_rfl) rfl (by kernel_rfl) (Nat.le_of_ble_eq_true rfl) rfl rfl ?_
  refine W.seq (W.region ?_)
  refine WO.op rfl rfl (WO.nil (W.seq (W.region ?_)))
  refine WO.call rfl (begun_has _) rfl ?_
  refine WO.op rfl rfl (WO.nil (W.seq (W.seq (W.region ?_))))
  refine WO.op rfl rfl ?_
  refine WO.op rfl rfl (WO.nil (W.cond (b := false) rfl (fun h => by cases h) (fun _ => W.skip (W.seq (W.region ?_)))))
  refine WO.op rfl rfl ?_
  refine WO.as (v' := iA (v : Int)) rfl rfl (int_eq hv) ?_
  refine WO.op rfl rfl (WO.nil (W.seq (W.region ?_)))
  refine WO.op rfl rfl ?_
  refine WO.as (v' := iA (z : Int)) rfl rfl (int_eq hz) ?_
  refine WO.as (v' := iA (y : Int)) rfl rfl hyz ?_
  refine WO.op rfl rfl (WO.nil (W.seq (W.region ?_)))
  refine WO.call rfl (new_has _) rfl ?_
  refine WO.op rfl rfl (WO.nil (W.seq (W.seq (W.region ?_))))
  refine WO.op rfl rfl ?_
  refine WO.op rfl rfl ?_
  refine WO.op rfl rfl ?_
  refine WO.op rfl rfl ?_
  refine WO.as (v' := iA (-(v : Int))) rfl rfl (int_i64 (by omega) (by omega)) ?_
  refine WO.op rfl rfl ?_
  refine WO.op rfl rfl ?_
  refine WO.call rfl (post_e1 v hv1) rfl ?_
  refine WO.op rfl rfl (WO.nil (W.cond (b := false) rfl (fun h => by cases h) (fun _ => W.skip (W.seq (W.region ?_)))))
  refine WO.op rfl rfl ?_
  refine WO.as (v' := iA (x : Int)) rfl rfl (int_i64 (by omega) (by omega)) ?_
  refine WO.op rfl rfl (WO.nil (W.seq (W.region ?_)))
  refine WO.op rfl rfl ?_
  refine WO.op rfl rfl ?_
  refine WO.op rfl rfl ?_
  refine WO.op rfl rfl ?_
  refine WO.as (v' := iA (-(x : Int))) rfl rfl (int_i64 (by omega) (by omega)) ?_
  refine WO.op rfl rfl ?_
  refine WO.op rfl rfl ?_
  refine WO.call rfl (post_e2 v x _ hv1 hx) rfl ?_
  refine WO.op rfl rfl (WO.nil (W.seq (W.region ?_)))
  refine WO.op rfl rfl ?_
  refine WO.op rfl rfl ?_
  refine WO.op rfl rfl ?_
  refine WO.op rfl rfl ?_
  refine WO.as (v' := iA (-(y : Int))) rfl rfl (int_i64 (by omega) (by omega)) ?_
  refine WO.op rfl rfl ?_
  refine WO.op rfl rfl ?_
  refine WO.call rfl (post_e3 v x y _ _ hv1 hx hy) rfl ?_
  refine WO.op rfl rfl (WO.nil (W.seq (W.region ?_)))
  refine WO.op rfl rfl ?_
  refine WO.op rfl rfl ?_
  refine WO.op rfl rfl ?_
  refine WO.op rfl rfl ?_
  refine WO.as (v' := iA (-(y : Int))) rfl rfl (int_i64 (by omega) (by omega)) ?_
  refine WO.op rfl rfl ?_
  refine WO.op rfl rfl ?_
  refine WO.call rfl (post_e4 v x y _ _ _ hv1 hx hy) rfl ?_
  refine WO.op rfl rfl (WO.nil (W.seq (W.region ?_)))
  have hnd : (([(nA, 9223372036854775807), (nB, -(v : Int)), (nC, -(x : Int))] : Posts).map (·.1)).Nodup := show ([nA, nB, nC] : List (List UInt8)).Nodup by decide
  refine WO.op rfl rfl ?_
  refine WO.op rfl rfl ?_
  refine WO.op rfl rfl ?_
  refine WO.op rfl rfl ?_
  refine WO.call rfl (same_has 11 11 (by omega) _) rfl ?_
  refine WO.op rfl rfl ?_
  refine WO.op rfl rfl ?_
  refine WO.op rfl rfl ?_
  refine WO.call rfl (balance_has (m := [(nA, 9223372036854775807), (nB, -(v : Int)), (nC, -(x : Int))]) rfl (.inl rfl) hnd nA) rfl ?_
  refine WO.as (v' := .bool true) rfl rfl (bdT rfl) ?_
  refine WO.op rfl rfl ?_
  refine WO.op rfl rfl ?_
  refine WO.op rfl rfl ?_
  refine WO.call rfl (balance_has (m := [(nA, 9223372036854775807), (nB, -(v : Int)), (nC, -(x : Int))]) rfl (.inl rfl) hnd nD) rfl ?_
  refine WO.as (v' := .bool true) rfl rfl (bdT rfl) ?_
  refine WO.op rfl rfl ?_
  refine WO.op rfl rfl ?_
  refine WO.op rfl rfl ?_
  refine WO.op rfl rfl ?_
  refine WO.op rfl rfl ?_
  refine WO.op rfl rfl ?_
  refine WO.op rfl rfl ?_
  refine WO.call rfl (len_has rfl) rfl ?_
  refine WO.op rfl rfl ?_
  refine WO.op rfl rfl ?_
  refine WO.op rfl rfl ?_
  exact WO.nil (W.ret ⟨trivial, _, rfl, Seals.same _ rfl⟩)
end
end Go.AM.C

/- Contracts: the reference's Name; Text; alike. -/
namespace Go.AM.C
open Go.Proofs
noncomputable section
set_option linter.unusedVariables false
set_option linter.unusedSimpArgs false

theorem tStr : S0.ty 9 = some ti9 := rfl
theorem bad_any (s : List UInt8) : (s.any fun b => badB b.toNat) = true ↔ ∃ (j : Nat) (b : UInt8), s[j]? = some b ∧ badB b.toNat = true := by
  rw [List.any_eq_true]
  constructor
  · rintro ⟨b, hb, h⟩
    obtain ⟨j, hj, e⟩ := List.getElem_of_mem hb
    exact ⟨j, b, by rw [List.getElem?_eq_getElem hj, e], h⟩
  · rintro ⟨j, b, hj, h⟩
    exact ⟨b, List.mem_of_getElem? hj, h⟩
theorem badB_ranges {n : Nat} : badB n = true ↔ ((n < 97 ∨ 122 < n) ∧ (n < 48 ∨ 57 < n)) ∧ n ≠ 45 := by
  unfold badB
  simp only [Bool.and_eq_true, Bool.or_eq_true, Nat.blt_eq, Bool.not_eq_true', ← Bool.not_eq_true, Nat.beq_eq]

set_option maxRecDepth 100000 in
theorem refName_ok (s : List UInt8) (hs : s.length < 4611686018427387904) (H : Heap) : Has 25 [.str s] H (.bool (nameOk s)) H := by
  generalize hR : nameOk s = R
  refine does_pure s0 (show S0.fn 25 = some Tryz.f25 by kernel_rfl) rfl (by kernel_rfl) (Nat.le_of_ble_eq_true rfl) rfl rfl ?_
  refine W.seq (W.region ?_)
  refine WO.op rfl rfl (WO.nil (W.seq (W.seq (W.region ?_))))
  refine WO.op rfl rfl (WO.nil (W.block ?_))
  refine W.fits (F' := fr [(0, .str s), (3, .int .i64 ((0 : Nat) : Int))]) (fits_fr ⟨rfl, rfl, trivial⟩) ?_
  refine W.loopI (fun j : Nat => j ≤ s.length ∧ ∀ i b, i < j → s[i]? = some b → badB b.toNat = false) (fun j => s.length - j) (fun j => fr [(0, .str s), (3, .int .i64 (j : Int))]) (fun _ => []) ?_ 0 ⟨by omega, fun i b h => by omega⟩
  rintro j ⟨hj, hno⟩
  refine W.seq (W.seq (W.region ?_))
  refine WO.op rfl rfl ?_
  refine WO.op rfl rfl ?_
  refine WO.op (G.len_str rfl rfl rfl tStr rfl) rfl ?_
  by_cases hlt : j < s.length
  · obtain ⟨b, hb⟩ : ∃ b, s[j]? = some b := ⟨_, List.getElem?_eq_getElem hlt⟩
    have hb8 : b.toNat < 256 := b.toNat_lt
    refine WO.as (v' := .bool true) rfl rfl (bdT (by omega)) (WO.nil (W.cond (b := true) rfl (fun _ => W.skip ?_) (fun h => by cases h)))
    refine W.seq (W.block (W.seq (W.region ?_)))
    by_cases hbad : badB b.toNat = true
    · have hR' : R = false := by
        rw [← hR]
        unfold nameOk
        rw [(bad_any s).2 ⟨j, b, hb, hbad⟩]
        rfl
      obtain ⟨⟨h1, h2⟩, h3⟩ := badB_ranges.1 hbad
      rcases h1 with h1 | h1 <;> rcases h2 with h2 | h2
      all_goals
        repeat (first
          | refine WO.skip rfl ?_
          | refine WO.op (G.index_str rfl rfl tStr rfl hb) rfl ?_
          | refine WO.as (v' := .bool true) rfl rfl (bdT (by omega)) ?_
          | refine WO.as (v' := .bool false) rfl rfl (bdF (by omega)) ?_
          | refine WO.as (v' := .bool true) rfl rfl (bnF (by omega)) ?_
          | refine WO.op rfl rfl ?_)
        refine WO.nil (W.cond (b := true) rfl (fun _ => ?_) (fun h => by cases h))
        refine W.seq (W.region ?_)
        refine WO.op rfl rfl (WO.nil (W.ret ⟨trivial, _, rfl, ?_⟩))
        rw [hR']
        exact Seals.same _ rfl
    · have hg : ¬ (((b.toNat < 97 ∨ 122 < b.toNat) ∧ (b.toNat < 48 ∨ 57 < b.toNat)) ∧ b.toNat ≠ 45) := fun h => hbad (badB_ranges.2 h)
      have hcs : (97 ≤ b.toNat ∧ b.toNat ≤ 122) ∨ (48 ≤ b.toNat ∧ b.toNat ≤ 57) ∨ b.toNat = 45 := by omega
      rcases hcs with h1 | h1 | h1
      all_goals
        repeat (first
          | refine WO.skip rfl ?_
          | refine WO.op (G.index_str rfl rfl tStr rfl hb) rfl ?_
          | refine WO.as (v' := .bool true) rfl rfl (bdT (by omega)) ?_
          | refine WO.as (v' := .bool false) rfl rfl (bdF (by omega)) ?_
          | refine WO.as (v' := .bool false) rfl rfl (bnT (by omega)) ?_
          | refine WO.op rfl rfl ?_)
        refine WO.nil (W.cond (b := false) rfl (fun h => by cases h) (fun _ => W.skip ?_))
        refine W.region ?_
        refine WO.op rfl rfl ?_
        refine WO.as (v' := .int .i64 ((j + 1 : Nat) : Int)) rfl rfl (int_i64 (by omega) (by omega)) ?_
        refine WO.op rfl rfl (WO.nil ⟨j + 1, ⟨by omega, fun i c hi hc => ?_⟩, by omega, fits_fr ⟨rfl, rfl, trivial⟩, rfl⟩)
        by_cases hij : i = j
        · subst hij
          rw [hb] at hc
          cases hc
          simpa using hbad
        · exact hno i c (by omega) hc
  · have hje : j = s.length := by omega
    subst hje
    have hnb : (s.any fun b => badB b.toNat) = false := by
      rw [Bool.eq_false_iff]
      intro h
      obtain ⟨i, b, hi, hb⟩ := (bad_any s).1 h
      have := hno i b (List.getElem?_eq_some_iff.1 hi).1 hi
      rw [hb] at this; cases this
    unfold nameOk at hR
    rw [hnb, Bool.not_false, Bool.true_and] at hR
    refine WO.as (v' := .bool false) rfl rfl (bdF (by omega)) (WO.nil (W.cond (b := false) rfl (fun h => by cases h) (fun _ => W.exit ?_)))
    refine W.seq (W.region ?_)
    refine WO.op rfl rfl ?_
    refine WO.op (G.len_str rfl rfl rfl tStr rfl) rfl ?_
    by_cases h1 : 1 ≤ s.length
    · rw [decide_eq_true h1, Bool.true_and] at hR
      refine WO.as (v' := .bool true) rfl rfl (bdT (by omega)) ?_
      refine WO.op rfl rfl ?_
      refine WO.op rfl rfl ?_
      refine WO.op (G.len_str rfl rfl rfl tStr rfl) rfl ?_
      refine WO.as (v' := .bool R) rfl rfl (by rw [← hR]; exact bdE (by omega)) ?_
      refine WO.op rfl rfl ?_
      refine WO.op rfl rfl (WO.nil (W.ret ⟨trivial, _, rfl, Seals.same _ rfl⟩))
    · rw [decide_eq_false h1, Bool.false_and] at hR
      refine WO.as (v' := .bool false) rfl rfl (bdF (by omega)) ?_
      refine WO.op rfl rfl ?_
      refine WO.skip rfl ?_
      refine WO.skip rfl ?_
      refine WO.skip rfl ?_
      refine WO.op rfl rfl ?_
      refine WO.op rfl rfl (WO.nil (W.ret ⟨trivial, _, rfl, ?_⟩))
      rw [← hR]
      exact Seals.same _ rfl

theorem text_has (s : List UInt8) (n : Nat) (hn : n < 4611686018427387904) (H : Heap) : Has 24 [.str s, .int .i64 (n : Int)] H (.str (s.take n)) H := by
  refine does_pure s0 (show S0.fn 24 = some Tryz.f24 by kernel_rfl) rfl (by kernel_rfl) (Nat.le_of_ble_eq_true rfl) rfl rfl ?_
  refine W.seq (W.region ?_)
  repeat refine WO.op rfl rfl ?_
  refine WO.nil (W.seq (W.region ?_))
  refine WO.op rfl rfl ?_
  refine WO.op rfl rfl ?_
  refine WO.op (G.len_str rfl rfl rfl tStr rfl) rfl ?_
  refine WO.op rfl rfl ?_
  refine WO.op (min_op (j := s.length) (k := n) rfl rfl rfl) rfl ?_
  refine WO.op (G.slice_str (l := 0) (h := min s.length n) rfl tStr rfl rfl ⟨_, rfl⟩ (by omega) (by omega)) rfl ?_
  refine WO.op rfl rfl (WO.nil (W.ret ⟨trivial, _, rfl, ?_⟩))
  have e : (s.drop 0).take (min s.length n - 0) = s.take n := by
    rw [List.drop_zero, Nat.sub_zero, Nat.min_comm, ← List.take_take, List.take_length]
  rw [e]
  exact Seals.same _ rfl
end
end Go.AM.C

/- LedgerName answers true. -/
namespace Go.AM.C
open Go.Proofs
noncomputable section
set_option linter.unusedVariables false
set_option linter.unusedSimpArgs false

theorem rem25 (n : Int) : ∃ k : Nat, k < 25 ∧ Int.tmod (wrapI .i64 (Int.tmod n 25 + 25)) 25 = (k : Int) := by
  have h1 : -25 < Int.tmod n 25 ∧ Int.tmod n 25 < 25 := by
    rcases Int.le_total 0 n with h | h
    · have := Int.tmod_nonneg (b := 25) (a := n) h
      have := Int.tmod_lt_of_pos n (show (0 : Int) < 25 by decide)
      omega
    · have e : Int.tmod n 25 = -(Int.tmod (-n) 25) := by rw [Int.neg_tmod]; omega
      have := Int.tmod_nonneg (a := -n) 25 (by omega)
      have := Int.tmod_lt_of_pos (-n) (show (0 : Int) < 25 by decide)
      omega
  rw [wrap_i64 (by omega)]
  obtain ⟨m, hm⟩ : ∃ m : Nat, Int.tmod n 25 + 25 = (m : Int) := ⟨(Int.tmod n 25 + 25).toNat, by omega⟩
  rw [hm]
  exact ⟨m % 25, Nat.mod_lt _ (by decide), (Int.ofNat_tmod m 25).symm⟩
def rA (k : Nat) : List UInt8 := List.replicate k 97
theorem rA_ok (k : Nat) : nameOk (rA k) = (decide (1 ≤ k) && decide (k ≤ 20)) := by
  unfold nameOk rA
  have h : ((List.replicate k (97 : UInt8)).any fun b => badB b.toNat) = false := by
    rw [Bool.eq_false_iff]
    intro h
    obtain ⟨b, hb, h2⟩ := List.any_eq_true.1 h
    rw [List.eq_of_mem_replicate hb] at h2
    exact absurd h2 (by decide)
  rw [h, List.length_replicate]
  rfl
theorem qB_ok (b : UInt8) : nameOk [113, b] = !badB b.toNat := by
  unfold nameOk
  have h1 : badB 113 = false := by decide
  simp [h1]
def nZ : List UInt8 := [122]
theorem G.cat {S : Sg} {call : Calling} {d : Bool} {g : Operand → AVal} {H : Heap} {x y : Operand} {t yt : TypeId} {a b : List UInt8} (hx : g x = .str a) (hy : g y = .str b) (h : a.length + b.length ≤ 4611686018427387904) : denG S call d g H (.binOp .add t x y yt) = some (.str (a ++ b), H) := by
  simp only [denG, hx, hy]
  show withH H (strBin .add a b) = _
  unfold strBin
  simp only [if_pos h]
  rfl
theorem code_names {m l : Posts} (undo : Bool) (h : (l.all fun p => nameOk p.1) = false) : bookCode undo m l = 1 := by
  unfold bookCode
  rw [if_neg (by rw [h]; decide)]

theorem post_nm (b : UInt8) : Has 15 [.ptr 1 0, .sl 2 0 2 (some 2) 2] [.cells [.int .u8 (b.toNat : Int)] 5, lgC [.nilm, iA 0], psC [([113, b], 1), (nZ, -1)]] (errA (if badB b.toNat then 1 else 0))
    [.cells [.int .u8 (b.toNat : Int)] 5, lgC (if badB b.toNat then [.nilm, iA 0] else [imapA [([113, b], 1), (nZ, -1)], iA 1]), psC [([113, b], 1), (nZ, -1)]] := by
  have h := post_has (H := [.cells [.int .u8 (b.toNat : Int)] 5, lgC [.nilm, iA 0], psC [([113, b], 1), (nZ, -1)]]) (L := 1) (src := .nilm) (cnt := 0) (m := []) rfl (.inr ⟨rfl, rfl⟩) (by simp) (by simp) ⟨by decide, by decide⟩ (ps := .sl 2 0 2 (some 2) 2) (l := [([113, b], 1), (nZ, -1)]) (postsOf_slp rfl)
    (hlb2 (by decide) (by decide) (by simp) (by decide)) (by simp)
  have hne : ([113, b] : List UInt8) ≠ nZ := by intro h; cases h
  cases hb : badB b.toNat with
  | true =>
    have hc : bookCode false [] [([113, b], 1), (nZ, -1)] = 1 := code_names _ (by simp [qB_ok, hb])
    rw [hc, if_neg (by decide)] at h
    exact h
  | false =>
    have hc : bookCode false [] [([113, b], 1), (nZ, -1)] = 0 := by
      rw [code_two hne (by rw [qB_ok, hb]; rfl) (by kernel_rfl), if_pos]
      exact ⟨(by decide : i64 (0 + 1)), (by decide : i64 (0 + -1))⟩
    have he : bookE [] (sumsOf false [([113, b], 1), (nZ, -1)]) = [([113, b], 1), (nZ, -1)] := by
      rw [two_sums hne]
      have h' : ¬ (nZ = [113, b]) := fun e => hne e.symm
      simp [bookE, putE, keyIdx, look, getE, hne, h']
    rw [hc, if_pos rfl, he] at h
    exact h

set_option maxRecDepth 100000 in
theorem lname_has (b : UInt8) (n : Int) (H : Heap) : Has 7 [.int .u8 (b.toNat : Int), iA n] H (.bool true) H := by
  obtain ⟨k, hk, hkn⟩ := rem25 n
  refine does_pure s0 (show S0.fn 7 = some Tryz.f7 by kernel_rfl) rfl (by kernel_rfl) (Nat.le_of_ble_eq_true rfl) rfl rfl ?_
  refine W.seq (W.region ?_)
  refine WO.op rfl rfl (WO.nil (W.seq (W.region ?_)))
  refine WO.call rfl (begun_has _) rfl ?_
  refine WO.op rfl rfl (WO.nil (W.seq (W.seq (W.region ?_))))
  refine WO.op rfl rfl ?_
  refine WO.op rfl rfl (WO.nil (W.cond (b := false) rfl (fun h => by cases h) (fun _ => W.skip (W.seq (W.region ?_)))))
  refine WO.op rfl rfl ?_
  refine WO.op rfl rfl ?_
  refine WO.op rfl rfl ?_
  refine WO.as (v' := iA (k : Int)) rfl rfl (int_eq hkn) ?_
  refine WO.op rfl rfl (WO.nil (W.seq (W.region ?_)))
  refine WO.op rfl rfl (WO.nil (W.seq (W.seq (W.region ?_))))
  refine WO.op rfl rfl (WO.nil (W.block ?_))
  refine W.fits (F' := fr [(0, .int .u8 (b.toNat : Int)), (1, iA (k : Int)), (6, .str (rA 0)), (7, iA ((0 : Nat) : Int))]) (fits_fr ⟨rfl, rfl, rfl, rfl, trivial⟩) ?_
  refine W.loopI (fun j : Nat => j ≤ k) (fun j => k - j) (fun j => fr [(0, .int .u8 (b.toNat : Int)), (1, iA (k : Int)), (6, .str (rA j)), (7, iA (j : Int))]) (fun _ => []) ?_ 0 (Nat.zero_le _)
  intro j hj
  refine W.seq (W.seq (W.region ?_))
  refine WO.op rfl rfl ?_
  refine WO.op rfl rfl ?_
  by_cases hlt : j < k
  · refine WO.as (v' := .bool true) rfl rfl (bdT (by omega)) (WO.nil (W.cond (b := true) rfl (fun _ => W.skip ?_) (fun h => by cases h)))
    refine W.seq (W.block (W.region ?_))
    refine WO.op rfl rfl ?_
    refine WO.as (v' := .str (rA (j + 1))) (G.cat (a := rA j) (b := [97]) rfl rfl (by simp [rA]; omega)) rfl (congrArg AVal.str (by unfold rA; rw [List.replicate_succ'])) ?_
    refine WO.op rfl rfl (WO.nil (W.region ?_))
    refine WO.op rfl rfl ?_
    refine WO.as (v' := iA ((j + 1 : Nat) : Int)) rfl rfl (int_i64 (by omega) (by omega)) ?_
    exact WO.op rfl rfl (WO.nil ⟨j + 1, by omega, by omega, fits_fr ⟨rfl, rfl, rfl, rfl, trivial⟩, rfl⟩)
  have hjk : j = k := by omega
  subst hjk
  refine WO.as (v' := .bool false) rfl rfl (bdF (by omega)) (WO.nil (W.cond (b := false) rfl (fun h => by cases h) (fun _ => W.exit ?_)))
  refine W.seq (W.region ?_)
  refine WO.op rfl rfl ?_
  refine WO.op rfl rfl ?_
  refine WO.as (v' := .str [b]) rfl rfl (congrArg AVal.str (by simp)) ?_
  refine WO.op rfl rfl ?_
  refine WO.op rfl rfl (WO.nil (W.seq (W.region ?_)))
  refine WO.call rfl (new_has _) rfl ?_
  refine WO.op rfl rfl (WO.nil (W.seq (W.region ?_)))
  refine WO.op rfl rfl ?_
  refine WO.call rfl (name_ok [113, b] (by simp) _) rfl ?_
  rw [qB_ok]
  refine WO.op rfl rfl (WO.nil (W.seq (W.region ?_)))
  refine WO.op rfl rfl ?_
  refine WO.op rfl rfl ?_
  refine WO.op rfl rfl ?_
  refine WO.op rfl rfl ?_
  refine WO.op rfl rfl ?_
  have hp := post_nm b
  have hrn := fun H => refName_ok [113, b] (by simp) H
  have hln := fun H => name_ok (rA j) (by simp [rA]; omega) H
  simp only [qB_ok] at hrn
  simp only [rA_ok] at hln
  have hle : (decide (1 ≤ (j : Int)) && decide ((j : Int) ≤ 20)) = (decide (1 ≤ j) && decide (j ≤ 20)) := by
    congr 1
    · exact decide_eq_decide.2 (by omega)
    · exact decide_eq_decide.2 (by omega)
  generalize hD : (decide (1 ≤ j) && decide (j ≤ 20)) = D at hln hle
  cases hb : badB b.toNat with
  | true =>
    rw [hb] at hp hrn
    simp only [if_true] at hp
    refine WO.call rfl hp rfl ?_
    refine WO.op rfl rfl (WO.nil (W.seq (W.region ?_)))
    have ha : Has 20 [.ptr 1 0] [.cells [.int .u8 (b.toNat : Int)] 5, lgC [.nilm, iA 0], psC [([113, b], 1), (nZ, -1)]] .nils [.cells [.int .u8 (b.toNat : Int)] 5, lgC [.nilm, iA 0], psC [([113, b], 1), (nZ, -1)]] := by
      have h := ledger_all [] .nilm [.cells [.int .u8 (b.toNat : Int)] 5, lgC [.nilm, iA 0], psC [([113, b], 1), (nZ, -1)]] 1 0 [.nilm, iA 0] 86 rfl rfl (.inr ⟨rfl, rfl⟩) (by simp) (by simp) (by simp)
      have e : postsA (allE []) = .nils := by simp [allE, allOf, keysS, postsA]
      rw [e] at h
      exact h
    refine WO.op rfl rfl ?_
    refine WO.op rfl rfl ?_
    refine WO.call rfl (hrn _) rfl ?_
    refine WO.op rfl rfl ?_
    refine WO.op rfl rfl ?_
    refine WO.op rfl rfl ?_
    refine WO.call rfl (hln _) rfl ?_
    refine WO.op rfl rfl ?_
    by_cases h1 : 1 ≤ j
    · refine WO.as (v' := .bool true) rfl rfl (bdT (by omega)) ?_
      rw [decide_eq_true h1, Bool.true_and] at hD
      refine WO.op rfl rfl ?_
      refine WO.op rfl rfl ?_
      refine WO.as (v' := .bool D) rfl rfl (by rw [← hD]; exact bdE (by omega)) ?_
      refine WO.op rfl rfl ?_
      refine WO.as (v' := .bool true) rfl rfl (by cases D <;> rfl) ?_
      repeat (first
          | refine WO.skip rfl ?_
          | refine WO.call rfl (same_has 1 1 (by omega) _) rfl ?_
          | refine WO.call rfl ha rfl ?_
          | refine WO.op rfl rfl ?_)
      exact WO.nil (W.ret ⟨trivial, _, rfl, Seals.same _ rfl⟩)
    · refine WO.as (v' := .bool false) rfl rfl (bdF (by omega)) ?_
      rw [decide_eq_false h1, Bool.false_and] at hD
      subst hD
      repeat (first
          | refine WO.skip rfl ?_
          | refine WO.call rfl (same_has 1 1 (by omega) _) rfl ?_
          | refine WO.call rfl ha rfl ?_
          | refine WO.op rfl rfl ?_)
      exact WO.nil (W.ret ⟨trivial, _, rfl, Seals.same _ rfl⟩)
  | false =>
    rw [hb] at hp hrn
    simp only [Bool.false_eq_true, if_false] at hp
    refine WO.call rfl hp rfl ?_
    refine WO.op rfl rfl (WO.nil (W.seq (W.region ?_)))
    refine WO.op rfl rfl ?_
    refine WO.op rfl rfl ?_
    refine WO.call rfl (hrn _) rfl ?_
    refine WO.op rfl rfl ?_
    refine WO.op rfl rfl ?_
    refine WO.op rfl rfl ?_
    refine WO.call rfl (hln _) rfl ?_
    refine WO.op rfl rfl ?_
    by_cases h1 : 1 ≤ j
    · refine WO.as (v' := .bool true) rfl rfl (bdT (by omega)) ?_
      rw [decide_eq_true h1, Bool.true_and] at hD
      refine WO.op rfl rfl ?_
      refine WO.op rfl rfl ?_
      refine WO.as (v' := .bool D) rfl rfl (by rw [← hD]; exact bdE (by omega)) ?_
      refine WO.op rfl rfl ?_
      refine WO.as (v' := .bool true) rfl rfl (by cases D <;> rfl) ?_
      repeat (first
          | refine WO.skip rfl ?_
          | refine WO.op rfl rfl ?_)
      exact WO.nil (W.ret ⟨trivial, _, rfl, Seals.same _ rfl⟩)
    · refine WO.as (v' := .bool false) rfl rfl (bdF (by omega)) ?_
      rw [decide_eq_false h1, Bool.false_and] at hD
      subst hD
      repeat (first
          | refine WO.skip rfl ?_
          | refine WO.op rfl rfl ?_)
      exact WO.nil (W.ret ⟨trivial, _, rfl, Seals.same _ rfl⟩)
end
end Go.AM.C

/- Contracts: alike. -/
namespace Go.AM.C
open Go.Proofs
noncomputable section
set_option linter.unusedVariables false
set_option linter.unusedSimpArgs false

theorem eqT_post : S0.eqT 40 = some [.s, .i] := by kernel_rfl
theorem neq_post {call : Calling} {d : Bool} {g : Operand → AVal} {H : Heap} {x y : Operand} {yt : TypeId} {p q : List UInt8 × Int} (hx : g x = .agg [.str p.1, iA p.2]) (hy : g y = .agg [.str q.1, iA q.2]) :
    denG S0 call d g H (.binOp .neq 40 x y yt) = some (.bool (!decide (p = q)), H) := by
  obtain ⟨a, m⟩ := p
  obtain ⟨b, n⟩ := q
  simp only [denG, hx, hy]
  have e : eqCells [.s, .i] [.str a, iA m] [.str b, iA n] = some (decide ((a, m) = (b, n))) := by
    by_cases h1 : a = b
    · subst h1
      by_cases h2 : m = n
      · subst h2; simp [eqCells, eqCell, iA]
      · have : (m == n) = false := by simpa using h2
        simp [eqCells, eqCell, iA, h2]
        rw [this]
    · simp [eqCells, eqCell, h1]
  have e2 : eqA S0 40 (.agg [.str a, iA m]) (.agg [.str b, iA n]) (isConstOp x || isConstOp y) = some (decide ((a, m) = (b, n))) := by
    unfold eqA
    simp only [eqT_post]
    exact e
  show withH H (denBin S0 .neq 40 (.agg [.str a, iA m]) (.agg [.str b, iA n]) _) = _
  unfold denBin
  simp only [e2]
  rfl

set_option maxRecDepth 100000 in
theorem alike_has {H : Heap} {va vb : AVal} {la lb : Posts} (ha : SlP H va la) (hb : SlP H vb lb) (h1 : la.length < 4611686018427387904) (h2 : lb.length < 4611686018427387904) :
    Has 19 [va, vb] H (.bool (decide (la = lb))) H := by
  generalize hR : decide (la = lb) = R
  have kk : Ext.Keeps H H := fun _ _ => rfl
  refine does_run s0 (show S0.fn 19 = some Tryz.f19 by kernel_rfl) rfl (by kernel_rfl) (Nat.le_of_ble_eq_true rfl) ?_
  refine W.seq (W.region ?_)
  refine WO.op rfl rfl (WO.nil (W.seq (W.seq (W.region ?_))))
  refine WO.op rfl rfl ?_
  refine WO.op (v := .int .i64 (la.length : Int)) (H1 := H) (congrArg (withH H) (ha.len H kk)) rfl ?_
  refine WO.op rfl rfl ?_
  refine WO.op (v := .int .i64 (lb.length : Int)) (H1 := H) (congrArg (withH H) (hb.len H kk)) rfl ?_
  by_cases hl : la.length = lb.length
  · refine WO.as (v' := .bool false) rfl rfl (bnT (by omega)) (WO.nil (W.cond (b := false) rfl (fun h => by cases h) (fun _ => W.skip (W.seq (W.seq (W.region ?_))))))
    refine WO.op rfl rfl ?_
    refine WO.op (v := .int .i64 (la.length : Int)) (H1 := H) (congrArg (withH H) (ha.len H kk)) rfl ?_
    refine WO.op rfl rfl (WO.nil (W.block ?_))
    refine W.fits (F' := fr [(0, va), (1, vb), (12, iA (la.length : Int)), (13, iA ((0 : Nat) : Int))]) (fits_fr ⟨rfl, rfl, rfl, rfl, trivial⟩) ?_
    refine W.loopI (fun j : Nat => j ≤ la.length ∧ ∀ i, i < j → la[i]? = lb[i]?) (fun j => la.length - j) (fun j => fr [(0, va), (1, vb), (12, iA (la.length : Int)), (13, iA (j : Int))]) (fun _ => H) ?_ 0 ⟨Nat.zero_le _, fun i h => by omega⟩
    rintro j ⟨hj, heq⟩
    refine W.seq (W.region ?_)
    by_cases hlt : j < la.length
    · obtain ⟨p, hp⟩ : ∃ p, la[j]? = some p := ⟨_, List.getElem?_eq_getElem hlt⟩
      obtain ⟨q, hq⟩ : ∃ q, lb[j]? = some q := ⟨_, List.getElem?_eq_getElem (by omega)⟩
      obtain ⟨a1, r1, o1, e1, f1, g1, i1⟩ := ha.at_ j p hp
      obtain ⟨a2, r2, o2, e2, f2, g2, i2⟩ := hb.at_ j q hq
      refine WO.as (v' := .bool true) rfl rfl (bdT (by omega)) (WO.nil (W.seq (W.cond (b := true) rfl (fun _ => W.skip ?_) (fun h => by cases h))))
      refine W.seq (W.block (W.seq (W.region ?_)))
      refine WO.op rfl rfl ?_
      refine WO.op rfl rfl (WO.nil (W.seq (W.draw0 rfl (by kernel_rfl) ?_)))
      refine WT.op rfl rfl rfl ?_
      refine WT.op rfl rfl rfl ?_
      refine WT.op (SlU.idxG rfl rfl e1) rfl rfl ?_
      refine WT.op (G.load_agg2 rfl tp rfl rfl (f1 H kk) g1 i1) rfl rfl ?_
      refine WT.op rfl rfl rfl ?_
      refine WT.op rfl rfl rfl ?_
      refine WT.op (SlU.idxG rfl rfl e2) rfl rfl ?_
      refine WT.op (G.load_agg2 rfl tp rfl rfl (f2 H kk) g2 i2) rfl rfl ?_
      refine WT.op (neq_post rfl rfl) rfl rfl (WT.nil (W.cond rfl (fun h => ?_) (fun h => ?_)))
      · have hpq : p ≠ q := by simpa using h
        have hR' : R = false := by
          rw [← hR]
          refine decide_eq_false fun e => hpq ?_
          rw [e, hq] at hp
          exact (Option.some.inj hp).symm
        refine W.seq (W.region ?_)
        refine WO.op rfl rfl (WO.nil (W.ret ⟨trivial, _, rfl, ?_, rfl⟩))
        rw [hR']
        exact Wk.refl _
      · have hpq : p = q := by simpa using h
        refine W.skip (W.region ?_)
        refine WO.as (v' := iA ((j + 1 : Nat) : Int)) rfl rfl (int_i64 (by omega) (by omega)) ?_
        refine WO.op rfl rfl (WO.nil ⟨j + 1, ⟨by omega, fun i hi => ?_⟩, by omega, fits_fr ⟨rfl, rfl, rfl, rfl, trivial⟩, rfl⟩)
        by_cases hij : i = j
        · subst hij; rw [hp, hq, hpq]
        · exact heq i (by omega)
    · have hje : j = la.length := by omega
      subst hje
      have hR' : R = true := by
        rw [← hR]
        refine decide_eq_true (List.ext_getElem? fun i => ?_)
        by_cases hi : i < la.length
        · exact heq i hi
        · rw [List.getElem?_eq_none (by omega), List.getElem?_eq_none (by omega)]
      refine WO.as (v' := .bool false) rfl rfl (bdF (by omega)) (WO.nil (W.seq (W.cond (b := false) rfl (fun h => by cases h) (fun _ => W.exit ?_))))
      refine W.seq (W.region ?_)
      refine WO.op rfl rfl (WO.nil (W.ret ⟨trivial, _, rfl, ?_, rfl⟩))
      rw [hR']
      exact Wk.refl _
  · have hR' : R = false := by rw [← hR]; exact decide_eq_false fun e => hl (by rw [e])
    refine WO.as (v' := .bool true) rfl rfl (bnF (by omega)) (WO.nil (W.cond (b := true) rfl (fun _ => ?_) (fun h => by cases h)))
    refine W.seq (W.region ?_)
    refine WO.op rfl rfl (WO.nil (W.ret ⟨trivial, _, rfl, ?_, rfl⟩))
    rw [hR']
    exact Wk.refl _
theorem slp_postsA (H : Heap) (l : Posts) : SlP H (postsA l) l := by
  unfold postsA
  split
  · rename_i h; subst h; exact postsOf_slp rfl
  · refine ⟨fun H' _ => rfl, fun j p hj => ?_⟩
    obtain ⟨h1, h2⟩ := postC_at l j p hj
    refine ⟨.ip (postC l) (0 + j * 2) true, postC l, 0 + j * 2, ?_, fun H' hk => rfl, by rw [Nat.zero_add]; exact h1, by rw [Nat.zero_add]; exact h2⟩
    have hjl : j < l.length := (List.getElem?_eq_some_iff.1 hj).1
    show (if 0 ≤ (j : Int) ∧ (j : Int) < (l.length : Int) then fNat (0 + (j : Int).toNat * ti40.size) fun o => some (AVal.ip (postC l) o true) else none) = _
    rw [if_pos ⟨by omega, by omega⟩, fNat_eq, Int.toNat_natCast]
    rfl
end
end Go.AM.C

/- LedgerSplit answers true. -/
namespace Go.AM.C
open Go.Proofs
noncomputable section
set_option linter.unusedVariables false
set_option linter.unusedSimpArgs false

def nO : List UInt8 := [111, 116, 104, 101, 114]
def w40 (z : Int) : Prop := -1099511627776 < z ∧ z < 1099511627776
theorem rem40 (n : Int) : ∃ k : Int, w40 k ∧ Int.tmod n 1099511627776 = k := by
  refine ⟨_, ?_, rfl⟩
  unfold w40
  rcases Int.le_total 0 n with h | h
  · have := Int.tmod_nonneg (b := 1099511627776) (a := n) h
    have := Int.tmod_lt_of_pos n (show (0 : Int) < 1099511627776 by decide)
    omega
  · have e : Int.tmod n 1099511627776 = -(Int.tmod (-n) 1099511627776) := by rw [Int.neg_tmod]; omega
    have := Int.tmod_nonneg (a := -n) 1099511627776 (by omega)
    have := Int.tmod_lt_of_pos (-n) (show (0 : Int) < 1099511627776 by decide)
    omega
theorem four_sums {a b : List UInt8} (h : a ≠ b) (x y z u : Int) : sumsOf false [(a, x), (a, y), (b, z), (a, u)] = [(a, some (x + y + u)), (b, some z)] := by
  have h' : ¬ b = a := fun e => h e.symm
  simp [sumsOf, sumStep, putE, keyIdx, look, getE, sg, h, h']
theorem put_two {a b : List UInt8} (h : a ≠ b) (x y : Int) : bookE [] [(a, some x), (b, some y)] = [(a, x), (b, y)] := by
  have h' : ¬ b = a := fun e => h e.symm
  simp [bookE, putE, keyIdx, look, getE, h, h']

theorem post_s1 (s : List UInt8) (n m k : Int) (hs : nameOk s = true) (hl : s.length ≤ 20) (hne : s ≠ nO) (hn : w40 n) (hm : w40 m) (hk : w40 k) (X : AObj) : Has 15 [.ptr 0 0, .sl 2 0 4 (some 4) 2]
    [lgC [.nilm, iA 0], X, psC [(s, n), (s, m), (nO, k), (s, -n - m - k)]] .nili [lgC [imapA [(s, -k), (nO, k)], iA 1], X, psC [(s, n), (s, m), (nO, k), (s, -n - m - k)]] := by
  unfold w40 at hn hm hk
  have h := post_has (H := [lgC [.nilm, iA 0], X, psC [(s, n), (s, m), (nO, k), (s, -n - m - k)]]) (L := 0) (src := .nilm) (cnt := 0) (m := []) rfl (.inr ⟨rfl, rfl⟩) (by simp) (by simp) ⟨by decide, by decide⟩ (ps := .sl 2 0 4 (some 4) 2) (l := [(s, n), (s, m), (nO, k), (s, -n - m - k)]) (postsOf_slp rfl)
    (fun p hp => by
      simp only [List.mem_cons, List.not_mem_nil, or_false] at hp
      have ho : nO.length = 5 := rfl
      rcases hp with rfl | rfl | rfl | rfl <;> exact ⟨by rw [i64_iff]; simp only; omega, by simp only; omega⟩) (by simp)
  have ht : total false [(s, n), (s, m), (nO, k), (s, -n - m - k)] = 0 := by simp [total, sg]; omega
  have hq : n + m + (-n - m - k) = -k := by omega
  have hc : bookCode false [] [(s, n), (s, m), (nO, k), (s, -n - m - k)] = 0 := by
    unfold bookCode allSmall
    rw [if_pos (by simp only [List.all_cons, List.all_nil, hs, show nameOk nO = true by kernel_rfl, Bool.and_self]), if_pos ht, four_sums hne, hq, if_pos]
    simp only [List.all_cons, List.all_nil, Bool.and_true, Bool.and_eq_true, Option.getD_some]
    exact ⟨small64_of (by rw [i64_iff]; show _ ≤ 0 + -k ∧ 0 + -k < _; omega), small64_of (by rw [i64_iff]; show _ ≤ 0 + k ∧ 0 + k < _; omega)⟩
  have he : bookE [] (sumsOf false [(s, n), (s, m), (nO, k), (s, -n - m - k)]) = [(s, -k), (nO, k)] := by rw [four_sums hne, hq, put_two hne]
  rw [hc, if_pos rfl, he] at h
  exact h
theorem post_s2 (s : List UInt8) (k : Int) (hs : nameOk s = true) (hl : s.length ≤ 20) (hne : s ≠ nO) (hk : w40 k) (X Y : AObj) : Has 15 [.ptr 1 0, .sl 3 0 2 (some 2) 2]
    [X, lgC [.nilm, iA 0], Y, psC [(s, -k), (nO, k)]] .nili [X, lgC [imapA [(s, -k), (nO, k)], iA 1], Y, psC [(s, -k), (nO, k)]] := by
  unfold w40 at hk
  have h := post_has (H := [X, lgC [.nilm, iA 0], Y, psC [(s, -k), (nO, k)]]) (L := 1) (src := .nilm) (cnt := 0) (m := []) rfl (.inr ⟨rfl, rfl⟩) (by simp) (by simp) ⟨by decide, by decide⟩ (ps := .sl 3 0 2 (some 2) 2) (l := [(s, -k), (nO, k)]) (postsOf_slp rfl)
    (hlb2 (by rw [i64_iff]; omega) (by rw [i64_iff]; omega) hl (by decide)) (by simp)
  have ht : total false [(s, -k), (nO, k)] = 0 := by simp [total, sg]; omega
  have hc : bookCode false [] [(s, -k), (nO, k)] = 0 := by
    unfold bookCode allSmall
    rw [if_pos (by simp only [List.all_cons, List.all_nil, hs, show nameOk nO = true by kernel_rfl, Bool.and_self]), if_pos ht, two_sums hne, if_pos]
    simp only [List.all_cons, List.all_nil, Bool.and_true, Bool.and_eq_true, Option.getD_some]
    exact ⟨small64_of (by rw [i64_iff]; show _ ≤ 0 + -k ∧ 0 + -k < _; omega), small64_of (by rw [i64_iff]; show _ ≤ 0 + k ∧ 0 + k < _; omega)⟩
  have he : bookE [] (sumsOf false [(s, -k), (nO, k)]) = [(s, -k), (nO, k)] := by rw [two_sums hne, put_two hne]
  rw [hc, if_pos rfl, he] at h
  exact h

theorem allE_le (M : Posts) : (allE M).length ≤ M.length := by
  have h1 := allOf_len (keysS M) M
  rw [keysS_len] at h1
  exact h1
theorem allE_short {A M : Posts} {n : Nat} (hA : A = allE M) (h : M.length < n) : A.length < n := by
  subst hA
  exact Nat.lt_of_le_of_lt (allE_le M) h
theorem all_of {A l : Posts} (hA : A = allE l) (hnd : (l.map (·.1)).Nodup) (hk : ∀ e ∈ l, e.1.length ≤ 4611686018427387904) (hl : l.length < 1073741824) (H : Heap) (L : Nat) (vs0 : List AVal) (ty0 : TypeId) (h1 : H[L]? = some (.cells vs0 ty0)) (h2 : vs0[0]? = some (imapA l)) :
    Has 20 [.ptr L 0] H (postsA A) H := by
  subst hA
  exact ledger_all l _ H L 0 vs0 ty0 h1 h2 (.inl rfl) hnd hk hl
theorem alike_self (A : Posts) (h : A.length < 4611686018427387904) (H : Heap) : Has 19 [postsA A, postsA A] H (.bool true) H := by
  have h := alike_has (slp_postsA H A) (slp_postsA H A) h h
  rwa [decide_eq_true (rfl : A = A)] at h

set_option maxRecDepth 100000 in
theorem split_has (n m k : Int) (name : List UInt8) (H : Heap) : Has 6 [iA n, iA m, iA k, .str name] H (.bool true) H := by
  obtain ⟨n', hn, hn'⟩ := rem40 n
  obtain ⟨m', hm, hm'⟩ := rem40 m
  obtain ⟨k', hk, hk'⟩ := rem40 k
  refine does_pure s0 (show S0.fn 6 = some Tryz.f6 by kernel_rfl) rfl (by kernel_rfl) (Nat.le_of_ble_eq_true rfl) rfl rfl ?_
  refine W.seq (W.region ?_)
  refine WO.op rfl rfl (WO.nil (W.seq (W.region ?_)))
  refine WO.call rfl (begun_has _) rfl ?_
  refine WO.op rfl rfl (WO.nil (W.seq (W.seq (W.region ?_))))
  refine WO.op rfl rfl ?_
  refine WO.op rfl rfl (WO.nil (W.cond (b := false) rfl (fun h => by cases h) (fun _ => W.skip (W.seq (W.region ?_)))))
  refine WO.op rfl rfl ?_
  refine WO.as (v' := iA n') rfl rfl (int_eq hn') ?_
  refine WO.op rfl rfl ?_
  refine WO.as (v' := iA m') rfl rfl (int_eq hm') ?_
  refine WO.op rfl rfl ?_
  refine WO.as (v' := iA k') rfl rfl (int_eq hk') ?_
  refine WO.op rfl rfl ?_
  refine WO.op rfl rfl ?_
  refine WO.op rfl rfl (WO.nil (W.seq (W.region ?_)))
  refine WO.op rfl rfl ?_
  refine WO.call rfl (text_has name 20 (by omega) _) rfl ?_
  have hsl : (name.take 20).length ≤ 20 := by simp; omega
  generalize name.take 20 = s at hsl
  refine WO.op rfl rfl (WO.nil (W.seq (W.seq (W.region ?_))))
  refine WO.op rfl rfl ?_
  refine WO.call rfl (refName_ok s (by omega) _) rfl ?_
  cases hs : nameOk s with
  | false =>
    repeat (first
      | refine WO.skip rfl ?_
      | refine WO.op rfl rfl ?_)
    refine WO.nil (W.cond (b := true) rfl (fun _ => ?_) (fun h => by cases h))
    refine W.seq (W.region ?_)
    exact WO.op rfl rfl (WO.nil (W.ret ⟨trivial, _, rfl, Seals.same _ rfl⟩))
  | true =>
    refine WO.op rfl rfl ?_
    refine WO.op rfl rfl ?_
    refine WO.op rfl rfl ?_
    by_cases hne : s = nO
    · refine WO.as (v' := .bool true) rfl rfl (bdT hne) ?_
      refine WO.op rfl rfl (WO.nil (W.cond (b := true) rfl (fun _ => ?_) (fun h => by cases h)))
      refine W.seq (W.region ?_)
      exact WO.op rfl rfl (WO.nil (W.ret ⟨trivial, _, rfl, Seals.same _ rfl⟩))
    · refine WO.as (v' := .bool false) rfl rfl (bdF hne) ?_
      refine WO.op rfl rfl (WO.nil (W.cond (b := false) rfl (fun h => by cases h) (fun _ => W.skip ?_)))
      have hn0 := hn; have hm0 := hm; have hk0 := hk
      unfold w40 at hn0 hm0 hk0
      refine W.seq (W.region ?_)
      refine WO.call rfl (new_has _) rfl ?_
      refine WO.call rfl (new_has _) rfl ?_
      refine WO.op rfl rfl ?_
      refine WO.op rfl rfl (WO.nil (W.seq (W.region ?_)))
      refine WO.op rfl rfl ?_
      refine WO.op rfl rfl ?_
      refine WO.op rfl rfl ?_
      refine WO.op rfl rfl ?_
      refine WO.op rfl rfl ?_
      refine WO.op rfl rfl ?_
      refine WO.op rfl rfl ?_
      refine WO.op rfl rfl ?_
      refine WO.op rfl rfl ?_
      refine WO.op rfl rfl ?_
      refine WO.op rfl rfl ?_
      refine WO.as (v' := iA (-n')) rfl rfl (int_i64 (by omega) (by omega)) ?_
      refine WO.op rfl rfl ?_
      refine WO.as (v' := iA (-n' - m')) rfl rfl (int_i64 (by omega) (by omega)) ?_
      refine WO.op rfl rfl ?_
      refine WO.as (v' := iA (-n' - m' - k')) rfl rfl (int_i64 (by omega) (by omega)) ?_
      refine WO.op rfl rfl ?_
      refine WO.op rfl rfl ?_
      refine WO.call rfl (post_s1 s n' m' k' hs hsl hne hn hm hk _) rfl ?_
      refine WO.op rfl rfl (WO.nil (W.seq (W.region ?_)))
      refine WO.op rfl rfl ?_
      refine WO.op rfl rfl ?_
      refine WO.op rfl rfl ?_
      refine WO.as (v' := iA (-k')) rfl rfl (int_i64 (by omega) (by omega)) ?_
      refine WO.op rfl rfl ?_
      refine WO.op rfl rfl ?_
      refine WO.op rfl rfl ?_
      refine WO.op rfl rfl ?_
      refine WO.call rfl (post_s2 s k' hs hsl hne hk _ _) rfl ?_
      refine WO.op rfl rfl (WO.nil (W.seq (W.region ?_)))
      have hnd : (([(s, -k'), (nO, k')] : Posts).map (·.1)).Nodup := by simp [hne]
      have hkl : ∀ e ∈ ([(s, -k'), (nO, k')] : Posts), e.1.length ≤ 4611686018427387904 := fun e he => by
        simp only [List.mem_cons, List.not_mem_nil, or_false] at he
        rcases he with rfl | rfl
        · simp only; omega
        · exact Nat.le_of_ble_eq_true rfl
      have hex : ∃ A : Posts, A = allE [(s, -k'), (nO, k')] := Exists.intro (allE [(s, -k'), (nO, k')]) (Eq.refl _)
      obtain ⟨A, hA⟩ := hex
      have hal := allE_short (n := 4611686018427387904) hA (by simp)
      have ha := all_of hA hnd hkl (by simp)
      clear hA
      refine WO.op rfl rfl ?_
      refine WO.op rfl rfl ?_
      refine WO.op rfl rfl ?_
      refine WO.op rfl rfl ?_
      refine WO.op rfl rfl ?_
      refine WO.op rfl rfl ?_
      refine WO.op rfl rfl ?_
      refine WO.op rfl rfl ?_
      refine WO.call rfl (ha _ 0 _ _ rfl rfl) rfl ?_
      refine WO.op rfl rfl ?_
      refine WO.call rfl (ha _ 1 _ _ rfl rfl) rfl ?_
      refine WO.call rfl (alike_self A hal _) rfl ?_
      refine WO.op rfl rfl ?_
      exact WO.op rfl rfl (WO.nil (W.ret ⟨trivial, _, rfl, Seals.same _ rfl⟩))
end
end Go.AM.C

/- LedgerBack: postings of the draws; what is booked and taken away again. -/
namespace Go.AM.C
open Go.Proofs
noncomputable section
set_option linter.unusedVariables false
set_option linter.unusedSimpArgs false

/-! #### the plain law -/
/-- What postings come to at one name. -/
def amt (undo : Bool) (l : Posts) (k : List UInt8) : Int := (l.map fun p => if p.1 = k then sg undo p.2 else 0).sum
theorem amt_cons (undo : Bool) (p : List UInt8 × Int) (l : Posts) (k : List UInt8) : amt undo (p :: l) k = (if p.1 = k then sg undo p.2 else 0) + amt undo l k := by simp [amt]
theorem amt_undo (l : Posts) (k : List UInt8) : amt true l k = -amt false l k := by
  induction l with
  | nil => rfl
  | cons p l ih =>
    rw [amt_cons, amt_cons, ih]
    split
    · simp only [sg, cond_true, cond_false]; omega
    · omega
theorem look_put_self {l : Posts} {k : List UInt8} {v : Int} : look 0 (putE l k v) k = v := by unfold look; rw [getE_put_self]; rfl
theorem look_put_ne {l : Posts} {k k' : List UInt8} {v : Int} (h : k' ≠ k) : look 0 (putE l k v) k' = look 0 l k' := by unfold look; rw [getE_put_ne h]
def sval (s : Sums) (k : List UInt8) : Int := (look none s k).getD 0
theorem sval_step (undo : Bool) (s : Sums) (p : List UInt8 × Int) (k : List UInt8) : sval (sumStep undo s p) k = sval s k + if p.1 = k then sg undo p.2 else 0 := by
  unfold sval sumStep look
  by_cases h : p.1 = k
  · subst h
    rw [getE_put_self, if_pos rfl]; rfl
  · rw [getE_put_ne (fun e => h e.symm), if_neg h, Int.add_zero]
theorem sval_fold (undo : Bool) : ∀ (l : Posts) (s : Sums) (k : List UInt8), sval (l.foldl (sumStep undo) s) k = sval s k + amt undo l k
  | [], s, k => by simp [amt]
  | p :: l, s, k => by
    rw [List.foldl_cons, sval_fold undo l, sval_step, amt_cons]; omega
theorem sval_sums (undo : Bool) (l : Posts) (k : List UInt8) : sval (sumsOf undo l) k = amt undo l k := by
  unfold sumsOf
  rw [sval_fold]
  have : sval [] k = 0 := rfl
  omega
theorem look_book : ∀ (s : Sums) (m : Posts) (k : List UInt8), (s.map (·.1)).Nodup → look 0 (bookE m s) k = look 0 m k + sval s k
  | [], m, k, _ => by show look 0 m k = look 0 m k + 0; omega
  | e :: s, m, k, hnd => by
    have hnd' : (s.map (·.1)).Nodup := (List.nodup_cons.1 hnd).2
    have hni : e.1 ∉ s.map (·.1) := (List.nodup_cons.1 hnd).1
    show look 0 (bookE (putE m e.1 (look 0 m e.1 + e.2.getD 0)) s) k = _
    rw [look_book s _ k hnd']
    have hs : sval (e :: s) k = if e.1 = k then e.2.getD 0 else sval s k := by
      by_cases h : e.1 = k
      · rw [if_pos h]
        subst h
        show (((if e.1 = e.1 then some 0 else (keyIdx e.1 s).map (· + 1)).bind fun i => (e :: s)[i]?.map (·.2)).getD none).getD 0 = _
        rw [if_pos rfl]; rfl
      · rw [if_neg h]
        have hn : ¬ k = e.1 := fun x => h x.symm
        show (((if k = e.1 then some 0 else (keyIdx k s).map (· + 1)).bind fun i => (e :: s)[i]?.map (·.2)).getD none).getD 0 = (((keyIdx k s).bind fun i => s[i]?.map (·.2)).getD none).getD 0
        rw [if_neg hn]
        cases keyIdx k s with
        | none => rfl
        | some i => rfl
    rw [hs]
    by_cases h : e.1 = k
    · subst h
      have h0 : sval s e.1 = 0 := by unfold sval look; rw [getE_none.2 hni]; rfl
      rw [if_pos rfl, look_put_self, h0]; omega
    · rw [if_neg h, look_put_ne (fun x => h x.symm)]
theorem look_books (undo : Bool) (m l : Posts) (k : List UInt8) : look 0 (bookE m (sumsOf undo l)) k = look 0 m k + amt undo l k := by
  rw [look_book _ _ _ (sums_nodup undo l), sval_sums]

theorem getE_look {m : Posts} {k : List UInt8} (h : look 0 m k ≠ 0) : getE m k = some (look 0 m k) := by
  unfold look at h ⊢
  cases hg : getE m k with
  | none => rw [hg] at h; exact absurd rfl h
  | some v => rfl
theorem look_mem {m : Posts} {k : List UInt8} (h : look 0 m k ≠ 0) : k ∈ m.map (·.1) := List.mem_map.2 ⟨(k, look 0 m k), mem_of_getE (getE_look h), rfl⟩
/-- What All tells hangs on the balances alone. -/
def keysF (m : Posts) : List (List UInt8) := (keysS m).filter fun k => !decide (look 0 m k = 0)
theorem allE_keysF (m : Posts) : allE m = (keysF m).map fun k => (k, look 0 m k) := by
  unfold allE allOf keysF
  rw [List.filter_map]
  rfl
theorem keysF_mem (m : Posts) (k : List UInt8) : k ∈ keysF m ↔ look 0 m k ≠ 0 := by
  unfold keysF
  rw [List.mem_filter]
  constructor
  · rintro ⟨_, h⟩; simpa using h
  · intro h
    exact ⟨(keysS_perm m).mem_iff.2 (look_mem h), by simpa using h⟩
theorem keysF_sorted (m : Posts) : (keysF m).Pairwise fun x y => decide (x ≤ y) = true := by
  have tr : ∀ a b c : List UInt8, decide (a ≤ b) = true → decide (b ≤ c) = true → decide (a ≤ c) = true := fun a b c h1 h2 => by simp only [decide_eq_true_eq] at *; exact List.le_trans h1 h2
  have tot : ∀ a b : List UInt8, (decide (a ≤ b) || decide (b ≤ a)) = true := fun a b => by simp only [Bool.or_eq_true, decide_eq_true_eq]; exact List.le_total a b
  exact List.Pairwise.filter _ (List.pairwise_mergeSort tr tot _)
theorem keysF_nodup {m : Posts} (h : (m.map (·.1)).Nodup) : (keysF m).Nodup := List.Pairwise.filter _ ((keysS_perm m).nodup_iff.2 h)
theorem allE_ext {m r : Posts} (hm : (m.map (·.1)).Nodup) (hr : (r.map (·.1)).Nodup) (h : ∀ k, look 0 m k = look 0 r k) : allE m = allE r := by
  have hk : keysF m = keysF r := by
    refine List.Perm.eq_of_pairwise (le := fun a b => decide (a ≤ b) = true) (fun a b _ _ h1 h2 => ?_) (keysF_sorted m) (keysF_sorted r) ((List.perm_ext_iff_of_nodup (keysF_nodup hm) (keysF_nodup hr)).2 fun k => ?_)
    · simp only [decide_eq_true_eq] at h1 h2
      exact List.le_antisymm h1 h2
    · rw [keysF_mem, keysF_mem, h]
  rw [allE_keysF, allE_keysF, hk]
  exact List.map_congr_left fun k _ => by rw [h]

theorem sval_of_mem {undo : Bool} {l : Posts} {e : List UInt8 × Option Int} (he : e ∈ sumsOf undo l) : e.2.getD 0 = amt undo l e.1 := by
  rw [← sval_sums]
  unfold sval look
  rw [getE_of_mem (sums_nodup undo l) he]; rfl
/-- When a booking is taken. -/
theorem code0_iff {undo : Bool} {m l : Posts} (hm : ∀ e ∈ m, i64 e.2) : bookCode undo m l = 0 ↔ (l.all fun p => nameOk p.1) = true ∧ total undo l = 0 ∧ ∀ k, i64 (look 0 m k + amt undo l k) := by
  unfold bookCode
  by_cases h1 : (l.all fun p => nameOk p.1) = true
  · rw [if_pos h1]
    by_cases h2 : total undo l = 0
    · rw [if_pos h2]
      by_cases h3 : allSmall undo m l = true
      · rw [if_pos h3]
        refine ⟨fun _ => ⟨h1, h2, fun k => ?_⟩, fun _ => rfl⟩
        unfold allSmall at h3
        rw [List.all_eq_true] at h3
        by_cases hk : k ∈ (sumsOf undo l).map (·.1)
        · obtain ⟨e, he, rfl⟩ := List.mem_map.1 hk
          have := small_i64 (h3 e he)
          rwa [sval_of_mem he] at this
        · have h0 : amt undo l k = 0 := by
            rw [← sval_sums]
            unfold sval look
            rw [getE_none.2 hk]; rfl
          rw [h0, Int.add_zero]
          exact look_bound hm k
      · rw [if_neg h3]
        refine ⟨(fun h => by cases h), fun h => absurd ?_ h3⟩
        unfold allSmall
        rw [List.all_eq_true]
        intro e he
        have := h.2.2 e.1
        rw [← sval_of_mem he] at this
        unfold small64; unfold i64 at this; simp [this.1, this.2]
    · rw [if_neg h2]; exact ⟨(fun h => by cases h), fun h => absurd h.2.1 h2⟩
  · rw [if_neg h1]; exact ⟨(fun h => by cases h), fun h => absurd h.1 h1⟩
theorem book_bound {undo : Bool} {m l : Posts} (hnd : (m.map (·.1)).Nodup) (hm : ∀ e ∈ m, i64 e.2) (h : bookCode undo m l = 0) : ∀ e ∈ bookE m (sumsOf undo l), i64 e.2 := fun e he => by
  have hn : ((bookE m (sumsOf undo l)).map (·.1)).Nodup := bookE_nodup _ _ hnd
  have := ((code0_iff hm).1 h).2.2 e.1
  rw [← look_books] at this
  unfold look at this
  rw [getE_of_mem hn he] at this
  exact this
theorem total_neg (l : Posts) : total true l = -total false l := by
  have : ∀ (l : Posts) (x : Int), l.foldl (fun s p => s + sg true p.2) (-x) = -(l.foldl (fun s p => s + sg false p.2) x) := by
    intro l
    induction l with
    | nil => intro x; rfl
    | cons p l ih =>
      intro x
      simp only [List.foldl_cons]
      rw [← ih]
      congr 1
      simp only [sg, cond_true, cond_false]; omega
  exact this l 0
/-- What was booked can be taken away, and all is as it was. -/
theorem undo_ok {m l : Posts} (hnd : (m.map (·.1)).Nodup) (hm : ∀ e ∈ m, i64 e.2) (h : bookCode false m l = 0) :
    bookCode true (bookE m (sumsOf false l)) l = 0 ∧ allE (bookE (bookE m (sumsOf false l)) (sumsOf true l)) = allE m := by
  obtain ⟨h1, h2, h3⟩ := (code0_iff hm).1 h
  have hn : ((bookE m (sumsOf false l)).map (·.1)).Nodup := bookE_nodup _ _ hnd
  have hk : ∀ k, look 0 (bookE m (sumsOf false l)) k + amt true l k = look 0 m k := fun k => by rw [look_books, amt_undo]; omega
  refine ⟨(code0_iff (book_bound hnd hm h)).2 ⟨h1, by rw [total_neg, h2]; rfl, fun k => by rw [hk]; exact look_bound hm k⟩, allE_ext (bookE_nodup _ _ hn) hnd fun k => by rw [look_books, hk]⟩
end
end Go.AM.C

/- LedgerBack: postings; what the law answers. -/
namespace Go.AM
set_option linter.unusedVariables false
set_option linter.unusedSimpArgs false
section
variable {S : Sg} {call : Calling} {d : Bool} {g : Operand → AVal} {H : Heap} {c : Call} {t e : TypeId} {ti te : TI} {news : List AVal} {cap2 : Option Nat} {cl : Bool}
theorem isl_one {sz : Nat} (hn : news.length = sz) : sliceCells H sz (.isl news 0 1 cap2 cl) = some (news, 1) := by
  unfold sliceCells
  simp only
  rw [if_pos (by omega), List.drop_zero, List.take_of_length_le (by omega)]
/-- One more, made where the order is drawn, on a row that is not there. -/
theorem G.append_nils_isl (hc : c.callee = .builtin .append) (ha : c.args.toList.map g = [.nils, .isl news 0 1 cap2 cl]) (hta : c.argTypes.toList = [t, t]) (ht : S.ty t = some ti) (hd : ti.desc = .slice e) (he : S.ty e = some te) (hn : news.length = te.size) (hcl : news.all AVal.cell = true) (hb : te.bytes ≤ 1024) :
    denG S call d g H (.call c) = some (.sl H.length 0 1 none te.size, H ++ [.cells news e]) := by
  obtain ⟨d1, d2, d3, d4, d5, d6, d7, d8⟩ := ti
  simp only at hd
  subst hd
  simp only [denG, hc, ha, hta, denAppend, ht, he, isl_one hn, hcl]
  have h1 : (0 + 1) * te.bytes ≤ 140737488355328 := by omega
  rw [if_neg (by decide), if_pos ⟨h1, by omega⟩]
/-- One more, made where the order is drawn. -/
theorem G.append_sl_isl {id len : Nat} {vs : List AVal} {ty : TypeId} (hc : c.callee = .builtin .append) (ha : c.args.toList.map g = [.sl id 0 len none te.size, .isl news 0 1 cap2 cl]) (hta : c.argTypes.toList = [t, t]) (ht : S.ty t = some ti) (hd : ti.desc = .slice e) (he : S.ty e = some te) (hn : news.length = te.size) (hcl : news.all AVal.cell = true) (hb : te.bytes ≤ 1024) (hs : 0 < te.size)
    (hI : H[id]? = some (.cells vs ty)) (hv : vs.length = len * te.size) (hl : len < 1073741824) :
    denG S call d g H (.call c) = some (.sl H.length 0 (len + 1) none te.size, H.set id .dead ++ [.cells (vs ++ news) e]) := by
  obtain ⟨d1, d2, d3, d4, d5, d6, d7, d8⟩ := ti
  simp only at hd
  subst hd
  have hso : sliceCells H te.size (.sl id 0 len none te.size) = some (vs, len) := by
    unfold sliceCells
    simp only [hI]
    rw [if_pos (by omega), List.drop_zero, List.take_of_length_le (by omega)]
  simp only [denG, hc, ha, hta, denAppend, ht, he, isl_one hn, hso, hcl]
  have h1 : (len + (0 + 1)) * te.bytes ≤ 140737488355328 := by
    have : (len + (0 + 1)) * te.bytes ≤ 1073741824 * 1024 := Nat.mul_le_mul (by omega) hb
    omega
  rw [if_neg (by decide), if_pos ⟨trivial, hs, h1, by omega⟩]
end
end Go.AM
namespace Go.AM.C
open Go.Proofs
noncomputable section
set_option linter.unusedVariables false
set_option linter.unusedSimpArgs false

/-! #### Text, where the order is drawn -/
def textX : Ext := fun args H => match args with
  | [.str s, .int .i64 n] => if n = 22 then some (.str (s.take 22), H) else none
  | _ => none
theorem textX_ok (S : Sg) (hg : S.glob = S0.glob) (hp : S.pin = S0.pin) : ExtAt Tryz.prog S 24 textX := by
  intro args H v H' hx
  unfold textX at hx
  split at hx
  · split at hx
    · rename_i h
      subst h
      cases hx
      exact DoesC.glob hg hp (text_has _ 22 (by omega) H)
    · cases hx
  · cases hx
theorem textX_quiet : true = true → ∀ args H v H', textX args H = some (v, H') → H' = H := by
  intro _ args H v H' hx
  unfold textX at hx
  split at hx
  · split at hx
    · cases hx; rfl
    · cases hx
  · cases hx
abbrev textE : Ent := ⟨24, textX, true, textX_quiet⟩
abbrev ST : Sg := mk [textE]
theorem sT : Sound Tryz.prog ST := mk_sound ⟨textX_ok _ rfl rfl, trivial⟩
theorem textA (s : List UInt8) (H : Heap) : callS ST 24 [.str s, iA 22] H = some (.str (s.take 22), H) :=
  (show callS ST 24 [.str s, iA 22] H = textX [.str s, iA 22] H from rfl).trans (show (if (22 : Int) = 22 then some (AVal.str (s.take 22), H) else none) = _ from if_pos rfl)

def cutP (p : List UInt8 × Int) : List UInt8 × Int := (p.1.take 22, p.2)
def cut8 (l : Posts) : Posts := (l.take 8).map cutP
theorem out_seal0 {HH : Heap} {v : AVal} {out : Posts} (h : OutOK HH 0 v out) (hne : v = .nils ∨ out ≠ []) : Seals HH v (postsA out) := by
  rcases h with ⟨rfl, rfl⟩ | ⟨id, ty, hN, rfl, hH⟩
  · exact Seals.same _ rfl
  · have hne' : out ≠ [] := by
      rcases hne with h | h
      · cases h
      · exact h
    unfold postsA
    rw [if_neg hne']
    refine Seals.sl id 0 _ none 2 _ ty _ hH (by rw [postC_len]; omega) (postC_len out) (fun j a b ha hb => ?_) (postC_closed out)
    rw [Nat.zero_add] at ha
    rw [ha] at hb
    cases hb
    exact Seals.same _ (closed1_ (postC_closed out a (List.mem_of_getElem? ha)))

set_option maxRecDepth 100000 in
theorem postings_has (l : Posts) (hll : l.length < 9223372036854775808) (H : Heap) : Has 10 [.isl (postC l) 0 l.length none true] H (postsA (cut8 l)) H := by
  generalize hR : postsA (cut8 l) = R
  refine Has.of (l := [textE]) ?_
  refine does_pure sT (show ST.fn 10 = some Tryz.f10 by kernel_rfl) rfl (by kernel_rfl) (Nat.le_of_ble_eq_true rfl) rfl (by rw [← hR]; exact postsA_closed _) ?_
  refine W.seq (W.region ?_)
  refine WO.op rfl rfl (WO.nil (W.seq (W.region ?_)))
  refine WO.op rfl rfl (WO.nil (W.seq (W.seq (W.region ?_))))
  refine WO.op rfl rfl (WO.nil (W.block ?_))
  refine W.fits (F' := fr [(0, .isl (postC l) 0 l.length none true), (3, .nils), (4, iA ((0 : Nat) : Int))]) (fits_fr ⟨rfl, rfl, rfl, trivial⟩) ?_
  refine W.loopI (α := Nat × Heap × AVal) (fun x => x.1 ≤ l.length ∧ x.1 ≤ 8 ∧ OutOK x.2.1 0 x.2.2 ((l.take x.1).map cutP) ∧ (x.2.2 = .nils ∨ (l.take x.1).map cutP ≠ [])) (fun x => 8 - x.1)
    (fun x => fr [(0, .isl (postC l) 0 l.length none true), (3, x.2.2), (4, iA (x.1 : Int))]) (fun x => x.2.1) ?_ (0, [], .nils) ⟨Nat.zero_le _, Nat.zero_le _, .inl ⟨rfl, rfl⟩, .inl rfl⟩
  rintro ⟨j, HH, out⟩ ⟨hj, hj8, hout, hne⟩
  simp only at hj hj8 hout hne
  have fin : l.take 8 = l.take j → Seals HH out R := fun h => by
    have : R = postsA ((l.take j).map cutP) := by rw [← hR, ← h]; rfl
    rw [this]
    exact out_seal0 hout hne
  refine W.seq (W.seq (W.region ?_))
  refine WO.op rfl rfl ?_
  refine WO.op rfl rfl ?_
  refine WO.op (G.len_isl rfl rfl rfl tP rfl) rfl ?_
  by_cases hlt : j < l.length
  · refine WO.as (v' := .bool true) rfl rfl (bdT (by omega)) ?_
    refine WO.op rfl rfl ?_
    refine WO.op rfl rfl ?_
    by_cases hlt8 : j < 8
    · refine WO.as (v' := .bool true) rfl rfl (bdT (by omega)) ?_
      refine WO.op rfl rfl (WO.nil (W.cond (b := true) rfl (fun _ => W.skip ?_) (fun h => by cases h)))
      obtain ⟨p, hp⟩ : ∃ p, l[j]? = some p := ⟨_, List.getElem?_eq_getElem hlt⟩
      obtain ⟨hc1, hc2⟩ := postC_at l j p hp
      have htk : (l.take (j + 1)).map cutP = (l.take j).map cutP ++ [cutP p] := by rw [List.take_add_one, hp, List.map_append]; rfl
      have hol : ((l.take j).map cutP).length < 1073741824 := by simp; omega
      have hnel : (l.take (j + 1)).map cutP ≠ [] := by rw [htk]; simp
      generalize hO : (l.take j).map cutP = O at hout hne htk hol
      refine W.seq (W.block (W.draw0 rfl (by kernel_rfl) ?_))
      refine WT.op rfl rfl rfl ?_
      refine WT.op rfl rfl rfl ?_
      refine WT.op rfl rfl rfl ?_
      refine WT.op (G.idx_isl rfl rfl tP rfl tp (by omega) (by omega)) rfl rfl ?_
      refine WT.op rfl rfl rfl ?_
      refine WT.op (G.load_ip (v := .str p.1) rfl tS rfl (by rw [Int.toNat_natCast, Nat.zero_add, Nat.add_zero]; exact hc1)) rfl rfl ?_
      refine WT.op (textA p.1 _) rfl rfl ?_
      refine WT.op rfl rfl rfl ?_
      refine WT.op rfl rfl rfl ?_
      refine WT.op (G.idx_isl rfl rfl tP rfl tp (by omega) (by omega)) rfl rfl ?_
      refine WT.op rfl rfl rfl ?_
      refine WT.op (G.load_ip (v := iA p.2) rfl tI rfl (by rw [Int.toNat_natCast, Nat.zero_add]; exact hc2)) rfl rfl ?_
      refine WT.op (v := .agg [.str (p.1.take 22), iA p.2]) rfl rfl rfl ?_
      refine WT.op (v := .isl [.str (p.1.take 22), iA p.2] 0 1 (some 1) true) rfl rfl rfl ?_
      rcases hout with ⟨rfl, ho⟩ | ⟨id, ty, hN, rfl, hH⟩
      · refine WT.op (G.append_nils_isl (ti := ti27) (te := ti40) (cap2 := some 1) (cl := true) rfl rfl rfl tP rfl tp rfl rfl (by decide)) rfl rfl ?_
        refine WT.op rfl rfl rfl (WT.nil (W.region ?_))
        refine WO.op rfl rfl ?_
        refine WO.as (v' := iA ((j + 1 : Nat) : Int)) rfl rfl (int_i64 (by omega) (by omega)) ?_
        refine WO.op rfl rfl (WO.nil ⟨(j + 1, _, _), ⟨by omega, by omega, ?_, .inr hnel⟩, by simp only; omega, fits_fr ⟨rfl, rfl, rfl, trivial⟩, rfl⟩)
        simp only
        rw [htk, ho]
        exact .inr ⟨HH.length, 40, Nat.zero_le _, rfl, app_at rfl⟩
      · have hidl : id < HH.length := (List.getElem?_eq_some_iff.1 hH).1
        refine WT.op (G.append_sl_isl (ti := ti27) (te := ti40) (cap2 := some 1) (cl := true) (id := id) (len := O.length) (vs := postC O) (ty := ty) rfl rfl rfl tP rfl tp rfl rfl (by decide) (by decide) hH (postC_len _) hol) rfl rfl ?_
        refine WT.op rfl rfl rfl (WT.nil (W.region ?_))
        refine WO.op rfl rfl ?_
        refine WO.as (v' := iA ((j + 1 : Nat) : Int)) rfl rfl (int_i64 (by omega) (by omega)) ?_
        refine WO.op rfl rfl (WO.nil ⟨(j + 1, _, _), ⟨by omega, by omega, ?_, .inr hnel⟩, by simp only; omega, fits_fr ⟨rfl, rfl, rfl, trivial⟩, rfl⟩)
        simp only
        rw [htk]
        refine .inr ⟨HH.length, 40, Nat.zero_le _, ?_, ?_⟩
        · rw [List.length_append]; rfl
        · rw [postC_app]; exact app_at (by simp)
    · have hje : j = 8 := by omega
      subst hje
      refine WO.as (v' := .bool false) rfl rfl (bdF (by omega)) ?_
      refine WO.op rfl rfl (WO.nil (W.cond (b := false) rfl (fun h => by cases h) (fun _ => W.exit ?_)))
      refine W.seq (W.region ?_)
      refine WO.op rfl rfl ?_
      exact WO.op rfl rfl (WO.nil (W.ret ⟨trivial, _, rfl, fin rfl⟩))
  · have hje : j = l.length := by omega
    subst hje
    refine WO.as (v' := .bool false) rfl rfl (bdF (by omega)) ?_
    refine WO.op rfl rfl ?_
    refine WO.skip rfl ?_
    refine WO.skip rfl ?_
    refine WO.op rfl rfl (WO.nil (W.cond (b := false) rfl (fun h => by cases h) (fun _ => W.exit ?_)))
    refine W.seq (W.region ?_)
    refine WO.op rfl rfl ?_
    exact WO.op rfl rfl (WO.nil (W.ret ⟨trivial, _, rfl, fin (by rw [List.take_length, List.take_of_length_le (by omega)])⟩))
end
end Go.AM.C

/- LedgerBack answers true. -/
namespace Go.AM.C
open Go.Proofs
noncomputable section
set_option linter.unusedVariables false
set_option linter.unusedSimpArgs false

/-! #### books that stay small -/
theorem putE_mem {α : Type} {l : List (List UInt8 × α)} {k : List UInt8} {v : α} {e : List UInt8 × α} (h : e ∈ putE l k v) : e.1 = k ∨ e ∈ l := by
  unfold putE at h
  split at h
  · rcases List.mem_or_eq_of_mem_set h with h | h
    · exact .inr h
    · exact .inl (by rw [h])
  · rcases List.mem_append.1 h with h | h
    · exact .inr h
    · exact .inl (by rw [List.mem_singleton.1 h])
theorem putE_len {α : Type} (l : List (List UInt8 × α)) (k : List UInt8) (v : α) : (putE l k v).length ≤ l.length + 1 := by
  unfold putE
  split
  · rw [List.length_set]; omega
  · rw [List.length_append]; exact Nat.le_refl _
theorem sums_len (undo : Bool) : ∀ (l : Posts) (s : Sums), (l.foldl (sumStep undo) s).length ≤ s.length + l.length
  | [], s => Nat.le_refl _
  | p :: l, s => by
    have h1 := sums_len undo l (sumStep undo s p)
    have h2 : (sumStep undo s p).length ≤ s.length + 1 := putE_len _ _ _
    rw [List.foldl_cons, List.length_cons]
    omega
theorem sums_keys (undo : Bool) : ∀ (l : Posts) (s : Sums), ∀ e ∈ l.foldl (sumStep undo) s, (∃ p ∈ l, p.1 = e.1) ∨ ∃ x ∈ s, x.1 = e.1
  | [], s, e, h => .inr ⟨e, h, rfl⟩
  | p :: l, s, e, h => by
    rcases sums_keys undo l _ e h with ⟨q, hq, hk⟩ | ⟨x, hx, hk⟩
    · exact .inl ⟨q, List.mem_cons_of_mem _ hq, hk⟩
    · rcases putE_mem hx with h1 | h1
      · exact .inl ⟨p, List.mem_cons_self, h1.symm.trans hk⟩
      · exact .inr ⟨x, h1, hk⟩
theorem book_len : ∀ (s : Sums) (m : Posts), (bookE m s).length ≤ m.length + s.length
  | [], m => Nat.le_refl _
  | e :: s, m => by
    have h1 := book_len s (putE m e.1 (look 0 m e.1 + e.2.getD 0))
    have h2 := putE_len m e.1 (look 0 m e.1 + e.2.getD 0)
    rw [List.length_cons]
    exact Nat.le_trans h1 (by omega)
theorem book_keys : ∀ (s : Sums) (m : Posts), ∀ e ∈ bookE m s, (∃ x ∈ s, x.1 = e.1) ∨ ∃ x ∈ m, x.1 = e.1
  | [], m, e, h => .inr ⟨e, h, rfl⟩
  | y :: s, m, e, h => by
    rcases book_keys s _ e h with ⟨x, hx, hk⟩ | ⟨x, hx, hk⟩
    · exact .inl ⟨x, List.mem_cons_of_mem _ hx, hk⟩
    · rcases putE_mem hx with h1 | h1
      · exact .inl ⟨y, List.mem_cons_self, h1.symm.trans hk⟩
      · exact .inr ⟨x, h1, hk⟩
structure GM (m : Posts) (n : Nat) : Prop where
  nd : (m.map (·.1)).Nodup
  i : ∀ e ∈ m, i64 e.2
  k : ∀ e ∈ m, e.1.length < 4611686018427387904
  n : m.length ≤ n
structure GP (l : Posts) (n : Nat) : Prop where
  b : ∀ p ∈ l, i64 p.2 ∧ p.1.length < 4611686018427387904
  n : l.length ≤ n
theorem GM.book {undo : Bool} {m l : Posts} {n k : Nat} (h : GM m n) (hl : GP l k) (hc : bookCode undo m l = 0) : GM (bookE m (sumsOf undo l)) (n + k) := by
  refine ⟨bookE_nodup _ _ h.nd, book_bound h.nd h.i hc, fun e he => ?_, ?_⟩
  · rcases book_keys _ _ e he with ⟨x, hx, hk⟩ | ⟨x, hx, hk⟩
    · rcases sums_keys undo l [] x hx with ⟨p, hp, hk2⟩ | ⟨y, hy, _⟩
      · rw [← hk, ← hk2]; exact (hl.b p hp).2
      · cases hy
    · rw [← hk]; exact h.k x hx
  · have h1 := book_len (sumsOf undo l) m
    have h2 : (sumsOf undo l).length ≤ 0 + l.length := sums_len undo l []
    have h3 := hl.n
    have h4 := h.n
    omega
theorem gm_nil : GM [] 0 := ⟨List.nodup_nil, (fun e h => by cases h), (fun e h => by cases h), Nat.le_refl _⟩
theorem gp_cut8 {l : Posts} (h : ∀ p ∈ l, i64 p.2) : GP (cut8 l) 8 := by
  refine ⟨fun p hp => ?_, by unfold cut8; simp; omega⟩
  obtain ⟨q, hq, rfl⟩ := List.mem_map.1 hp
  refine ⟨h q (List.mem_of_mem_take hq), ?_⟩
  show (q.1.take 22).length < _
  simp
  omega
theorem code_cases (undo : Bool) (m l : Posts) : bookCode undo m l = 0 ∨ bookCode undo m l ≠ 0 ∧ ∃ k : Int, errA (bookCode undo m l) = .iface 167 (.int .i64 k) := by
  generalize bookCode undo m l = C
  by_cases h : C = 0
  · exact .inl h
  · exact .inr ⟨h, C, if_neg h⟩

/-! #### what the books' functions do, by books that stay small -/
abbrev lgO (src : AVal) (cnt : Int) : AObj := .cells [src, iA cnt] 86
theorem post_gm {H : Heap} {L : Nat} {src : AVal} {cnt : Int} {m l : Posts} {n k : Nat} (hL : H[L]? = some (lgO src cnt)) (hsrc : IsM src m) (hm : GM m n) (hcnt : i64 cnt ∧ i64 (cnt + 1)) (hl : GP l k) (hk : k < 4611686018427387904) :
    Has 15 [.ptr L 0, postsA l] H (errA (bookCode false m l)) (H.set L (.cells (if bookCode false m l = 0 then [imapA (bookE m (sumsOf false l)), iA (cnt + 1)] else [src, iA cnt]) 86)) :=
  post_has hL hsrc hm.nd hm.i hcnt (slp_postsA H l) hl.b (Nat.lt_of_le_of_lt hl.n hk)
theorem undo_gm {H : Heap} {L : Nat} {src : AVal} {cnt : Int} {m l : Posts} {n k : Nat} (hL : H[L]? = some (lgO src cnt)) (hsrc : IsM src m) (hm : GM m n) (hcnt : i64 cnt ∧ i64 (cnt + 1)) (hl : GP l k) (hk : k < 4611686018427387904) :
    Has 16 [.ptr L 0, postsA l] H (errA (bookCode true m l)) (H.set L (.cells (if bookCode true m l = 0 then [imapA (bookE m (sumsOf true l)), iA (cnt + 1)] else [src, iA cnt]) 86)) :=
  undo_has hL hsrc hm.nd hm.i hcnt (slp_postsA H l) hl.b (Nat.lt_of_le_of_lt hl.n hk)
theorem all_gm {A m : Posts} {n : Nat} (hA : allE m = A) (hm : GM m n) (hn : n < 1073741824) {src : AVal} (hsrc : IsM src m) (H : Heap) (L : Nat) (cnt : Int) (hL : H[L]? = some (lgO src cnt)) :
    Has 20 [.ptr L 0] H (postsA A) H := by
  subst hA
  exact ledger_all m src H L 0 _ _ hL rfl hsrc hm.nd (fun e he => Nat.le_of_lt (hm.k e he)) (Nat.lt_of_le_of_lt hm.n hn)

set_option maxRecDepth 100000 in
theorem back_has (a b : Posts) (hla : a.length < 9223372036854775808) (hlb : b.length < 9223372036854775808) (hia : ∀ p ∈ a, i64 p.2) (hib : ∀ p ∈ b, i64 p.2) (H : Heap) :
    Has 4 [.isl (postC a) 0 a.length none true, .isl (postC b) 0 b.length none true] H (.bool true) H := by
  refine does_pure s0 (show S0.fn 4 = some Tryz.f4 by kernel_rfl) rfl (by kernel_rfl) (Nat.le_of_ble_eq_true rfl) rfl rfl ?_
  refine W.seq (W.region ?_)
  refine WO.op rfl rfl (WO.nil (W.seq (W.region ?_)))
  refine WO.call rfl (begun_has _) rfl ?_
  refine WO.op rfl rfl (WO.nil (W.seq (W.seq (W.region ?_))))
  refine WO.op rfl rfl ?_
  refine WO.op rfl rfl (WO.nil (W.cond (b := false) rfl (fun h => by cases h) (fun _ => W.skip (W.seq (W.region ?_)))))
  refine WO.op rfl rfl ?_
  refine WO.call rfl (postings_has a hla _) rfl ?_
  refine WO.op rfl rfl ?_
  refine WO.call rfl (postings_has b hlb _) rfl ?_
  have hA := gp_cut8 hia
  have hB := gp_cut8 hib
  generalize cut8 a = A at hA
  generalize cut8 b = B at hB
  refine WO.op rfl rfl ?_
  refine WO.op rfl rfl (WO.nil (W.seq (W.region ?_)))
  refine WO.call rfl (new_has _) rfl ?_
  refine WO.op rfl rfl (WO.nil (W.seq (W.seq (W.region ?_))))
  refine WO.op rfl rfl ?_
  refine WO.op rfl rfl ?_
  have hp := post_gm (H := [lgO .nilm 0]) (L := 0) (src := .nilm) (cnt := 0) (m := []) (l := A) rfl (.inr ⟨rfl, rfl⟩) gm_nil ⟨by decide, by decide⟩ hA (by decide)
  rcases code_cases false [] A with hc | ⟨hc, k, hk⟩
  · rw [hc, if_pos rfl] at hp
    have hm := gm_nil.book hA hc
    have hun := undo_ok (m := bookE [] (sumsOf false A)) (l := B) hm.nd hm.i
    have hgb := hm.book (undo := false) hB
    generalize bookE [] (sumsOf false A) = m at hp hm hun hgb
    have hZ : ∃ Z : Posts, allE m = Z := Exists.intro (allE m) (Eq.refl _)
    obtain ⟨Z, hZ⟩ := hZ
    have hZl : Z.length < 4611686018427387904 := allE_short hZ.symm (Nat.lt_of_le_of_lt hm.n (by decide))
    have ha := all_gm hZ hm (by decide) (.inl rfl)
    have hpb := post_gm (H := [lgO (imapA m) 1]) (L := 0) (src := imapA m) (cnt := 1) (m := m) (l := B) rfl (.inl rfl) hm ⟨by decide, by decide⟩ hB (by decide)
    refine WO.call rfl hp rfl ?_
    refine WO.op rfl rfl (WO.nil (W.cond (b := false) rfl (fun h => by cases h) (fun _ => W.skip (W.seq (W.region ?_)))))
    refine WO.op rfl rfl ?_
    refine WO.call rfl (ha _ 0 _ rfl) rfl ?_
    refine WO.op rfl rfl (WO.nil (W.seq (W.seq (W.region ?_))))
    refine WO.op rfl rfl ?_
    refine WO.op rfl rfl ?_
    rcases code_cases false m B with hd | ⟨hd, k, hk⟩
    · rw [hd, if_pos rfl] at hpb
      obtain ⟨hu1, hu2⟩ := hun hd
      have hm2 := hgb hd
      have hub := undo_gm (H := [lgO (imapA (bookE m (sumsOf false B))) 2]) (L := 0) (src := imapA (bookE m (sumsOf false B))) (cnt := 2) (m := bookE m (sumsOf false B)) (l := B) rfl (.inl rfl) hm2 ⟨by decide, by decide⟩ hB (by decide)
      rw [hu1, if_pos rfl] at hub
      have hm3 := hm2.book (undo := true) hB hu1
      rw [hZ] at hu2
      have ha3 := all_gm hu2 hm3 (by decide) (.inl rfl)
      generalize bookE (bookE m (sumsOf false B)) (sumsOf true B) = m3 at hub ha3
      generalize bookE m (sumsOf false B) = m2 at hpb hub
      refine WO.call rfl hpb rfl ?_
      refine WO.op rfl rfl (WO.nil (W.seq (W.region ?_)))
      refine WO.op rfl rfl ?_
      refine WO.op rfl rfl (WO.nil (W.cond (b := false) rfl (fun h => by cases h) (fun _ => W.skip (W.seq (W.region ?_)))))
      refine WO.op rfl rfl ?_
      refine WO.op rfl rfl ?_
      refine WO.call rfl hub rfl ?_
      refine WO.op rfl rfl ?_
      refine WO.op rfl rfl ?_
      refine WO.op rfl rfl ?_
      refine WO.call rfl (ha3 _ 0 _ rfl) rfl ?_
      refine WO.op rfl rfl ?_
      refine WO.call rfl (alike_self Z hZl _) rfl ?_
      refine WO.op rfl rfl ?_
      exact WO.op rfl rfl (WO.nil (W.ret ⟨trivial, _, rfl, Seals.same _ rfl⟩))
    · rw [hk, if_neg hd] at hpb
      refine WO.call rfl hpb rfl ?_
      refine WO.op rfl rfl (WO.nil (W.seq (W.region ?_)))
      refine WO.op rfl rfl ?_
      refine WO.op rfl rfl (WO.nil (W.cond (b := true) rfl (fun _ => ?_) (fun h => by cases h)))
      refine W.seq (W.region ?_)
      refine WO.op rfl rfl ?_
      refine WO.call rfl (ha _ 0 _ rfl) rfl ?_
      refine WO.op rfl rfl ?_
      refine WO.call rfl (alike_self Z hZl _) rfl ?_
      exact WO.op rfl rfl (WO.nil (W.ret ⟨trivial, _, rfl, Seals.same _ rfl⟩))
  · rw [hk, if_neg hc] at hp
    refine WO.call rfl hp rfl ?_
    refine WO.op rfl rfl (WO.nil (W.cond (b := true) rfl (fun _ => ?_) (fun h => by cases h)))
    have h0 : allE [] = [] := by simp [allE, allOf, keysS]
    have ha := all_gm h0 gm_nil (by decide) (src := .nilm) (.inr ⟨rfl, rfl⟩)
    refine W.seq (W.region ?_)
    refine WO.op rfl rfl ?_
    refine WO.call rfl (ha _ 0 0 rfl) rfl ?_
    refine WO.op rfl rfl ?_
    refine WO.op rfl rfl ?_
    exact WO.op rfl rfl (WO.nil (W.ret ⟨trivial, _, rfl, Seals.same _ rfl⟩))
end
end Go.AM.C

