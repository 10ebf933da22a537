/- Part of a proof over the program's translation: begun, by a closed run.; LedgerEdge answers true.; LedgerEdge answers true. .. -/
import Derived.Test.YtgpgegkoihalnaaGreatDoorN4
import Derived.Test.YtgpgegkoihalnaaGreatDoorN5
import Derived.Test.YtgpgegkoihalnaaGreatDoorB0
noncomputable section
/- begun, by a closed run. -/
namespace Go.AM.C
open Go.Proofs
noncomputable section
set_option linter.unusedVariables false
set_option linter.unusedSimpArgs false
abbrev SMF : Sg := SC baseM10
theorem sMF : Sound Tryz.prog SMF := sc_sound (baseM10_ok _ (sc_glob _) (sc_pin _))
theorem begun_den : givesB (den SMF 5000 8 [] []) true = true := by kernel_rfl
theorem begun_has (H : Heap) : Has 8 [] H (.bool true) H := Has.un (run_B sMF rfl begun_den H)
end
end Go.AM.C

/- LedgerEdge answers true. -/
namespace Go.AM.C
open Go.Proofs
noncomputable section
set_option linter.unusedVariables false
set_option linter.unusedSimpArgs false

theorem and62 (n : Int) : ∃ v : Nat, wrapI .i64 ((BitVec.ofInt 64 n &&& BitVec.ofInt 64 4611686018427387903).toNat : Int) = (v : Int) ∧ v < 4611686018427387904 := by
  have h : (BitVec.ofInt 64 n &&& BitVec.ofInt 64 4611686018427387903).toNat ≤ 4611686018427387903 := by
    rw [BitVec.toNat_and]
    exact Nat.and_le_right
  generalize (BitVec.ofInt 64 n &&& BitVec.ofInt 64 4611686018427387903).toNat = v at h ⊢
  exact ⟨v, wrap_i64 (by omega), by omega⟩

def nA : List UInt8 := [97]
def nB : List UInt8 := [98]
def nC : List UInt8 := [99]
def nD : List UInt8 := [100]
instance i64_dec (z : Int) : Decidable (i64 z) := inferInstanceAs (Decidable (_ ∧ _))
theorem hlb2 {a b : List UInt8} {x y : Int} (hx : i64 x) (hy : i64 y) (ha : a.length ≤ 20) (hb : b.length ≤ 20) : ∀ p ∈ [(a, x), (b, y)], i64 p.2 ∧ p.1.length < 4611686018427387904 := fun p hp => by
  simp only [List.mem_cons, List.not_mem_nil, or_false] at hp
  rcases hp with rfl | rfl
  · exact ⟨hx, by simp only; omega⟩
  · exact ⟨hy, by simp only; omega⟩
theorem small64_of {z : Int} (h : i64 z) : small64 z = true := by unfold small64; unfold i64 at h; simp [h.1, h.2]
theorem small64_no {z : Int} (h : ¬ i64 z) : small64 z = false := by
  unfold i64 at h
  rw [Bool.eq_false_iff]
  intro h2
  exact h (small_i64 h2)
/-- Two postings of two names. -/
theorem two_sums {a b : List UInt8} (h : a ≠ b) (x y : Int) : sumsOf false [(a, x), (b, y)] = [(a, some x), (b, some y)] := by
  have h' : ¬ b = a := fun e => h e.symm
  simp [sumsOf, sumStep, putE, keyIdx, look, getE, sg, h, h']
theorem one_sums (a : List UInt8) (x y : Int) : sumsOf false [(a, x), (a, y)] = [(a, some (x + y))] := by
  simp [sumsOf, sumStep, putE, keyIdx, look, getE, sg]
theorem code_two {m : Posts} {a b : List UInt8} (h : a ≠ b) (ha : nameOk a = true) (hb : nameOk b = true) (x : Int) : bookCode false m [(a, x), (b, -x)] = if i64 (look 0 m a + x) ∧ i64 (look 0 m b + -x) then 0 else 11 := by
  have ht : total false [(a, x), (b, -x)] = 0 := by simp [total, sg]; omega
  unfold bookCode allSmall
  rw [if_pos (by simp [ha, hb]), if_pos ht, two_sums h]
  by_cases h1 : i64 (look 0 m a + x) ∧ i64 (look 0 m b + -x)
  · rw [if_pos h1, if_pos]
    simp [small64_of h1.1, small64_of h1.2]
  · rw [if_neg h1, if_neg]
    intro h2
    simp only [List.all_cons, List.all_nil, Bool.and_true, Bool.and_eq_true, Option.getD_some] at h2
    exact h1 ⟨small_i64 h2.1, small_i64 h2.2⟩
theorem code_one {m : Posts} {a : List UInt8} (ha : nameOk a = true) (x : Int) (h : i64 (look 0 m a)) : bookCode false m [(a, x), (a, -x)] = 0 := by
  have ht : total false [(a, x), (a, -x)] = 0 := by simp [total, sg]; omega
  unfold bookCode allSmall
  rw [if_pos (by simp [ha]), if_pos ht, one_sums, if_pos]
  have : look 0 m a + (x + -x) = look 0 m a := by omega
  simp only [List.all_cons, List.all_nil, Bool.and_true, Option.getD_some, this]
  exact small64_of h

abbrev lgC (l : List AVal) : AObj := .cells l 86
abbrev psC (l : Posts) : AObj := .cells (postC l) 40
theorem i64_iff (z : Int) : i64 z ↔ -9223372036854775808 ≤ z ∧ z < 9223372036854775808 := Iff.rfl

theorem post_e1 (v : Nat) (hv : v < 4611686018427387904) : Has 15 [.ptr 0 0, .sl 1 0 2 (some 2) 2] [lgC [.nilm, iA 0], psC [(nA, (v : Int)), (nB, -(v : Int))]] .nili [lgC [imapA [(nA, (v : Int)), (nB, -(v : Int))], iA 1], psC [(nA, (v : Int)), (nB, -(v : Int))]] := by
  have h := post_has (H := [lgC [.nilm, iA 0], psC [(nA, (v : Int)), (nB, -(v : Int))]]) (L := 0) (src := .nilm) (cnt := 0) (m := []) rfl (.inr ⟨rfl, rfl⟩) (by simp) (by simp) ⟨by decide, by decide⟩ (ps := .sl 1 0 2 (some 2) 2) (l := [(nA, v), (nB, -v)]) (postsOf_slp rfl)
    (hlb2 (by rw [i64_iff]; omega) (by rw [i64_iff]; omega) (by decide) (by decide)) (by simp)
  have hc : bookCode false [] [(nA, (v : Int)), (nB, -v)] = 0 := by
    rw [code_two (by decide) (by kernel_rfl) (by kernel_rfl), if_pos]
    simp only [i64_iff]
    have e1 : look 0 ([] : Posts) nA = 0 := rfl
    have e2 : look 0 ([] : Posts) nB = 0 := rfl
    rw [e1, e2]; omega
  have he : bookE [] (sumsOf false [(nA, (v : Int)), (nB, -v)]) = [(nA, (v : Int)), (nB, -v)] := by
    rw [two_sums (by decide)]
    simp [bookE, putE, keyIdx, look, getE, nA, nB]
  rw [hc, if_pos rfl, he] at h
  exact h
theorem post_e2 (v x : Nat) (P1 : AObj) (hv : v < 4611686018427387904) (hx : v + x = 9223372036854775807) : Has 15 [.ptr 0 0, .sl 2 0 2 (some 2) 2] [lgC [imapA [(nA, (v : Int)), (nB, -(v : Int))], iA 1], P1, psC [(nA, (x : Int)), (nC, -(x : Int))]] .nili
    [lgC [imapA [(nA, 9223372036854775807), (nB, -(v : Int)), (nC, -(x : Int))], iA 2], P1, psC [(nA, (x : Int)), (nC, -(x : Int))]] := by
  have h := post_has (H := [lgC [imapA [(nA, (v : Int)), (nB, -v)], iA 1], P1, psC [(nA, (x : Int)), (nC, -(x : Int))]]) (L := 0) (src := imapA [(nA, (v : Int)), (nB, -v)]) (cnt := 1) (m := [(nA, (v : Int)), (nB, -v)]) rfl (.inl rfl) (show ([nA, nB] : List (List UInt8)).Nodup by decide)
    (fun p hp => by simp only [List.mem_cons, List.not_mem_nil, or_false] at hp; rcases hp with rfl | rfl <;> (rw [i64_iff]; simp only; omega)) ⟨by decide, by decide⟩ (ps := .sl 2 0 2 (some 2) 2) (l := [(nA, x), (nC, -x)]) (postsOf_slp rfl)
    (hlb2 (by rw [i64_iff]; omega) (by rw [i64_iff]; omega) (by decide) (by decide)) (by simp)
  have e1 : look 0 [(nA, (v : Int)), (nB, -v)] nA = v := rfl
  have e2 : look 0 [(nA, (v : Int)), (nB, -v)] nC = 0 := rfl
  have hc : bookCode false [(nA, (v : Int)), (nB, -v)] [(nA, (x : Int)), (nC, -x)] = 0 := by
    rw [code_two (by decide) (by kernel_rfl) (by kernel_rfl), if_pos]
    simp only [i64_iff, e1, e2]
    omega
  have he : bookE [(nA, (v : Int)), (nB, -v)] (sumsOf false [(nA, (x : Int)), (nC, -x)]) = [(nA, 9223372036854775807), (nB, -(v : Int)), (nC, -(x : Int))] := by
    rw [two_sums (by decide)]
    have : (v : Int) + x = 9223372036854775807 := by omega
    simp [bookE, putE, keyIdx, look, getE, nA, nB, nC, this]
  rw [hc, if_pos rfl, he] at h
  exact h
theorem post_e3 (v x y : Nat) (P1 P2 : AObj) (hv : v < 4611686018427387904) (hx : v + x = 9223372036854775807) (hy : 0 < y ∧ y ≤ 4611686018427387904) : Has 15 [.ptr 0 0, .sl 3 0 2 (some 2) 2]
    [lgC [imapA [(nA, 9223372036854775807), (nB, -(v : Int)), (nC, -(x : Int))], iA 2], P1, P2, psC [(nA, (y : Int)), (nD, -(y : Int))]] (errA 11) [lgC [imapA [(nA, 9223372036854775807), (nB, -(v : Int)), (nC, -(x : Int))], iA 2], P1, P2, psC [(nA, (y : Int)), (nD, -(y : Int))]] := by
  have h := post_has (H := [lgC [imapA [(nA, 9223372036854775807), (nB, -(v : Int)), (nC, -(x : Int))], iA 2], P1, P2, psC [(nA, (y : Int)), (nD, -(y : Int))]]) (L := 0) (src := imapA [(nA, 9223372036854775807), (nB, -(v : Int)), (nC, -(x : Int))]) (cnt := 2) (m := [(nA, 9223372036854775807), (nB, -(v : Int)), (nC, -(x : Int))]) rfl (.inl rfl) (show ([nA, nB, nC] : List (List UInt8)).Nodup by decide)
    (fun p hp => by simp only [List.mem_cons, List.not_mem_nil, or_false] at hp; rcases hp with rfl | rfl | rfl <;> (rw [i64_iff]; simp only; omega)) ⟨by decide, by decide⟩ (ps := .sl 3 0 2 (some 2) 2) (l := [(nA, y), (nD, -y)]) (postsOf_slp rfl)
    (hlb2 (by rw [i64_iff]; omega) (by rw [i64_iff]; omega) (by decide) (by decide)) (by simp)
  have e1 : look 0 [(nA, 9223372036854775807), (nB, -(v : Int)), (nC, -(x : Int))] nA = 9223372036854775807 := rfl
  have hc : bookCode false [(nA, 9223372036854775807), (nB, -(v : Int)), (nC, -(x : Int))] [(nA, (y : Int)), (nD, -y)] = 11 := by
    rw [code_two (by decide) (by kernel_rfl) (by kernel_rfl), if_neg]
    simp only [i64_iff, e1]
    omega
  rw [hc, if_neg (by decide)] at h
  exact h
theorem post_e4 (v x y : Nat) (P1 P2 P3 : AObj) (hv : v < 4611686018427387904) (hx : v + x = 9223372036854775807) (hy : 0 < y ∧ y ≤ 4611686018427387904) : Has 15 [.ptr 0 0, .sl 4 0 2 (some 2) 2]
    [lgC [imapA [(nA, 9223372036854775807), (nB, -(v : Int)), (nC, -(x : Int))], iA 2], P1, P2, P3, psC [(nA, (y : Int)), (nA, -(y : Int))]] .nili [lgC [imapA [(nA, 9223372036854775807), (nB, -(v : Int)), (nC, -(x : Int))], iA 3], P1, P2, P3, psC [(nA, (y : Int)), (nA, -(y : Int))]] := by
  have h := post_has (H := [lgC [imapA [(nA, 9223372036854775807), (nB, -(v : Int)), (nC, -(x : Int))], iA 2], P1, P2, P3, psC [(nA, (y : Int)), (nA, -(y : Int))]]) (L := 0) (src := imapA [(nA, 9223372036854775807), (nB, -(v : Int)), (nC, -(x : Int))]) (cnt := 2) (m := [(nA, 9223372036854775807), (nB, -(v : Int)), (nC, -(x : Int))]) rfl (.inl rfl) (show ([nA, nB, nC] : List (List UInt8)).Nodup by decide)
    (fun p hp => by simp only [List.mem_cons, List.not_mem_nil, or_false] at hp; rcases hp with rfl | rfl | rfl <;> (rw [i64_iff]; simp only; omega)) ⟨by decide, by decide⟩ (ps := .sl 4 0 2 (some 2) 2) (l := [(nA, y), (nA, -y)]) (postsOf_slp rfl)
    (hlb2 (by rw [i64_iff]; omega) (by rw [i64_iff]; omega) (by decide) (by decide)) (by simp)
  have e1 : look 0 [(nA, 9223372036854775807), (nB, -(v : Int)), (nC, -(x : Int))] nA = 9223372036854775807 := rfl
  have hc : bookCode false [(nA, 9223372036854775807), (nB, -(v : Int)), (nC, -(x : Int))] [(nA, (y : Int)), (nA, -y)] = 0 := code_one (by kernel_rfl) _ (by rw [e1]; decide)
  have he : bookE [(nA, 9223372036854775807), (nB, -(v : Int)), (nC, -(x : Int))] (sumsOf false [(nA, (y : Int)), (nA, -y)]) = [(nA, 9223372036854775807), (nB, -(v : Int)), (nC, -(x : Int))] := by
    rw [one_sums]
    have : (9223372036854775807 : Int) + ((y : Int) + -y) = 9223372036854775807 := by omega
    simp only [bookE, List.foldl_cons, List.foldl_nil, e1, Option.getD_some, this]
    rfl
  rw [hc, if_pos rfl, he] at h
  exact h
end
end Go.AM.C

/- LedgerEdge answers true. -/
namespace Go.AM.C
open Go.Proofs
noncomputable section
set_option linter.unusedVariables false
set_option linter.unusedSimpArgs false

set_option maxRecDepth 100000 in
theorem edge_has (n more : Int) (H : Heap) : Has 5 [iA n, iA more] H (.bool true) H := by
  obtain ⟨v, hv, hv1⟩ := and62 n
  obtain ⟨z, hz, hz1⟩ := and62 more
  obtain ⟨x, hx⟩ : ∃ x : Nat, v + x = 9223372036854775807 := ⟨9223372036854775807 - v, by omega⟩
  obtain ⟨y, rfl⟩ : ∃ y : Nat, y = 1 + z := ⟨_, rfl⟩
  have hy : 0 < 1 + z ∧ 1 + z ≤ 4611686018427387904 := by omega
  have hyz : AVal.int .i64 (wrapI .i64 (1 + (z : Int))) = iA ((1 + z : Nat) : Int) := int_i64 (by omega) (by omega)
  generalize 1 + z = y at *
  refine does_pure s0 (show S0.fn 5 = some Tryz.f5 by kernel_rfl) rfl (by kernel_rfl) (Nat.le_of_ble_eq_true rfl) rfl rfl ?_
  refine W.seq (W.region ?_)
  refine WO.op rfl rfl (WO.nil (W.seq (W.region ?_)))
  refine WO.call rfl (begun_has _) rfl ?_
  refine WO.op rfl rfl (WO.nil (W.seq (W.seq (W.region ?_))))
  refine WO.op rfl rfl ?_
  refine WO.op rfl rfl (WO.nil (W.cond (b := false) rfl (fun h => by cases h) (fun _ => W.skip (W.seq (W.region ?_)))))
  refine WO.op rfl rfl ?_
  refine WO.as (v' := iA (v : Int)) rfl rfl (int_eq hv) ?_
  refine WO.op rfl rfl (WO.nil (W.seq (W.region ?_)))
  refine WO.op rfl rfl ?_
  refine WO.as (v' := iA (z : Int)) rfl rfl (int_eq hz) ?_
  refine WO.as (v' := iA (y : Int)) rfl rfl hyz ?_
  refine WO.op rfl rfl (WO.nil (W.seq (W.region ?_)))
  refine WO.call rfl (new_has _) rfl ?_
  refine WO.op rfl rfl (WO.nil (W.seq (W.seq (W.region ?_))))
  refine WO.op rfl rfl ?_
  refine WO.op rfl rfl ?_
  refine WO.op rfl rfl ?_
  refine WO.op rfl rfl ?_
  refine WO.as (v' := iA (-(v : Int))) rfl rfl (int_i64 (by omega) (by omega)) ?_
  refine WO.op rfl rfl ?_
  refine WO.op rfl rfl ?_
  refine WO.call rfl (post_e1 v hv1) rfl ?_
  refine WO.op rfl rfl (WO.nil (W.cond (b := false) rfl (fun h => by cases h) (fun _ => W.skip (W.seq (W.region ?_)))))
  refine WO.op rfl rfl ?_
  refine WO.as (v' := iA (x : Int)) rfl rfl (int_i64 (by omega) (by omega)) ?_
  refine WO.op rfl rfl (WO.nil (W.seq (W.region ?_)))
  refine WO.op rfl rfl ?_
  refine WO.op rfl rfl ?_
  refine WO.op rfl rfl ?_
  refine WO.op rfl rfl ?_
  refine WO.as (v' := iA (-(x : Int))) rfl rfl (int_i64 (by omega) (by omega)) ?_
  refine WO.op rfl rfl ?_
  refine WO.op rfl rfl ?_
  refine WO.call rfl (post_e2 v x _ hv1 hx) rfl ?_
  refine WO.op rfl rfl (WO.nil (W.seq (W.region ?_)))
  refine WO.op rfl rfl ?_
  refine WO.op rfl rfl ?_
  refine WO.op rfl rfl ?_
  refine WO.op rfl rfl ?_
  refine WO.as (v' := iA (-(y : Int))) rfl rfl (int_i64 (by omega) (by omega)) ?_
  refine WO.op rfl rfl ?_
  refine WO.op rfl rfl ?_
  refine WO.call rfl (post_e3 v x y _ _ hv1 hx hy) rfl ?_
  refine WO.op rfl rfl (WO.nil (W.seq (W.region ?_)))
  refine WO.op rfl rfl ?_
  refine WO.op rfl rfl ?_
  refine WO.op rfl rfl ?_
  refine WO.op rfl rfl ?_
  refine WO.as (v' := iA (-(y : Int))) rfl rfl (int_i64 (by omega) (by omega)) ?_
  refine WO.op rfl rfl ?_
  refine WO.op rfl rfl ?_
  refine WO.call rfl (post_e4 v x y _ _ _ hv1 hx hy) rfl ?_
  refine WO.op rfl rfl (WO.nil (W.seq (W.region ?_)))
  have hnd : (([(nA, 9223372036854775807), (nB, -(v : Int)), (nC, -(x : Int))] : Posts).map (·.1)).Nodup := show ([nA, nB, nC] : List (List UInt8)).Nodup by decide
  refine WO.op rfl rfl ?_
  refine WO.op rfl rfl ?_
  refine WO.op rfl rfl ?_
  refine WO.op rfl rfl ?_
  refine WO.call rfl (same_has 11 11 (by omega) _) rfl ?_
  refine WO.op rfl rfl ?_
  refine WO.op rfl rfl ?_
  refine WO.op rfl rfl ?_
  refine WO.call rfl (balance_has (m := [(nA, 9223372036854775807), (nB, -(v : Int)), (nC, -(x : Int))]) rfl (.inl rfl) hnd nA) rfl ?_
  refine WO.as (v' := .bool true) rfl rfl (bdT rfl) ?_
  refine WO.op rfl rfl ?_
  refine WO.op rfl rfl ?_
  refine WO.op rfl rfl ?_
  refine WO.call rfl (balance_has (m := [(nA, 9223372036854775807), (nB, -(v : Int)), (nC, -(x : Int))]) rfl (.inl rfl) hnd nD) rfl ?_
  refine WO.as (v' := .bool true) rfl rfl (bdT rfl) ?_
  refine WO.op rfl rfl ?_
  refine WO.op rfl rfl ?_
  refine WO.op rfl rfl ?_
  refine WO.op rfl rfl ?_
  refine WO.op rfl rfl ?_
  refine WO.op rfl rfl ?_
  refine WO.op rfl rfl ?_
  refine WO.call rfl (len_has rfl) rfl ?_
  refine WO.op rfl rfl ?_
  refine WO.op rfl rfl ?_
  refine WO.op rfl rfl ?_
  exact WO.nil (W.ret ⟨trivial, _, rfl, Seals.same _ rfl⟩)
end
end Go.AM.C

/- Contracts: the reference's Name; Text; alike. -/
namespace Go.AM.C
open Go.Proofs
noncomputable section
set_option linter.unusedVariables false
set_option linter.unusedSimpArgs false

theorem tStr : S0.ty 9 = some ti9 := rfl
theorem bad_any (s : List UInt8) : (s.any fun b => badB b.toNat) = true ↔ ∃ (j : Nat) (b : UInt8), s[j]? = some b ∧ badB b.toNat = true := by
  rw [List.any_eq_true]
  constructor
  · rintro ⟨b, hb, h⟩
    obtain ⟨j, hj, e⟩ := List.getElem_of_mem hb
    exact ⟨j, b, by rw [List.getElem?_eq_getElem hj, e], h⟩
  · rintro ⟨j, b, hj, h⟩
    exact ⟨b, List.mem_of_getElem? hj, h⟩
theorem badB_ranges {n : Nat} : badB n = true ↔ ((n < 97 ∨ 122 < n) ∧ (n < 48 ∨ 57 < n)) ∧ n ≠ 45 := by
  unfold badB
  simp only [Bool.and_eq_true, Bool.or_eq_true, Nat.blt_eq, Bool.not_eq_true', ← Bool.not_eq_true, Nat.beq_eq]

set_option maxRecDepth 100000 in
theorem refName_ok (s : List UInt8) (hs : s.length < 4611686018427387904) (H : Heap) : Has 25 [.str s] H (.bool (nameOk s)) H := by
  generalize hR : nameOk s = R
  refine does_pure s0 (show S0.fn 25 = some Tryz.f25 by kernel_rfl) rfl (by kernel_rfl) (Nat.le_of_ble_eq_true rfl) rfl rfl ?_
  refine W.seq (W.region ?_)
  refine WO.op rfl rfl (WO.nil (W.seq (W.seq (W.region ?_))))
  refine WO.op rfl rfl (WO.nil (W.block ?_))
  refine W.fits (F' := fr [(0, .str s), (3, .int .i64 ((0 : Nat) : Int))]) (fits_fr ⟨rfl, rfl, trivial⟩) ?_
  refine W.loopI (fun j : Nat => j ≤ s.length ∧ ∀ i b, i < j → s[i]? = some b → badB b.toNat = false) (fun j => s.length - j) (fun j => fr [(0, .str s), (3, .int .i64 (j : Int))]) (fun _ => []) ?_ 0 ⟨by omega, fun i b h => by omega⟩
  rintro j ⟨hj, hno⟩
  refine W.seq (W.seq (W.region ?_))
  refine WO.op rfl rfl ?_
  refine WO.op rfl rfl ?_
  refine WO.op (G.len_str rfl rfl rfl tStr rfl) rfl ?_
  by_cases hlt : j < s.length
  · obtain ⟨b, hb⟩ : ∃ b, s[j]? = some b := ⟨_, List.getElem?_eq_getElem hlt⟩
    have hb8 : b.toNat < 256 := b.toNat_lt
    refine WO.as (v' := .bool true) rfl rfl (bdT (by omega)) (WO.nil (W.cond (b := true) rfl (fun _ => W.skip ?_) (fun h => by cases h)))
    refine W.seq (W.block (W.seq (W.region ?_)))
    by_cases hbad : badB b.toNat = true
    · have hR' : R = false := by
        rw [← hR]
        unfold nameOk
        rw [(bad_any s).2 ⟨j, b, hb, hbad⟩]
        rfl
      obtain ⟨⟨h1, h2⟩, h3⟩ := badB_ranges.1 hbad
      rcases h1 with h1 | h1 <;> rcases h2 with h2 | h2
      all_goals
        repeat (first
          | refine WO.skip rfl ?_
          | refine WO.op (G.index_str rfl rfl tStr rfl hb) rfl ?_
          | refine WO.as (v' := .bool true) rfl rfl (bdT (by omega)) ?_
          | refine WO.as (v' := .bool false) rfl rfl (bdF (by omega)) ?_
          | refine WO.as (v' := .bool true) rfl rfl (bnF (by omega)) ?_
          | refine WO.op rfl rfl ?_)
        refine WO.nil (W.cond (b := true) rfl (fun _ => ?_) (fun h => by cases h))
        refine W.seq (W.region ?_)
        refine WO.op rfl rfl (WO.nil (W.ret ⟨trivial, _, rfl, ?_⟩))
        rw [hR']
        exact Seals.same _ rfl
    · have hg : ¬ (((b.toNat < 97 ∨ 122 < b.toNat) ∧ (b.toNat < 48 ∨ 57 < b.toNat)) ∧ b.toNat ≠ 45) := fun h => hbad (badB_ranges.2 h)
      have hcs : (97 ≤ b.toNat ∧ b.toNat ≤ 122) ∨ (48 ≤ b.toNat ∧ b.toNat ≤ 57) ∨ b.toNat = 45 := by omega
      rcases hcs with h1 | h1 | h1
      all_goals
        repeat (first
          | refine WO.skip rfl ?_
          | refine WO.op (G.index_str rfl rfl tStr rfl hb) rfl ?_
          | refine WO.as (v' := .bool true) rfl rfl (bdT (by omega)) ?_
          | refine WO.as (v' := .bool false) rfl rfl (bdF (by omega)) ?_
          | refine WO.as (v' := .bool false) rfl rfl (bnT (by omega)) ?_
          | refine WO.op rfl rfl ?_)
        refine WO.nil (W.cond (b := false) rfl (fun h => by cases h) (fun _ => W.skip ?_))
        refine W.region ?_
        refine WO.op rfl rfl ?_
        refine WO.as (v' := .int .i64 ((j + 1 : Nat) : Int)) rfl rfl (int_i64 (by omega) (by omega)) ?_
        refine WO.op rfl rfl (WO.nil ⟨j + 1, ⟨by omega, fun i c hi hc => ?_⟩, by omega, fits_fr ⟨rfl, rfl, trivial⟩, rfl⟩)
        by_cases hij : i = j
        · subst hij
          rw [hb] at hc
          cases hc
          simpa using hbad
        · exact hno i c (by omega) hc
  · have hje : j = s.length := by omega
    subst hje
    have hnb : (s.any fun b => badB b.toNat) = false := by
      rw [Bool.eq_false_iff]
      intro h
      obtain ⟨i, b, hi, hb⟩ := (bad_any s).1 h
      have := hno i b (List.getElem?_eq_some_iff.1 hi).1 hi
      rw [hb] at this; cases this
    unfold nameOk at hR
    rw [hnb, Bool.not_false, Bool.true_and] at hR
    refine WO.as (v' := .bool false) rfl rfl (bdF (by omega)) (WO.nil (W.cond (b := false) rfl (fun h => by cases h) (fun _ => W.exit ?_)))
    refine W.seq (W.region ?_)
    refine WO.op rfl rfl ?_
    refine WO.op (G.len_str rfl rfl rfl tStr rfl) rfl ?_
    by_cases h1 : 1 ≤ s.length
    · rw [decide_eq_true h1, Bool.true_and] at hR
      refine WO.as (v' := .bool true) rfl rfl (bdT (by omega)) ?_
      refine WO.op rfl rfl ?_
      refine WO.op rfl rfl ?_
      refine WO.op (G.len_str rfl rfl rfl tStr rfl) rfl ?_
      refine WO.as (v' := .bool R) rfl rfl (by rw [← hR]; exact bdE (by omega)) ?_
      refine WO.op rfl rfl ?_
      refine WO.op rfl rfl (WO.nil (W.ret ⟨trivial, _, rfl, Seals.same _ rfl⟩))
    · rw [decide_eq_false h1, Bool.false_and] at hR
      refine WO.as (v' := .bool false) rfl rfl (bdF (by omega)) ?_
      refine WO.op rfl rfl ?_
      refine WO.skip rfl ?_
      refine WO.skip rfl ?_
      refine WO.skip rfl ?_
      refine WO.op rfl rfl ?_
      refine WO.op rfl rfl (WO.nil (W.ret ⟨trivial, _, rfl, ?_⟩))
      rw [← hR]
      exact Seals.same _ rfl

theorem text_has (s : List UInt8) (n : Nat) (hn : n < 4611686018427387904) (H : Heap) : Has 24 [.str s, .int .i64 (n : Int)] H (.str (s.take n)) H := by
  refine does_pure s0 (show S0.fn 24 = some Tryz.f24 by kernel_rfl) rfl (by kernel_rfl) (Nat.le_of_ble_eq_true rfl) rfl rfl ?_
  refine W.seq (W.region ?_)
  repeat refine WO.op rfl rfl ?_
  refine WO.nil (W.seq (W.region ?_))
  refine WO.op rfl rfl ?_
  refine WO.op rfl rfl ?_
  refine WO.op (G.len_str rfl rfl rfl tStr rfl) rfl ?_
  refine WO.op rfl rfl ?_
  refine WO.op (min_op (j := s.length) (k := n) rfl rfl rfl) rfl ?_
  refine WO.op (G.slice_str (l := 0) (h := min s.length n) rfl tStr rfl rfl ⟨_, rfl⟩ (by omega) (by omega)) rfl ?_
  refine WO.op rfl rfl (WO.nil (W.ret ⟨trivial, _, rfl, ?_⟩))
  have e : (s.drop 0).take (min s.length n - 0) = s.take n := by
    rw [List.drop_zero, Nat.sub_zero, Nat.min_comm, ← List.take_take, List.take_length]
  rw [e]
  exact Seals.same _ rfl
end
end Go.AM.C

/- LedgerName answers true. -/
namespace Go.AM.C
open Go.Proofs
noncomputable section
set_option linter.unusedVariables false
set_option linter.unusedSimpArgs false

theorem rem25 (n : Int) : ∃ k : Nat, k < 25 ∧ Int.tmod (wrapI .i64 (Int.tmod n 25 + 25)) 25 = (k : Int) := by
  have h1 : -25 < Int.tmod n 25 ∧ Int.tmod n 25 < 25 := by
    rcases Int.le_total 0 n with h | h
    · have := Int.tmod_nonneg (b := 25) (a := n) h
      have := Int.tmod_lt_of_pos n (show (0 : Int) < 25 by decide)
      omega
    · have e : Int.tmod n 25 = -(Int.tmod (-n) 25) := by rw [Int.neg_tmod]; omega
      have := Int.tmod_nonneg (a := -n) 25 (by omega)
      have := Int.tmod_lt_of_pos (-n) (show (0 : Int) < 25 by decide)
      omega
  rw [wrap_i64 (by omega)]
  obtain ⟨m, hm⟩ : ∃ m : Nat, Int.tmod n 25 + 25 = (m : Int) := ⟨(Int.tmod n 25 + 25).toNat, by omega⟩
  rw [hm]
  exact ⟨m % 25, Nat.mod_lt _ (by decide), (Int.ofNat_tmod m 25).symm⟩
def rA (k : Nat) : List UInt8 := List.replicate k 97
theorem rA_ok (k : Nat) : nameOk (rA k) = (decide (1 ≤ k) && decide (k ≤ 20)) := by
  unfold nameOk rA
  have h : ((List.replicate k (97 : UInt8)).any fun b => badB b.toNat) = false := by
    rw [Bool.eq_false_iff]
    intro h
    obtain ⟨b, hb, h2⟩ := List.any_eq_true.1 h
    rw [List.eq_of_mem_replicate hb] at h2
    exact absurd h2 (by decide)
  rw [h, List.length_replicate]
  rfl
theorem qB_ok (b : UInt8) : nameOk [113, b] = !badB b.toNat := by
  unfold nameOk
  have h1 : badB 113 = false := by decide
  simp [h1]
def nZ : List UInt8 := [122]
theorem G.cat {S : Sg} {call : Calling} {d : Bool} {g : Operand → AVal} {H : Heap} {x y : Operand} {t yt : TypeId} {a b : List UInt8} (hx : g x = .str a) (hy : g y = .str b) (h : a.length + b.length ≤ 4611686018427387904) : denG S call d g H (.binOp .add t x y yt) = some (.str (a ++ b), H) := by
  simp only [denG, hx, hy]
  show withH H (strBin .add a b) = _
  unfold strBin
  simp only [if_pos h]
  rfl
theorem code_names {m l : Posts} (undo : Bool) (h : (l.all fun p => nameOk p.1) = false) : bookCode undo m l = 1 := by
  unfold bookCode
  rw [if_neg (by rw [h]; decide)]

theorem post_nm (b : UInt8) : Has 15 [.ptr 1 0, .sl 2 0 2 (some 2) 2] [.cells [.int .u8 (b.toNat : Int)] 5, lgC [.nilm, iA 0], psC [([113, b], 1), (nZ, -1)]] (errA (if badB b.toNat then 1 else 0))
    [.cells [.int .u8 (b.toNat : Int)] 5, lgC (if badB b.toNat then [.nilm, iA 0] else [imapA [([113, b], 1), (nZ, -1)], iA 1]), psC [([113, b], 1), (nZ, -1)]] := by
  have h := post_has (H := [.cells [.int .u8 (b.toNat : Int)] 5, lgC [.nilm, iA 0], psC [([113, b], 1), (nZ, -1)]]) (L := 1) (src := .nilm) (cnt := 0) (m := []) rfl (.inr ⟨rfl, rfl⟩) (by simp) (by simp) ⟨by decide, by decide⟩ (ps := .sl 2 0 2 (some 2) 2) (l := [([113, b], 1), (nZ, -1)]) (postsOf_slp rfl)
    (hlb2 (by decide) (by decide) (by simp) (by decide)) (by simp)
  have hne : ([113, b] : List UInt8) ≠ nZ := by intro h; cases h
  cases hb : badB b.toNat with
  | true =>
    have hc : bookCode false [] [([113, b], 1), (nZ, -1)] = 1 := code_names _ (by simp [qB_ok, hb])
    rw [hc, if_neg (by decide)] at h
    exact h
  | false =>
    have hc : bookCode false [] [([113, b], 1), (nZ, -1)] = 0 := by
      rw [code_two hne (by rw [qB_ok, hb]; rfl) (by kernel_rfl), if_pos]
      exact ⟨(by decide : i64 (0 + 1)), (by decide : i64 (0 + -1))⟩
    have he : bookE [] (sumsOf false [([113, b], 1), (nZ, -1)]) = [([113, b], 1), (nZ, -1)] := by
      rw [two_sums hne]
      have h' : ¬ (nZ = [113, b]) := fun e => hne e.symm
      simp [bookE, putE, keyIdx, look, getE, hne, h']
    rw [hc, if_pos rfl, he] at h
    exact h

set_option maxRecDepth 100000 in
theorem lname_has (b : UInt8) (n : Int) (H : Heap) : Has 7 [.int .u8 (b.toNat : Int), iA n] H (.bool true) H := by
  obtain ⟨k, hk, hkn⟩ := rem25 n
  refine does_pure s0 (show S0.fn 7 = some Tryz.f7 by kernel_rfl) rfl (by kernel_rfl) (Nat.le_of_ble_eq_true rfl) rfl rfl ?_
  refine W.seq (W.region ?_)
  refine WO.op rfl rfl (WO.nil (W.seq (W.region ?_)))
  refine WO.call rfl (begun_has _) rfl ?_
  refine WO.op rfl rfl (WO.nil (W.seq (W.seq (W.region ?_))))
  refine WO.op rfl rfl ?_
  refine WO.op rfl rfl (WO.nil (W.cond (b := false) rfl (fun h => by cases h) (fun _ => W.skip (W.seq (W.region ?_)))))
  refine WO.op rfl rfl ?_
  refine WO.op rfl rfl ?_
  refine WO.op rfl rfl ?_
  refine WO.as (v' := iA (k : Int)) rfl rfl (int_eq hkn) ?_
  refine WO.op rfl rfl (WO.nil (W.seq (W.region ?_)))
  refine WO.op rfl rfl (WO.nil (W.seq (W.seq (W.region ?_))))
  refine WO.op rfl rfl (WO.nil (W.block ?_))
  refine W.fits (F' := fr [(0, .int .u8 (b.toNat : Int)), (1, iA (k : Int)), (6, .str (rA 0)), (7, iA ((0 : Nat) : Int))]) (fits_fr ⟨rfl, rfl, rfl, rfl, trivial⟩) ?_
  refine W.loopI (fun j : Nat => j ≤ k) (fun j => k - j) (fun j => fr [(0, .int .u8 (b.toNat : Int)), (1, iA (k : Int)), (6, .str (rA j)), (7, iA (j : Int))]) (fun _ => []) ?_ 0 (Nat.zero_le _)
  intro j hj
  refine W.seq (W.seq (W.region ?_))
  refine WO.op rfl rfl ?_
  refine WO.op rfl rfl ?_
  by_cases hlt : j < k
  · refine WO.as (v' := .bool true) rfl rfl (bdT (by omega)) (WO.nil (W.cond (b := true) rfl (fun _ => W.skip ?_) (fun h => by cases h)))
    refine W.seq (W.block (W.region ?_))
    refine WO.op rfl rfl ?_
    refine WO.as (v' := .str (rA (j + 1))) (G.cat (a := rA j) (b := [97]) rfl rfl (by simp [rA]; omega)) rfl (congrArg AVal.str (by unfold rA; rw [List.replicate_succ'])) ?_
    refine WO.op rfl rfl (WO.nil (W.region ?_))
    refine WO.op rfl rfl ?_
    refine WO.as (v' := iA ((j + 1 : Nat) : Int)) rfl rfl (int_i64 (by omega) (by omega)) ?_
    exact WO.op rfl rfl (WO.nil ⟨j + 1, by omega, by omega, fits_fr ⟨rfl, rfl, rfl, rfl, trivial⟩, rfl⟩)
  have hjk : j = k := by omega
  subst hjk
  refine WO.as (v' := .bool false) rfl rfl (bdF (by omega)) (WO.nil (W.cond (b := false) rfl (fun h => by cases h) (fun _ => W.exit ?_)))
  refine W.seq (W.region ?_)
  refine WO.op rfl rfl ?_
  refine WO.op rfl rfl ?_
  refine WO.as (v' := .str [b]) rfl rfl (congrArg AVal.str (by simp)) ?_
  refine WO.op rfl rfl ?_
  refine WO.op rfl rfl (WO.nil (W.seq (W.region ?_)))
  refine WO.call rfl (new_has _) rfl ?_
  refine WO.op rfl rfl (WO.nil (W.seq (W.region ?_)))
  refine WO.op rfl rfl ?_
  refine WO.call rfl (name_ok [113, b] (by simp) _) rfl ?_
  rw [qB_ok]
  refine WO.op rfl rfl (WO.nil (W.seq (W.region ?_)))
  refine WO.op rfl rfl ?_
  refine WO.op rfl rfl ?_
  refine WO.op rfl rfl ?_
  refine WO.op rfl rfl ?_
  refine WO.op rfl rfl ?_
  have hp := post_nm b
  have hrn := fun H => refName_ok [113, b] (by simp) H
  have hln := fun H => name_ok (rA j) (by simp [rA]; omega) H
  simp only [qB_ok] at hrn
  simp only [rA_ok] at hln
  have hle : (decide (1 ≤ (j : Int)) && decide ((j : Int) ≤ 20)) = (decide (1 ≤ j) && decide (j ≤ 20)) := by
    congr 1
    · exact decide_eq_decide.2 (by omega)
    · exact decide_eq_decide.2 (by omega)
  generalize hD : (decide (1 ≤ j) && decide (j ≤ 20)) = D at hln hle
  cases hb : badB b.toNat with
  | true =>
    rw [hb] at hp hrn
    simp only [if_true] at hp
    refine WO.call rfl hp rfl ?_
    refine WO.op rfl rfl (WO.nil (W.seq (W.region ?_)))
    have ha : Has 20 [.ptr 1 0] [.cells [.int .u8 (b.toNat : Int)] 5, lgC [.nilm, iA 0], psC [([113, b], 1), (nZ, -1)]] .nils [.cells [.int .u8 (b.toNat : Int)] 5, lgC [.nilm, iA 0], psC [([113, b], 1), (nZ, -1)]] := by
      have h := ledger_all [] .nilm [.cells [.int .u8 (b.toNat : Int)] 5, lgC [.nilm, iA 0], psC [([113, b], 1), (nZ, -1)]] 1 0 [.nilm, iA 0] 86 rfl rfl (.inr ⟨rfl, rfl⟩) (by simp) (by simp) (by simp)
      have e : postsA (allE []) = .nils := by simp [allE, allOf, keysS, postsA]
      rw [e] at h
      exact h
    refine WO.op rfl rfl ?_
    refine WO.op rfl rfl ?_
    refine WO.call rfl (hrn _) rfl ?_
    refine WO.op rfl rfl ?_
    refine WO.op rfl rfl ?_
    refine WO.op rfl rfl ?_
    refine WO.call rfl (hln _) rfl ?_
    refine WO.op rfl rfl ?_
    by_cases h1 : 1 ≤ j
    · refine WO.as (v' := .bool true) rfl rfl (bdT (by omega)) ?_
      rw [decide_eq_true h1, Bool.true_and] at hD
      refine WO.op rfl rfl ?_
      refine WO.op rfl rfl ?_
      refine WO.as (v' := .bool D) rfl rfl (by rw [← hD]; exact bdE (by omega)) ?_
      refine WO.op rfl rfl ?_
      refine WO.as (v' := .bool true) rfl rfl (by cases D <;> rfl) ?_
      repeat (first
          | refine WO.skip rfl ?_
          | refine WO.call rfl (same_has 1 1 (by omega) _) rfl ?_
          | refine WO.call rfl ha rfl ?_
          | refine WO.op rfl rfl ?_)
      exact WO.nil (W.ret ⟨trivial, _, rfl, Seals.same _ rfl⟩)
    · refine WO.as (v' := .bool false) rfl rfl (bdF (by omega)) ?_
      rw [decide_eq_false h1, Bool.false_and] at hD
      subst hD
      repeat (first
          | refine WO.skip rfl ?_
          | refine WO.call rfl (same_has 1 1 (by omega) _) rfl ?_
          | refine WO.call rfl ha rfl ?_
          | refine WO.op rfl rfl ?_)
      exact WO.nil (W.ret ⟨trivial, _, rfl, Seals.same _ rfl⟩)
  | false =>
    rw [hb] at hp hrn
    simp only [Bool.false_eq_true, if_false] at hp
    refine WO.call rfl hp rfl ?_
    refine WO.op rfl rfl (WO.nil (W.seq (W.region ?_)))
    refine WO.op rfl rfl ?_
    refine WO.op rfl rfl ?_
    refine WO.call rfl (hrn _) rfl ?_
    refine WO.op rfl rfl ?_
    refine WO.op rfl rfl ?_
    refine WO.op rfl rfl ?_
    refine WO.call rfl (hln _) rfl ?_
    refine WO.op rfl rfl ?_
    by_cases h1 : 1 ≤ j
    · refine WO.as (v' := .bool true) rfl rfl (bdT (by omega)) ?_
      rw [decide_eq_true h1, Bool.true_and] at hD
      refine WO.op rfl rfl ?_
      refine WO.op rfl rfl ?_
      refine WO.as (v' := .bool D) rfl rfl (by rw [← hD]; exact bdE (by omega)) ?_
      refine WO.op rfl rfl ?_
      refine WO.as (v' := .bool true) rfl rfl (by cases D <;> rfl) ?_
      repeat (first
          | refine WO.skip rfl ?_
          | refine WO.op rfl rfl ?_)
      exact WO.nil (W.ret ⟨trivial, _, rfl, Seals.same _ rfl⟩)
    · refine WO.as (v' := .bool false) rfl rfl (bdF (by omega)) ?_
      rw [decide_eq_false h1, Bool.false_and] at hD
      subst hD
      repeat (first
          | refine WO.skip rfl ?_
          | refine WO.op rfl rfl ?_)
      exact WO.nil (W.ret ⟨trivial, _, rfl, Seals.same _ rfl⟩)
end
end Go.AM.C

/- Contracts: alike. -/
namespace Go.AM.C
open Go.Proofs
noncomputable section
set_option linter.unusedVariables false
set_option linter.unusedSimpArgs false

theorem eqT_post : S0.eqT 40 = some [.s, .i] := by kernel_rfl
theorem neq_post {call : Calling} {d : Bool} {g : Operand → AVal} {H : Heap} {x y : Operand} {yt : TypeId} {p q : List UInt8 × Int} (hx : g x = .agg [.str p.1, iA p.2]) (hy : g y = .agg [.str q.1, iA q.2]) :
    denG S0 call d g H (.binOp .neq 40 x y yt) = some (.bool (!decide (p = q)), H) := by
  obtain ⟨a, m⟩ := p
  obtain ⟨b, n⟩ := q
  simp only [denG, hx, hy]
  have e : eqCells [.s, .i] [.str a, iA m] [.str b, iA n] = some (decide ((a, m) = (b, n))) := by
    by_cases h1 : a = b
    · subst h1
      by_cases h2 : m = n
      · subst h2; simp [eqCells, eqCell, iA]
      · have : (m == n) = false := by simpa using h2
        simp [eqCells, eqCell, iA, h2]
        rw [this]
    · simp [eqCells, eqCell, h1]
  have e2 : eqA S0 40 (.agg [.str a, iA m]) (.agg [.str b, iA n]) (isConstOp x || isConstOp y) = some (decide ((a, m) = (b, n))) := by
    unfold eqA
    simp only [eqT_post]
    exact e
  show withH H (denBin S0 .neq 40 (.agg [.str a, iA m]) (.agg [.str b, iA n]) _) = _
  unfold denBin
  simp only [e2]
  rfl

set_option maxRecDepth 100000 in
theorem alike_has {H : Heap} {va vb : AVal} {la lb : Posts} (ha : SlP H va la) (hb : SlP H vb lb) (h1 : la.length < 4611686018427387904) (h2 : lb.length < 4611686018427387904) :
    Has 19 [va, vb] H (.bool (decide (la = lb))) H := by
  generalize hR : decide (la = lb) = R
  have kk : Ext.Keeps H H := fun _ _ => rfl
  refine does_run s0 (show S0.fn 19 = some Tryz.f19 by kernel_rfl) rfl (by kernel_rfl) (Nat.le_of_ble_eq_true rfl) ?_
  refine W.seq (W.region ?_)
  refine WO.op rfl rfl (WO.nil (W.seq (W.seq (W.region ?_))))
  refine WO.op rfl rfl ?_
  refine WO.op (v := .int .i64 (la.length : Int)) (H1 := H) (congrArg (withH H) (ha.len H kk)) rfl ?_
  refine WO.op rfl rfl ?_
  refine WO.op (v := .int .i64 (lb.length : Int)) (H1 := H) (congrArg (withH H) (hb.len H kk)) rfl ?_
  by_cases hl : la.length = lb.length
  · refine WO.as (v' := .bool false) rfl rfl (bnT (by omega)) (WO.nil (W.cond (b := false) rfl (fun h => by cases h) (fun _ => W.skip (W.seq (W.seq (W.region ?_))))))
    refine WO.op rfl rfl ?_
    refine WO.op (v := .int .i64 (la.length : Int)) (H1 := H) (congrArg (withH H) (ha.len H kk)) rfl ?_
    refine WO.op rfl rfl (WO.nil (W.block ?_))
    refine W.fits (F' := fr [(0, va), (1, vb), (12, iA (la.length : Int)), (13, iA ((0 : Nat) : Int))]) (fits_fr ⟨rfl, rfl, rfl, rfl, trivial⟩) ?_
    refine W.loopI (fun j : Nat => j ≤ la.length ∧ ∀ i, i < j → la[i]? = lb[i]?) (fun j => la.length - j) (fun j => fr [(0, va), (1, vb), (12, iA (la.length : Int)), (13, iA (j : Int))]) (fun _ => H) ?_ 0 ⟨Nat.zero_le _, fun i h => by omega⟩
    rintro j ⟨hj, heq⟩
    refine W.seq (W.region ?_)
    by_cases hlt : j < la.length
    · obtain ⟨p, hp⟩ : ∃ p, la[j]? = some p := ⟨_, List.getElem?_eq_getElem hlt⟩
      obtain ⟨q, hq⟩ : ∃ q, lb[j]? = some q := ⟨_, List.getElem?_eq_getElem (by omega)⟩
      obtain ⟨a1, r1, o1, e1, f1, g1, i1⟩ := ha.at_ j p hp
      obtain ⟨a2, r2, o2, e2, f2, g2, i2⟩ := hb.at_ j q hq
      refine WO.as (v' := .bool true) rfl rfl (bdT (by omega)) (WO.nil (W.seq (W.cond (b := true) rfl (fun _ => W.skip ?_) (fun h => by cases h))))
      refine W.seq (W.block (W.seq (W.region ?_)))
      refine WO.op rfl rfl ?_
      refine WO.op rfl rfl (WO.nil (W.seq (W.draw0 rfl (by kernel_rfl) ?_)))
      refine WT.op rfl rfl rfl ?_
      refine WT.op rfl rfl rfl ?_
      refine WT.op (SlU.idxG rfl rfl e1) rfl rfl ?_
      refine WT.op (G.load_agg2 rfl tp rfl rfl (f1 H kk) g1 i1) rfl rfl ?_
      refine WT.op rfl rfl rfl ?_
      refine WT.op rfl rfl rfl ?_
      refine WT.op (SlU.idxG rfl rfl e2) rfl rfl ?_
      refine WT.op (G.load_agg2 rfl tp rfl rfl (f2 H kk) g2 i2) rfl rfl ?_
      refine WT.op (neq_post rfl rfl) rfl rfl (WT.nil (W.cond rfl (fun h => ?_) (fun h => ?_)))
      · have hpq : p ≠ q := by simpa using h
        have hR' : R = false := by
          rw [← hR]
          refine decide_eq_false fun e => hpq ?_
          rw [e, hq] at hp
          exact (Option.some.inj hp).symm
        refine W.seq (W.region ?_)
        refine WO.op rfl rfl (WO.nil (W.ret ⟨trivial, _, rfl, ?_, rfl⟩))
        rw [hR']
        exact Wk.refl _
      · have hpq : p = q := by simpa using h
        refine W.skip (W.region ?_)
        refine WO.as (v' := iA ((j + 1 : Nat) : Int)) rfl rfl (int_i64 (by omega) (by omega)) ?_
        refine WO.op rfl rfl (WO.nil ⟨j + 1, ⟨by omega, fun i hi => ?_⟩, by omega, fits_fr ⟨rfl, rfl, rfl, rfl, trivial⟩, rfl⟩)
        by_cases hij : i = j
        · subst hij; rw [hp, hq, hpq]
        · exact heq i (by omega)
    · have hje : j = la.length := by omega
      subst hje
      have hR' : R = true := by
        rw [← hR]
        refine decide_eq_true (List.ext_getElem? fun i => ?_)
        by_cases hi : i < la.length
        · exact heq i hi
        · rw [List.getElem?_eq_none (by omega), List.getElem?_eq_none (by omega)]
      refine WO.as (v' := .bool false) rfl rfl (bdF (by omega)) (WO.nil (W.seq (W.cond (b := false) rfl (fun h => by cases h) (fun _ => W.exit ?_))))
      refine W.seq (W.region ?_)
      refine WO.op rfl rfl (WO.nil (W.ret ⟨trivial, _, rfl, ?_, rfl⟩))
      rw [hR']
      exact Wk.refl _
  · have hR' : R = false := by rw [← hR]; exact decide_eq_false fun e => hl (by rw [e])
    refine WO.as (v' := .bool true) rfl rfl (bnF (by omega)) (WO.nil (W.cond (b := true) rfl (fun _ => ?_) (fun h => by cases h)))
    refine W.seq (W.region ?_)
    refine WO.op rfl rfl (WO.nil (W.ret ⟨trivial, _, rfl, ?_, rfl⟩))
    rw [hR']
    exact Wk.refl _
theorem slp_postsA (H : Heap) (l : Posts) : SlP H (postsA l) l := by
  unfold postsA
  split
  · rename_i h; subst h; exact postsOf_slp rfl
  · refine ⟨fun H' _ => rfl, fun j p hj => ?_⟩
    obtain ⟨h1, h2⟩ := postC_at l j p hj
    refine ⟨.ip (postC l) (0 + j * 2) true, postC l, 0 + j * 2, ?_, fun H' hk => rfl, by rw [Nat.zero_add]; exact h1, by rw [Nat.zero_add]; exact h2⟩
    have hjl : j < l.length := (List.getElem?_eq_some_iff.1 hj).1
    show (if 0 ≤ (j : Int) ∧ (j : Int) < (l.length : Int) then fNat (0 + (j : Int).toNat * ti40.size) fun o => some (AVal.ip (postC l) o true) else none) = _
    rw [if_pos ⟨by omega, by omega⟩, fNat_eq, Int.toNat_natCast]
    rfl
end
end Go.AM.C

/- LedgerSplit answers true. -/
namespace Go.AM.C
open Go.Proofs
noncomputable section
set_option linter.unusedVariables false
set_option linter.unusedSimpArgs false

def nO : List UInt8 := [111, 116, 104, 101, 114]
def w40 (z : Int) : Prop := -1099511627776 < z ∧ z < 1099511627776
theorem rem40 (n : Int) : ∃ k : Int, w40 k ∧ Int.tmod n 1099511627776 = k := by
  refine ⟨_, ?_, rfl⟩
  unfold w40
  rcases Int.le_total 0 n with h | h
  · have := Int.tmod_nonneg (b := 1099511627776) (a := n) h
    have := Int.tmod_lt_of_pos n (show (0 : Int) < 1099511627776 by decide)
    omega
  · have e : Int.tmod n 1099511627776 = -(Int.tmod (-n) 1099511627776) := by rw [Int.neg_tmod]; omega
    have := Int.tmod_nonneg (a := -n) 1099511627776 (by omega)
    have := Int.tmod_lt_of_pos (-n) (show (0 : Int) < 1099511627776 by decide)
    omega
theorem four_sums {a b : List UInt8} (h : a ≠ b) (x y z u : Int) : sumsOf false [(a, x), (a, y), (b, z), (a, u)] = [(a, some (x + y + u)), (b, some z)] := by
  have h' : ¬ b = a := fun e => h e.symm
  simp [sumsOf, sumStep, putE, keyIdx, look, getE, sg, h, h']
theorem put_two {a b : List UInt8} (h : a ≠ b) (x y : Int) : bookE [] [(a, some x), (b, some y)] = [(a, x), (b, y)] := by
  have h' : ¬ b = a := fun e => h e.symm
  simp [bookE, putE, keyIdx, look, getE, h, h']

theorem post_s1 (s : List UInt8) (n m k : Int) (hs : nameOk s = true) (hl : s.length ≤ 20) (hne : s ≠ nO) (hn : w40 n) (hm : w40 m) (hk : w40 k) (X : AObj) : Has 15 [.ptr 0 0, .sl 2 0 4 (some 4) 2]
    [lgC [.nilm, iA 0], X, psC [(s, n), (s, m), (nO, k), (s, -n - m - k)]] .nili [lgC [imapA [(s, -k), (nO, k)], iA 1], X, psC [(s, n), (s, m), (nO, k), (s, -n - m - k)]] := by
  unfold w40 at hn hm hk
  have h := post_has (H := [lgC [.nilm, iA 0], X, psC [(s, n), (s, m), (nO, k), (s, -n - m - k)]]) (L := 0) (src := .nilm) (cnt := 0) (m := []) rfl (.inr ⟨rfl, rfl⟩) (by simp) (by simp) ⟨by decide, by decide⟩ (ps := .sl 2 0 4 (some 4) 2) (l := [(s, n), (s, m), (nO, k), (s, -n - m - k)]) (postsOf_slp rfl)
    (fun p hp => by
      simp only [List.mem_cons, List.not_mem_nil, or_false] at hp
      have ho : nO.length = 5 := rfl
      rcases hp with rfl | rfl | rfl | rfl <;> exact ⟨by rw [i64_iff]; simp only; omega, by simp only; omega⟩) (by simp)
  have ht : total false [(s, n), (s, m), (nO, k), (s, -n - m - k)] = 0 := by simp [total, sg]; omega
  have hq : n + m + (-n - m - k) = -k := by omega
  have hc : bookCode false [] [(s, n), (s, m), (nO, k), (s, -n - m - k)] = 0 := by
    unfold bookCode allSmall
    rw [if_pos (by simp only [List.all_cons, List.all_nil, hs, show nameOk nO = true by kernel_rfl, Bool.and_self]), if_pos ht, four_sums hne, hq, if_pos]
    simp only [List.all_cons, List.all_nil, Bool.and_true, Bool.and_eq_true, Option.getD_some]
    exact ⟨small64_of (by rw [i64_iff]; show _ ≤ 0 + -k ∧ 0 + -k < _; omega), small64_of (by rw [i64_iff]; show _ ≤ 0 + k ∧ 0 + k < _; omega)⟩
  have he : bookE [] (sumsOf false [(s, n), (s, m), (nO, k), (s, -n - m - k)]) = [(s, -k), (nO, k)] := by rw [four_sums hne, hq, put_two hne]
  rw [hc, if_pos rfl, he] at h
  exact h
theorem post_s2 (s : List UInt8) (k : Int) (hs : nameOk s = true) (hl : s.length ≤ 20) (hne : s ≠ nO) (hk : w40 k) (X Y : AObj) : Has 15 [.ptr 1 0, .sl 3 0 2 (some 2) 2]
    [X, lgC [.nilm, iA 0], Y, psC [(s, -k), (nO, k)]] .nili [X, lgC [imapA [(s, -k), (nO, k)], iA 1], Y, psC [(s, -k), (nO, k)]] := by
  unfold w40 at hk
  have h := post_has (H := [X, lgC [.nilm, iA 0], Y, psC [(s, -k), (nO, k)]]) (L := 1) (src := .nilm) (cnt := 0) (m := []) rfl (.inr ⟨rfl, rfl⟩) (by simp) (by simp) ⟨by decide, by decide⟩ (ps := .sl 3 0 2 (some 2) 2) (l := [(s, -k), (nO, k)]) (postsOf_slp rfl)
    (hlb2 (by rw [i64_iff]; omega) (by rw [i64_iff]; omega) hl (by decide)) (by simp)
  have ht : total false [(s, -k), (nO, k)] = 0 := by simp [total, sg]; omega
  have hc : bookCode false [] [(s, -k), (nO, k)] = 0 := by
    unfold bookCode allSmall
    rw [if_pos (by simp only [List.all_cons, List.all_nil, hs, show nameOk nO = true by kernel_rfl, Bool.and_self]), if_pos ht, two_sums hne, if_pos]
    simp only [List.all_cons, List.all_nil, Bool.and_true, Bool.and_eq_true, Option.getD_some]
    exact ⟨small64_of (by rw [i64_iff]; show _ ≤ 0 + -k ∧ 0 + -k < _; omega), small64_of (by rw [i64_iff]; show _ ≤ 0 + k ∧ 0 + k < _; omega)⟩
  have he : bookE [] (sumsOf false [(s, -k), (nO, k)]) = [(s, -k), (nO, k)] := by rw [two_sums hne, put_two hne]
  rw [hc, if_pos rfl, he] at h
  exact h

theorem allE_le (M : Posts) : (allE M).length ≤ M.length := by
  have h1 := allOf_len (keysS M) M
  rw [keysS_len] at h1
  exact h1
theorem allE_short {A M : Posts} {n : Nat} (hA : A = allE M) (h : M.length < n) : A.length < n := by
  subst hA
  exact Nat.lt_of_le_of_lt (allE_le M) h
theorem all_of {A l : Posts} (hA : A = allE l) (hnd : (l.map (·.1)).Nodup) (hk : ∀ e ∈ l, e.1.length ≤ 4611686018427387904) (hl : l.length < 1073741824) (H : Heap) (L : Nat) (vs0 : List AVal) (ty0 : TypeId) (h1 : H[L]? = some (.cells vs0 ty0)) (h2 : vs0[0]? = some (imapA l)) :
    Has 20 [.ptr L 0] H (postsA A) H := by
  subst hA
  exact ledger_all l _ H L 0 vs0 ty0 h1 h2 (.inl rfl) hnd hk hl
theorem alike_self (A : Posts) (h : A.length < 4611686018427387904) (H : Heap) : Has 19 [postsA A, postsA A] H (.bool true) H := by
  have h := alike_has (slp_postsA H A) (slp_postsA H A) h h
  rwa [decide_eq_true (rfl : A = A)] at h

set_option maxRecDepth 100000 in
theorem split_has (n m k : Int) (name : List UInt8) (H : Heap) : Has 6 [iA n, iA m, iA k, .str name] H (.bool true) H := by
  obtain ⟨n', hn, hn'⟩ := rem40 n
  obtain ⟨m', hm, hm'⟩ := rem40 m
  obtain ⟨k', hk, hk'⟩ := rem40 k
  refine does_pure s0 (show S0.fn 6 = some Tryz.f6 by kernel_rfl) rfl (by kernel_rfl) (Nat.le_of_ble_eq_true rfl) rfl rfl ?_
  refine W.seq (W.region ?_)
  refine WO.op rfl rfl (WO.nil (W.seq (W.region ?_)))
  refine WO.call rfl (begun_has _) rfl ?_
  refine WO.op rfl rfl (WO.nil (W.seq (W.seq (W.region ?_))))
  refine WO.op rfl rfl ?_
  refine WO.op rfl rfl (WO.nil (W.cond (b := false) rfl (fun h => by cases h) (fun _ => W.skip (W.seq (W.region ?_)))))
  refine WO.op rfl rfl ?_
  refine WO.as (v' := iA n') rfl rfl (int_eq hn') ?_
  refine WO.op rfl rfl ?_
  refine WO.as (v' := iA m') rfl rfl (int_eq hm') ?_
  refine WO.op rfl rfl ?_
  refine WO.as (v' := iA k') rfl rfl (int_eq hk') ?_
  refine WO.op rfl rfl ?_
  refine WO.op rfl rfl ?_
  refine WO.op rfl rfl (WO.nil (W.seq (W.region ?_)))
  refine WO.op rfl rfl ?_
  refine WO.call rfl (text_has name 20 (by omega) _) rfl ?_
  have hsl : (name.take 20).length ≤ 20 := by simp; omega
  generalize name.take 20 = s at hsl
  refine WO.op rfl rfl (WO.nil (W.seq (W.seq (W.region ?_))))
  refine WO.op rfl rfl ?_
  refine WO.call rfl (refName_ok s (by omega) _) rfl ?_
  cases hs : nameOk s with
  | false =>
    repeat (first
      | refine WO.skip rfl ?_
      | refine WO.op rfl rfl ?_)
    refine WO.nil (W.cond (b := true) rfl (fun _ => ?_) (fun h => by cases h))
    refine W.seq (W.region ?_)
    exact WO.op rfl rfl (WO.nil (W.ret ⟨trivial, _, rfl, Seals.same _ rfl⟩))
  | true =>
    refine WO.op rfl rfl ?_
    refine WO.op rfl rfl ?_
    refine WO.op rfl rfl ?_
    by_cases hne : s = nO
    · refine WO.as (v' := .bool true) rfl rfl (bdT hne) ?_
      refine WO.op rfl rfl (WO.nil (W.cond (b := true) rfl (fun _ => ?_) (fun h => by cases h)))
      refine W.seq (W.region ?_)
      exact WO.op rfl rfl (WO.nil (W.ret ⟨trivial, _, rfl, Seals.same _ rfl⟩))
    · refine WO.as (v' := .bool false) rfl rfl (bdF hne) ?_
      refine WO.op rfl rfl (WO.nil (W.cond (b := false) rfl (fun h => by cases h) (fun _ => W.skip ?_)))
      have hn0 := hn; have hm0 := hm; have hk0 := hk
      unfold w40 at hn0 hm0 hk0
      refine W.seq (W.region ?_)
      refine WO.call rfl (new_has _) rfl ?_
      refine WO.call rfl (new_has _) rfl ?_
      refine WO.op rfl rfl ?_
      refine WO.op rfl rfl (WO.nil (W.seq (W.region ?_)))
      refine WO.op rfl rfl ?_
      refine WO.op rfl rfl ?_
      refine WO.op rfl rfl ?_
      refine WO.op rfl rfl ?_
      refine WO.op rfl rfl ?_
      refine WO.op rfl rfl ?_
      refine WO.op rfl rfl ?_
      refine WO.op rfl rfl ?_
      refine WO.op rfl rfl ?_
      refine WO.op rfl rfl ?_
      refine WO.op rfl rfl ?_
      refine WO.as (v' := iA (-n')) rfl rfl (int_i64 (by omega) (by omega)) ?_
      refine WO.op rfl rfl ?_
      refine WO.as (v' := iA (-n' - m')) rfl rfl (int_i64 (by omega) (by omega)) ?_
      refine WO.op rfl rfl ?_
      refine WO.as (v' := iA (-n' - m' - k')) rfl rfl (int_i64 (by omega) (by omega)) ?_
      refine WO.op rfl rfl ?_
      refine WO.op rfl rfl ?_
      refine WO.call rfl (post_s1 s n' m' k' hs hsl hne hn hm hk _) rfl ?_
      refine WO.op rfl rfl (WO.nil (W.seq (W.region ?_)))
      refine WO.op rfl rfl ?_
      refine WO.op rfl rfl ?_
      refine WO.op rfl rfl ?_
      refine WO.as (v' := iA (-k')) rfl rfl (int_i64 (by omega) (by omega)) ?_
      refine WO.op rfl rfl ?_
      refine WO.op rfl rfl ?_
      refine WO.op rfl rfl ?_
      refine WO.op rfl rfl ?_
      refine WO.call rfl (post_s2 s k' hs hsl hne hk _ _) rfl ?_
      refine WO.op rfl rfl (WO.nil (W.seq (W.region ?_)))
      have hnd : (([(s, -k'), (nO, k')] : Posts).map (·.1)).Nodup := by simp [hne]
      have hkl : ∀ e ∈ ([(s, -k'), (nO, k')] : Posts), e.1.length ≤ 4611686018427387904 := fun e he => by
        simp only [List.mem_cons, List.not_mem_nil, or_false] at he
        rcases he with rfl | rfl
        · simp only; omega
        · exact Nat.le_of_ble_eq_true rfl
      have hex : ∃ A : Posts, A = allE [(s, -k'), (nO, k')] := Exists.intro (allE [(s, -k'), (nO, k')]) (Eq.refl _)
      obtain ⟨A, hA⟩ := hex
      have hal := allE_short (n := 4611686018427387904) hA (by simp)
      have ha := all_of hA hnd hkl (by simp)
      clear hA
      refine WO.op rfl rfl ?_
      refine WO.op rfl rfl ?_
      refine WO.op rfl rfl ?_
      refine WO.op rfl rfl ?_
      refine WO.op rfl rfl ?_
      refine WO.op rfl rfl ?_
      refine WO.op rfl rfl ?_
      refine WO.op rfl rfl ?_
      refine WO.call rfl (ha _ 0 _ _ rfl rfl) rfl ?_
      refine WO.op rfl rfl ?_
      refine WO.call rfl (ha _ 1 _ _ rfl rfl) rfl ?_
      refine WO.call rfl (alike_self A hal _) rfl ?_
      refine WO.op rfl rfl ?_
      exact WO.op rfl rfl (WO.nil (W.ret ⟨trivial, _, rfl, Seals.same _ rfl⟩))
end
end Go.AM.C

