/- Part of a proof over the program's translation: begun, by a closed run.; LedgerEdge answers true.; LedgerBack: postings of the draws; what is booked and taken away again. .. -/
import Derived.Test.YtooafhbgdhjijaaGreatDoorN4
import Derived.Test.YtooafhbgdhjijaaGreatDoorN5
import Derived.Test.YtooafhbgdhjijaaGreatDoorB0
noncomputable section
/- begun, by a closed run. -/
namespace Go.AM.C
open Go.Proofs
noncomputable section
set_option linter.unusedVariables false
set_option linter.unusedSimpArgs false
abbrev SMF : Sg := SC baseM10
theorem sMF : Sound Tryz.prog SMF := sc_sound (baseM10_ok _ (sc_glob _) (sc_pin _))
theorem begun_den : givesB (den SMF 5000 8 [] []) true = true := by kernel_rfl
theorem begun_has (H : Heap) : Has 8 [] H (.bool true) H := Has.un (run_B sMF rfl begun_den H)
end
end Go.AM.C

/- LedgerEdge answers true. -/
namespace Go.AM.C
open Go.Proofs
noncomputable section
set_option linter.unusedVariables false
set_option linter.unusedSimpArgs false

theorem and62 (n : Int) : ∃ v : Nat, wrapI .i64 ((BitVec.ofInt 64 n &&& BitVec.ofInt 64 4611686018427387903).toNat : Int) = (v : Int) ∧ v < 4611686018427387904 := by
  have h : (BitVec.ofInt 64 n &&& BitVec.ofInt 64 4611686018427387903).toNat ≤ 4611686018427387903 := by
    rw [BitVec.toNat_and]
    exact Nat.and_le_right
  generalize (BitVec.ofInt 64 n &&& BitVec.ofInt 64 4611686018427387903).toNat = v at h ⊢
  exact ⟨v, wrap_i64 (by omega), by omega⟩

def nA : List UInt8 := [97]
def nB : List UInt8 := [98]
def nC : List UInt8 := [99]
def nD : List UInt8 := [100]
instance i64_dec (z : Int) : Decidable (i64 z) := inferInstanceAs (Decidable (_ ∧ _))
theorem hlb2 {a b : List UInt8} {x y : Int} (hx : i64 x) (hy : i64 y) (ha : a.length ≤ 20) (hb : b.length ≤ 20) : ∀ p ∈ [(a, x), (b, y)], i64 p.2 ∧ p.1.length < 4611686018427387904 := fun p hp => by
  simp only [List.mem_cons, List.not_mem_nil, or_false] at hp
  rcases hp with rfl | rfl
  · exact ⟨hx, by simp only; omega⟩
  · exact ⟨hy, by simp only; omega⟩
theorem small64_of {z : Int} (h : i64 z) : small64 z = true := by unfold small64; unfold i64 at h; simp [h.1, h.2]
theorem small64_no {z : Int} (h : ¬ i64 z) : small64 z = false := by
  unfold i64 at h
  rw [Bool.eq_false_iff]
  intro h2
  exact h (small_i64 h2)
/-- Two postings of two names. -/
theorem two_sums {a b : List UInt8} (h : a ≠ b) (x y : Int) : sumsOf false [(a, x), (b, y)] = [(a, some x), (b, some y)] := by
  have h' : ¬ b = a := fun e => h e.symm
  simp [sumsOf, sumStep, putE, keyIdx, look, getE, sg, h, h']
theorem one_sums (a : List UInt8) (x y : Int) : sumsOf false [(a, x), (a, y)] = [(a, some (x + y))] := by
  simp [sumsOf, sumStep, putE, keyIdx, look, getE, sg]
theorem code_two {m : Posts} {a b : List UInt8} (h : a ≠ b) (ha : nameOk a = true) (hb : nameOk b = true) (x : Int) : bookCode false m [(a, x), (b, -x)] = if i64 (look 0 m a + x) ∧ i64 (look 0 m b + -x) then 0 else 11 := by
  have ht : total false [(a, x), (b, -x)] = 0 := by simp [total, sg]; omega
  unfold bookCode allSmall
  rw [if_pos (by simp [ha, hb]), if_pos ht, two_sums h]
  by_cases h1 : i64 (look 0 m a + x) ∧ i64 (look 0 m b + -x)
  · rw [if_pos h1, if_pos]
    simp [small64_of h1.1, small64_of h1.2]
  · rw [if_neg h1, if_neg]
    intro h2
    simp only [List.all_cons, List.all_nil, Bool.and_true, Bool.and_eq_true, Option.getD_some] at h2
    exact h1 ⟨small_i64 h2.1, small_i64 h2.2⟩
theorem code_one {m : Posts} {a : List UInt8} (ha : nameOk a = true) (x : Int) (h : i64 (look 0 m a)) : bookCode false m [(a, x), (a, -x)] = 0 := by
  have ht : total false [(a, x), (a, -x)] = 0 := by simp [total, sg]; omega
  unfold bookCode allSmall
  rw [if_pos (by simp [ha]), if_pos ht, one_sums, if_pos]
  have : look 0 m a + (x + -x) = look 0 m a := by omega
  simp only [List.all_cons, List.all_nil, Bool.and_true, Option.getD_some, this]
  exact small64_of h

abbrev lgC (l : List AVal) : AObj := .cells l 91
abbrev psC (l : Posts) : AObj := .cells (postC l) 40
theorem i64_iff (z : Int) : i64 z ↔ -9223372036854775808 ≤ z ∧ z < 9223372036854775808 := Iff.rfl

theorem post_e1 (v : Nat) (hv : v < 4611686018427387904) : Has 15 [.ptr 0 0, .sl 1 0 2 (some 2) 2] [lgC [.nilm, iA 0], psC [(nA, (v : Int)), (nB, -(v : Int))]] .nili [lgC [imapA [(nA, (v : Int)), (nB, -(v : Int))], iA 1], psC [(nA, (v : Int)), (nB, -(v : Int))]] := by
  have h := post_has (H := [lgC [.nilm, iA 0], psC [(nA, (v : Int)), (nB, -(v : Int))]]) (L := 0) (src := .nilm) (cnt := 0) (m := []) rfl (.inr ⟨rfl, rfl⟩) (by simp) (by simp) ⟨by decide, by decide⟩ (ps := .sl 1 0 2 (some 2) 2) (l := [(nA, v), (nB, -v)]) (postsOf_slp rfl)
    (hlb2 (by rw [i64_iff]; omega) (by rw [i64_iff]; omega) (by decide) (by decide)) (by simp)
  have hc : bookCode false [] [(nA, (v : Int)), (nB, -v)] = 0 := by
    rw [code_two (by decide) (by kernel_rfl) (by kernel_rfl), if_pos]
    simp only [i64_iff]
    have e1 : look 0 ([] : Posts) nA = 0 := rfl
    have e2 : look 0 ([] : Posts) nB = 0 := rfl
    rw [e1, e2]; omega
  have he : bookE [] (sumsOf false [(nA, (v : Int)), (nB, -v)]) = [(nA, (v : Int)), (nB, -v)] := by
    rw [two_sums (by decide)]
    simp [bookE, putE, keyIdx, look, getE, nA, nB]
  rw [hc, if_pos rfl, he] at h
  exact h
theorem post_e2 (v x : Nat) (P1 : AObj) (hv : v < 4611686018427387904) (hx : v + x = 9223372036854775807) : Has 15 [.ptr 0 0, .sl 2 0 2 (some 2) 2] [lgC [imapA [(nA, (v : Int)), (nB, -(v : Int))], iA 1], P1, psC [(nA, (x : Int)), (nC, -(x : Int))]] .nili
    [lgC [imapA [(nA, 9223372036854775807), (nB, -(v : Int)), (nC, -(x : Int))], iA 2], P1, psC [(nA, (x : Int)), (nC, -(x : Int))]] := by
  have h := post_has (H := [lgC [imapA [(nA, (v : Int)), (nB, -v)], iA 1], P1, psC [(nA, (x : Int)), (nC, -(x : Int))]]) (L := 0) (src := imapA [(nA, (v : Int)), (nB, -v)]) (cnt := 1) (m := [(nA, (v : Int)), (nB, -v)]) rfl (.inl rfl) (show ([nA, nB] : List (List UInt8)).Nodup by decide)
    (fun p hp => by simp only [List.mem_cons, List.not_mem_nil, or_false] at hp; rcases hp with rfl | rfl <;> (rw [i64_iff]; simp only; omega)) ⟨by decide, by decide⟩ (ps := .sl 2 0 2 (some 2) 2) (l := [(nA, x), (nC, -x)]) (postsOf_slp rfl)
    (hlb2 (by rw [i64_iff]; omega) (by rw [i64_iff]; omega) (by decide) (by decide)) (by simp)
  have e1 : look 0 [(nA, (v : Int)), (nB, -v)] nA = v := rfl
  have e2 : look 0 [(nA, (v : Int)), (nB, -v)] nC = 0 := rfl
  have hc : bookCode false [(nA, (v : Int)), (nB, -v)] [(nA, (x : Int)), (nC, -x)] = 0 := by
    rw [code_two (by decide) (by kernel_rfl) (by kernel_rfl), if_pos]
    simp only [i64_iff, e1, e2]
    omega
  have he : bookE [(nA, (v : Int)), (nB, -v)] (sumsOf false [(nA, (x : Int)), (nC, -x)]) = [(nA, 9223372036854775807), (nB, -(v : Int)), (nC, -(x : Int))] := by
    rw [two_sums (by decide)]
    have : (v : Int) + x = 9223372036854775807 := by omega
    simp [bookE, putE, keyIdx, look, getE, nA, nB, nC, this]
  rw [hc, if_pos rfl, he] at h
  exact h
theorem post_e3 (v x y : Nat) (P1 P2 : AObj) (hv : v < 4611686018427387904) (hx : v + x = 9223372036854775807) (hy : 0 < y ∧ y ≤ 4611686018427387904) : Has 15 [.ptr 0 0, .sl 3 0 2 (some 2) 2]
    [lgC [imapA [(nA, 9223372036854775807), (nB, -(v : Int)), (nC, -(x : Int))], iA 2], P1, P2, psC [(nA, (y : Int)), (nD, -(y : Int))]] (errA 11) [lgC [imapA [(nA, 9223372036854775807), (nB, -(v : Int)), (nC, -(x : Int))], iA 2], P1, P2, psC [(nA, (y : Int)), (nD, -(y : Int))]] := by
  have h := post_has (H := [lgC [imapA [(nA, 9223372036854775807), (nB, -(v : Int)), (nC, -(x : Int))], iA 2], P1, P2, psC [(nA, (y : Int)), (nD, -(y : Int))]]) (L := 0) (src := imapA [(nA, 9223372036854775807), (nB, -(v : Int)), (nC, -(x : Int))]) (cnt := 2) (m := [(nA, 9223372036854775807), (nB, -(v : Int)), (nC, -(x : Int))]) rfl (.inl rfl) (show ([nA, nB, nC] : List (List UInt8)).Nodup by decide)
    (fun p hp => by simp only [List.mem_cons, List.not_mem_nil, or_false] at hp; rcases hp with rfl | rfl | rfl <;> (rw [i64_iff]; simp only; omega)) ⟨by decide, by decide⟩ (ps := .sl 3 0 2 (some 2) 2) (l := [(nA, y), (nD, -y)]) (postsOf_slp rfl)
    (hlb2 (by rw [i64_iff]; omega) (by rw [i64_iff]; omega) (by decide) (by decide)) (by simp)
  have e1 : look 0 [(nA, 9223372036854775807), (nB, -(v : Int)), (nC, -(x : Int))] nA = 9223372036854775807 := rfl
  have hc : bookCode false [(nA, 9223372036854775807), (nB, -(v : Int)), (nC, -(x : Int))] [(nA, (y : Int)), (nD, -y)] = 11 := by
    rw [code_two (by decide) (by kernel_rfl) (by kernel_rfl), if_neg]
    simp only [i64_iff, e1]
    omega
  rw [hc, if_neg (by decide)] at h
  exact h
theorem post_e4 (v x y : Nat) (P1 P2 P3 : AObj) (hv : v < 4611686018427387904) (hx : v + x = 9223372036854775807) (hy : 0 < y ∧ y ≤ 4611686018427387904) : Has 15 [.ptr 0 0, .sl 4 0 2 (some 2) 2]
    [lgC [imapA [(nA, 9223372036854775807), (nB, -(v : Int)), (nC, -(x : Int))], iA 2], P1, P2, P3, psC [(nA, (y : Int)), (nA, -(y : Int))]] .nili [lgC [imapA [(nA, 9223372036854775807), (nB, -(v : Int)), (nC, -(x : Int))], iA 3], P1, P2, P3, psC [(nA, (y : Int)), (nA, -(y : Int))]] := by
  have h := post_has (H := [lgC [imapA [(nA, 9223372036854775807), (nB, -(v : Int)), (nC, -(x : Int))], iA 2], P1, P2, P3, psC [(nA, (y : Int)), (nA, -(y : Int))]]) (L := 0) (src := imapA [(nA, 9223372036854775807), (nB, -(v : Int)), (nC, -(x : Int))]) (cnt := 2) (m := [(nA, 9223372036854775807), (nB, -(v : Int)), (nC, -(x : Int))]) rfl (.inl rfl) (show ([nA, nB, nC] : List (List UInt8)).Nodup by decide)
    (fun p hp => by simp only [List.mem_cons, List.not_mem_nil, or_false] at hp; rcases hp with rfl | rfl | rfl <;> (rw [i64_iff]; simp only; omega)) ⟨by decide, by decide⟩ (ps := .sl 4 0 2 (some 2) 2) (l := [(nA, y), (nA, -y)]) (postsOf_slp rfl)
    (hlb2 (by rw [i64_iff]; omega) (by rw [i64_iff]; omega) (by decide) (by decide)) (by simp)
  have e1 : look 0 [(nA, 9223372036854775807), (nB, -(v : Int)), (nC, -(x : Int))] nA = 9223372036854775807 := rfl
  have hc : bookCode false [(nA, 9223372036854775807), (nB, -(v : Int)), (nC, -(x : Int))] [(nA, (y : Int)), (nA, -y)] = 0 := code_one (by kernel_rfl) _ (by rw [e1]; decide)
  have he : bookE [(nA, 9223372036854775807), (nB, -(v : Int)), (nC, -(x : Int))] (sumsOf false [(nA, (y : Int)), (nA, -y)]) = [(nA, 9223372036854775807), (nB, -(v : Int)), (nC, -(x : Int))] := by
    rw [one_sums]
    have : (9223372036854775807 : Int) + ((y : Int) + -y) = 9223372036854775807 := by omega
    simp only [bookE, List.foldl_cons, List.foldl_nil, e1, Option.getD_some, this]
    rfl
  rw [hc, if_pos rfl, he] at h
  exact h
end
end Go.AM.C

/- LedgerBack: postings of the draws; what is booked and taken away again. -/
namespace Go.AM.C
open Go.Proofs
noncomputable section
set_option linter.unusedVariables false
set_option linter.unusedSimpArgs false

/-! #### the plain law -/
/-- What postings come to at one name. -/
def amt (undo : Bool) (l : Posts) (k : List UInt8) : Int := (l.map fun p => if p.1 = k then sg undo p.2 else 0).sum
theorem amt_cons (undo : Bool) (p : List UInt8 × Int) (l : Posts) (k : List UInt8) : amt undo (p :: l) k = (if p.1 = k then sg undo p.2 else 0) + amt undo l k := by simp [amt]
theorem amt_undo (l : Posts) (k : List UInt8) : amt true l k = -amt false l k := by
  induction l with
  | nil => rfl
  | cons p l ih =>
    rw [amt_cons, amt_cons, ih]
    split
    · simp only [sg, cond_true, cond_false]; omega
    · omega
theorem look_put_self {l : Posts} {k : List UInt8} {v : Int} : look 0 (putE l k v) k = v := by unfold look; rw [getE_put_self]; rfl
theorem look_put_ne {l : Posts} {k k' : List UInt8} {v : Int} (h : k' ≠ k) : look 0 (putE l k v) k' = look 0 l k' := by unfold look; rw [getE_put_ne h]
def sval (s : Sums) (k : List UInt8) : Int := (look none s k).getD 0
theorem sval_step (undo : Bool) (s : Sums) (p : List UInt8 × Int) (k : List UInt8) : sval (sumStep undo s p) k = sval s k + if p.1 = k then sg undo p.2 else 0 := by
  unfold sval sumStep look
  by_cases h : p.1 = k
  · subst h
    rw [getE_put_self, if_pos rfl]; rfl
  · rw [getE_put_ne (fun e => h e.symm), if_neg h, Int.add_zero]
theorem sval_fold (undo : Bool) : ∀ (l : Posts) (s : Sums) (k : List UInt8), sval (l.foldl (sumStep undo) s) k = sval s k + amt undo l k
  | [], s, k => by simp [amt]
  | p :: l, s, k => by
    rw [List.foldl_cons, sval_fold undo l, sval_step, amt_cons]; omega
theorem sval_sums (undo : Bool) (l : Posts) (k : List UInt8) : sval (sumsOf undo l) k = amt undo l k := by
  unfold sumsOf
  rw [sval_fold]
  have : sval [] k = 0 := rfl
  omega
theorem look_book : ∀ (s : Sums) (m : Posts) (k : List UInt8), (s.map (·.1)).Nodup → look 0 (bookE m s) k = look 0 m k + sval s k
  | [], m, k, _ => by show look 0 m k = look 0 m k + 0; omega
  | e :: s, m, k, hnd => by
    have hnd' : (s.map (·.1)).Nodup := (List.nodup_cons.1 hnd).2
    have hni : e.1 ∉ s.map (·.1) := (List.nodup_cons.1 hnd).1
    show look 0 (bookE (putE m e.1 (look 0 m e.1 + e.2.getD 0)) s) k = _
    rw [look_book s _ k hnd']
    have hs : sval (e :: s) k = if e.1 = k then e.2.getD 0 else sval s k := by
      by_cases h : e.1 = k
      · rw [if_pos h]
        subst h
        show (((if e.1 = e.1 then some 0 else (keyIdx e.1 s).map (· + 1)).bind fun i => (e :: s)[i]?.map (·.2)).getD none).getD 0 = _
        rw [if_pos rfl]; rfl
      · rw [if_neg h]
        have hn : ¬ k = e.1 := fun x => h x.symm
        show (((if k = e.1 then some 0 else (keyIdx k s).map (· + 1)).bind fun i => (e :: s)[i]?.map (·.2)).getD none).getD 0 = (((keyIdx k s).bind fun i => s[i]?.map (·.2)).getD none).getD 0
        rw [if_neg hn]
        cases keyIdx k s with
        | none => rfl
        | some i => rfl
    rw [hs]
    by_cases h : e.1 = k
    · subst h
      have h0 : sval s e.1 = 0 := by unfold sval look; rw [getE_none.2 hni]; rfl
      rw [if_pos rfl, look_put_self, h0]; omega
    · rw [if_neg h, look_put_ne (fun x => h x.symm)]
theorem look_books (undo : Bool) (m l : Posts) (k : List UInt8) : look 0 (bookE m (sumsOf undo l)) k = look 0 m k + amt undo l k := by
  rw [look_book _ _ _ (sums_nodup undo l), sval_sums]

theorem getE_look {m : Posts} {k : List UInt8} (h : look 0 m k ≠ 0) : getE m k = some (look 0 m k) := by
  unfold look at h ⊢
  cases hg : getE m k with
  | none => rw [hg] at h; exact absurd rfl h
  | some v => rfl
theorem look_mem {m : Posts} {k : List UInt8} (h : look 0 m k ≠ 0) : k ∈ m.map (·.1) := List.mem_map.2 ⟨(k, look 0 m k), mem_of_getE (getE_look h), rfl⟩
/-- What All tells hangs on the balances alone. -/
def keysF (m : Posts) : List (List UInt8) := (keysS m).filter fun k => !decide (look 0 m k = 0)
theorem allE_keysF (m : Posts) : allE m = (keysF m).map fun k => (k, look 0 m k) := by
  unfold allE allOf keysF
  rw [List.filter_map]
  rfl
theorem keysF_mem (m : Posts) (k : List UInt8) : k ∈ keysF m ↔ look 0 m k ≠ 0 := by
  unfold keysF
  rw [List.mem_filter]
  constructor
  · rintro ⟨_, h⟩; simpa using h
  · intro h
    exact ⟨(keysS_perm m).mem_iff.2 (look_mem h), by simpa using h⟩
theorem keysF_sorted (m : Posts) : (keysF m).Pairwise fun x y => decide (x ≤ y) = true := by
  have tr : ∀ a b c : List UInt8, decide (a ≤ b) = true → decide (b ≤ c) = true → decide (a ≤ c) = true := fun a b c h1 h2 => by simp only [decide_eq_true_eq] at *; exact List.le_trans h1 h2
  have tot : ∀ a b : List UInt8, (decide (a ≤ b) || decide (b ≤ a)) = true := fun a b => by simp only [Bool.or_eq_true, decide_eq_true_eq]; exact List.le_total a b
  exact List.Pairwise.filter _ (List.pairwise_mergeSort tr tot _)
theorem keysF_nodup {m : Posts} (h : (m.map (·.1)).Nodup) : (keysF m).Nodup := List.Pairwise.filter _ ((keysS_perm m).nodup_iff.2 h)
theorem allE_ext {m r : Posts} (hm : (m.map (·.1)).Nodup) (hr : (r.map (·.1)).Nodup) (h : ∀ k, look 0 m k = look 0 r k) : allE m = allE r := by
  have hk : keysF m = keysF r := by
    refine List.Perm.eq_of_pairwise (le := fun a b => decide (a ≤ b) = true) (fun a b _ _ h1 h2 => ?_) (keysF_sorted m) (keysF_sorted r) ((List.perm_ext_iff_of_nodup (keysF_nodup hm) (keysF_nodup hr)).2 fun k => ?_)
    · simp only [decide_eq_true_eq] at h1 h2
      exact List.le_antisymm h1 h2
    · rw [keysF_mem, keysF_mem, h]
  rw [allE_keysF, allE_keysF, hk]
  exact List.map_congr_left fun k _ => by rw [h]

theorem sval_of_mem {undo : Bool} {l : Posts} {e : List UInt8 × Option Int} (he : e ∈ sumsOf undo l) : e.2.getD 0 = amt undo l e.1 := by
  rw [← sval_sums]
  unfold sval look
  rw [getE_of_mem (sums_nodup undo l) he]; rfl
/-- When a booking is taken. -/
theorem code0_iff {undo : Bool} {m l : Posts} (hm : ∀ e ∈ m, i64 e.2) : bookCode undo m l = 0 ↔ (l.all fun p => nameOk p.1) = true ∧ total undo l = 0 ∧ ∀ k, i64 (look 0 m k + amt undo l k) := by
  unfold bookCode
  by_cases h1 : (l.all fun p => nameOk p.1) = true
  · rw [if_pos h1]
    by_cases h2 : total undo l = 0
    · rw [if_pos h2]
      by_cases h3 : allSmall undo m l = true
      · rw [if_pos h3]
        refine ⟨fun _ => ⟨h1, h2, fun k => ?_⟩, fun _ => rfl⟩
        unfold allSmall at h3
        rw [List.all_eq_true] at h3
        by_cases hk : k ∈ (sumsOf undo l).map (·.1)
        · obtain ⟨e, he, rfl⟩ := List.mem_map.1 hk
          have := small_i64 (h3 e he)
          rwa [sval_of_mem he] at this
        · have h0 : amt undo l k = 0 := by
            rw [← sval_sums]
            unfold sval look
            rw [getE_none.2 hk]; rfl
          rw [h0, Int.add_zero]
          exact look_bound hm k
      · rw [if_neg h3]
        refine ⟨(fun h => by cases h), fun h => absurd ?_ h3⟩
        unfold allSmall
        rw [List.all_eq_true]
        intro e he
        have := h.2.2 e.1
        rw [← sval_of_mem he] at this
        unfold small64; unfold i64 at this; simp [this.1, this.2]
    · rw [if_neg h2]; exact ⟨(fun h => by cases h), fun h => absurd h.2.1 h2⟩
  · rw [if_neg h1]; exact ⟨(fun h => by cases h), fun h => absurd h.1 h1⟩
theorem book_bound {undo : Bool} {m l : Posts} (hnd : (m.map (·.1)).Nodup) (hm : ∀ e ∈ m, i64 e.2) (h : bookCode undo m l = 0) : ∀ e ∈ bookE m (sumsOf undo l), i64 e.2 := fun e he => by
  have hn : ((bookE m (sumsOf undo l)).map (·.1)).Nodup := bookE_nodup _ _ hnd
  have := ((code0_iff hm).1 h).2.2 e.1
  rw [← look_books] at this
  unfold look at this
  rw [getE_of_mem hn he] at this
  exact this
theorem total_neg (l : Posts) : total true l = -total false l := by
  have : ∀ (l : Posts) (x : Int), l.foldl (fun s p => s + sg true p.2) (-x) = -(l.foldl (fun s p => s + sg false p.2) x) := by
    intro l
    induction l with
    | nil => intro x; rfl
    | cons p l ih =>
      intro x
      simp only [List.foldl_cons]
      rw [← ih]
      congr 1
      simp only [sg, cond_true, cond_false]; omega
  exact this l 0
/-- What was booked can be taken away, and all is as it was. -/
theorem undo_ok {m l : Posts} (hnd : (m.map (·.1)).Nodup) (hm : ∀ e ∈ m, i64 e.2) (h : bookCode false m l = 0) :
    bookCode true (bookE m (sumsOf false l)) l = 0 ∧ allE (bookE (bookE m (sumsOf false l)) (sumsOf true l)) = allE m := by
  obtain ⟨h1, h2, h3⟩ := (code0_iff hm).1 h
  have hn : ((bookE m (sumsOf false l)).map (·.1)).Nodup := bookE_nodup _ _ hnd
  have hk : ∀ k, look 0 (bookE m (sumsOf false l)) k + amt true l k = look 0 m k := fun k => by rw [look_books, amt_undo]; omega
  refine ⟨(code0_iff (book_bound hnd hm h)).2 ⟨h1, by rw [total_neg, h2]; rfl, fun k => by rw [hk]; exact look_bound hm k⟩, allE_ext (bookE_nodup _ _ hn) hnd fun k => by rw [look_books, hk]⟩
end
end Go.AM.C

/- LedgerBack: postings; what the law answers. -/
namespace Go.AM
set_option linter.unusedVariables false
set_option linter.unusedSimpArgs false
section
variable {S : Sg} {call : Calling} {d : Bool} {g : Operand → AVal} {H : Heap} {c : Call} {t e : TypeId} {ti te : TI} {news : List AVal} {cap2 : Option Nat} {cl : Bool}
theorem isl_one {sz : Nat} (hn : news.length = sz) : sliceCells H sz (.isl news 0 1 cap2 cl) = some (news, 1) := by
  unfold sliceCells
  simp only
  rw [if_pos (by omega), List.drop_zero, List.take_of_length_le (by omega)]
/-- One more, made where the order is drawn, on a row that is not there. -/
theorem G.append_nils_isl (hc : c.callee = .builtin .append) (ha : c.args.toList.map g = [.nils, .isl news 0 1 cap2 cl]) (hta : c.argTypes.toList = [t, t]) (ht : S.ty t = some ti) (hd : ti.desc = .slice e) (he : S.ty e = some te) (hn : news.length = te.size) (hcl : news.all AVal.cell = true) (hb : te.bytes ≤ 1024) :
    denG S call d g H (.call c) = some (.sl H.length 0 1 none te.size, H ++ [.cells news e]) := by
  obtain ⟨d1, d2, d3, d4, d5, d6, d7, d8⟩ := ti
  simp only at hd
  subst hd
  simp only [denG, hc, ha, hta, denAppend, ht, he, isl_one hn, hcl]
  have h1 : (0 + 1) * te.bytes ≤ 140737488355328 := by omega
  rw [if_neg (by decide), if_pos ⟨h1, by omega⟩]
/-- One more, made where the order is drawn. -/
theorem G.append_sl_isl {id len : Nat} {vs : List AVal} {ty : TypeId} (hc : c.callee = .builtin .append) (ha : c.args.toList.map g = [.sl id 0 len none te.size, .isl news 0 1 cap2 cl]) (hta : c.argTypes.toList = [t, t]) (ht : S.ty t = some ti) (hd : ti.desc = .slice e) (he : S.ty e = some te) (hn : news.length = te.size) (hcl : news.all AVal.cell = true) (hb : te.bytes ≤ 1024) (hs : 0 < te.size)
    (hI : H[id]? = some (.cells vs ty)) (hv : vs.length = len * te.size) (hl : len < 1073741824) :
    denG S call d g H (.call c) = some (.sl H.length 0 (len + 1) none te.size, H.set id .dead ++ [.cells (vs ++ news) e]) := by
  obtain ⟨d1, d2, d3, d4, d5, d6, d7, d8⟩ := ti
  simp only at hd
  subst hd
  have hso : sliceCells H te.size (.sl id 0 len none te.size) = some (vs, len) := by
    unfold sliceCells
    simp only [hI]
    rw [if_pos (by omega), List.drop_zero, List.take_of_length_le (by omega)]
  simp only [denG, hc, ha, hta, denAppend, ht, he, isl_one hn, hso, hcl]
  have h1 : (len + (0 + 1)) * te.bytes ≤ 140737488355328 := by
    have : (len + (0 + 1)) * te.bytes ≤ 1073741824 * 1024 := Nat.mul_le_mul (by omega) hb
    omega
  rw [if_neg (by decide), if_pos ⟨trivial, hs, h1, by omega⟩]
end
end Go.AM
namespace Go.AM.C
open Go.Proofs
noncomputable section
set_option linter.unusedVariables false
set_option linter.unusedSimpArgs false

/-! #### Text, where the order is drawn -/
def textX : Ext := fun args H => match args with
  | [.str s, .int .i64 n] => if n = 22 then some (.str (s.take 22), H) else none
  | _ => none
theorem textX_ok (S : Sg) (hg : S.glob = S0.glob) (hp : S.pin = S0.pin) : ExtAt Tryz.prog S 39 textX := by
  intro args H v H' hx
  unfold textX at hx
  split at hx
  · split at hx
    · rename_i h
      subst h
      cases hx
      exact DoesC.glob hg hp (text_has _ 22 (by omega) H)
    · cases hx
  · cases hx
theorem textX_quiet : true = true → ∀ args H v H', textX args H = some (v, H') → H' = H := by
  intro _ args H v H' hx
  unfold textX at hx
  split at hx
  · split at hx
    · cases hx; rfl
    · cases hx
  · cases hx
abbrev textE : Ent := ⟨39, textX, true, textX_quiet⟩
abbrev ST : Sg := mk [textE]
theorem sT : Sound Tryz.prog ST := mk_sound ⟨textX_ok _ rfl rfl, trivial⟩
theorem textA (s : List UInt8) (H : Heap) : callS ST 39 [.str s, iA 22] H = some (.str (s.take 22), H) :=
  (show callS ST 39 [.str s, iA 22] H = textX [.str s, iA 22] H from rfl).trans (show (if (22 : Int) = 22 then some (AVal.str (s.take 22), H) else none) = _ from if_pos rfl)

def cutP (p : List UInt8 × Int) : List UInt8 × Int := (p.1.take 22, p.2)
def cut8 (l : Posts) : Posts := (l.take 8).map cutP
theorem out_seal0 {HH : Heap} {v : AVal} {out : Posts} (h : OutOK HH 0 v out) (hne : v = .nils ∨ out ≠ []) : Seals HH v (postsA out) := by
  rcases h with ⟨rfl, rfl⟩ | ⟨id, ty, hN, rfl, hH⟩
  · exact Seals.same _ rfl
  · have hne' : out ≠ [] := by
      rcases hne with h | h
      · cases h
      · exact h
    unfold postsA
    rw [if_neg hne']
    refine Seals.sl id 0 _ none 2 _ ty _ hH (by rw [postC_len]; omega) (postC_len out) (fun j a b ha hb => ?_) (postC_closed out)
    rw [Nat.zero_add] at ha
    rw [ha] at hb
    cases hb
    exact Seals.same _ (closed1_ (postC_closed out a (List.mem_of_getElem? ha)))

set_option maxRecDepth 100000 in
theorem postings_has (l : Posts) (hll : l.length < 9223372036854775808) (H : Heap) : Has 10 [.isl (postC l) 0 l.length none true] H (postsA (cut8 l)) H := by
  generalize hR : postsA (cut8 l) = R
  refine Has.of (l := [textE]) ?_
  refine does_pure sT (show ST.fn 10 = some Tryz.f10 by kernel_rfl) rfl (by kernel_rfl) (Nat.le_of_ble_eq_true rfl) rfl (by rw [← hR]; exact postsA_closed _) ?_
  refine W.seq (W.region ?_)
  refine WO.op rfl rfl (WO.nil (W.seq (W.region ?_)))
  refine WO.op rfl rfl (WO.nil (W.seq (W.seq (W.region ?_))))
  refine WO.op rfl rfl (WO.nil (W.block ?_))
  refine W.fits (F' := fr [(0, .isl (postC l) 0 l.length none true), (3, .nils), (4, iA ((0 : Nat) : Int))]) (fits_fr ⟨rfl, rfl, rfl, trivial⟩) ?_
  refine W.loopI (α := Nat × Heap × AVal) (fun x => x.1 ≤ l.length ∧ x.1 ≤ 8 ∧ OutOK x.2.1 0 x.2.2 ((l.take x.1).map cutP) ∧ (x.2.2 = .nils ∨ (l.take x.1).map cutP ≠ [])) (fun x => 8 - x.1)
    (fun x => fr [(0, .isl (postC l) 0 l.length none true), (3, x.2.2), (4, iA (x.1 : Int))]) (fun x => x.2.1) ?_ (0, [], .nils) ⟨Nat.zero_le _, Nat.zero_le _, .inl ⟨rfl, rfl⟩, .inl rfl⟩
  rintro ⟨j, HH, out⟩ ⟨hj, hj8, hout, hne⟩
  simp only at hj hj8 hout hne
  have fin : l.take 8 = l.take j → Seals HH out R := fun h => by
    have : R = postsA ((l.take j).map cutP) := by rw [← hR, ← h]; rfl
    rw [this]
    exact out_seal0 hout hne
  refine W.seq (W.seq (W.region ?_))
  refine WO.op rfl rfl ?_
  refine WO.op rfl rfl ?_
  refine WO.op (G.len_isl rfl rfl rfl tP rfl) rfl ?_
  by_cases hlt : j < l.length
  · refine WO.as (v' := .bool true) rfl rfl (bdT (by omega)) ?_
    refine WO.op rfl rfl ?_
    refine WO.op rfl rfl ?_
    by_cases hlt8 : j < 8
    · refine WO.as (v' := .bool true) rfl rfl (bdT (by omega)) ?_
      refine WO.op rfl rfl (WO.nil (W.cond (b := true) rfl (fun _ => W.skip ?_) (fun h => by cases h)))
      obtain ⟨p, hp⟩ : ∃ p, l[j]? = some p := ⟨_, List.getElem?_eq_getElem hlt⟩
      obtain ⟨hc1, hc2⟩ := postC_at l j p hp
      have htk : (l.take (j + 1)).map cutP = (l.take j).map cutP ++ [cutP p] := by rw [List.take_add_one, hp, List.map_append]; rfl
      have hol : ((l.take j).map cutP).length < 1073741824 := by simp; omega
      have hnel : (l.take (j + 1)).map cutP ≠ [] := by rw [htk]; simp
      generalize hO : (l.take j).map cutP = O at hout hne htk hol
      refine W.seq (W.block (W.draw0 rfl (by kernel_rfl) ?_))
      refine WT.op rfl rfl rfl ?_
      refine WT.op rfl rfl rfl ?_
      refine WT.op rfl rfl rfl ?_
      refine WT.op (G.idx_isl rfl rfl tP rfl tp (by omega) (by omega)) rfl rfl ?_
      refine WT.op rfl rfl rfl ?_
      refine WT.op (G.load_ip (v := .str p.1) rfl tS rfl (by rw [Int.toNat_natCast, Nat.zero_add, Nat.add_zero]; exact hc1)) rfl rfl ?_
      refine WT.op (textA p.1 _) rfl rfl ?_
      refine WT.op rfl rfl rfl ?_
      refine WT.op rfl rfl rfl ?_
      refine WT.op (G.idx_isl rfl rfl tP rfl tp (by omega) (by omega)) rfl rfl ?_
      refine WT.op rfl rfl rfl ?_
      refine WT.op (G.load_ip (v := iA p.2) rfl tI rfl (by rw [Int.toNat_natCast, Nat.zero_add]; exact hc2)) rfl rfl ?_
      refine WT.op (v := .agg [.str (p.1.take 22), iA p.2]) rfl rfl rfl ?_
      refine WT.op (v := .isl [.str (p.1.take 22), iA p.2] 0 1 (some 1) true) rfl rfl rfl ?_
      rcases hout with ⟨rfl, ho⟩ | ⟨id, ty, hN, rfl, hH⟩
      · refine WT.op (G.append_nils_isl (ti := ti27) (te := ti40) (cap2 := some 1) (cl := true) rfl rfl rfl tP rfl tp rfl rfl (by decide)) rfl rfl ?_
        refine WT.op rfl rfl rfl (WT.nil (W.region ?_))
        refine WO.op rfl rfl ?_
        refine WO.as (v' := iA ((j + 1 : Nat) : Int)) rfl rfl (int_i64 (by omega) (by omega)) ?_
        refine WO.op rfl rfl (WO.nil ⟨(j + 1, _, _), ⟨by omega, by omega, ?_, .inr hnel⟩, by simp only; omega, fits_fr ⟨rfl, rfl, rfl, trivial⟩, rfl⟩)
        simp only
        rw [htk, ho]
        exact .inr ⟨HH.length, 40, Nat.zero_le _, rfl, app_at rfl⟩
      · have hidl : id < HH.length := (List.getElem?_eq_some_iff.1 hH).1
        refine WT.op (G.append_sl_isl (ti := ti27) (te := ti40) (cap2 := some 1) (cl := true) (id := id) (len := O.length) (vs := postC O) (ty := ty) rfl rfl rfl tP rfl tp rfl rfl (by decide) (by decide) hH (postC_len _) hol) rfl rfl ?_
        refine WT.op rfl rfl rfl (WT.nil (W.region ?_))
        refine WO.op rfl rfl ?_
        refine WO.as (v' := iA ((j + 1 : Nat) : Int)) rfl rfl (int_i64 (by omega) (by omega)) ?_
        refine WO.op rfl rfl (WO.nil ⟨(j + 1, _, _), ⟨by omega, by omega, ?_, .inr hnel⟩, by simp only; omega, fits_fr ⟨rfl, rfl, rfl, trivial⟩, rfl⟩)
        simp only
        rw [htk]
        refine .inr ⟨HH.length, 40, Nat.zero_le _, ?_, ?_⟩
        · rw [List.length_append]; rfl
        · rw [postC_app]; exact app_at (by simp)
    · have hje : j = 8 := by omega
      subst hje
      refine WO.as (v' := .bool false) rfl rfl (bdF (by omega)) ?_
      refine WO.op rfl rfl (WO.nil (W.cond (b := false) rfl (fun h => by cases h) (fun _ => W.exit ?_)))
      refine W.seq (W.region ?_)
      refine WO.op rfl rfl ?_
      exact WO.op rfl rfl (WO.nil (W.ret ⟨trivial, _, rfl, fin rfl⟩))
  · have hje : j = l.length := by omega
    subst hje
    refine WO.as (v' := .bool false) rfl rfl (bdF (by omega)) ?_
    refine WO.op rfl rfl ?_
    refine WO.skip rfl ?_
    refine WO.skip rfl ?_
    refine WO.op rfl rfl (WO.nil (W.cond (b := false) rfl (fun h => by cases h) (fun _ => W.exit ?_)))
    refine W.seq (W.region ?_)
    refine WO.op rfl rfl ?_
    exact WO.op rfl rfl (WO.nil (W.ret ⟨trivial, _, rfl, fin (by rw [List.take_length, List.take_of_length_le (by omega)])⟩))
end
end Go.AM.C

/- The reference's numbers: OfU, trim. -/
namespace Go.AM.C
open Go.Proofs
noncomputable section
set_option linter.unusedVariables false
set_option linter.unusedSimpArgs false

/-- A number of the reference's. -/
def rD (n : Nat) : AVal := .isl (u64s (digs n)) 0 (digs n).length none true
def IsN (v : AVal) (n : Nat) : Prop := v = rD n ∨ v = .nils ∧ n = 0
theorem rD_closed (n : Nat) : (rD n).closed = true := rfl
theorem tRN : S0.ty 34 = some ti34 := rfl
theorem wk_nils0 : Wk .nils (.isl [] 0 0 none true) := fun c w v h => by
  cases h
  exact .isl0 _ _ _ _ _ _ (Nat.zero_le _) (fun n h => by cases h)
/-- A row that grows. -/
def OutU (HH : Heap) (v : AVal) (l : List Nat) : Prop := v = .nils ∧ l = [] ∨ ∃ id ty, v = .sl id 0 l.length none 1 ∧ HH[id]? = some (.cells (u64s l) ty)
theorem outU_seal {HH : Heap} {v : AVal} {l : List Nat} (h : OutU HH v l) : Seals HH v (.isl (u64s l) 0 l.length none true) := by
  rcases h with ⟨rfl, rfl⟩ | ⟨id, ty, rfl, hH⟩
  · exact .wk _ _ _ wk_nils0 (.same _ rfl)
  · refine Seals.sl id 0 _ none 1 _ ty _ hH (by rw [u64s_len]; omega) (by rw [u64s_len]; omega) (fun j a b ha hb => ?_) (u64s_closed l)
    rw [Nat.zero_add] at ha
    rw [ha] at hb
    cases hb
    exact Seals.same _ (closed1_ (u64s_closed l a (List.mem_of_getElem? ha)))
/-- One digit more. -/
theorem outU_app {HH : Heap} {v : AVal} {l : List Nat} (x : Nat) (ho : OutU HH v l) (hl : l.length < 1073741824) :
    ∃ v' H', OutU H' v' (l ++ [x]) ∧ ∀ (S : Sg) (call : Calling) (d : Bool) (g : Operand → AVal) (c : Call), S.ty = S0.ty → c.callee = .builtin .append → c.args.toList.map g = [v, .sl HH.length 0 1 (some 1) 1] → c.argTypes.toList = [34, 34] →
      denG S call d g (HH ++ [.cells (u64s [x]) 97]) (.call c) = some (v', H') := by
  rcases ho with ⟨rfl, rfl⟩ | ⟨id, ty, rfl, hH⟩
  · refine ⟨_, _, .inr ⟨(HH ++ [AObj.cells (u64s [x]) 97]).length, 97, rfl, app_at rfl⟩, fun S call d g c hS hc ha hta => ?_⟩
    exact G.append_nils (ti := ti34) (te := ti97) (id2 := HH.length) (cap2 := some 1) hc ha hta (by rw [hS]; rfl) rfl (by rw [hS]; rfl) (app_at rfl) rfl rfl (by decide)
  · have hidl : id < HH.length := (List.getElem?_eq_some_iff.1 hH).1
    refine ⟨.sl (HH ++ [AObj.cells (u64s [x]) 97]).length 0 (l.length + 1) none 1, (HH ++ [AObj.cells (u64s [x]) 97]).set id .dead ++ [.cells (u64s l ++ u64s [x]) 97], .inr ⟨(HH ++ [AObj.cells (u64s [x]) 97]).length, 97, by rw [show (l ++ [x]).length = l.length + 1 by simp], ?_⟩, fun S call d g c hS hc ha hta => ?_⟩
    · rw [u64s_append]
      exact app_at (by simp)
    · exact G.append_sl (ti := ti34) (te := ti97) (id2 := HH.length) (cap2 := some 1) (id := id) (len := l.length) (vs := u64s l) (ty := ty) hc ha hta (by rw [hS]; rfl) rfl (by rw [hS]; rfl) (app_at rfl) rfl rfl (by decide) (by decide) (by rw [app_lt hidl]; exact hH) (by rw [u64s_len]; exact (Nat.mul_one _).symm) hl

theorem digs_len {x : Nat} (h : x < 18446744073709551616) : (digs x).length ≤ 3 := by
  rcases Nat.lt_or_ge 3 (digs x).length with h3 | h3
  · have h1 := dval_ge (digs_dg x) (digs_top x) (by intro e; rw [e] at h3; cases h3)
    rw [dval_digs] at h1
    have h2 : 1000000000 ^ 3 ≤ 1000000000 ^ ((digs x).length - 1) := Nat.pow_le_pow_right (by decide) (by omega)
    omega
  · exact h3

set_option maxRecDepth 100000 in
theorem ofU_has (x : Nat) (hx : x < 18446744073709551616) (H : Heap) : Has 44 [.int .u64 (x : Int)] H (rD x) H := by
  generalize hR : rD x = R
  refine does_pure s0 (show S0.fn 44 = some Tryz.f44 by kernel_rfl) rfl (by kernel_rfl) (Nat.le_of_ble_eq_true rfl) rfl (by rw [← hR]; rfl) ?_
  have hlen := digs_len hx
  refine W.seq (W.region ?_)
  refine WO.op rfl rfl (WO.nil (W.seq (W.region ?_)))
  refine WO.op rfl rfl (WO.nil (W.seq (W.block ?_)))
  refine W.fits (F' := fr [(0, .int .u64 (x : Int)), (3, .nils)]) (fits_fr ⟨rfl, rfl, trivial⟩) ?_
  refine W.loopI (α := Nat × List Nat × Heap × AVal) (fun s => OutU s.2.2.1 s.2.2.2 s.2.1 ∧ s.2.1 ++ digs s.1 = digs x ∧ s.1 < 18446744073709551616) (fun s => s.1)
    (fun s => fr [(0, .int .u64 (s.1 : Int)), (3, s.2.2.2)]) (fun s => s.2.2.1) ?_ (x, [], [], .nils) ⟨.inl ⟨rfl, rfl⟩, rfl, hx⟩
  rintro ⟨y, l, HH, v⟩ ⟨ho, he, hy⟩
  simp only at ho he hy
  refine W.seq (W.seq (W.region ?_))
  refine WO.op rfl rfl ?_
  by_cases h0 : y = 0
  · subst h0
    rw [digs_zero, List.append_nil] at he
    refine WO.as (v' := .bool false) rfl rfl (bdF (by omega)) (WO.nil (W.cond (b := false) rfl (fun h => by cases h) (fun _ => W.exit ?_)))
    refine W.seq (W.region ?_)
    refine WO.op rfl rfl ?_
    refine WO.op rfl rfl (WO.nil (W.ret ⟨trivial, _, rfl, ?_⟩))
    rw [← hR]
    unfold rD
    rw [← he]
    exact outU_seal ho
  · have e1 : ((y : Int).tmod 1000000000) = ((y % 1000000000 : Nat) : Int) := (Int.ofNat_tmod y 1000000000).symm
    have e2 : ((y : Int).tdiv 1000000000) = ((y / 1000000000 : Nat) : Int) := (Int.ofNat_tdiv y 1000000000).symm
    refine WO.as (v' := .bool true) rfl rfl (bdT (by omega)) (WO.nil (W.cond (b := true) rfl (fun _ => W.skip ?_) (fun h => by cases h)))
    refine W.seq (W.block (W.region ?_))
    refine WO.op rfl rfl ?_
    refine WO.op rfl rfl ?_
    refine WO.as (v' := .int .u64 ((y % 1000000000 : Nat) : Int)) rfl rfl (int_eq e1) ?_
    refine WO.op (v := .sl HH.length 0 1 (some 1) 1) (H1 := HH ++ [.cells (u64s [y % 1000000000]) 97]) rfl rfl ?_
    have hll : l.length < 1073741824 := by
      have : (l ++ digs y).length ≤ 3 := by rw [he]; exact hlen
      rw [List.length_append] at this
      omega
    obtain ⟨v', H', ho', hd⟩ := outU_app (y % 1000000000) ho hll
    refine WO.op (hd _ _ _ _ _ rfl rfl rfl rfl) rfl ?_
    refine WO.op rfl rfl (WO.nil (W.region ?_))
    refine WO.op rfl rfl ?_
    refine WO.as (v' := .int .u64 ((y / 1000000000 : Nat) : Int)) rfl rfl (int_u64 (by rw [e2]; omega) e2) ?_
    refine WO.op rfl rfl (WO.nil ⟨(y / 1000000000, l ++ [y % 1000000000], H', v'), ⟨ho', ?_, by simp only; omega⟩, ?_, fits_fr ⟨rfl, rfl, trivial⟩, rfl⟩)
    · rw [← he, digs_pos h0, List.append_assoc]; rfl
    · exact Nat.div_lt_self (by omega) (by decide)
end
end Go.AM.C

/- The reference's numbers: Cmp. -/
namespace Go.AM.C
open Go.Proofs
noncomputable section
set_option linter.unusedVariables false
set_option linter.unusedSimpArgs false

theorem tU64 : S0.ty 97 = some ti97 := rfl
/-- Arguments of which less is said. -/
theorem Has.wk {f : FuncId} {args args' : List AVal} {H H' : Heap} {v : AVal} (h : Has f args H v H') (hl : args'.length = args.length) (hw : ∀ (j : Nat) (a' a : AVal), args'[j]? = some a' → args[j]? = some a → Wk a' a) : Has f args' H v H' :=
  fun c w cargs r g ha => h c w cargs r g ⟨ha.1.trans hl, fun j x y hx hy => by
    have hj : j < args'.length := by rw [hl]; exact (List.getElem?_eq_some_iff.1 hx).1
    exact hw j _ x (List.getElem?_eq_getElem hj) hx _ _ _ (ha.2 j _ y (List.getElem?_eq_getElem hj) hy)⟩
theorem wk_nilsD : Wk .nils (rD 0) := by
  unfold rD
  rw [digs_zero]
  exact wk_nils0
theorem IsN.wk {v : AVal} {n : Nat} (h : IsN v n) : Wk v (rD n) := by
  rcases h with rfl | ⟨rfl, rfl⟩
  · exact Wk.refl _
  · exact wk_nilsD

theorem digs_len_le {n k : Nat} (h : n < 1000000000 ^ k) : (digs n).length ≤ k := by
  rcases Nat.lt_or_ge k (digs n).length with h3 | h3
  · have h1 := dval_ge (digs_dg n) (digs_top n) (by intro e; rw [e] at h3; cases h3)
    rw [dval_digs] at h1
    have h2 : 1000000000 ^ k ≤ 1000000000 ^ ((digs n).length - 1) := Nat.pow_le_pow_right (by decide) (by omega)
    omega
  · exact h3
theorem lt_of_len {m n : Nat} (h : (digs m).length < (digs n).length) : m < n := by
  have h1 := dval_lt (digs_dg m)
  have h2 := dval_ge (digs_dg n) (digs_top n) (by intro e; rw [e] at h; cases h)
  rw [dval_digs] at h1 h2
  have h3 : 1000000000 ^ (digs m).length ≤ 1000000000 ^ ((digs n).length - 1) := Nat.pow_le_pow_right (by decide) (by omega)
  omega
theorem dval_split (l : List Nat) (k : Nat) (hk : k ≤ l.length) : dval l = dval (l.take k) + 1000000000 ^ k * dval (l.drop k) := by
  have := dval_app (l.take k) (l.drop k)
  rw [List.take_append_drop, List.length_take, Nat.min_eq_left hk] at this
  exact this
theorem dval_cmp {a b : List Nat} (ha : Dg a) (hb : Dg b) {k x y : Nat} (hx : a[k]? = some x) (hy : b[k]? = some y) (hd : a.drop (k + 1) = b.drop (k + 1)) (h : x < y) : dval a < dval b := by
  have la : k < a.length := (List.getElem?_eq_some_iff.1 hx).1
  have lb : k < b.length := (List.getElem?_eq_some_iff.1 hy).1
  rw [dval_split a (k + 1) la, dval_split b (k + 1) lb, hd, dval_take_succ hx, dval_take_succ hy]
  have h1 := dval_lt (ha.take k)
  rw [List.length_take, Nat.min_eq_left (by omega)] at h1
  have h2 : 1000000000 ^ k * (x + 1) ≤ 1000000000 ^ k * y := Nat.mul_le_mul_left _ h
  rw [Nat.mul_add] at h2
  omega
def cmpZ (m n : Nat) : Int := if m < n then -1 else if n < m then 1 else 0

set_option maxRecDepth 100000 in
theorem cmp_has (m n : Nat) (hm : (digs m).length < 4611686018427387904) (hn : (digs n).length < 4611686018427387904) (H : Heap) : Has 42 [rD m, rD n] H (iA (cmpZ m n)) H := by
  have lt1 : cmpZ m n = -1 ↔ m < n := by unfold cmpZ; split <;> (try split) <;> omega
  have gt1 : cmpZ m n = 1 ↔ n < m := by unfold cmpZ; split <;> (try split) <;> omega
  have eq0 : cmpZ m n = 0 ↔ m = n := by unfold cmpZ; split <;> (try split) <;> omega
  generalize cmpZ m n = Z at lt1 gt1 eq0
  refine does_pure s0 (show S0.fn 42 = some Tryz.f42 by kernel_rfl) rfl (by kernel_rfl) (Nat.le_of_ble_eq_true rfl) rfl rfl ?_
  have da := digs_dg m
  have db := digs_dg n
  have va := dval_digs m
  have vb := dval_digs n
  have ll := @lt_of_len m n
  have gl := @lt_of_len n m
  unfold rD
  generalize digs m = a at *
  generalize digs n = b at *
  refine W.seq (W.region ?_)
  refine WO.op rfl rfl (WO.nil (W.seq (W.seq (W.region ?_))))
  refine WO.op rfl rfl ?_
  refine WO.op (G.len_isl rfl rfl rfl tRN rfl) rfl ?_
  refine WO.op rfl rfl ?_
  refine WO.op (G.len_isl rfl rfl rfl tRN rfl) rfl ?_
  by_cases hl : a.length = b.length
  · refine WO.as (v' := .bool false) rfl rfl (bnT (by omega)) (WO.nil (W.cond (b := false) rfl (fun h => by cases h) (fun _ => W.skip (W.seq (W.seq (W.region ?_))))))
    refine WO.op rfl rfl ?_
    refine WO.op (G.len_isl rfl rfl rfl tRN rfl) rfl ?_
    refine WO.as (v' := iA ((a.length : Int) - 1)) rfl rfl (int_i64 (by omega) (by omega)) ?_
    refine WO.op rfl rfl (WO.nil (W.block ?_))
    refine W.fits (F' := fr [(0, .isl (u64s a) 0 a.length none true), (1, .isl (u64s b) 0 b.length none true), (5, iA ((a.length : Int) - 1))]) (fits_fr ⟨rfl, rfl, rfl, trivial⟩) ?_
    refine W.loopI (fun k : Nat => k ≤ a.length ∧ a.drop k = b.drop k) (fun k => k) (fun k => fr [(0, .isl (u64s a) 0 a.length none true), (1, .isl (u64s b) 0 b.length none true), (5, iA ((k : Int) - 1))]) (fun _ => []) ?_ a.length ⟨Nat.le_refl _, by rw [List.drop_length, hl, List.drop_length]⟩
    rintro k ⟨hk, hd⟩
    refine W.seq (W.seq (W.region ?_))
    refine WO.op rfl rfl ?_
    by_cases h0 : k = 0
    · subst h0
      refine WO.as (v' := .bool false) rfl rfl (bdF (by omega)) (WO.nil (W.cond (b := false) rfl (fun h => by cases h) (fun _ => W.exit ?_)))
      have hz : Z = 0 := eq0.2 (by rw [← va, ← vb]; exact congrArg dval (by simpa using hd))
      subst hz
      refine W.seq (W.region ?_)
      exact WO.op rfl rfl (WO.nil (W.ret ⟨trivial, _, rfl, Seals.same _ rfl⟩))
    · obtain ⟨i, rfl⟩ : ∃ i, k = i + 1 := ⟨k - 1, by omega⟩
      have hia : i < a.length := by omega
      have hib : i < b.length := by omega
      obtain ⟨x, hx⟩ : ∃ x, a[i]? = some x := ⟨_, List.getElem?_eq_getElem hia⟩
      obtain ⟨y, hy⟩ : ∃ y, b[i]? = some y := ⟨_, List.getElem?_eq_getElem hib⟩
      have ix : 0 + (((i + 1 : Nat) : Int) - 1).toNat * 1 = i := by omega
      have hxa : (u64s a)[0 + (((i + 1 : Nat) : Int) - 1).toNat * 1]? = some (.int .u64 (x : Int)) := by rw [ix]; exact u64s_get hx
      have hyb : (u64s b)[0 + (((i + 1 : Nat) : Int) - 1).toNat * 1]? = some (.int .u64 (y : Int)) := by rw [ix]; exact u64s_get hy
      refine WO.as (v' := .bool true) rfl rfl (bdT (by omega)) (WO.nil (W.cond (b := true) rfl (fun _ => W.skip ?_) (fun h => by cases h)))
      refine W.seq (W.block (W.seq (W.seq (W.draw0 rfl (by kernel_rfl) ?_))))
      refine WT.op rfl rfl rfl ?_
      refine WT.op rfl rfl rfl ?_
      refine WT.op (G.idx_isl rfl rfl tRN rfl tU64 (by omega) (by omega)) rfl rfl ?_
      refine WT.op (G.load_ip rfl tU64 rfl hxa) rfl rfl ?_
      refine WT.op rfl rfl rfl ?_
      refine WT.op rfl rfl rfl ?_
      refine WT.op (G.idx_isl rfl rfl tRN rfl tU64 (by omega) (by omega)) rfl rfl ?_
      refine WT.op (G.load_ip rfl tU64 rfl hyb) rfl rfl ?_
      refine WT.op rfl rfl rfl (WT.nil (W.cond (b := decide ((x : Int) < (y : Int))) rfl (fun h => ?_) (fun h => ?_)))
      · have hz : Z = -1 := lt1.2 (by rw [← va, ← vb]; exact dval_cmp da db hx hy hd (by simpa using h))
        subst hz
        refine W.seq (W.region ?_)
        exact WO.op rfl rfl (WO.nil (W.ret ⟨trivial, _, rfl, Seals.same _ rfl⟩))
      · refine W.skip (W.seq (W.draw0 rfl (by kernel_rfl) ?_))
        refine WT.op rfl rfl rfl ?_
        refine WT.op rfl rfl rfl ?_
        refine WT.op (G.idx_isl rfl rfl tRN rfl tU64 (by omega) (by omega)) rfl rfl ?_
        refine WT.op (G.load_ip rfl tU64 rfl hxa) rfl rfl ?_
        refine WT.op rfl rfl rfl ?_
        refine WT.op rfl rfl rfl ?_
        refine WT.op (G.idx_isl rfl rfl tRN rfl tU64 (by omega) (by omega)) rfl rfl ?_
        refine WT.op (G.load_ip rfl tU64 rfl hyb) rfl rfl ?_
        refine WT.op rfl rfl rfl (WT.nil (W.cond (b := decide ((x : Int) > (y : Int))) rfl (fun h2 => ?_) (fun h2 => ?_)))
        · have hz : Z = 1 := gt1.2 (by rw [← va, ← vb]; exact dval_cmp db da hy hx hd.symm (by simpa using h2))
          subst hz
          refine W.seq (W.region ?_)
          exact WO.op rfl rfl (WO.nil (W.ret ⟨trivial, _, rfl, Seals.same _ rfl⟩))
        · have hxy : x = y := by
            have h3 : ¬ (x : Int) < (y : Int) := by simpa using h
            have h4 : ¬ (x : Int) > (y : Int) := by simpa using h2
            omega
          refine W.skip (W.region ?_)
          refine WO.op rfl rfl ?_
          refine WO.as (v' := iA ((i : Int) - 1)) rfl rfl (int_i64 (by omega) (by omega)) ?_
          refine WO.op rfl rfl (WO.nil ⟨i, ⟨by omega, ?_⟩, by omega, fits_fr ⟨rfl, rfl, rfl, trivial⟩, rfl⟩)
          rw [List.drop_eq_getElem_cons hia, List.drop_eq_getElem_cons hib, hd]
          have e1 : a[i] = x := (List.getElem?_eq_some_iff.1 hx).2
          have e2 : b[i] = y := (List.getElem?_eq_some_iff.1 hy).2
          rw [e1, e2, hxy]
  · refine WO.as (v' := .bool true) rfl rfl (bnF (by omega)) (WO.nil (W.cond (b := true) rfl (fun _ => ?_) (fun h => by cases h)))
    refine W.seq (W.seq (W.region ?_))
    refine WO.op rfl rfl ?_
    refine WO.op (G.len_isl rfl rfl rfl tRN rfl) rfl ?_
    refine WO.op rfl rfl ?_
    refine WO.op (G.len_isl rfl rfl rfl tRN rfl) rfl ?_
    by_cases hlt : a.length < b.length
    · have hz : Z = -1 := lt1.2 (ll hlt)
      subst hz
      refine WO.as (v' := .bool true) rfl rfl (bdT (by omega)) (WO.nil (W.cond (b := true) rfl (fun _ => ?_) (fun h => by cases h)))
      refine W.seq (W.region ?_)
      exact WO.op rfl rfl (WO.nil (W.ret ⟨trivial, _, rfl, Seals.same _ rfl⟩))
    · have hz : Z = 1 := gt1.2 (gl (by omega))
      subst hz
      refine WO.as (v' := .bool false) rfl rfl (bdF (by omega)) (WO.nil (W.cond (b := false) rfl (fun h => by cases h) (fun _ => W.skip ?_)))
      refine W.seq (W.region ?_)
      exact WO.op rfl rfl (WO.nil (W.ret ⟨trivial, _, rfl, Seals.same _ rfl⟩))
end
end Go.AM.C

/- The reference's numbers: Add. -/
namespace Go.AM.C
open Go.Proofs
noncomputable section
set_option linter.unusedVariables false
set_option linter.unusedSimpArgs false

theorem take_step (l : List Nat) (k : Nat) : dval (l.take (k + 1)) = dval (l.take k) + 1000000000 ^ k * l.getD k 0 := by
  rcases Nat.lt_or_ge k l.length with h | h
  · have hg : l[k]? = some (l.getD k 0) := by rw [List.getD_eq_getElem?_getD, List.getElem?_eq_getElem h]; rfl
    exact dval_take_succ hg
  · rw [dval_take_all (by omega), dval_take_all h, List.getD_eq_getElem?_getD, List.getElem?_eq_none h]
    simp
theorem getD_dg {l : List Nat} (h : Dg l) (k : Nat) : l.getD k 0 < 1000000000 := by
  rcases Nat.lt_or_ge k l.length with hk | hk
  · rw [List.getD_eq_getElem?_getD, List.getElem?_eq_getElem hk]
    exact h _ (List.getElem_mem hk)
  · rw [List.getD_eq_getElem?_getD, List.getElem?_eq_none hk]; decide
theorem getD_at {l : List Nat} {k : Nat} (h : k < l.length) : (u64s l)[0 + (k : Int).toNat * 1]? = some (.int .u64 ((l.getD k 0 : Nat) : Int)) := u64s_at h
theorem getD_over {l : List Nat} {k : Nat} (h : l.length ≤ k) : l.getD k 0 = 0 := by rw [List.getD_eq_getElem?_getD, List.getElem?_eq_none h]; rfl

/-- What Add knows after k digits. -/
structure AddI (a b l : List Nat) (k c : Nat) : Prop where
  len : l.length = k
  dg : Dg l
  val : dval l + 1000000000 ^ k * c = dval (a.take k) + dval (b.take k)
  c1 : c ≤ 1
  kb : k + c ≤ a.length + b.length + 1
  top : k = 0 ∨ k - 1 < a.length ∨ k - 1 < b.length ∨ 1000000000 ^ (k - 1) ≤ dval a + dval b
theorem AddI.step {a b l : List Nat} {k c s : Nat} (h : AddI a b l k c) (da : Dg a) (db : Dg b) (hs : s = c + a.getD k 0 + b.getD k 0) (go : k < a.length ∨ k < b.length ∨ 0 < c) : AddI a b (l ++ [s % 1000000000]) (k + 1) (s / 1000000000) := by
  obtain ⟨h1, h2, h3, h4, h5, h6⟩ := h
  have ga := getD_dg da k
  have gb := getD_dg db k
  have s1 : s / 1000000000 ≤ 1 := by omega
  have hmod := Nat.div_add_mod s 1000000000
  refine ⟨by simp [h1], h2.app (Nat.mod_lt _ (by decide)), ?_, s1, ?_, ?_⟩
  · rw [dval_app, take_step, take_step, h1]
    simp only [dval, Nat.mul_zero, Nat.add_zero]
    have e1 : 1000000000 ^ (k + 1) * (s / 1000000000) = 1000000000 ^ k * (1000000000 * (s / 1000000000)) := by rw [Nat.pow_succ, Nat.mul_assoc]
    have e2 : 1000000000 ^ k * s = 1000000000 ^ k * (1000000000 * (s / 1000000000)) + 1000000000 ^ k * (s % 1000000000) := by rw [← Nat.mul_add, hmod]
    have e3 : 1000000000 ^ k * s = 1000000000 ^ k * c + 1000000000 ^ k * a.getD k 0 + 1000000000 ^ k * b.getD k 0 := by rw [hs, Nat.mul_add, Nat.mul_add]
    rw [e1]
    omega
  · rcases go with g | g | g
    · omega
    · omega
    · by_cases g1 : k < a.length
      · omega
      · by_cases g2 : k < b.length
        · omega
        · rw [getD_over (by omega), getD_over (by omega)] at hs
          omega
  · rw [Nat.add_sub_cancel]
    rcases go with g | g | g
    · exact .inr (.inl g)
    · exact .inr (.inr (.inl g))
    · by_cases g1 : k < a.length
      · exact .inr (.inl g1)
      · by_cases g2 : k < b.length
        · exact .inr (.inr (.inl g2))
        · rw [dval_take_all (by omega), dval_take_all (by omega)] at h3
          have : 1000000000 ^ k * 1 ≤ 1000000000 ^ k * c := Nat.mul_le_mul_left _ g
          exact .inr (.inr (.inr (by omega)))
theorem AddI.fin {a b l : List Nat} {k : Nat} (h : AddI a b l k 0) (da : Dg a) (db : Dg b) (ta : Top a) (tb : Top b) (ha : a.length ≤ k) (hb : b.length ≤ k) : l = digs (dval a + dval b) := by
  obtain ⟨h1, h2, h3, h4, h5, h6⟩ := h
  rw [dval_take_all ha, dval_take_all hb, Nat.mul_zero, Nat.add_zero] at h3
  rw [← h3]
  refine (digs_of l h2 (top_of h2 fun hne => ?_)).symm
  have hk : k ≠ 0 := fun e => hne (List.eq_nil_of_length_eq_zero (by omega))
  rw [h1, h3]
  rcases h6 with h6 | h6 | h6 | h6
  · exact absurd h6 hk
  · have := dval_ge da ta (by intro e; rw [e] at h6; cases h6)
    rw [show a.length - 1 = k - 1 by omega] at this
    omega
  · have := dval_ge db tb (by intro e; rw [e] at h6; cases h6)
    rw [show b.length - 1 = k - 1 by omega] at this
    omega
  · exact h6

set_option maxRecDepth 100000 in
theorem radd_has (m n : Nat) (hm : (digs m).length < 268435456) (hn : (digs n).length < 268435456) (H : Heap) : Has 41 [rD m, rD n] H (rD (m + n)) H := by
  generalize hR : rD (m + n) = R
  refine does_pure s0 (show S0.fn 41 = some Tryz.f41 by kernel_rfl) rfl (by kernel_rfl) (Nat.le_of_ble_eq_true rfl) rfl (by rw [← hR]; rfl) ?_
  have da := digs_dg m
  have db := digs_dg n
  have ta := digs_top m
  have tb := digs_top n
  have va := dval_digs m
  have vb := dval_digs n
  unfold rD at hR ⊢
  rw [← va, ← vb] at hR
  generalize digs m = a at *
  generalize digs n = b at *
  refine W.seq (W.region ?_)
  refine WO.op rfl rfl (WO.nil (W.seq (W.region ?_)))
  refine WO.op rfl rfl (WO.nil (W.seq (W.region ?_)))
  refine WO.op rfl rfl (WO.nil (W.seq (W.seq (W.region ?_))))
  refine WO.op rfl rfl (WO.nil (W.block ?_))
  let fF : Nat → Nat → AVal → Fr := fun k c v => fr [(0, .isl (u64s a) 0 a.length none true), (1, .isl (u64s b) 0 b.length none true), (5, v), (6, .int .u64 (c : Int)), (7, iA (k : Int))]
  refine W.fits (F' := fF 0 0 .nils) (fits_fr ⟨rfl, rfl, rfl, rfl, rfl, trivial⟩) ?_
  refine W.loopI (α := (Nat × Nat × List Nat) × Heap × AVal) (fun s => OutU s.2.1 s.2.2 s.1.2.2 ∧ AddI a b s.1.2.2 s.1.1 s.1.2.1) (fun s => 2 * ((a.length - s.1.1) + (b.length - s.1.1)) + s.1.2.1)
    (fun s => fF s.1.1 s.1.2.1 s.2.2) (fun s => s.2.1) ?_ ((0, 0, []), [], .nils) ⟨.inl ⟨rfl, rfl⟩, show AddI a b [] 0 0 from ⟨rfl, fun d h => (by cases h), by simp [dval], Nat.zero_le _, Nat.zero_le _, .inl rfl⟩⟩
  rintro ⟨⟨k, c, l⟩, HH, v⟩ ⟨ho, hi⟩
  simp only at ho hi
  change W _ _ _ _ (fr [(0, .isl (u64s a) 0 a.length none true), (1, .isl (u64s b) 0 b.length none true), (5, v), (6, .int .u64 (c : Int)), (7, iA (k : Int))]) HH _
  have hc := hi.c1
  have hkb := hi.kb
  have hll : l.length < 1073741824 := by rw [hi.len]; omega
  by_cases go : k < a.length ∨ k < b.length ∨ 0 < c
  · have hst := fun s hs => hi.step (s := s) da db hs go
    have ga := getD_dg da k
    have gb := getD_dg db k
    refine W.mid (H1 := HH) [(0, .isl (u64s a) 0 a.length none true), (1, .isl (u64s b) 0 b.length none true), (5, v), (6, .int .u64 (c : Int)), (7, iA (k : Int))] (W.seq (W.region ?_)) ?_
    · refine WO.op rfl rfl ?_
      refine WO.op rfl rfl ?_
      refine WO.op (G.len_isl rfl rfl rfl tRN rfl) rfl ?_
      by_cases g1 : k < a.length
      · refine WO.as (v' := .bool true) rfl rfl (bdT (by omega)) ?_
        refine WO.op rfl rfl ?_
        refine WO.skip rfl (WO.skip rfl (WO.skip rfl (WO.skip rfl ?_)))
        refine WO.op rfl rfl ?_
        refine WO.op rfl rfl ?_
        refine WO.skip rfl (WO.skip rfl ?_)
        refine WO.op rfl rfl (WO.nil (W.cond (b := true) rfl (fun _ => W.skip ?_) (fun h => by cases h)))
        exact ⟨rfl, ⟨rfl, rfl, rfl, rfl, rfl, trivial⟩, rfl⟩
      · refine WO.as (v' := .bool false) rfl rfl (bdF (by omega)) ?_
        refine WO.op rfl rfl ?_
        refine WO.op rfl rfl ?_
        refine WO.op rfl rfl ?_
        refine WO.op (G.len_isl rfl rfl rfl tRN rfl) rfl ?_
        by_cases g2 : k < b.length
        · refine WO.as (v' := .bool true) rfl rfl (bdT (by omega)) ?_
          refine WO.op rfl rfl ?_
          refine WO.op rfl rfl ?_
          refine WO.skip rfl (WO.skip rfl ?_)
          refine WO.op rfl rfl (WO.nil (W.cond (b := true) rfl (fun _ => W.skip ?_) (fun h => by cases h)))
          exact ⟨rfl, ⟨rfl, rfl, rfl, rfl, rfl, trivial⟩, rfl⟩
        · refine WO.as (v' := .bool false) rfl rfl (bdF (by omega)) ?_
          refine WO.op rfl rfl ?_
          refine WO.op rfl rfl ?_
          refine WO.op rfl rfl ?_
          refine WO.as (v' := .bool true) rfl rfl (bdT (by omega)) ?_
          refine WO.op rfl rfl (WO.nil (W.cond (b := true) rfl (fun _ => W.skip ?_) (fun h => by cases h)))
          exact ⟨rfl, ⟨rfl, rfl, rfl, rfl, rfl, trivial⟩, rfl⟩
    · refine W.seq (W.block ?_)
      refine W.mid (H1 := HH) [(0, .isl (u64s a) 0 a.length none true), (1, .isl (u64s b) 0 b.length none true), (5, v), (6, .int .u64 ((c + a.getD k 0 : Nat) : Int)), (7, iA (k : Int))] (W.seq (W.region ?_)) ?_
      · refine WO.op rfl rfl ?_
        refine WO.op rfl rfl ?_
        refine WO.op (G.len_isl rfl rfl rfl tRN rfl) rfl ?_
        by_cases g1 : k < a.length
        · refine WO.as (v' := .bool true) rfl rfl (bdT (by omega)) (WO.nil (W.cond (b := true) rfl (fun _ => ?_) (fun h => by cases h)))
          refine W.region ?_
          refine WO.op rfl rfl ?_
          refine WO.op rfl rfl ?_
          refine WO.op rfl rfl ?_
          refine WO.op (G.idx_isl rfl rfl tRN rfl tU64 (by omega) (by omega)) rfl ?_
          refine WO.op (G.load_ip rfl tU64 rfl (getD_at g1)) rfl ?_
          refine WO.as (v' := .int .u64 ((c + a.getD k 0 : Nat) : Int)) rfl rfl (int_u64 (by omega) (by omega)) ?_
          exact WO.op rfl rfl (WO.nil ⟨rfl, ⟨rfl, rfl, rfl, rfl, rfl, trivial⟩, rfl⟩)
        · refine WO.as (v' := .bool false) rfl rfl (bdF (by omega)) (WO.nil (W.cond (b := false) rfl (fun h => by cases h) (fun _ => W.skip ?_)))
          rw [getD_over (by omega)]
          exact ⟨rfl, ⟨rfl, rfl, rfl, rfl, rfl, trivial⟩, rfl⟩
      refine W.mid (H1 := HH) [(0, .isl (u64s a) 0 a.length none true), (1, .isl (u64s b) 0 b.length none true), (5, v), (6, .int .u64 ((c + a.getD k 0 + b.getD k 0 : Nat) : Int)), (7, iA (k : Int))] (W.seq (W.region ?_)) ?_
      · refine WO.op rfl rfl ?_
        refine WO.op rfl rfl ?_
        refine WO.op (G.len_isl rfl rfl rfl tRN rfl) rfl ?_
        by_cases g1 : k < b.length
        · refine WO.as (v' := .bool true) rfl rfl (bdT (by omega)) (WO.nil (W.cond (b := true) rfl (fun _ => ?_) (fun h => by cases h)))
          refine W.region ?_
          refine WO.op rfl rfl ?_
          refine WO.op rfl rfl ?_
          refine WO.op rfl rfl ?_
          refine WO.op (G.idx_isl rfl rfl tRN rfl tU64 (by omega) (by omega)) rfl ?_
          refine WO.op (G.load_ip rfl tU64 rfl (getD_at g1)) rfl ?_
          refine WO.as (v' := .int .u64 ((c + a.getD k 0 + b.getD k 0 : Nat) : Int)) rfl rfl (int_u64 (by omega) (by omega)) ?_
          exact WO.op rfl rfl (WO.nil ⟨rfl, ⟨rfl, rfl, rfl, rfl, rfl, trivial⟩, rfl⟩)
        · refine WO.as (v' := .bool false) rfl rfl (bdF (by omega)) (WO.nil (W.cond (b := false) rfl (fun h => by cases h) (fun _ => W.skip ?_)))
          rw [getD_over (by omega : b.length ≤ k)]
          exact ⟨rfl, ⟨rfl, rfl, rfl, rfl, rfl, trivial⟩, rfl⟩
      have hs := hst _ rfl
      have hsb : c + a.getD k 0 + b.getD k 0 < 2000000000 := by omega
      have hmu : 2 * ((a.length - (k + 1)) + (b.length - (k + 1))) + (c + a.getD k 0 + b.getD k 0) / 1000000000 < 2 * ((a.length - k) + (b.length - k)) + c := by
        have h1 := hs.c1
        by_cases g1 : k < a.length
        · omega
        · by_cases g2 : k < b.length
          · omega
          · have e1 := getD_over (l := a) (k := k) (by omega)
            have e2 := getD_over (l := b) (k := k) (by omega)
            omega
      generalize c + a.getD k 0 + b.getD k 0 = s at hs hsb hmu
      have e1 : ((s : Int).tmod 1000000000) = ((s % 1000000000 : Nat) : Int) := (Int.ofNat_tmod s 1000000000).symm
      have e2 : ((s : Int).tdiv 1000000000) = ((s / 1000000000 : Nat) : Int) := (Int.ofNat_tdiv s 1000000000).symm
      refine W.seq (W.region ?_)
      refine WO.op rfl rfl ?_
      refine WO.op rfl rfl ?_
      refine WO.as (v' := .int .u64 ((s % 1000000000 : Nat) : Int)) rfl rfl (int_eq e1) ?_
      refine WO.op (v := .sl HH.length 0 1 (some 1) 1) (H1 := HH ++ [.cells (u64s [s % 1000000000]) 97]) rfl rfl ?_
      obtain ⟨v', H', ho', hd⟩ := outU_app (s % 1000000000) ho hll
      refine WO.op (hd _ _ _ _ _ rfl rfl rfl rfl) rfl ?_
      refine WO.op rfl rfl (WO.nil (W.region ?_))
      refine WO.op rfl rfl ?_
      refine WO.as (v' := .int .u64 ((s / 1000000000 : Nat) : Int)) rfl rfl (int_u64 (by rw [e2]; omega) e2) ?_
      refine WO.op rfl rfl (WO.nil (W.region ?_))
      refine WO.op rfl rfl ?_
      refine WO.as (v' := iA ((k + 1 : Nat) : Int)) rfl rfl (int_i64 (by omega) (by omega)) ?_
      exact WO.op rfl rfl (WO.nil ⟨((k + 1, s / 1000000000, l ++ [s % 1000000000]), H', v'), ⟨ho', hs⟩, hmu, fits_fr ⟨rfl, rfl, rfl, rfl, rfl, trivial⟩, rfl⟩)
  · have hc0 : c = 0 := by omega
    subst hc0
    have hf := hi.fin da db ta tb (by omega) (by omega)
    refine W.seq (W.seq (W.region ?_))
    refine WO.op rfl rfl ?_
    refine WO.op rfl rfl ?_
    refine WO.op (G.len_isl rfl rfl rfl tRN rfl) rfl ?_
    refine WO.as (v' := .bool false) rfl rfl (bdF (by omega)) ?_
    refine WO.op rfl rfl ?_
    refine WO.op rfl rfl ?_
    refine WO.op rfl rfl ?_
    refine WO.op (G.len_isl rfl rfl rfl tRN rfl) rfl ?_
    refine WO.as (v' := .bool false) rfl rfl (bdF (by omega)) ?_
    refine WO.op rfl rfl ?_
    refine WO.op rfl rfl ?_
    refine WO.op rfl rfl ?_
    refine WO.as (v' := .bool false) rfl rfl (bdF (by omega)) ?_
    refine WO.op rfl rfl (WO.nil (W.cond (b := false) rfl (fun h => by cases h) (fun _ => W.exit ?_)))
    refine W.seq (W.region ?_)
    refine WO.op rfl rfl ?_
    refine WO.op rfl rfl (WO.nil (W.ret ⟨trivial, _, rfl, ?_⟩))
    rw [← hR, ← hf]
    exact outU_seal ho
end
end Go.AM.C

/- The reference's numbers: trim. -/
namespace Go.AM.C
open Go.Proofs
noncomputable section
set_option linter.unusedVariables false
set_option linter.unusedSimpArgs false

set_option maxRecDepth 100000 in
theorem trim_sl (id : Nat) (l : List Nat) (k : Nat) (H : Heap) (ty : TypeId) (hH : H[id]? = some (.cells (u64s l) ty)) (hk : k ≤ l.length) (hb : k < 9223372036854775808) :
    Has 96 [.sl id 0 k none 1] H (.sl id 0 (trimN l k) none 1) H := by
  generalize hT : trimN l k = T
  refine does_run s0 (show S0.fn 96 = some Tryz.f96 by kernel_rfl) rfl (by kernel_rfl) (Nat.le_of_ble_eq_true rfl) ?_
  refine W.seq (W.region ?_)
  refine WO.op rfl rfl (WO.nil (W.seq (W.block (W.fits (F' := fr [(0, .sl id 0 k none 1)]) (fits_fr ⟨rfl, trivial⟩) ?_))))
  refine W.loopI (fun j : Nat => j ≤ k ∧ trimN l j = T) (fun j => j) (fun j => fr [(0, .sl id 0 j none 1)]) (fun _ => H) ?_ k ⟨Nat.le_refl _, hT⟩
  rintro j ⟨hj, htr⟩
  by_cases hz : j = 0 ∨ l.getD (j - 1) 0 ≠ 0
  · -- it ends here
    have hend : j = T := by
      rw [← htr]
      cases j with
      | zero => rfl
      | succ j => unfold trimN; rw [if_neg]; simpa using hz
    clear htr
    subst hend
    refine W.seq (W.seq (W.region ?_))
    refine WO.op rfl rfl ?_
    refine WO.op rfl rfl ?_
    cases j with
    | zero =>
      refine WO.as (v' := .bool false) rfl rfl rfl ?_
      refine WO.op rfl rfl ?_
      repeat refine WO.skip rfl ?_
      refine WO.op rfl rfl ?_
      refine WO.nil (W.cond (b := false) rfl (fun h => by cases h) (fun _ => W.exit ?_))
      refine W.seq (W.region ?_)
      repeat refine WO.op rfl rfl ?_
      exact WO.nil (W.ret ⟨trivial, _, rfl, Wk.refl _, rfl⟩)
    | succ j =>
      refine WO.as (v' := .bool true) rfl rfl (by simp) ?_
      refine WO.op rfl rfl ?_
      refine WO.op rfl rfl ?_
      refine WO.op rfl rfl ?_
      refine WO.op rfl rfl ?_
      refine WO.as (v' := .int .i64 (j : Int)) rfl rfl (int_i64 (by omega) (by omega)) ?_
      refine WO.op (G.idx_sl rfl rfl tRN rfl tU64 rfl (by omega) (by omega)) rfl ?_
      refine WO.op (G.load_ptr rfl tU64 rfl hH (u64s_at (by omega))) rfl ?_
      refine WO.as (v' := .bool false) rfl rfl (by simpa using hz) ?_
      repeat refine WO.op rfl rfl ?_
      refine WO.nil (W.cond (b := false) rfl (fun h => by cases h) (fun _ => W.exit ?_))
      refine W.seq (W.region ?_)
      repeat refine WO.op rfl rfl ?_
      exact WO.nil (W.ret ⟨trivial, _, rfl, Wk.refl _, rfl⟩)
  · -- one less
    obtain ⟨j, rfl⟩ : ∃ m, j = m + 1 := ⟨j - 1, by omega⟩
    have h0 : l.getD j 0 = 0 := by
      by_cases h : l.getD j 0 = 0
      · exact h
      · exact absurd (.inr h) hz
    have hl0 : (l.getD j 0 : Nat) = 0 := h0
    refine W.seq (W.seq (W.region ?_))
    refine WO.op rfl rfl ?_
    refine WO.op rfl rfl ?_
    refine WO.as (v' := .bool true) rfl rfl (by simp) ?_
    refine WO.op rfl rfl ?_
    refine WO.op rfl rfl ?_
    refine WO.op rfl rfl ?_
    refine WO.op rfl rfl ?_
    refine WO.as (v' := .int .i64 (j : Int)) rfl rfl (int_i64 (by omega) (by omega)) ?_
    refine WO.op (G.idx_sl rfl rfl tRN rfl tU64 rfl (by omega) (by omega)) rfl ?_
    refine WO.op (G.load_ptr rfl tU64 rfl hH (u64s_at (by omega))) rfl ?_
    refine WO.as (v' := .bool true) rfl rfl (by rw [h0]; rfl) ?_
    refine WO.op rfl rfl (WO.nil (W.cond (b := true) rfl (fun _ => W.skip ?_) (fun h => by cases h)))
    refine W.block (W.region ?_)
    refine WO.op rfl rfl ?_
    refine WO.op rfl rfl ?_
    refine WO.op rfl rfl ?_
    refine WO.as (v' := .int .i64 (j : Int)) rfl rfl (int_i64 (by omega) (by omega)) ?_
    refine WO.op (G.slice_sl (l := 0) (h := j) rfl tRN rfl tU64 rfl rfl ⟨_, rfl⟩ (by omega) (by simp) (by simp)) rfl ?_
    refine WO.op rfl rfl (WO.nil ⟨j, ⟨by omega, ?_⟩, by omega, fits_fr ⟨rfl, trivial⟩, rfl⟩)
    rw [← htr]
    show trimN l j = trimN l (j + 1)
    rw [trimN, if_pos h0]
/-- A row that is not there. -/
theorem trim_nils (H : Heap) : Has 96 [.nils] H .nils H := by
  refine does_run s0 (show S0.fn 96 = some Tryz.f96 by kernel_rfl) rfl (by kernel_rfl) (Nat.le_of_ble_eq_true rfl) ?_
  refine W.seq (W.region ?_)
  refine WO.op rfl rfl (WO.nil (W.seq (W.block (W.fits (F' := fr [(0, .nils)]) (fits_fr ⟨rfl, trivial⟩) ?_))))
  refine W.loopI (fun _ : Nat => True) (fun j => j) (fun j => fr [(0, .nils)]) (fun _ => H) ?_ 0 trivial
  rintro j _
  refine W.seq (W.seq (W.region ?_))
  refine WO.op rfl rfl ?_
  refine WO.op rfl rfl ?_
  refine WO.op rfl rfl ?_
  refine WO.op rfl rfl ?_
  repeat refine WO.skip rfl ?_
  refine WO.op rfl rfl ?_
  refine WO.nil (W.cond (b := false) rfl (fun h => by cases h) (fun _ => W.exit ?_))
  refine W.seq (W.region ?_)
  repeat refine WO.op rfl rfl ?_
  exact WO.nil (W.ret ⟨trivial, _, rfl, Wk.refl _, rfl⟩)
end
end Go.AM.C

/- The reference's numbers: Sub, plain. -/
namespace Go.AM
set_option linter.unusedVariables false
set_option linter.unusedSimpArgs false
theorem WT.as {S : Sg} {n : Nat} {ops : Array Oper} {F : Fr} {H : Heap} {K : Fr → Heap → Prop} {k : Nat} {o : Oper} {rest : List Oper} {H1 : Heap} {v v' : AVal} (hop : denG S (callS S) true (opdF S F) H o.op = some (v, H1)) (hw : wantedF ops F o = some true) (ha : isAlloc o.op = false) (e : v = v')
    (next : WT S n ops rest k (putF F o.dst v') H1 K) : WT S n ops (o :: rest) k F H K := WT.op (by rw [← e]; exact hop) hw ha next
section
variable {S : Sg} {call : Calling} {d : Bool} {g : Operand → AVal} {H : Heap} {c : Call} {t e : TypeId} {ti te : TI} {news : List AVal} {cap2 : Option Nat} {cl : Bool}
/-- All of a row, on a row that is not there. -/
theorem G.append_whole {n : Nat} (hc : c.callee = .builtin .append) (ha : c.args.toList.map g = [.nils, .isl news 0 (n + 1) cap2 cl]) (hta : c.argTypes.toList = [t, t]) (ht : S.ty t = some ti) (hd : ti.desc = .slice e) (he : S.ty e = some te) (hn : news.length = (n + 1) * te.size) (hcl : news.all AVal.cell = true) (hb : te.bytes ≤ 1024) (hl : n < 1073741824) :
    denG S call d g H (.call c) = some (.sl H.length 0 (n + 1) none te.size, H ++ [.cells news e]) := by
  obtain ⟨d1, d2, d3, d4, d5, d6, d7, d8⟩ := ti
  simp only at hd
  subst hd
  have hsc : sliceCells H te.size (.isl news 0 (n + 1) cap2 cl) = some (news, n + 1) := by
    unfold sliceCells
    simp only
    rw [if_pos (by omega), List.drop_zero, List.take_of_length_le (by omega)]
  simp only [denG, hc, ha, hta, denAppend, ht, he, hsc, hcl]
  have h1 : (n + 1) * te.bytes ≤ 140737488355328 := by
    have : (n + 1) * te.bytes ≤ 1073741824 * 1024 := Nat.mul_le_mul (by omega) hb
    omega
  rw [if_neg (by decide), if_pos ⟨h1, by omega⟩]
end
end Go.AM
namespace Go.AM.C
set_option linter.unusedVariables false
set_option linter.unusedSimpArgs false

theorem dval_set : ∀ {l : List Nat} {i x : Nat} (z : Nat), l[i]? = some x → dval (l.set i z) + 1000000000 ^ i * x = dval l + 1000000000 ^ i * z
  | [], i, x, z, h => by simp at h
  | d :: l, 0, x, z, h => by
    have : d = x := by simpa using h
    subst this
    simp only [List.set_cons_zero, dval, Nat.pow_zero, Nat.one_mul]
    omega
  | d :: l, i + 1, x, z, h => by
    have ih := dval_set z (show l[i]? = some x by simpa using h)
    simp only [List.set_cons_succ, dval, Nat.pow_succ]
    have e1 : 1000000000 ^ i * 1000000000 * x = 1000000000 * (1000000000 ^ i * x) := by rw [Nat.mul_comm (1000000000 ^ i) 1000000000, Nat.mul_assoc]
    have e2 : 1000000000 ^ i * 1000000000 * z = 1000000000 * (1000000000 ^ i * z) := by rw [Nat.mul_comm (1000000000 ^ i) 1000000000, Nat.mul_assoc]
    rw [e1, e2]
    omega
theorem set_dg {l : List Nat} (h : Dg l) {i z : Nat} (hz : z < 1000000000) : Dg (l.set i z) := fun x hx => by
  rcases List.mem_or_eq_of_mem_set hx with hx | hx
  · exact h x hx
  · rw [hx]; exact hz
/-- What Sub knows after i digits. -/
structure SubI (a b l : List Nat) (i : Nat) : Prop where
  len : l.length = a.length
  dg : Dg l
  val : dval l + dval (b.take i) = dval a
theorem SubI.easy {a b l : List Nat} {i x y : Nat} (h : SubI a b l i) (hx : l[i]? = some x) (hy : b[i]? = some y) (hxy : y ≤ x) : SubI a b (l.set i (x - y)) (i + 1) := by
  obtain ⟨h1, h2, h3⟩ := h
  have hxb := h2 x (List.mem_of_getElem? hx)
  refine ⟨by rw [List.length_set, h1], set_dg h2 (by omega), ?_⟩
  have e := dval_set (x - y) hx
  rw [dval_take_succ hy]
  have e2 : 1000000000 ^ i * x = 1000000000 ^ i * (x - y) + 1000000000 ^ i * y := by rw [← Nat.mul_add, Nat.sub_add_cancel hxy]
  omega
theorem sub_pos {a b l : List Nat} {i x y : Nat} (h : SubI a b l i) (hx : l[i]? = some x) (hy : b[i]? = some y) (hxy : x < y) (hba : dval b ≤ dval a) : 0 < dval (l.drop (i + 1)) := by
  obtain ⟨h1, h2, h3⟩ := h
  have hil : i < l.length := (List.getElem?_eq_some_iff.1 hx).1
  have hib : i < b.length := (List.getElem?_eq_some_iff.1 hy).1
  have s1 := dval_split l (i + 1) hil
  rw [dval_take_succ hx] at s1
  have s2 := dval_split b (i + 1) hib
  rw [dval_take_succ hy] at s2
  have t1 := dval_lt (h2.take i)
  rw [List.length_take, Nat.min_eq_left (by omega)] at t1
  have e2 : 1000000000 ^ i * (x + 1) ≤ 1000000000 ^ i * y := Nat.mul_le_mul_left _ hxy
  rw [Nat.mul_add] at e2
  rcases Nat.eq_zero_or_pos (dval (l.drop (i + 1))) with h0 | h0
  · rw [h0, Nat.mul_zero] at s1
    omega
  · exact h0
/-- While a borrow goes up. -/
structure SubB (a l1 lk : List Nat) (i k : Nat) : Prop where
  len : lk.length = a.length
  dg : Dg lk
  val : dval lk + 1000000000 ^ (i + 1) = dval l1 + 1000000000 ^ k
  drop : lk.drop k = l1.drop k
  pos : 0 < dval (l1.drop k)
  ik : i < k
theorem SubB.start {a b l : List Nat} {i x y : Nat} (h : SubI a b l i) (hx : l[i]? = some x) (hy : b[i]? = some y) (hxy : x < y) (hyb : y < 1000000000) (hba : dval b ≤ dval a) : SubB a (l.set i (x + (1000000000 - y))) (l.set i (x + (1000000000 - y))) i (i + 1) := by
  refine ⟨by rw [List.length_set, h.len], set_dg h.dg (by omega), rfl, rfl, ?_, Nat.lt_succ_self i⟩
  rw [List.drop_set_of_lt (Nat.lt_succ_self i)]
  exact sub_pos h hx hy hxy hba
theorem SubB.lt {a l1 lk : List Nat} {i k : Nat} (h : SubB a l1 lk i k) : k < lk.length := by
  rcases Nat.lt_or_ge k lk.length with h1 | h1
  · exact h1
  · have := h.pos
    rw [← h.drop, List.drop_eq_nil_of_le h1] at this
    exact absurd this (by decide)
theorem SubB.next {a l1 lk : List Nat} {i k : Nat} (h : SubB a l1 lk i k) (h0 : lk[k]? = some 0) : SubB a l1 (lk.set k 999999999) i (k + 1) := by
  obtain ⟨h1, h2, h3, h4, h5, h6⟩ := h
  have hk : k < lk.length := (List.getElem?_eq_some_iff.1 h0).1
  have hd : lk.drop k = 0 :: lk.drop (k + 1) := by
    rw [List.drop_eq_getElem_cons hk, (List.getElem?_eq_some_iff.1 h0).2]
  have hd1 : lk.drop (k + 1) = l1.drop (k + 1) := by
    have e1 : (lk.drop k).drop 1 = (l1.drop k).drop 1 := by rw [h4]
    simpa [List.drop_drop] using e1
  refine ⟨by rw [List.length_set, h1], set_dg h2 (by decide), ?_, by rw [List.drop_set_of_lt (Nat.lt_succ_self k), hd1], ?_, by omega⟩
  · have e := dval_set 999999999 h0
    rw [Nat.mul_zero, Nat.add_zero] at e
    rw [e, Nat.pow_succ 1000000000 k]
    omega
  · rw [← h4, hd] at h5
    simp only [dval] at h5
    rw [← hd1]
    omega
theorem SubB.last {a b l lk : List Nat} {i k x y z : Nat} (hi : SubI a b l i) (hx : l[i]? = some x) (hy : b[i]? = some y) (hxy : x < y) (hyb : y < 1000000000) (h : SubB a (l.set i (x + (1000000000 - y))) lk i k) (hz : lk[k]? = some z) (h0 : z ≠ 0) : SubI a b (lk.set k (z - 1)) (i + 1) := by
  obtain ⟨h1, h2, h3, h4, h5, h6⟩ := h
  have hzb := h2 z (List.mem_of_getElem? hz)
  refine ⟨by rw [List.length_set, h1], set_dg h2 (by omega), ?_⟩
  have e1 := dval_set (z - 1) hz
  have e2 := dval_set (x + (1000000000 - y)) hx
  have v := hi.val
  rw [dval_take_succ hy]
  have e3 : 1000000000 ^ k * z = 1000000000 ^ k * (z - 1) + 1000000000 ^ k := by
    have : z = (z - 1) + 1 := by omega
    rw [show 1000000000 ^ k * z = 1000000000 ^ k * ((z - 1) + 1) by rw [← this], Nat.mul_add, Nat.mul_one]
  have e4 : 1000000000 ^ i * (x + (1000000000 - y)) + 1000000000 ^ i * y = 1000000000 ^ i * x + 1000000000 ^ (i + 1) := by
    rw [← Nat.mul_add, show x + (1000000000 - y) + y = x + 1000000000 by omega, Nat.mul_add, Nat.pow_succ]
  omega
theorem trimD_val (l : List Nat) : ∀ k, k ≤ l.length → dval (l.take (trimN l k)) = dval (l.take k)
  | 0, _ => rfl
  | k + 1, h => by
    unfold trimN
    split
    · rename_i h0
      rw [trimD_val l k (by omega), take_step, h0, Nat.mul_zero, Nat.add_zero]
    · rfl
theorem trimD_top (l : List Nat) : ∀ k, k ≤ l.length → Top (l.take (trimN l k))
  | 0, _ => fun d h => by simp [trimN] at h
  | k + 1, h => by
    unfold trimN
    split
    · exact trimD_top l k (by omega)
    · rename_i h0
      intro d hd
      rw [take_succ_getD h, List.getLast?_concat] at hd
      rw [← Option.some.inj hd]
      exact h0
theorem trimD (l : List Nat) (h : Dg l) : l.take (trimN l l.length) = digs (dval l) := by
  have h1 := trimD_val l l.length (Nat.le_refl _)
  rw [List.take_length] at h1
  rw [← h1]
  exact (digs_of _ (h.take _) (trimD_top l l.length (Nat.le_refl _))).symm
end Go.AM.C

/- The reference's numbers: Sub. -/
namespace Go.AM.C
open Go.Proofs
noncomputable section
set_option linter.unusedVariables false
set_option linter.unusedSimpArgs false

theorem u64s_atg {l : List Nat} {k x : Nat} (h : l[k]? = some x) : (u64s l)[0 + (k : Int).toNat * 1]? = some (.int .u64 (x : Int)) := by rw [idx0]; exact u64s_get h
abbrev uO (l : List Nat) : AObj := .cells (u64s l) 97

set_option maxRecDepth 100000 in
theorem rsub_has (m n : Nat) (hnm : n ≤ m) (hm : (digs m).length < 268435456) (H : Heap) : Has 43 [rD m, rD n] H (rD (m - n)) H := by
  generalize hR : rD (m - n) = R
  refine does_pure s0 (show S0.fn 43 = some Tryz.f43 by kernel_rfl) rfl (by kernel_rfl) (Nat.le_of_ble_eq_true rfl) rfl (by rw [← hR]; rfl) ?_
  have hle : (digs n).length ≤ (digs m).length := by
    rcases Nat.lt_or_ge (digs m).length (digs n).length with h | h
    · have := lt_of_len h; omega
    · exact h
  have da := digs_dg m
  have db := digs_dg n
  have va := dval_digs m
  have vb := dval_digs n
  unfold rD at hR ⊢
  have hba : dval (digs n) ≤ dval (digs m) := by rw [va, vb]; exact hnm
  rw [← va, ← vb] at hR
  clear va vb
  generalize digs m = a at *
  generalize digs n = b at *
  refine W.seq (W.region ?_)
  refine WO.op rfl rfl (WO.nil (W.seq (W.region ?_)))
  refine WO.op rfl rfl ?_
  cases a with
  | nil =>
    have hb : b = [] := List.eq_nil_of_length_eq_zero (by simpa using hle)
    subst hb
    refine WO.op rfl rfl ?_
    refine WO.op rfl rfl (WO.nil (W.seq (W.seq (W.region ?_))))
    refine WO.op rfl rfl (WO.nil (W.block ?_))
    refine W.fits (F' := fr [(1, .isl (u64s []) 0 0 none true), (5, .nils), (6, iA 0)]) (fits_fr ⟨rfl, rfl, rfl, trivial⟩) ?_
    refine W.loopI (fun _ : Nat => True) (fun j => j) (fun j => fr [(1, .isl (u64s []) 0 0 none true), (5, .nils), (6, iA 0)]) (fun _ => []) ?_ 0 trivial
    rintro j _
    refine W.seq (W.seq (W.region ?_))
    refine WO.op rfl rfl ?_
    refine WO.op rfl rfl ?_
    refine WO.op rfl rfl ?_
    refine WO.op rfl rfl (WO.nil (W.cond (b := false) rfl (fun h => by cases h) (fun _ => W.exit ?_)))
    refine W.seq (W.region ?_)
    refine WO.op rfl rfl ?_
    refine WO.call rfl (trim_nils _) rfl ?_
    refine WO.op rfl rfl (WO.nil (W.ret ⟨trivial, _, rfl, ?_⟩))
    rw [← hR]
    exact .wk _ _ _ wk_nilsD (.same _ rfl)
  | cons a0 a1 =>
    refine WO.op (G.append_whole (n := a1.length) (ti := ti34) (te := ti97) (cap2 := none) (cl := true) rfl rfl rfl tRN rfl tU64 (by rw [u64s_len]; exact (Nat.mul_one _).symm) (by simp [u64s, AVal.cell]) (by decide) (by simp at hm; omega)) rfl ?_
    refine WO.op rfl rfl (WO.nil (W.seq (W.seq (W.region ?_))))
    refine WO.op rfl rfl (WO.nil (W.block ?_))
    have hlen : (a0 :: a1).length = a1.length + 1 := rfl
    generalize hA : a0 :: a1 = a at *
    refine W.heq (H' := [uO a]) rfl ?_
    refine W.fits (F' := fr [(1, .isl (u64s b) 0 b.length none true), (5, .sl 0 0 (a1.length + 1) none 1), (6, iA ((0 : Nat) : Int))]) (fits_fr ⟨rfl, rfl, rfl, trivial⟩) ?_
    refine W.loopI (α := Nat × List Nat) (fun s => SubI a b s.2 s.1 ∧ s.1 ≤ b.length) (fun s => b.length - s.1) (fun s => fr [(1, .isl (u64s b) 0 b.length none true), (5, .sl 0 0 (a1.length + 1) none 1), (6, iA (s.1 : Int))]) (fun s => [uO s.2]) ?_ (0, a) ⟨⟨rfl, da, by simp [dval]⟩, Nat.zero_le _⟩
    rintro ⟨i, l⟩ ⟨hi, hib⟩
    simp only at hi hib
    change W _ _ _ _ (fr [(1, .isl (u64s b) 0 b.length none true), (5, .sl 0 0 (a1.length + 1) none 1), (6, iA (i : Int))]) [uO l] _
    have hl := hi.len
    refine W.seq (W.seq (W.region ?_))
    refine WO.op rfl rfl ?_
    refine WO.op rfl rfl ?_
    refine WO.op (G.len_isl rfl rfl rfl tRN rfl) rfl ?_
    by_cases hlt : i < b.length
    · refine WO.as (v' := .bool true) rfl rfl (bdT (by omega)) (WO.nil (W.cond (b := true) rfl (fun _ => W.skip ?_) (fun h => by cases h)))
      have hil : i < l.length := by omega
      obtain ⟨x, hx⟩ : ∃ x, l[i]? = some x := ⟨_, List.getElem?_eq_getElem hil⟩
      obtain ⟨y, hy⟩ : ∃ y, b[i]? = some y := ⟨_, List.getElem?_eq_getElem hlt⟩
      have hxb := hi.dg x (List.mem_of_getElem? hx)
      have hyb := db y (List.mem_of_getElem? hy)
      refine W.seq (W.block (W.seq (W.seq (W.draw0 rfl (by kernel_rfl) ?_))))
      refine WT.op rfl rfl rfl ?_
      refine WT.op rfl rfl rfl ?_
      refine WT.op (G.idx_sl rfl rfl tRN rfl tU64 rfl (by omega) (by omega)) rfl rfl ?_
      refine WT.op (G.load_ptr rfl tU64 rfl (rfl : [uO l][0]? = some (uO l)) (u64s_atg hx)) rfl rfl ?_
      refine WT.op rfl rfl rfl ?_
      refine WT.op rfl rfl rfl ?_
      refine WT.op (G.idx_isl rfl rfl tRN rfl tU64 (by omega) (by omega)) rfl rfl ?_
      refine WT.op (G.load_ip rfl tU64 rfl (u64s_atg hy)) rfl rfl ?_
      refine WT.op rfl rfl rfl (WT.nil (W.cond (b := decide ((x : Int) ≥ (y : Int))) rfl (fun h => ?_) (fun h => ?_)))
      · have hxy : y ≤ x := by have : (x : Int) ≥ (y : Int) := by simpa using h
                               omega
        refine W.seq (W.draw0 rfl (by kernel_rfl) ?_)
        refine WT.op rfl rfl rfl ?_
        refine WT.op rfl rfl rfl ?_
        refine WT.op (G.idx_sl rfl rfl tRN rfl tU64 rfl (by omega) (by omega)) rfl rfl ?_
        refine WT.op (G.load_ptr rfl tU64 rfl (rfl : [uO l][0]? = some (uO l)) (u64s_atg hx)) rfl rfl ?_
        refine WT.op rfl rfl rfl ?_
        refine WT.op rfl rfl rfl ?_
        refine WT.op (G.idx_isl rfl rfl tRN rfl tU64 (by omega) (by omega)) rfl rfl ?_
        refine WT.op (G.load_ip rfl tU64 rfl (u64s_atg hy)) rfl rfl ?_
        refine WT.as (v' := .int .u64 ((x - y : Nat) : Int)) rfl rfl rfl (int_u64 (by omega) (by omega)) ?_
        refine WT.op (G.idx_sl rfl rfl tRN rfl tU64 rfl (by omega) (by omega)) rfl rfl ?_
        refine WT.op (G.store_u64 rfl rfl tU64 rfl (rfl : [uO l][0]? = some (uO l)) hil) rfl rfl (WT.nil (W.exit ?_))
        refine W.region ?_
        refine WO.op rfl rfl ?_
        refine WO.as (v' := iA ((i + 1 : Nat) : Int)) rfl rfl (int_i64 (by omega) (by omega)) ?_
        exact WO.op rfl rfl (WO.nil ⟨(i + 1, l.set i (x - y)), ⟨hi.easy hx hy hxy, hlt⟩, by simp only; omega, fits_fr ⟨rfl, rfl, rfl, trivial⟩, rfl⟩)
      · have hxy : x < y := by have : ¬ (x : Int) ≥ (y : Int) := by simpa using h
                               omega
        have hsb := SubB.start hi hx hy hxy hyb hba
        have hlst := fun lk k z => SubB.last (lk := lk) (k := k) (z := z) hi hx hy hxy hyb
        refine W.skip (W.seq (W.draw0 rfl (by kernel_rfl) ?_))
        refine WT.op rfl rfl rfl ?_
        refine WT.op rfl rfl rfl ?_
        refine WT.op (G.idx_sl rfl rfl tRN rfl tU64 rfl (by omega) (by omega)) rfl rfl ?_
        refine WT.op (G.load_ptr rfl tU64 rfl (rfl : [uO l][0]? = some (uO l)) (u64s_atg hx)) rfl rfl ?_
        refine WT.op rfl rfl rfl ?_
        refine WT.op rfl rfl rfl ?_
        refine WT.op (G.idx_isl rfl rfl tRN rfl tU64 (by omega) (by omega)) rfl rfl ?_
        refine WT.op (G.load_ip rfl tU64 rfl (u64s_atg hy)) rfl rfl ?_
        refine WT.as (v' := .int .u64 ((1000000000 - y : Nat) : Int)) rfl rfl rfl (int_u64 (by omega) (by omega)) ?_
        refine WT.as (v' := .int .u64 ((x + (1000000000 - y) : Nat) : Int)) rfl rfl rfl (int_u64 (by omega) (by omega)) ?_
        refine WT.op (G.idx_sl rfl rfl tRN rfl tU64 rfl (by omega) (by omega)) rfl rfl ?_
        refine WT.op (G.store_u64 rfl rfl tU64 rfl (rfl : [uO l][0]? = some (uO l)) hil) rfl rfl (WT.nil ?_)
        generalize l.set i (x + (1000000000 - y)) = l1 at hsb hlst
        refine W.heq (H' := [uO l1]) rfl ?_
        refine W.seq (W.region ?_)
        refine WO.op rfl rfl ?_
        refine WO.as (v' := iA ((i + 1 : Nat) : Int)) rfl rfl (int_i64 (by omega) (by omega)) ?_
        refine WO.op rfl rfl (WO.nil (W.seq (W.block ?_)))
        refine W.fits (F' := fr [(1, .isl (u64s b) 0 b.length none true), (5, .sl 0 0 (a1.length + 1) none 1), (6, iA (i : Int)), (7, iA ((i + 1 : Nat) : Int))]) (fits_fr ⟨rfl, rfl, rfl, rfl, trivial⟩) ?_
        refine W.loopI (α := Nat × List Nat) (fun s => SubB a l1 s.2 i s.1) (fun s => a.length - s.1) (fun s => fr [(1, .isl (u64s b) 0 b.length none true), (5, .sl 0 0 (a1.length + 1) none 1), (6, iA (i : Int)), (7, iA (s.1 : Int))]) (fun s => [uO s.2]) ?_ (i + 1, l1) hsb
        rintro ⟨k, lk⟩ hk
        simp only at hk
        change W _ _ _ _ (fr [(1, .isl (u64s b) 0 b.length none true), (5, .sl 0 0 (a1.length + 1) none 1), (6, iA (i : Int)), (7, iA (k : Int))]) [uO lk] _
        have hkl := hk.lt
        have hkn := hk.len
        obtain ⟨z, hz⟩ : ∃ z, lk[k]? = some z := ⟨_, List.getElem?_eq_getElem hkl⟩
        have hzb := hk.dg z (List.mem_of_getElem? hz)
        refine W.seq (W.seq (W.region ?_))
        refine WO.op rfl rfl ?_
        refine WO.op rfl rfl ?_
        refine WO.op (G.idx_sl rfl rfl tRN rfl tU64 rfl (by omega) (by omega)) rfl ?_
        refine WO.op (G.load_ptr rfl tU64 rfl (rfl : [uO lk][0]? = some (uO lk)) (u64s_atg hz)) rfl ?_
        by_cases h0 : z = 0
        · subst h0
          refine WO.as (v' := .bool true) rfl rfl rfl (WO.nil (W.cond (b := true) rfl (fun _ => W.skip ?_) (fun h => by cases h)))
          refine W.block (W.seq (W.region ?_))
          refine WO.op rfl rfl ?_
          refine WO.op rfl rfl ?_
          refine WO.op (G.idx_sl rfl rfl tRN rfl tU64 rfl (by omega) (by omega)) rfl ?_
          refine WO.op (G.store_u64 (x := 999999999) rfl rfl tU64 rfl (rfl : [uO lk][0]? = some (uO lk)) hkl) rfl ?_
          refine WO.nil (W.region ?_)
          refine WO.op rfl rfl ?_
          refine WO.as (v' := iA ((k + 1 : Nat) : Int)) rfl rfl (int_i64 (by omega) (by omega)) ?_
          exact WO.op rfl rfl (WO.nil ⟨(k + 1, lk.set k 999999999), hk.next hz, by simp only; omega, fits_fr ⟨rfl, rfl, rfl, rfl, trivial⟩, rfl⟩)
        · have hfin := hlst lk k z hk hz h0
          refine WO.as (v' := .bool false) rfl rfl (by simpa using h0) (WO.nil (W.cond (b := false) rfl (fun h => by cases h) (fun _ => W.exit ?_)))
          refine W.region ?_
          refine WO.op rfl rfl ?_
          refine WO.op rfl rfl ?_
          refine WO.op (G.idx_sl rfl rfl tRN rfl tU64 rfl (by omega) (by omega)) rfl ?_
          refine WO.op (G.load_ptr rfl tU64 rfl (rfl : [uO lk][0]? = some (uO lk)) (u64s_atg hz)) rfl ?_
          refine WO.as (v' := .int .u64 ((z - 1 : Nat) : Int)) rfl rfl (int_u64 (by omega) (by omega)) ?_
          refine WO.op (G.idx_sl rfl rfl tRN rfl tU64 rfl (by omega) (by omega)) rfl ?_
          refine WO.op (G.store_u64 rfl rfl tU64 rfl (rfl : [uO lk][0]? = some (uO lk)) hkl) rfl ?_
          refine WO.nil (W.region ?_)
          refine WO.op rfl rfl ?_
          refine WO.as (v' := iA ((i + 1 : Nat) : Int)) rfl rfl (int_i64 (by omega) (by omega)) ?_
          exact WO.op rfl rfl (WO.nil ⟨(i + 1, lk.set k (z - 1)), ⟨hfin, hlt⟩, by simp only; omega, fits_fr ⟨rfl, rfl, rfl, trivial⟩, rfl⟩)
    · have hie : i = b.length := by omega
      subst hie
      have hv := hi.val
      rw [List.take_length] at hv
      have ht := trimD l hi.dg
      refine WO.as (v' := .bool false) rfl rfl (bdF (by omega)) (WO.nil (W.cond (b := false) rfl (fun h => by cases h) (fun _ => W.exit ?_)))
      refine W.seq (W.region ?_)
      refine WO.op rfl rfl ?_
      have hll : l.length = a1.length + 1 := by omega
      rw [hll] at ht
      have hTl := trimN_le l (a1.length + 1)
      refine WO.call rfl (trim_sl 0 l (a1.length + 1) [uO l] 97 rfl (by omega) (by omega)) rfl ?_
      generalize trimN l (a1.length + 1) = T at ht hTl
      have hTT : (l.take T).length = T := by rw [List.length_take]; omega
      have hvv : dval l = dval a - dval b := by omega
      rw [hvv] at ht
      rw [← ht, hTT] at hR
      refine WO.op rfl rfl (WO.nil (W.ret ⟨trivial, _, rfl, ?_⟩))
      rw [← hR]
      refine Seals.sl 0 0 T none 1 (u64s l) 97 _ rfl (by rw [u64s_len]; omega) (by rw [u64s_len]; omega) (fun j x y hx hy => ?_) (u64s_closed _)
      rw [Nat.zero_add] at hx
      have hxy : x = y := by
        have hj : j < T := by have := (List.getElem?_eq_some_iff.1 hy).1; rw [u64s_len, hTT] at this; exact this
        rw [← u64s_take, List.getElem?_take_of_lt hj, hx] at hy
        exact Option.some.inj hy
      subst hxy
      exact Seals.same _ (closed1_ (u64s_closed _ _ (List.mem_of_getElem? hx)))
end
end Go.AM.C

/- The reference's integers: Int, Of, Minus. -/
namespace Go.AM.C
open Go.Proofs
noncomputable section
set_option linter.unusedVariables false
set_option linter.unusedSimpArgs false

/-- An integer of the reference's. -/
def rI (z : Int) : AVal := .agg [.bool (decide (z < 0)), rD z.natAbs]
theorem rI_closed (z : Int) : (rI z).closed = true := rfl
theorem digs_nil {n : Nat} : (digs n).length = 0 ↔ n = 0 := by
  constructor
  · intro h
    have := dval_digs n
    rw [List.eq_nil_of_length_eq_zero h] at this
    exact this.symm
  · intro h; subst h; rw [digs_zero]; rfl
def sgn (neg : Bool) (n : Nat) : Int := bif neg then -(n : Int) else (n : Int)
theorem rI_sgn (neg : Bool) (n : Nat) : rI (sgn neg n) = .agg [.bool (neg && decide (0 < ((digs n).length : Int))), rD n] := by
  have h := @digs_nil n
  cases neg with
  | false =>
    show AVal.agg [.bool (decide ((n : Int) < 0)), rD ((n : Int).natAbs)] = _
    rw [decide_eq_false (by omega), Int.natAbs_natCast]; rfl
  | true =>
    show AVal.agg [.bool (decide (-(n : Int) < 0)), rD ((-(n : Int)).natAbs)] = _
    rw [Int.natAbs_neg, Int.natAbs_natCast, Bool.true_and]
    congr 3
    exact decide_eq_decide.2 (by omega)
set_option maxRecDepth 100000 in
theorem rint_has (neg : Bool) (n : Nat) (hn : (digs n).length < 4611686018427387904) (H : Heap) : Has 40 [.bool neg, rD n] H (rI (sgn neg n)) H := by
  rw [rI_sgn]
  refine does_pure s0 (show S0.fn 40 = some Tryz.f40 by kernel_rfl) rfl (by kernel_rfl) (Nat.le_of_ble_eq_true rfl) rfl rfl ?_
  unfold rD
  generalize digs n = d at hn
  refine W.seq (W.region ?_)
  refine WO.op rfl rfl (WO.nil (W.seq (W.region ?_)))
  refine WO.op rfl rfl ?_
  refine WO.op rfl rfl ?_
  cases neg with
  | false =>
    refine WO.skip rfl (WO.skip rfl (WO.skip rfl ?_))
    refine WO.op rfl rfl ?_
    refine WO.op rfl rfl ?_
    refine WO.op rfl rfl ?_
    refine WO.op rfl rfl (WO.nil (W.ret ⟨trivial, _, rfl, Seals.same _ rfl⟩))
  | true =>
    refine WO.op rfl rfl ?_
    refine WO.op (G.len_isl rfl rfl rfl tRN rfl) rfl ?_
    refine WO.op (v := .bool (decide (0 < (d.length : Int)))) rfl rfl ?_
    refine WO.op rfl rfl ?_
    refine WO.op rfl rfl ?_
    refine WO.op rfl rfl ?_
    exact WO.op rfl rfl (WO.nil (W.ret ⟨trivial, _, rfl, Seals.same _ rfl⟩))

theorem u64_of_i64 {x : Int} (h : i64 x) (h0 : 0 ≤ x) : x = (x.natAbs : Int) := by omega
set_option maxRecDepth 100000 in
theorem rof_has (x : Int) (hx : i64 x) (H : Heap) : Has 12 [iA x] H (rI x) H := by
  unfold i64 at hx
  refine does_pure s0 (show S0.fn 12 = some Tryz.f12 by kernel_rfl) rfl (by kernel_rfl) (Nat.le_of_ble_eq_true rfl) rfl rfl ?_
  refine W.seq (W.region ?_)
  refine WO.op rfl rfl (WO.nil (W.seq (W.seq (W.region ?_))))
  refine WO.op rfl rfl ?_
  by_cases h0 : x < 0
  · have e : rI x = .agg [.bool true, rD x.natAbs] := by unfold rI; rw [decide_eq_true h0]
    rw [e]
    refine WO.as (v' := .bool true) rfl rfl (bdT (by omega)) (WO.nil (W.cond (b := true) rfl (fun _ => ?_) (fun h => by cases h)))
    refine W.seq (W.region ?_)
    refine WO.op rfl rfl ?_
    refine WO.as (v' := iA (x + 1)) rfl rfl (int_i64 (by omega) rfl) ?_
    refine WO.as (v' := iA (-(x + 1))) rfl rfl (int_i64 (by omega) (by omega)) ?_
    refine WO.as (v' := .int .u64 (-(x + 1))) rfl rfl (int_u64 (by omega) rfl) ?_
    refine WO.as (v' := .int .u64 ((x.natAbs : Nat) : Int)) rfl rfl (int_u64 (by omega) (by omega)) ?_
    refine WO.call rfl (ofU_has x.natAbs (by omega) _) rfl ?_
    refine WO.op rfl rfl ?_
    exact WO.op rfl rfl (WO.nil (W.ret ⟨trivial, _, rfl, Seals.same _ rfl⟩))
  · have e : rI x = .agg [.bool false, rD x.natAbs] := by unfold rI; rw [decide_eq_false h0]
    rw [e]
    refine WO.as (v' := .bool false) rfl rfl (bdF (by omega)) (WO.nil (W.cond (b := false) rfl (fun h => by cases h) (fun _ => W.skip ?_)))
    refine W.seq (W.region ?_)
    refine WO.op rfl rfl ?_
    refine WO.as (v' := .int .u64 ((x.natAbs : Nat) : Int)) rfl rfl (int_u64 (by omega) (by omega)) ?_
    refine WO.call rfl (ofU_has x.natAbs (by omega) _) rfl ?_
    refine WO.op rfl rfl ?_
    exact WO.op rfl rfl (WO.nil (W.ret ⟨trivial, _, rfl, Seals.same _ rfl⟩))
theorem sgn_neg (z : Int) : sgn (!decide (z < 0)) z.natAbs = -z := by
  unfold sgn
  by_cases h : z < 0
  · rw [decide_eq_true h]; simp only [Bool.not_true, cond_false]; omega
  · rw [decide_eq_false h]; simp only [Bool.not_false, cond_true]; omega
theorem rminus_has (z : Int) (hz : (digs z.natAbs).length < 4611686018427387904) (H : Heap) : Has 13 [rI z] H (rI (-z)) H := by
  have hi := fun H => rint_has (!decide (z < 0)) z.natAbs hz H
  rw [sgn_neg] at hi
  refine does_pure s0 (show S0.fn 13 = some Tryz.f13 by kernel_rfl) rfl (by kernel_rfl) (Nat.le_of_ble_eq_true rfl) rfl rfl ?_
  refine W.seq (W.region ?_)
  refine WO.op rfl rfl ?_
  refine WO.op rfl rfl (WO.nil (W.seq (W.region ?_)))
  refine WO.op rfl rfl ?_
  refine WO.op rfl rfl ?_
  refine WO.op rfl rfl ?_
  refine WO.op rfl rfl ?_
  refine WO.op rfl rfl ?_
  refine WO.call rfl (hi _) rfl ?_
  exact WO.op rfl rfl (WO.nil (W.ret ⟨trivial, _, rfl, Seals.same _ rfl⟩))
end
end Go.AM.C

/- The reference's integers: Plus. -/
namespace Go.AM.C
open Go.Proofs
noncomputable section
set_option linter.unusedVariables false
set_option linter.unusedSimpArgs false

theorem u64s_inj : ∀ {a b : List Nat}, u64s a = u64s b → a = b
  | [], [], _ => rfl
  | [], _ :: _, h => by simp [u64s] at h
  | _ :: _, [], h => by simp [u64s] at h
  | x :: a, y :: b, h => by
    have h' : AVal.int .u64 (x : Int) :: u64s a = AVal.int .u64 (y : Int) :: u64s b := h
    injection h' with h1 h2
    injection h1 with _ h3
    rw [u64s_inj h2, Int.ofNat.inj h3]
theorem rD_inj {m n : Nat} (h : rD m = rD n) : m = n := by
  unfold rD at h
  injection h with h1
  rw [← dval_digs m, ← dval_digs n, u64s_inj h1]
/-- Not too long. -/
def Sm (n : Nat) : Prop := (digs n).length < 268435456
/-- The number that a value is. -/
def nOf (v : AVal) : Option Nat := by
  classical
  exact if h : ∃ n, v = rD n ∧ Sm n then some (Classical.choose h) else none
theorem nOf_rD {n : Nat} (h : Sm n) : nOf (rD n) = some n := by
  unfold nOf
  have hx : ∃ k, rD n = rD k ∧ Sm k := ⟨n, rfl, h⟩
  rw [dif_pos hx]
  exact congrArg some (rD_inj (Classical.choose_spec hx).1).symm
theorem nOf_is {v : AVal} {n : Nat} (h : nOf v = some n) : v = rD n ∧ Sm n := by
  unfold nOf at h
  split at h
  · rename_i hx
    cases h
    exact Classical.choose_spec hx
  · cases h
def raddX : Ext := fun args H => match args with
  | [u, v] => match nOf u, nOf v with
    | some m, some n => some (rD (m + n), H)
    | _, _ => none
  | _ => none
def rsubX : Ext := fun args H => match args with
  | [u, v] => match nOf u, nOf v with
    | some m, some n => if n ≤ m then some (rD (m - n), H) else none
    | _, _ => none
  | _ => none
def rintX : Ext := fun args H => match args with
  | [.bool b, v] => match nOf v with
    | some n => some (rI (sgn b n), H)
    | _ => none
  | _ => none
theorem raddX_ok (S : Sg) (hg : S.glob = S0.glob) (hp : S.pin = S0.pin) : ExtAt Tryz.prog S 41 raddX := by
  intro args H v H' hx
  unfold raddX at hx
  split at hx
  · split at hx
    · rename_i m n hu hv
      cases hx
      obtain ⟨rfl, h1⟩ := nOf_is hu
      obtain ⟨rfl, h2⟩ := nOf_is hv
      exact DoesC.glob hg hp (radd_has m n h1 h2 H)
    · cases hx
  · cases hx
theorem rsubX_ok (S : Sg) (hg : S.glob = S0.glob) (hp : S.pin = S0.pin) : ExtAt Tryz.prog S 43 rsubX := by
  intro args H v H' hx
  unfold rsubX at hx
  split at hx
  · split at hx
    · rename_i m n hu hv
      split at hx
      · rename_i hle
        cases hx
        obtain ⟨rfl, h1⟩ := nOf_is hu
        obtain ⟨rfl, h2⟩ := nOf_is hv
        exact DoesC.glob hg hp (rsub_has m n hle h1 H)
      · cases hx
    · cases hx
  · cases hx
theorem rintX_ok (S : Sg) (hg : S.glob = S0.glob) (hp : S.pin = S0.pin) : ExtAt Tryz.prog S 40 rintX := by
  intro args H v H' hx
  unfold rintX at hx
  split at hx
  · split at hx
    · rename_i n hv
      cases hx
      obtain ⟨rfl, h1⟩ := nOf_is hv
      exact DoesC.glob hg hp (rint_has _ n (Nat.lt_trans h1 (by decide)) H)
    · cases hx
  · cases hx
theorem raddX_quiet : true = true → ∀ args H v H', raddX args H = some (v, H') → H' = H := by
  intro _ args H v H' hx
  unfold raddX at hx
  split at hx
  · split at hx
    · cases hx; rfl
    · cases hx
  · cases hx
theorem rsubX_quiet : true = true → ∀ args H v H', rsubX args H = some (v, H') → H' = H := by
  intro _ args H v H' hx
  unfold rsubX at hx
  split at hx
  · split at hx
    · split at hx
      · cases hx; rfl
      · cases hx
    · cases hx
  · cases hx
theorem rintX_quiet : true = true → ∀ args H v H', rintX args H = some (v, H') → H' = H := by
  intro _ args H v H' hx
  unfold rintX at hx
  split at hx
  · split at hx
    · cases hx; rfl
    · cases hx
  · cases hx
abbrev raddE : Ent := ⟨41, raddX, true, raddX_quiet⟩
abbrev rsubE : Ent := ⟨43, rsubX, true, rsubX_quiet⟩
abbrev rintE : Ent := ⟨40, rintX, true, rintX_quiet⟩
abbrev SI : Sg := mk [raddE, rsubE, rintE]
theorem sI : Sound Tryz.prog SI := mk_sound ⟨raddX_ok _ rfl rfl, rsubX_ok _ rfl rfl, rintX_ok _ rfl rfl, trivial⟩
theorem raddA {m n : Nat} (hm : Sm m) (hn : Sm n) (H : Heap) : callS SI 41 [rD m, rD n] H = some (rD (m + n), H) := by
  refine (show callS SI 41 [rD m, rD n] H = raddX [rD m, rD n] H from rfl).trans ?_
  unfold raddX
  simp only [nOf_rD hm, nOf_rD hn]
theorem rsubA {m n : Nat} (hm : Sm m) (hn : Sm n) (h : n ≤ m) (H : Heap) : callS SI 43 [rD m, rD n] H = some (rD (m - n), H) := by
  refine (show callS SI 43 [rD m, rD n] H = rsubX [rD m, rD n] H from rfl).trans ?_
  unfold rsubX
  simp only [nOf_rD hm, nOf_rD hn, if_pos h]
theorem rintA {b : Bool} {n : Nat} (hn : Sm n) (H : Heap) : callS SI 40 [.bool b, rD n] H = some (rI (sgn b n), H) := by
  refine (show callS SI 40 [.bool b, rD n] H = rintX [.bool b, rD n] H from rfl).trans ?_
  unfold rintX
  simp only [nOf_rD hn]
end
end Go.AM.C

/- The reference's integers: Plus. -/
namespace Go.AM.C
open Go.Proofs
noncomputable section
set_option linter.unusedVariables false
set_option linter.unusedSimpArgs false

theorem Sm.mono {a b : Nat} (h : Sm b) (hab : a ≤ b) : Sm a := by
  unfold Sm at *
  rcases Nat.lt_or_ge (digs b).length (digs a).length with h1 | h1
  · have := lt_of_len h1; omega
  · omega
theorem plus_same {x y : Int} (h : decide (x < 0) = decide (y < 0)) : sgn (decide (x < 0)) (x.natAbs + y.natAbs) = x + y := by
  have h' := decide_eq_decide.1 h
  unfold sgn
  by_cases hx : x < 0
  · rw [decide_eq_true hx, cond_true]; omega
  · rw [decide_eq_false hx, cond_false]; omega
theorem plus_left {x y : Int} (h : ¬ decide (x < 0) = decide (y < 0)) (hl : y.natAbs ≤ x.natAbs) : sgn (decide (x < 0)) (x.natAbs - y.natAbs) = x + y := by
  have h' : ¬ (x < 0 ↔ y < 0) := fun e => h (decide_eq_decide.2 e)
  unfold sgn
  by_cases hx : x < 0
  · rw [decide_eq_true hx, cond_true]; omega
  · rw [decide_eq_false hx, cond_false]; omega
theorem plus_right {x y : Int} (h : ¬ decide (x < 0) = decide (y < 0)) (hl : ¬ y.natAbs ≤ x.natAbs) : sgn (decide (y < 0)) (y.natAbs - x.natAbs) = x + y := by
  have h' : ¬ (x < 0 ↔ y < 0) := fun e => h (decide_eq_decide.2 e)
  unfold sgn
  by_cases hy : y < 0
  · rw [decide_eq_true hy, cond_true]; omega
  · rw [decide_eq_false hy, cond_false]; omega

set_option maxRecDepth 100000 in
theorem rplus_has (x y : Int) (hx : Sm x.natAbs) (hy : Sm y.natAbs) (hxy : Sm (x.natAbs + y.natAbs)) (H : Heap) : Has 11 [rI x, rI y] H (rI (x + y)) H := by
  have e1 := @plus_same x y
  have e2 := @plus_left x y
  have e3 := @plus_right x y
  have hs1 : Sm (x.natAbs - y.natAbs) := hx.mono (Nat.sub_le _ _)
  have hs2 : Sm (y.natAbs - x.natAbs) := hy.mono (Nat.sub_le _ _)
  refine Has.of (l := [raddE, rsubE, rintE]) ?_
  refine does_pure sI (show SI.fn 11 = some Tryz.f11 by kernel_rfl) rfl (by kernel_rfl) (Nat.le_of_ble_eq_true rfl) rfl rfl ?_
  have hX : rI x = .agg [.bool (decide (x < 0)), rD x.natAbs] := rfl
  have hY : rI y = .agg [.bool (decide (y < 0)), rD y.natAbs] := rfl
  rw [hX, hY]
  generalize hZ : x + y = z at e1 e2 e3 ⊢
  clear hX hY hZ
  generalize x.natAbs = m at *
  generalize y.natAbs = n at *
  generalize decide (x < 0) = s at *
  generalize decide (y < 0) = t at *
  refine W.seq (W.region ?_)
  refine WO.op rfl rfl ?_
  refine WO.op rfl rfl ?_
  refine WO.op rfl rfl (WO.nil (W.seq (W.seq (W.region ?_))))
  refine WO.op rfl rfl ?_
  refine WO.op rfl rfl ?_
  refine WO.op rfl rfl ?_
  refine WO.op rfl rfl ?_
  by_cases hst : s = t
  · subst hst
    have e := e1 rfl
    refine WO.as (v' := .bool true) rfl rfl (by simp) (WO.nil (W.cond (b := true) rfl (fun _ => ?_) (fun h => by cases h)))
    refine W.seq (W.draw0 rfl (by kernel_rfl) ?_)
    refine WT.op rfl rfl rfl ?_
    refine WT.op rfl rfl rfl ?_
    refine WT.op rfl rfl rfl ?_
    refine WT.op rfl rfl rfl ?_
    refine WT.op rfl rfl rfl ?_
    refine WT.op rfl rfl rfl ?_
    refine WT.op (raddA hx hy _) rfl rfl ?_
    refine WT.op (rintA hxy _) rfl rfl ?_
    rw [e]
    exact WT.op rfl rfl rfl (WT.nil (W.ret ⟨trivial, _, rfl, Seals.same _ rfl⟩))
  · refine WO.as (v' := .bool false) rfl rfl (by simp [hst]) (WO.nil (W.cond (b := false) rfl (fun h => by cases h) (fun _ => W.skip ?_)))
    refine W.seq (W.seq (W.region ?_))
    refine WO.op rfl rfl ?_
    refine WO.op rfl rfl ?_
    refine WO.op rfl rfl ?_
    refine WO.op rfl rfl ?_
    refine WO.call rfl (cmp_has m n (Nat.lt_trans hx (by decide)) (Nat.lt_trans hy (by decide)) _).at rfl ?_
    by_cases hmn : n ≤ m
    · have e := e2 hst hmn
      have hc : ¬ cmpZ m n < 0 := by unfold cmpZ; split <;> (try split) <;> omega
      refine WO.as (v' := .bool true) rfl rfl (bdT (by omega)) (WO.nil (W.cond (b := true) rfl (fun _ => ?_) (fun h => by cases h)))
      refine W.seq (W.draw0 rfl (by kernel_rfl) ?_)
      refine WT.op rfl rfl rfl ?_
      refine WT.op rfl rfl rfl ?_
      refine WT.op rfl rfl rfl ?_
      refine WT.op rfl rfl rfl ?_
      refine WT.op rfl rfl rfl ?_
      refine WT.op rfl rfl rfl ?_
      refine WT.op (rsubA hx hy hmn _) rfl rfl ?_
      refine WT.op (rintA hs1 _) rfl rfl ?_
      rw [e]
      exact WT.op rfl rfl rfl (WT.nil (W.ret ⟨trivial, _, rfl, Seals.same _ rfl⟩))
    · have e := e3 hst hmn
      have hc : cmpZ m n < 0 := by unfold cmpZ; split <;> (try split) <;> omega
      refine WO.as (v' := .bool false) rfl rfl (bdF (by omega)) (WO.nil (W.cond (b := false) rfl (fun h => by cases h) (fun _ => W.skip ?_)))
      refine W.seq (W.draw0 rfl (by kernel_rfl) ?_)
      refine WT.op rfl rfl rfl ?_
      refine WT.op rfl rfl rfl ?_
      refine WT.op rfl rfl rfl ?_
      refine WT.op rfl rfl rfl ?_
      refine WT.op rfl rfl rfl ?_
      refine WT.op rfl rfl rfl ?_
      refine WT.op (rsubA hy hx (by omega) _) rfl rfl ?_
      refine WT.op (rintA hs2 _) rfl rfl ?_
      rw [e]
      exact WT.op rfl rfl rfl (WT.nil (W.ret ⟨trivial, _, rfl, Seals.same _ rfl⟩))
end
end Go.AM.C

/- The reference's numbers: Small. -/
namespace Go.AM.C
open Go.Proofs
noncomputable section
set_option linter.unusedVariables false
set_option linter.unusedSimpArgs false

theorem drop_step {l : List Nat} {i x : Nat} (h : l[i]? = some x) : dval (l.drop i) = x + 1000000000 * dval (l.drop (i + 1)) := by
  have hi : i < l.length := (List.getElem?_eq_some_iff.1 h).1
  rw [List.drop_eq_getElem_cons hi, (List.getElem?_eq_some_iff.1 h).2]
  rfl
theorem drop_le (l : List Nat) (k : Nat) (hk : k ≤ l.length) : dval (l.drop k) ≤ dval l := by
  rw [dval_split l k hk]
  have : 1 * dval (l.drop k) ≤ 1000000000 ^ k * dval (l.drop k) := Nat.mul_le_mul_right _ (Nat.pow_pos (by decide))
  omega
def smallN (n : Nat) : AVal := if n < 18446744073709551616 then .tup [.int .u64 (n : Int), .bool true] else .tup [.int .u64 0, .bool false]
theorem smallN_closed (n : Nat) : (smallN n).closed = true := by unfold smallN; split <;> rfl
theorem sm_of {n : Nat} (h : n < 1000000000 ^ 100) : Sm n := Nat.lt_of_le_of_lt (digs_len_le h) (by decide)
set_option maxRecDepth 100000 in
theorem nsmall_has (n : Nat) (hn : Sm n) (H : Heap) : Has 45 [rD n] H (smallN n) H := by
  have hcl := smallN_closed n
  refine does_pure s0 (show S0.fn 45 = some Tryz.f45 by kernel_rfl) rfl (by kernel_rfl) (Nat.le_of_ble_eq_true rfl) rfl hcl ?_
  refine W.seq (W.region ?_)
  refine WO.op rfl rfl ?_
  refine WO.op rfl rfl (WO.nil (W.seq (W.seq (W.region ?_))))
  refine WO.op rfl rfl ?_
  refine WO.call rfl (ofU_has 18446744073709551615 (by decide) _) rfl ?_
  refine WO.call rfl (cmp_has n 18446744073709551615 (Nat.lt_trans hn (by decide)) (Nat.lt_of_le_of_lt (digs_len (by decide)) (by decide)) _) rfl ?_
  by_cases hb : n < 18446744073709551616
  · have hc : ¬ cmpZ n 18446744073709551615 > 0 := by unfold cmpZ; split <;> (try split) <;> omega
    have hv : smallN n = .tup [.int .u64 (n : Int), .bool true] := if_pos hb
    rw [hv]
    refine WO.as (v' := .bool false) rfl rfl (bdF hc) (WO.nil (W.cond (b := false) rfl (fun h => by cases h) (fun _ => W.skip ?_)))
    have da := digs_dg n
    have va := dval_digs n
    have hl : (digs n).length < 268435456 := hn
    clear hv hcl hc hn
    unfold rD
    generalize digs n = l at *
    refine W.seq (W.region ?_)
    refine WO.op rfl rfl (WO.nil (W.seq (W.seq (W.region ?_))))
    refine WO.op rfl rfl ?_
    refine WO.op (G.len_isl rfl rfl rfl tRN rfl) rfl ?_
    refine WO.as (v' := iA ((l.length : Int) - 1)) rfl rfl (int_i64 (by omega) (by omega)) ?_
    refine WO.op rfl rfl (WO.nil (W.block ?_))
    refine W.fits (F' := fr [(0, .isl (u64s l) 0 l.length none true), (4, .int .u64 ((dval (l.drop l.length) : Nat) : Int)), (5, iA ((l.length : Int) - 1))]) (fits_fr ⟨rfl, by rw [List.drop_length]; rfl, rfl, trivial⟩) ?_
    refine W.loopI (fun k : Nat => k ≤ l.length) (fun k => k) (fun k => fr [(0, .isl (u64s l) 0 l.length none true), (4, .int .u64 ((dval (l.drop k) : Nat) : Int)), (5, iA ((k : Int) - 1))]) (fun _ => []) ?_ l.length (Nat.le_refl _)
    intro k hk
    refine W.seq (W.seq (W.region ?_))
    refine WO.op rfl rfl ?_
    by_cases h0 : k = 0
    · subst h0
      refine WO.as (v' := .bool false) rfl rfl (bdF (by omega)) (WO.nil (W.cond (b := false) rfl (fun h => by cases h) (fun _ => W.exit ?_)))
      refine W.seq (W.region ?_)
      refine WO.op rfl rfl ?_
      refine WO.op rfl rfl ?_
      rw [List.drop_zero, va]
      exact WO.op rfl rfl (WO.nil (W.ret ⟨trivial, _, rfl, Seals.same _ rfl⟩))
    · obtain ⟨i, rfl⟩ : ∃ i, k = i + 1 := ⟨k - 1, by omega⟩
      obtain ⟨x, hx⟩ : ∃ x, l[i]? = some x := ⟨_, List.getElem?_eq_getElem (by omega)⟩
      have ix : 0 + (((i + 1 : Nat) : Int) - 1).toNat * 1 = i := by omega
      have hxa : (u64s l)[0 + (((i + 1 : Nat) : Int) - 1).toNat * 1]? = some (.int .u64 (x : Int)) := by rw [ix]; exact u64s_get hx
      have hs := drop_step hx
      have hd := drop_le l i (by omega)
      generalize dval (l.drop (i + 1)) = y at *
      refine WO.as (v' := .bool true) rfl rfl (bdT (by omega)) (WO.nil (W.cond (b := true) rfl (fun _ => W.skip ?_) (fun h => by cases h)))
      refine W.seq (W.block (W.region ?_))
      refine WO.op rfl rfl ?_
      refine WO.as (v' := .int .u64 ((1000000000 * y : Nat) : Int)) rfl rfl (int_u64 (by omega) (by omega)) ?_
      refine WO.op rfl rfl ?_
      refine WO.op rfl rfl ?_
      refine WO.op (G.idx_isl rfl rfl tRN rfl tU64 (by omega) (by omega)) rfl ?_
      refine WO.op (G.load_ip rfl tU64 rfl hxa) rfl ?_
      refine WO.as (v' := .int .u64 ((dval (l.drop i) : Nat) : Int)) rfl rfl (int_u64 (by omega) (by omega)) ?_
      refine WO.op rfl rfl (WO.nil (W.region ?_))
      refine WO.op rfl rfl ?_
      refine WO.as (v' := iA ((i : Int) - 1)) rfl rfl (int_i64 (by omega) (by omega)) ?_
      exact WO.op rfl rfl (WO.nil ⟨i, by omega, by omega, fits_fr ⟨rfl, rfl, rfl, trivial⟩, rfl⟩)
  · have hc : cmpZ n 18446744073709551615 > 0 := by unfold cmpZ; split <;> (try split) <;> omega
    have hv : smallN n = .tup [.int .u64 0, .bool false] := if_neg hb
    rw [hv]
    refine WO.as (v' := .bool true) rfl rfl (bdT hc) (WO.nil (W.cond (b := true) rfl (fun _ => ?_) (fun h => by cases h)))
    refine W.seq (W.region ?_)
    refine WO.op rfl rfl ?_
    exact WO.op rfl rfl (WO.nil (W.ret ⟨trivial, _, rfl, Seals.same _ rfl⟩))
end
end Go.AM.C

/- The reference's integers: Small. -/
namespace Go.AM.C
open Go.Proofs
noncomputable section
set_option linter.unusedVariables false
set_option linter.unusedSimpArgs false

def smallI (z : Int) : AVal := bif small64 z then .tup [iA z, .bool true] else .tup [iA 0, .bool false]
theorem smallI_closed (z : Int) : (smallI z).closed = true := by unfold smallI; cases small64 z <;> rfl
theorem smallI_in {z : Int} (h : i64 z) : smallI z = .tup [iA z, .bool true] := by unfold smallI; rw [small64_of h]; rfl
theorem smallI_out {z : Int} (h : ¬ i64 z) : smallI z = .tup [iA 0, .bool false] := by
  unfold smallI
  cases hs : small64 z with
  | false => rfl
  | true => exact absurd (small_i64 hs) h
set_option maxRecDepth 100000 in
theorem ismall_has (z : Int) (hz : Sm z.natAbs) (H : Heap) : Has 14 [rI z] H (smallI z) H := by
  have hcl := smallI_closed z
  refine does_pure s0 (show S0.fn 14 = some Tryz.f14 by kernel_rfl) rfl (by kernel_rfl) (Nat.le_of_ble_eq_true rfl) rfl hcl ?_
  clear hcl
  have hin := @smallI_in z
  have hout := @smallI_out z
  generalize smallI z = R at *
  have hX : rI z = .agg [.bool (decide (z < 0)), rD z.natAbs] := rfl
  rw [hX]
  clear hX
  refine W.seq (W.region ?_)
  refine WO.op rfl rfl ?_
  refine WO.op rfl rfl ?_
  refine WO.op rfl rfl (WO.nil (W.seq (W.region ?_)))
  refine WO.op rfl rfl ?_
  refine WO.op rfl rfl ?_
  refine WO.call rfl (nsmall_has z.natAbs hz _) rfl ?_
  by_cases hb : z.natAbs < 18446744073709551616
  · have hv : smallN z.natAbs = .tup [.int .u64 ((z.natAbs : Nat) : Int), .bool true] := if_pos hb
    rw [hv]
    clear hv
    refine WO.op rfl rfl ?_
    refine WO.op rfl rfl ?_
    refine WO.op rfl rfl ?_
    refine WO.op rfl rfl ?_
    refine WO.op rfl rfl (WO.nil (W.seq (W.block (W.seq (W.region ?_)))))
    refine WO.op rfl rfl ?_
    refine WO.op rfl rfl ?_
    refine WO.op rfl rfl ?_
    by_cases hneg : z < 0
    · have hs : decide (z < 0) = true := decide_eq_true hneg
      rw [hs]
      refine WO.op rfl rfl ?_
      refine WO.op rfl rfl ?_
      refine WO.op rfl rfl ?_
      refine WO.op rfl rfl ?_
      refine WO.skip rfl (WO.skip rfl ?_)
      refine WO.op rfl rfl ?_
      refine WO.op rfl rfl ?_
      refine WO.op rfl rfl ?_
      refine WO.op rfl rfl ?_
      refine WO.op rfl rfl ?_
      refine WO.op rfl rfl ?_
      refine WO.op rfl rfl ?_
      by_cases hbig : i64 z
      · rw [hin hbig]
        unfold i64 at hbig
        refine WO.as (v' := .bool false) rfl rfl (bdF (by omega)) ?_
        refine WO.op rfl rfl ?_
        refine WO.op rfl rfl ?_
        refine WO.op rfl rfl (WO.nil (W.cond (b := false) rfl (fun h => by cases h) (fun _ => W.seq (W.region ?_))))
        refine WO.op rfl rfl ?_
        refine WO.op rfl rfl ?_
        refine WO.op rfl rfl (WO.nil (W.cond (b := true) rfl (fun _ => ?_) (fun h => by cases h)))
        refine W.seq (W.region ?_)
        refine WO.op rfl rfl ?_
        refine WO.as (v' := .int .u64 (((z.natAbs - 1 : Nat)) : Int)) rfl rfl (int_u64 (by omega) (by omega)) ?_
        refine WO.as (v' := iA (((z.natAbs - 1 : Nat)) : Int)) rfl rfl (int_i64 (by omega) (by omega)) ?_
        refine WO.as (v' := iA (-((z.natAbs - 1 : Nat) : Int))) rfl rfl (int_i64 (by omega) (by omega)) ?_
        refine WO.as (v' := iA z) rfl rfl (int_i64 (by omega) (by omega)) ?_
        refine WO.op rfl rfl ?_
        exact WO.op rfl rfl (WO.nil (W.ret ⟨trivial, _, rfl, Seals.same _ rfl⟩))
      · rw [hout hbig]
        unfold i64 at hbig
        refine WO.as (v' := .bool true) rfl rfl (bdT (by omega)) ?_
        refine WO.op rfl rfl ?_
        refine WO.op rfl rfl ?_
        refine WO.op rfl rfl (WO.nil (W.cond (b := true) rfl (fun _ => ?_) (fun h => by cases h)))
        refine W.seq (W.region ?_)
        refine WO.op rfl rfl ?_
        exact WO.op rfl rfl (WO.nil (W.ret ⟨trivial, _, rfl, Seals.same _ rfl⟩))
    · have hs : decide (z < 0) = false := decide_eq_false hneg
      rw [hs]
      refine WO.op rfl rfl ?_
      refine WO.op rfl rfl ?_
      refine WO.op rfl rfl ?_
      refine WO.op rfl rfl ?_
      refine WO.op rfl rfl ?_
      by_cases hbig : i64 z
      · rw [hin hbig]
        unfold i64 at hbig
        refine WO.as (v' := .bool false) rfl rfl (bdF (by omega)) ?_
        refine WO.op rfl rfl ?_
        refine WO.op rfl rfl ?_
        refine WO.op rfl rfl ?_
        refine WO.op rfl rfl ?_
        refine WO.op rfl rfl ?_
        refine WO.op rfl rfl ?_
        refine WO.skip rfl (WO.skip rfl ?_)
        refine WO.op rfl rfl ?_
        refine WO.op rfl rfl ?_
        refine WO.op rfl rfl (WO.nil (W.cond (b := false) rfl (fun h => by cases h) (fun _ => W.seq (W.region ?_))))
        refine WO.op rfl rfl ?_
        refine WO.op rfl rfl ?_
        refine WO.op rfl rfl (WO.nil (W.cond (b := false) rfl (fun h => by cases h) (fun _ => W.skip ?_)))
        refine W.seq (W.region ?_)
        refine WO.op rfl rfl ?_
        refine WO.as (v' := iA z) rfl rfl (int_i64 (by omega) (by omega)) ?_
        refine WO.op rfl rfl ?_
        exact WO.op rfl rfl (WO.nil (W.ret ⟨trivial, _, rfl, Seals.same _ rfl⟩))
      · rw [hout hbig]
        unfold i64 at hbig
        refine WO.as (v' := .bool true) rfl rfl (bdT (by omega)) ?_
        refine WO.op rfl rfl ?_
        refine WO.op rfl rfl ?_
        refine WO.op rfl rfl ?_
        repeat refine WO.skip rfl ?_
        refine WO.op rfl rfl ?_
        refine WO.op rfl rfl (WO.nil (W.cond (b := true) rfl (fun _ => ?_) (fun h => by cases h)))
        refine W.seq (W.region ?_)
        refine WO.op rfl rfl ?_
        exact WO.op rfl rfl (WO.nil (W.ret ⟨trivial, _, rfl, Seals.same _ rfl⟩))
  · have hv : smallN z.natAbs = .tup [.int .u64 0, .bool false] := if_neg hb
    have hni : ¬ i64 z := by unfold i64; omega
    rw [hv, hout hni]
    refine WO.op rfl rfl ?_
    refine WO.op rfl rfl ?_
    refine WO.op rfl rfl ?_
    refine WO.op rfl rfl ?_
    refine WO.op rfl rfl (WO.nil (W.seq (W.block (W.seq (W.region ?_)))))
    refine WO.op rfl rfl ?_
    refine WO.op rfl rfl ?_
    refine WO.op rfl rfl ?_
    repeat refine WO.skip rfl ?_
    refine WO.op rfl rfl ?_
    refine WO.op rfl rfl ?_
    repeat refine WO.skip rfl ?_
    refine WO.op rfl rfl ?_
    refine WO.op rfl rfl (WO.nil (W.cond (b := true) rfl (fun _ => ?_) (fun h => by cases h)))
    refine W.seq (W.region ?_)
    refine WO.op rfl rfl ?_
    exact WO.op rfl rfl (WO.nil (W.ret ⟨trivial, _, rfl, Seals.same _ rfl⟩))
end
end Go.AM.C

/- Books that stay small. -/
namespace Go.AM.C
open Go.Proofs
noncomputable section
set_option linter.unusedVariables false
set_option linter.unusedSimpArgs false

/-! #### books that stay small -/
theorem putE_mem {α : Type} {l : List (List UInt8 × α)} {k : List UInt8} {v : α} {e : List UInt8 × α} (h : e ∈ putE l k v) : e.1 = k ∨ e ∈ l := by
  unfold putE at h
  split at h
  · rcases List.mem_or_eq_of_mem_set h with h | h
    · exact .inr h
    · exact .inl (by rw [h])
  · rcases List.mem_append.1 h with h | h
    · exact .inr h
    · exact .inl (by rw [List.mem_singleton.1 h])
theorem putE_len {α : Type} (l : List (List UInt8 × α)) (k : List UInt8) (v : α) : (putE l k v).length ≤ l.length + 1 := by
  unfold putE
  split
  · rw [List.length_set]; omega
  · rw [List.length_append]; exact Nat.le_refl _
theorem sums_len (undo : Bool) : ∀ (l : Posts) (s : Sums), (l.foldl (sumStep undo) s).length ≤ s.length + l.length
  | [], s => Nat.le_refl _
  | p :: l, s => by
    have h1 := sums_len undo l (sumStep undo s p)
    have h2 : (sumStep undo s p).length ≤ s.length + 1 := putE_len _ _ _
    rw [List.foldl_cons, List.length_cons]
    omega
theorem sums_keys (undo : Bool) : ∀ (l : Posts) (s : Sums), ∀ e ∈ l.foldl (sumStep undo) s, (∃ p ∈ l, p.1 = e.1) ∨ ∃ x ∈ s, x.1 = e.1
  | [], s, e, h => .inr ⟨e, h, rfl⟩
  | p :: l, s, e, h => by
    rcases sums_keys undo l _ e h with ⟨q, hq, hk⟩ | ⟨x, hx, hk⟩
    · exact .inl ⟨q, List.mem_cons_of_mem _ hq, hk⟩
    · rcases putE_mem hx with h1 | h1
      · exact .inl ⟨p, List.mem_cons_self, h1.symm.trans hk⟩
      · exact .inr ⟨x, h1, hk⟩
theorem book_len : ∀ (s : Sums) (m : Posts), (bookE m s).length ≤ m.length + s.length
  | [], m => Nat.le_refl _
  | e :: s, m => by
    have h1 := book_len s (putE m e.1 (look 0 m e.1 + e.2.getD 0))
    have h2 := putE_len m e.1 (look 0 m e.1 + e.2.getD 0)
    rw [List.length_cons]
    exact Nat.le_trans h1 (by omega)
theorem book_keys : ∀ (s : Sums) (m : Posts), ∀ e ∈ bookE m s, (∃ x ∈ s, x.1 = e.1) ∨ ∃ x ∈ m, x.1 = e.1
  | [], m, e, h => .inr ⟨e, h, rfl⟩
  | y :: s, m, e, h => by
    rcases book_keys s _ e h with ⟨x, hx, hk⟩ | ⟨x, hx, hk⟩
    · exact .inl ⟨x, List.mem_cons_of_mem _ hx, hk⟩
    · rcases putE_mem hx with h1 | h1
      · exact .inl ⟨y, List.mem_cons_self, h1.symm.trans hk⟩
      · exact .inr ⟨x, h1, hk⟩
structure GM (m : Posts) (n : Nat) : Prop where
  nd : (m.map (·.1)).Nodup
  i : ∀ e ∈ m, i64 e.2
  k : ∀ e ∈ m, e.1.length < 4611686018427387904
  n : m.length ≤ n
structure GP (l : Posts) (n : Nat) : Prop where
  b : ∀ p ∈ l, i64 p.2 ∧ p.1.length < 4611686018427387904
  n : l.length ≤ n
theorem GM.book {undo : Bool} {m l : Posts} {n k : Nat} (h : GM m n) (hl : GP l k) (hc : bookCode undo m l = 0) : GM (bookE m (sumsOf undo l)) (n + k) := by
  refine ⟨bookE_nodup _ _ h.nd, book_bound h.nd h.i hc, fun e he => ?_, ?_⟩
  · rcases book_keys _ _ e he with ⟨x, hx, hk⟩ | ⟨x, hx, hk⟩
    · rcases sums_keys undo l [] x hx with ⟨p, hp, hk2⟩ | ⟨y, hy, _⟩
      · rw [← hk, ← hk2]; exact (hl.b p hp).2
      · cases hy
    · rw [← hk]; exact h.k x hx
  · have h1 := book_len (sumsOf undo l) m
    have h2 : (sumsOf undo l).length ≤ 0 + l.length := sums_len undo l []
    have h3 := hl.n
    have h4 := h.n
    omega
theorem gm_nil : GM [] 0 := ⟨List.nodup_nil, (fun e h => by cases h), (fun e h => by cases h), Nat.le_refl _⟩
theorem gp_cut8 {l : Posts} (h : ∀ p ∈ l, i64 p.2) : GP (cut8 l) 8 := by
  refine ⟨fun p hp => ?_, by unfold cut8; simp; omega⟩
  obtain ⟨q, hq, rfl⟩ := List.mem_map.1 hp
  refine ⟨h q (List.mem_of_mem_take hq), ?_⟩
  show (q.1.take 22).length < _
  simp
  omega
theorem code_cases (undo : Bool) (m l : Posts) : bookCode undo m l = 0 ∨ bookCode undo m l ≠ 0 ∧ ∃ k : Int, errA (bookCode undo m l) = .iface 172 (.int .i64 k) := by
  generalize bookCode undo m l = C
  by_cases h : C = 0
  · exact .inl h
  · exact .inr ⟨h, C, if_neg h⟩

/-! #### what the books' functions do, by books that stay small -/
abbrev lgO (src : AVal) (cnt : Int) : AObj := .cells [src, iA cnt] 91
theorem post_gm {H : Heap} {L : Nat} {src : AVal} {cnt : Int} {m l : Posts} {n k : Nat} (hL : H[L]? = some (lgO src cnt)) (hsrc : IsM src m) (hm : GM m n) (hcnt : i64 cnt ∧ i64 (cnt + 1)) (hl : GP l k) (hk : k < 4611686018427387904) :
    Has 15 [.ptr L 0, postsA l] H (errA (bookCode false m l)) (H.set L (.cells (if bookCode false m l = 0 then [imapA (bookE m (sumsOf false l)), iA (cnt + 1)] else [src, iA cnt]) 91)) :=
  post_has hL hsrc hm.nd hm.i hcnt (slp_postsA H l) hl.b (Nat.lt_of_le_of_lt hl.n hk)
theorem undo_gm {H : Heap} {L : Nat} {src : AVal} {cnt : Int} {m l : Posts} {n k : Nat} (hL : H[L]? = some (lgO src cnt)) (hsrc : IsM src m) (hm : GM m n) (hcnt : i64 cnt ∧ i64 (cnt + 1)) (hl : GP l k) (hk : k < 4611686018427387904) :
    Has 16 [.ptr L 0, postsA l] H (errA (bookCode true m l)) (H.set L (.cells (if bookCode true m l = 0 then [imapA (bookE m (sumsOf true l)), iA (cnt + 1)] else [src, iA cnt]) 91)) :=
  undo_has hL hsrc hm.nd hm.i hcnt (slp_postsA H l) hl.b (Nat.lt_of_le_of_lt hl.n hk)
theorem all_gm {A m : Posts} {n : Nat} (hA : allE m = A) (hm : GM m n) (hn : n < 1073741824) {src : AVal} (hsrc : IsM src m) (H : Heap) (L : Nat) (cnt : Int) (hL : H[L]? = some (lgO src cnt)) :
    Has 20 [.ptr L 0] H (postsA A) H := by
  subst hA
  exact ledger_all m src H L 0 _ _ hL rfl hsrc hm.nd (fun e he => Nat.le_of_lt (hm.k e he)) (Nat.lt_of_le_of_lt hm.n hn)

end
end Go.AM.C

/- The reference's ledger: rows of postings by field; first. -/
namespace Go.AM.C
open Go.Proofs
noncomputable section
set_option linter.unusedVariables false
set_option linter.unusedSimpArgs false

theorem G.load_row {S : Sg} {call : Calling} {d : Bool} {g : Operand → AVal} {H : Heap} {x : Operand} {t : TypeId} {ti : TI} {p : AVal} {row : List AVal} {off : Nat} {v : AVal} (hx : g x = p) (ht : S.ty t = some ti) (ha : ti.agg = false) (hr : rowAt H p = some (row, off)) (hc : row[off]? = some v) : denG S call d g H (.load t x) = some (v, H) := by
  simp only [denG, ht, hx, hr, getVar, ha, Bool.false_eq_true, if_false, hc]
  rfl
/-- A row of postings, field by field. -/
structure SlF (H : Heap) (v : AVal) (l : Posts) : Prop where
  len : ∀ H', Ext.Keeps H H' → denLen H' S0 27 v = some (.int .i64 (l.length : Int))
  at_ : ∀ (j : Nat) (p : List UInt8 × Int), l[j]? = some p → ∃ a a0 a1 row off, elemAddr S0 27 v (j : Int) = some a ∧ ptrAdd a 0 = some a0 ∧ ptrAdd a 1 = some a1 ∧
    (∀ H', Ext.Keeps H H' → rowAt H' a = some (row, off) ∧ rowAt H' a0 = some (row, off) ∧ rowAt H' a1 = some (row, off + 1)) ∧ row[off]? = some (.str p.1) ∧ row[off + 1]? = some (iA p.2)
theorem slf_postsA (H : Heap) (l : Posts) : SlF H (postsA l) l := by
  unfold postsA
  split
  · rename_i h
    subst h
    exact ⟨fun H' _ => rfl, fun j p hj => by simp at hj⟩
  · refine ⟨fun H' _ => rfl, fun j p hj => ?_⟩
    obtain ⟨h1, h2⟩ := postC_at l j p hj
    refine ⟨.ip (postC l) (0 + j * 2) true, _, _, postC l, 0 + j * 2, ?_, rfl, rfl, fun H' hk => ⟨rfl, rfl, rfl⟩, by rw [Nat.zero_add]; exact h1, by rw [Nat.zero_add]; exact h2⟩
    have hjl : j < l.length := (List.getElem?_eq_some_iff.1 hj).1
    show (if 0 ≤ (j : Int) ∧ (j : Int) < (l.length : Int) then fNat (0 + (j : Int).toNat * ti40.size) fun o => some (AVal.ip (postC l) o true) else none) = _
    rw [if_pos ⟨by omega, by omega⟩, fNat_eq, Int.toNat_natCast]
    rfl
/-- The first place of a name. -/
theorem keyIdx_first : ∀ {l : Posts} {k : List UInt8} {i : Nat}, keyIdx k l = some i → (∃ p, l[i]? = some p ∧ p.1 = k) ∧ ∀ j, j < i → ∃ p, l[j]? = some p ∧ p.1 ≠ k
  | [], k, i, h => by cases h
  | e :: l, k, i, h => by
    have h' : (if k = e.1 then some 0 else (keyIdx k l).map (· + 1)) = some i := h
    by_cases hk : k = e.1
    · rw [if_pos hk] at h'
      cases h'
      exact ⟨⟨e, rfl, hk.symm⟩, fun j hj => absurd hj (Nat.not_lt_zero j)⟩
    · rw [if_neg hk] at h'
      cases hg : keyIdx k l with
      | none => rw [hg] at h'; cases h'
      | some m =>
        rw [hg] at h'
        cases h'
        obtain ⟨⟨p, h1, h2⟩, h3⟩ := keyIdx_first hg
        refine ⟨⟨p, by simpa using h1, h2⟩, fun j hj => ?_⟩
        cases j with
        | zero => exact ⟨e, rfl, fun x => hk x.symm⟩
        | succ j =>
          obtain ⟨q, h4, h5⟩ := h3 j (Nat.lt_of_succ_lt_succ hj)
          exact ⟨q, by simpa using h4, h5⟩

set_option maxRecDepth 100000 in
theorem first_has {H : Heap} {va : AVal} {l : Posts} (hps : SlF H va l) (hll : l.length < 4611686018427387904) {name : List UInt8} {i : Nat} (hk : keyIdx name l = some i) :
    Has 49 [va, .str name] H (iA (i : Int)) H := by
  obtain ⟨⟨pe, he1, he2⟩, hbef⟩ := keyIdx_first hk
  have hil : i < l.length := (List.getElem?_eq_some_iff.1 he1).1
  have kk : Ext.Keeps H H := fun _ _ => rfl
  refine does_run s0 (show S0.fn 49 = some Tryz.f49 by kernel_rfl) rfl (by kernel_rfl) (Nat.le_of_ble_eq_true rfl) ?_
  refine W.seq (W.region ?_)
  refine WO.op rfl rfl (WO.nil (W.seq (W.region ?_)))
  refine WO.op rfl rfl (WO.nil (W.seq (W.block ?_)))
  refine W.fits (F' := fr [(0, va), (1, .str name), (5, iA ((0 : Nat) : Int))]) (fits_fr ⟨rfl, rfl, rfl, trivial⟩) ?_
  refine W.loopI (fun j : Nat => j ≤ i) (fun j => i - j) (fun j => fr [(0, va), (1, .str name), (5, iA (j : Int))]) (fun _ => H) ?_ 0 (Nat.zero_le _)
  intro j hj
  obtain ⟨p, hp⟩ : ∃ p, l[j]? = some p := ⟨_, List.getElem?_eq_getElem (by omega)⟩
  obtain ⟨a, a0, a1, row, off, f1, f2, f3, f4, f5, f6⟩ := hps.at_ j p hp
  refine W.seq (W.seq (W.region ?_))
  refine WO.op rfl rfl ?_
  refine WO.op rfl rfl ?_
  refine WO.op (SlU.idxG rfl rfl f1) rfl ?_
  refine WO.op (congrArg (withH H) f2) rfl ?_
  refine WO.op (G.load_row rfl tS rfl (f4 H kk).2.1 f5) rfl ?_
  refine WO.op rfl rfl ?_
  by_cases hji : j = i
  · subst hji
    have hpn : p.1 = name := by
      rw [hp] at he1
      rw [Option.some.inj he1]
      exact he2
    rw [hpn]
    refine WO.as (v' := .bool false) rfl rfl (by simp) (WO.nil (W.cond (b := false) rfl (fun h => by cases h) (fun _ => W.exit ?_)))
    refine W.seq (W.region ?_)
    refine WO.op rfl rfl ?_
    exact WO.op rfl rfl (WO.nil (W.ret ⟨trivial, _, rfl, Wk.refl _, rfl⟩))
  · obtain ⟨q, hq1, hq2⟩ := hbef j (by omega)
    have hpn : ¬ p.1 = name := by
      rw [hp] at hq1
      rw [Option.some.inj hq1]
      exact hq2
    refine WO.as (v' := .bool true) rfl rfl (by simp [hpn]) (WO.nil (W.cond (b := true) rfl (fun _ => W.skip ?_) (fun h => by cases h)))
    refine W.block (W.region ?_)
    refine WO.op rfl rfl ?_
    refine WO.as (v' := iA ((j + 1 : Nat) : Int)) rfl rfl (int_i64 (by omega) (by omega)) ?_
    exact WO.op rfl rfl (WO.nil ⟨j + 1, by omega, by omega, fits_fr ⟨rfl, rfl, rfl, trivial⟩, rfl⟩)
end
end Go.AM.C

/- The reference's ledger: Balance. -/
namespace Go.AM.C
open Go.Proofs
noncomputable section
set_option linter.unusedVariables false
set_option linter.unusedSimpArgs false

theorem keyIdx_at : ∀ {l : Posts} {k : List UInt8} {j : Nat} {p : List UInt8 × Int}, (∀ i, i < j → ∀ q, l[i]? = some q → q.1 ≠ k) → l[j]? = some p → p.1 = k → keyIdx k l = some j
  | [], k, j, p, _, h, _ => by simp at h
  | e :: l, k, 0, p, _, h, hk => by
    have : e = p := by simpa using h
    subst this
    show (if k = e.1 then some 0 else (keyIdx k l).map (· + 1)) = some 0
    rw [if_pos hk.symm]
  | e :: l, k, j + 1, p, hb, h, hk => by
    have h0 : ¬ k = e.1 := fun x => hb 0 (Nat.succ_pos _) e rfl x.symm
    have ih := keyIdx_at (l := l) (fun i hi q hq => hb (i + 1) (Nat.succ_lt_succ hi) q (by simpa using hq)) (by simpa using h) hk
    show (if k = e.1 then some 0 else (keyIdx k l).map (· + 1)) = some (j + 1)
    rw [if_neg h0, ih]; rfl
theorem keyIdx_no {l : Posts} {k : List UInt8} (h : ∀ i, i < l.length → ∀ q, l[i]? = some q → q.1 ≠ k) : keyIdx k l = none := by
  cases hk : keyIdx k l with
  | none => rfl
  | some i =>
    obtain ⟨⟨p, h1, h2⟩, _⟩ := keyIdx_first hk
    exact absurd h2 (h i (List.getElem?_eq_some_iff.1 h1).1 p h1)
theorem look_at {l : Posts} {k : List UInt8} {j : Nat} {p : List UInt8 × Int} (h : keyIdx k l = some j) (hp : l[j]? = some p) : look 0 l k = p.2 := by
  unfold look getE
  rw [h]
  simp [hp]
theorem look_no {l : Posts} {k : List UInt8} (h : keyIdx k l = none) : look 0 l k = 0 := by
  unfold look getE
  rw [h]
  rfl
theorem tRL : S0.ty 26 = some ti26 := rfl
abbrev rlO (w : Posts) (cnt : Int) : AObj := .cells [postsA w, iA cnt] 29

set_option maxRecDepth 100000 in
theorem rbal_has {H : Heap} {L : Nat} {w : Posts} {cnt : Int} (hL : H[L]? = some (rlO w cnt)) (hw : w.length < 4611686018427387904) (name : List UInt8) :
    Has 50 [.ptr L 0, .str name] H (iA (look 0 w name)) H := by
  have hsl := slf_postsA H w
  have kk : Ext.Keeps H H := fun _ _ => rfl
  have hm : [postsA w, iA cnt][0]? = some (postsA w) := rfl
  unfold rlO at hL
  generalize postsA w = va at *
  refine does_run s0 (show S0.fn 50 = some Tryz.f50 by kernel_rfl) rfl (by kernel_rfl) (Nat.le_of_ble_eq_true rfl) ?_
  refine W.seq (W.region ?_)
  refine WO.op rfl rfl (WO.nil (W.seq (W.seq (W.region ?_))))
  refine WO.op rfl rfl (WO.nil (W.block ?_))
  refine W.fits (F' := fr [(0, .ptr L 0), (1, .str name), (5, iA ((0 : Nat) : Int))]) (fits_fr ⟨rfl, rfl, rfl, trivial⟩) ?_
  refine W.loopI (fun j : Nat => j ≤ w.length ∧ ∀ i, i < j → ∀ q, w[i]? = some q → q.1 ≠ name) (fun j => w.length - j) (fun j => fr [(0, .ptr L 0), (1, .str name), (5, iA (j : Int))]) (fun _ => H) ?_ 0 ⟨Nat.zero_le _, fun i hi => absurd hi (Nat.not_lt_zero i)⟩
  rintro j ⟨hj, hbef⟩
  refine W.seq (W.seq (W.region ?_))
  refine WO.op rfl rfl ?_
  refine WO.op rfl rfl ?_
  refine WO.op rfl rfl ?_
  refine WO.op rfl rfl ?_
  refine WO.op (G.load_ptr rfl tP rfl hL hm) rfl ?_
  refine WO.op (v := .int .i64 (w.length : Int)) (H1 := H) (congrArg (withH H) (hsl.len H kk)) rfl ?_
  by_cases hlt : j < w.length
  · obtain ⟨p, hp⟩ : ∃ p, w[j]? = some p := ⟨_, List.getElem?_eq_getElem hlt⟩
    obtain ⟨a, a0, a1, row, off, f1, f2, f3, f4, f5, f6⟩ := hsl.at_ j p hp
    refine WO.as (v' := .bool true) rfl rfl (bdT (by omega)) (WO.nil (W.cond (b := true) rfl (fun _ => W.skip ?_) (fun h => by cases h)))
    refine W.seq (W.block (W.seq (W.region ?_)))
    refine WO.op rfl rfl ?_
    refine WO.op rfl rfl ?_
    refine WO.op rfl rfl ?_
    refine WO.op (G.load_ptr rfl tP rfl hL hm) rfl ?_
    refine WO.op rfl rfl ?_
    refine WO.op (SlU.idxG rfl rfl f1) rfl ?_
    refine WO.op (congrArg (withH H) f2) rfl ?_
    refine WO.op (G.load_row rfl tS rfl (f4 H kk).2.1 f5) rfl ?_
    refine WO.op rfl rfl ?_
    by_cases hpn : p.1 = name
    · rw [look_at (keyIdx_at hbef hp hpn) hp]
      refine WO.as (v' := .bool true) rfl rfl (by simp [hpn]) (WO.nil (W.cond (b := true) rfl (fun _ => ?_) (fun h => by cases h)))
      refine W.seq (W.region ?_)
      refine WO.op rfl rfl ?_
      refine WO.op rfl rfl ?_
      refine WO.op rfl rfl ?_
      refine WO.op (G.load_ptr rfl tP rfl hL hm) rfl ?_
      refine WO.op rfl rfl ?_
      refine WO.op (SlU.idxG rfl rfl f1) rfl ?_
      refine WO.op (congrArg (withH H) f3) rfl ?_
      refine WO.op (G.load_row rfl tI rfl (f4 H kk).2.2 f6) rfl ?_
      exact WO.op rfl rfl (WO.nil (W.ret ⟨trivial, _, rfl, Wk.refl _, rfl⟩))
    · refine WO.as (v' := .bool false) rfl rfl (by simp [hpn]) (WO.nil (W.cond (b := false) rfl (fun h => by cases h) (fun _ => W.skip (W.region ?_))))
      refine WO.op rfl rfl ?_
      refine WO.as (v' := iA ((j + 1 : Nat) : Int)) rfl rfl (int_i64 (by omega) (by omega)) ?_
      refine WO.op rfl rfl (WO.nil ⟨j + 1, ⟨hlt, fun i hi q hq => ?_⟩, by omega, fits_fr ⟨rfl, rfl, rfl, trivial⟩, rfl⟩)
      by_cases hij : i = j
      · subst hij
        rw [hp] at hq
        rw [← Option.some.inj hq]
        exact hpn
      · exact hbef i (by omega) q hq
  · have hje : j = w.length := by omega
    subst hje
    rw [look_no (keyIdx_no hbef)]
    refine WO.as (v' := .bool false) rfl rfl (bdF (by omega)) (WO.nil (W.cond (b := false) rfl (fun h => by cases h) (fun _ => W.exit ?_)))
    refine W.seq (W.region ?_)
    exact WO.op rfl rfl (WO.nil (W.ret ⟨trivial, _, rfl, Wk.refl _, rfl⟩))
end
end Go.AM.C

/- The reference's ledger: All. -/
namespace Go.AM.C
open Go.Proofs
noncomputable section
set_option linter.unusedVariables false
set_option linter.unusedSimpArgs false

def nz (w : Posts) : Posts := w.filter fun p => !decide (p.2 = 0)
theorem nz_snoc (w : Posts) (p : List UInt8 × Int) : nz (w ++ [p]) = if p.2 = 0 then nz w else nz w ++ [p] := by
  unfold nz
  rw [List.filter_append]
  by_cases h : p.2 = 0
  · rw [if_pos h]; simp [h]
  · rw [if_neg h]; simp [h]
theorem nz_len (w : Posts) : (nz w).length ≤ w.length := List.length_filter_le _ _

set_option maxRecDepth 100000 in
theorem rall_has {H : Heap} {L : Nat} {w : Posts} {cnt : Int} (hL : H[L]? = some (rlO w cnt)) (hw : w.length < 1073741824) :
    Has 21 [.ptr L 0] H (postsA (nz w)) H := by
  have hLlt : L < H.length := (List.getElem?_eq_some_iff.1 hL).1
  have hHs : H.set L (rlO w cnt) = H := set_same hL
  rw [show Has 21 [.ptr L 0] H (postsA (nz w)) H = Has 21 [.ptr L 0] H (postsA (nz w)) (H.set L (rlO w cnt)) by rw [hHs]]
  generalize hR : postsA (nz w) = R
  refine does_mut s0 (show S0.fn 21 = some Tryz.f21 by kernel_rfl) rfl (by kernel_rfl) (Nat.le_of_ble_eq_true rfl) (L := L) (offL := 0) (by simp) hL (by rw [← hR]; exact postsA_closed _) ?_
  have hsl := slf_postsA H w
  have hm : [postsA w, iA cnt][0]? = some (postsA w) := rfl
  unfold rlO at hL
  generalize postsA w = va at *
  refine W.seq (W.region ?_)
  refine WO.op rfl rfl (WO.nil (W.seq (W.region ?_)))
  refine WO.op rfl rfl (WO.nil (W.seq (W.seq (W.region ?_))))
  refine WO.op rfl rfl (WO.nil (W.block ?_))
  refine W.fits (F' := fr [(0, .ptr L 0), (3, .nils), (4, iA ((0 : Nat) : Int))]) (fits_fr ⟨rfl, rfl, rfl, trivial⟩) ?_
  refine W.loopI (α := Nat × Heap × AVal) (fun x => x.1 ≤ w.length ∧ Ext.Keeps H x.2.1 ∧ H.length ≤ x.2.1.length ∧ OutOK x.2.1 H.length x.2.2 (nz (w.take x.1)) ∧ (x.2.2 = .nils ∨ nz (w.take x.1) ≠ [])) (fun x => w.length - x.1)
    (fun x => fr [(0, .ptr L 0), (3, x.2.2), (4, iA (x.1 : Int))]) (fun x => x.2.1) ?_ (0, H, .nils) ⟨Nat.zero_le _, fun _ _ => rfl, Nat.le_refl _, .inl ⟨rfl, rfl⟩, .inl rfl⟩
  rintro ⟨j, HH, out⟩ ⟨hj, hkeep, hlen, hout, hne⟩
  simp only at hj hkeep hlen hout hne
  change W _ _ _ _ (fr [(0, .ptr L 0), (3, out), (4, iA (j : Int))]) HH _
  have hLH0 : HH[L]? = some (.cells [va, iA cnt] 29) := (hkeep L hLlt).trans hL
  refine W.seq (W.seq (W.region ?_))
  refine WO.op rfl rfl ?_
  refine WO.op rfl rfl ?_
  refine WO.op rfl rfl ?_
  refine WO.op rfl rfl ?_
  refine WO.op (G.load_ptr rfl tP rfl hLH0 hm) rfl ?_
  refine WO.op (v := .int .i64 (w.length : Int)) (H1 := HH) (congrArg (withH HH) (hsl.len HH hkeep)) rfl ?_
  by_cases hlt : j < w.length
  · obtain ⟨p, hp⟩ : ∃ p, w[j]? = some p := ⟨_, List.getElem?_eq_getElem hlt⟩
    obtain ⟨a, a0, a1, row, off, f1, f2, f3, f4, f5, f6⟩ := hsl.at_ j p hp
    have htk : w.take (j + 1) = w.take j ++ [p] := by rw [List.take_add_one, hp]; rfl
    have hsn := nz_snoc (w.take j) p
    rw [← htk] at hsn
    refine WO.as (v' := .bool true) rfl rfl (bdT (by omega)) (WO.nil (W.cond (b := true) rfl (fun _ => W.skip ?_) (fun h => by cases h)))
    refine W.seq (W.block (W.seq (W.region ?_)))
    refine WO.op rfl rfl ?_
    refine WO.op rfl rfl ?_
    refine WO.op rfl rfl ?_
    refine WO.op (G.load_ptr rfl tP rfl hLH0 hm) rfl ?_
    refine WO.op rfl rfl ?_
    refine WO.op (SlU.idxG rfl rfl f1) rfl ?_
    refine WO.op (congrArg (withH HH) f3) rfl ?_
    refine WO.op (G.load_row rfl tI rfl (f4 HH hkeep).2.2 f6) rfl ?_
    refine WO.op rfl rfl (WO.nil ?_)
    by_cases hz : p.2 = 0
    · rw [if_pos hz] at hsn
      rw [hz]
      refine W.cond (b := false) rfl (fun h => by cases h) (fun _ => W.skip (W.region ?_))
      refine WO.op rfl rfl ?_
      refine WO.as (v' := iA ((j + 1 : Nat) : Int)) rfl rfl (int_i64 (by omega) (by omega)) ?_
      exact WO.op rfl rfl (WO.nil ⟨(j + 1, HH, out), ⟨by omega, hkeep, hlen, by rw [hsn]; exact hout, by rw [hsn]; exact hne⟩, by simp only; omega, fits_fr ⟨rfl, rfl, rfl, trivial⟩, rfl⟩)
    · rw [if_neg hz] at hsn
      refine W.cond (b := !decide (p.2 = 0)) rfl (fun _ => ?_) (fun h => by rw [decide_eq_false hz] at h; cases h)
      refine W.region ?_
      refine WO.op rfl rfl ?_
      refine WO.op rfl rfl ?_
      refine WO.op rfl rfl ?_
      refine WO.op rfl rfl ?_
      refine WO.op (G.load_ptr rfl tP rfl hLH0 hm) rfl ?_
      refine WO.op rfl rfl ?_
      refine WO.op (SlU.idxG rfl rfl f1) rfl ?_
      refine WO.op (G.load_agg2 rfl tp rfl rfl (f4 HH hkeep).1 f5 f6) rfl ?_
      refine WO.op (v := .sl HH.length 0 1 (some 1) 2) (H1 := HH ++ [.cells [.str p.1, iA p.2] 40]) rfl rfl ?_
      have hnel : nz (w.take j) ++ [(p.1, p.2)] ≠ [] := by simp
      have hol : (nz (w.take j)).length < 1073741824 := by have := nz_len (w.take j); simp at this; omega
      rcases hout with ⟨rfl, ho⟩ | ⟨id, ty, hN, rfl, hH⟩
      · refine WO.op (G.append_nils (ti := ti27) (te := ti40) (id2 := HH.length) (cap2 := some 1) rfl rfl rfl tP rfl tp (app_at rfl) rfl rfl (by decide)) rfl ?_
        refine WO.op rfl rfl (WO.nil (W.region ?_))
        refine WO.op rfl rfl ?_
        refine WO.as (v' := iA ((j + 1 : Nat) : Int)) rfl rfl (int_i64 (by omega) (by omega)) ?_
        refine WO.op rfl rfl (WO.nil ⟨(j + 1, _, _), ⟨by omega, ?_, ?_, ?_, ?_⟩, by simp only; omega, fits_fr ⟨rfl, rfl, rfl, trivial⟩, rfl⟩)
        · exact Keeps.trans (Keeps.trans hkeep (Keeps.app _ _) hlen) (Keeps.app _ _) (by simp; omega)
        · simp; omega
        · refine .inr ⟨(HH ++ [AObj.cells [.str p.1, iA p.2] 40]).length, 40, by simp; omega, ?_, ?_⟩
          · simp only [hsn, ho, List.nil_append]; rfl
          · simp only [hsn, ho, List.nil_append]
            exact app_at rfl
        · exact .inr (by simp only [hsn]; exact hnel)
      · have hidl : id < HH.length := (List.getElem?_eq_some_iff.1 hH).1
        refine WO.op (G.append_sl (ti := ti27) (te := ti40) (id2 := HH.length) (cap2 := some 1) (id := id) (len := (nz (w.take j)).length) (vs := postC (nz (w.take j))) (ty := ty) rfl rfl rfl tP rfl tp (app_at rfl) rfl rfl (by decide) (by decide) (by rw [app_lt hidl]; exact hH) (postC_len _) hol) rfl ?_
        refine WO.op rfl rfl (WO.nil (W.region ?_))
        refine WO.op rfl rfl ?_
        refine WO.as (v' := iA ((j + 1 : Nat) : Int)) rfl rfl (int_i64 (by omega) (by omega)) ?_
        refine WO.op rfl rfl (WO.nil ⟨(j + 1, _, _), ⟨by omega, ?_, ?_, ?_, ?_⟩, by simp only; omega, fits_fr ⟨rfl, rfl, rfl, trivial⟩, rfl⟩)
        · exact Keeps.trans (keep_set (Keeps.trans hkeep (Keeps.app _ _) hlen) hN) (Keeps.app _ _) (by simp; omega)
        · simp; omega
        · refine .inr ⟨(HH ++ [AObj.cells [.str p.1, iA p.2] 40]).length, 40, by simp; omega, ?_, ?_⟩
          · simp only [hsn, List.length_append, List.length_singleton]; rfl
          · simp only [hsn, postC_app]
            exact app_at (by simp)
        · exact .inr (by simp only [hsn]; exact hnel)
  · have hje : j = w.length := by omega
    subst hje
    rw [List.take_length] at hout hne
    refine WO.as (v' := .bool false) rfl rfl (bdF (by omega)) (WO.nil (W.cond (b := false) rfl (fun h => by cases h) (fun _ => W.exit ?_)))
    refine W.seq (W.region ?_)
    refine WO.op rfl rfl ?_
    refine WO.op rfl rfl (WO.nil (W.ret ⟨trivial, out, [va, iA cnt], 29, rfl, by rw [← hR]; exact out_seal hout hne, hLH0, rfl, fun j a b ha hb => .inl ⟨Option.some.inj (ha.symm.trans hb), ha⟩, fun id hid _ => hkeep id hid⟩))
end
end Go.AM.C

/- The reference's ledger: put. Parts of rows appended; the plain law. -/
namespace Go.AM
set_option linter.unusedVariables false
set_option linter.unusedSimpArgs false
section
variable {S : Sg} {call : Calling} {d : Bool} {g : Operand → AVal} {H : Heap} {c : Call} {t e : TypeId} {ti te : TI} {cells : List AVal} {cap2 : Option Nat} {cl : Bool}
theorem isl_part {sz off n : Nat} (hn : off + n * sz ≤ cells.length) : sliceCells H sz (.isl cells off n cap2 cl) = some ((cells.drop off).take (n * sz), n) := by
  unfold sliceCells
  simp only
  rw [if_pos hn]
/-- Nothing, on any row. -/
theorem G.append_none {s : AVal} {off : Nat} (hc : c.callee = .builtin .append) (ha : c.args.toList.map g = [s, .isl cells off 0 cap2 cl]) (hta : c.argTypes.toList = [t, t]) (ht : S.ty t = some ti) (hd : ti.desc = .slice e) (he : S.ty e = some te) (ho : off ≤ cells.length) (hs : s = .nils ∨ ∃ id o l c z, s = .sl id o l c z) :
    denG S call d g H (.call c) = some (s, H) := by
  obtain ⟨d1, d2, d3, d4, d5, d6, d7, d8⟩ := ti
  simp only at hd
  subst hd
  have hsc : sliceCells H te.size (.isl cells off 0 cap2 cl) = some ([], 0) := by
    rw [isl_part (by omega), Nat.zero_mul, List.take_zero]
  simp only [denG, hc, ha, hta, denAppend, ht, he, hsc]
  rcases hs with rfl | ⟨id, o, l, c, z, rfl⟩ <;> rfl
/-- A part of a row, on a row that is not there. -/
theorem G.append_part {off n : Nat} (hc : c.callee = .builtin .append) (ha : c.args.toList.map g = [.nils, .isl cells off (n + 1) cap2 cl]) (hta : c.argTypes.toList = [t, t]) (ht : S.ty t = some ti) (hd : ti.desc = .slice e) (he : S.ty e = some te) (hn : off + (n + 1) * te.size ≤ cells.length) (hcl : ((cells.drop off).take ((n + 1) * te.size)).all AVal.cell = true) (hb : te.bytes ≤ 1024) (hl : n < 1073741824) :
    denG S call d g H (.call c) = some (.sl H.length 0 (n + 1) none te.size, H ++ [.cells ((cells.drop off).take ((n + 1) * te.size)) e]) := by
  obtain ⟨d1, d2, d3, d4, d5, d6, d7, d8⟩ := ti
  simp only at hd
  subst hd
  simp only [denG, hc, ha, hta, denAppend, ht, he, isl_part hn, hcl]
  have h1 : (n + 1) * te.bytes ≤ 140737488355328 := by
    have : (n + 1) * te.bytes ≤ 1073741824 * 1024 := Nat.mul_le_mul (by omega) hb
    omega
  rw [if_neg (by decide), if_pos ⟨h1, by omega⟩]
/-- A part of a row, on a row of its own. -/
theorem G.append_sl_part {id len : Nat} {vs : List AVal} {ty : TypeId} {off n : Nat} (hc : c.callee = .builtin .append) (ha : c.args.toList.map g = [.sl id 0 len none te.size, .isl cells off (n + 1) cap2 cl]) (hta : c.argTypes.toList = [t, t]) (ht : S.ty t = some ti) (hd : ti.desc = .slice e) (he : S.ty e = some te) (hn : off + (n + 1) * te.size ≤ cells.length) (hcl : ((cells.drop off).take ((n + 1) * te.size)).all AVal.cell = true) (hb : te.bytes ≤ 1024) (hs : 0 < te.size)
    (hI : H[id]? = some (.cells vs ty)) (hv : vs.length = len * te.size) (hl : len + n < 1073741824) :
    denG S call d g H (.call c) = some (.sl H.length 0 (len + (n + 1)) none te.size, H.set id .dead ++ [.cells (vs ++ (cells.drop off).take ((n + 1) * te.size)) e]) := by
  obtain ⟨d1, d2, d3, d4, d5, d6, d7, d8⟩ := ti
  simp only at hd
  subst hd
  have hso : sliceCells H te.size (.sl id 0 len none te.size) = some (vs, len) := by
    unfold sliceCells
    simp only [hI]
    rw [if_pos (by omega), List.drop_zero, List.take_of_length_le (by omega)]
  simp only [denG, hc, ha, hta, denAppend, ht, he, isl_part hn, hso, hcl]
  have h1 : (len + (n + 1)) * te.bytes ≤ 140737488355328 := by
    have : (len + (n + 1)) * te.bytes ≤ 1073741824 * 1024 := Nat.mul_le_mul (by omega) hb
    omega
  rw [if_neg (by decide), if_pos ⟨trivial, hs, h1, by omega⟩]
end
end Go.AM
namespace Go.AM.C
set_option linter.unusedVariables false
set_option linter.unusedSimpArgs false
/-- A balance among others, by rising names. -/
def rput : Posts → List UInt8 × Int → Posts
  | [], p => [p]
  | e :: l, p => if e.1 < p.1 then e :: rput l p else if e.1 = p.1 then p :: l else p :: e :: l
/-- The books by rising names. -/
def srt (m : Posts) : Posts := (keysS m).map fun k => (k, look 0 m k)
theorem nz_srt (m : Posts) : nz (srt m) = allE m := rfl
theorem srt_len (m : Posts) : (srt m).length = m.length := by unfold srt; rw [List.length_map, keysS_len]
theorem srt_nil : srt [] = [] := by simp [srt, keysS]
/-- Where a balance is put. -/
def rplace : Posts → List UInt8 → Nat
  | [], _ => 0
  | e :: l, k => if e.1 < k then rplace l k + 1 else 0
theorem rplace_le : ∀ (l : Posts) (k : List UInt8), rplace l k ≤ l.length
  | [], k => Nat.le_refl _
  | e :: l, k => by
    unfold rplace
    split
    · exact Nat.succ_le_succ (rplace_le l k)
    · exact Nat.zero_le _
theorem rplace_before : ∀ {l : Posts} {k : List UInt8} {j : Nat} {q : List UInt8 × Int}, j < rplace l k → l[j]? = some q → q.1 < k
  | [], k, j, q, h, hq => by simp at hq
  | e :: l, k, j, q, h, hq => by
    unfold rplace at h
    split at h
    · rename_i he
      cases j with
      | zero => have : e = q := by simpa using hq
                rw [← this]; exact he
      | succ j => exact rplace_before (Nat.lt_of_succ_lt_succ h) (by simpa using hq)
    · exact absurd h (Nat.not_lt_zero _)
theorem rplace_at : ∀ {l : Posts} {k : List UInt8} {q : List UInt8 × Int}, l[rplace l k]? = some q → ¬ q.1 < k
  | [], k, q, hq => by simp at hq
  | e :: l, k, q, hq => by
    unfold rplace at hq
    split at hq
    · exact rplace_at (l := l) (by simpa using hq)
    · rename_i he
      have : e = q := by simpa using hq
      rw [← this]; exact he
theorem rput_eq : ∀ (l : Posts) (p : List UInt8 × Int), rput l p = l.take (rplace l p.1) ++ p :: (match l[rplace l p.1]? with
    | some q => if q.1 = p.1 then l.drop (rplace l p.1 + 1) else l.drop (rplace l p.1)
    | none => [])
  | [], p => rfl
  | e :: l, p => by
    unfold rput rplace
    by_cases h : e.1 < p.1
    · rw [if_pos h, if_pos h, rput_eq l p]
      simp only [List.take_succ_cons, List.cons_append, List.getElem?_cons_succ, List.drop_succ_cons]
    · rw [if_neg h, if_neg h]
      by_cases h2 : e.1 = p.1
      · rw [if_pos h2]; simp [h2]
      · rw [if_neg h2]; simp [h2]
end Go.AM.C

/- The reference's ledger: a balance put among others is a balance put into the books. -/
namespace Go.AM.C
set_option linter.unusedVariables false
set_option linter.unusedSimpArgs false

/-- Rising names, none twice. -/
def SS (w : Posts) : Prop := (w.map (·.1)).Pairwise (· < ·)
theorem SS.nodup {w : Posts} (h : SS w) : (w.map (·.1)).Nodup := List.Pairwise.imp (fun hab e => by subst e; exact List.lt_irrefl _ hab) h
theorem ss_ext {a b : Posts} (ha : SS a) (hb : SS b) (h : ∀ k, getE a k = getE b k) : a = b := by
  have hn : a.map (·.1) = b.map (·.1) := by
    refine List.Perm.eq_of_pairwise (le := fun x y => x < y) (fun x y _ _ h1 h2 => absurd h2 (List.lt_asymm h1)) ha hb ((List.perm_ext_iff_of_nodup ha.nodup hb.nodup).2 fun k => ?_)
    have e1 : k ∈ a.map (·.1) ↔ getE a k ≠ none := by rw [Ne, getE_none, Classical.not_not]
    have e2 : k ∈ b.map (·.1) ↔ getE b k ≠ none := by rw [Ne, getE_none, Classical.not_not]
    rw [e1, e2, h]
  have form : ∀ (w : Posts), (w.map (·.1)).Nodup → w = (w.map (·.1)).map fun k => (k, (getE w k).getD 0) := fun w hw => by
    rw [List.map_map]
    refine (List.map_id w).symm.trans (List.map_congr_left fun e he => ?_)
    show e = (e.1, (getE w e.1).getD 0)
    rw [getE_of_mem hw he]; rfl
  rw [form a ha.nodup, form b hb.nodup, hn]
  exact List.map_congr_left fun k _ => by rw [h]
theorem rput_mem : ∀ (l : Posts) (p : List UInt8 × Int), ∀ e ∈ rput l p, e = p ∨ e ∈ l
  | [], p, e, h => .inl (by simpa [rput] using h)
  | x :: l, p, e, h => by
    unfold rput at h
    split at h
    · rcases List.mem_cons.1 h with h | h
      · exact .inr (by rw [h]; exact List.mem_cons_self)
      · rcases rput_mem l p e h with h | h
        · exact .inl h
        · exact .inr (List.mem_cons_of_mem _ h)
    · split at h
      · rcases List.mem_cons.1 h with h | h
        · exact .inl h
        · exact .inr (List.mem_cons_of_mem _ h)
      · rcases List.mem_cons.1 h with h | h
        · exact .inl h
        · exact .inr h
theorem rput_ss : ∀ {l : Posts} {p : List UInt8 × Int}, SS l → SS (rput l p)
  | [], p, _ => by show ([p.1] : List (List UInt8)).Pairwise _; exact List.pairwise_singleton _ _
  | x :: l, p, h => by
    have hx : ∀ y ∈ l.map (·.1), x.1 < y := (List.pairwise_cons.1 h).1
    have hl : SS l := (List.pairwise_cons.1 h).2
    unfold rput
    split
    · rename_i h1
      refine List.pairwise_cons.2 ⟨fun y hy => ?_, rput_ss hl⟩
      obtain ⟨e, he, rfl⟩ := List.mem_map.1 hy
      rcases rput_mem l p e he with h2 | h2
      · rw [h2]; exact h1
      · exact hx _ (List.mem_map.2 ⟨e, h2, rfl⟩)
    · split
      · rename_i h1 h2
        refine List.pairwise_cons.2 ⟨fun y hy => ?_, hl⟩
        show p.1 < y
        rw [← h2]
        exact hx y hy
      · rename_i h1 h2
        have h3 : p.1 < x.1 := by
          rcases Classical.em (p.1 < x.1) with h4 | h4
          · exact h4
          · exact absurd (List.le_antisymm (List.not_lt.1 h4) (List.not_lt.1 h1)) h2
        refine List.pairwise_cons.2 ⟨fun y hy => ?_, h⟩
        rcases List.mem_cons.1 hy with h4 | h4
        · rw [h4]; exact h3
        · exact List.lt_trans h3 (hx y h4)
theorem getE_cons (e : List UInt8 × Int) (l : Posts) (k : List UInt8) : getE (e :: l) k = if k = e.1 then some e.2 else getE l k := by
  show ((if k = e.1 then some 0 else (keyIdx k l).map (· + 1)).bind fun i => (e :: l)[i]?.map (·.2)) = _
  by_cases h : k = e.1
  · rw [if_pos h, if_pos h]; rfl
  · rw [if_neg h, if_neg h]
    show _ = (keyIdx k l).bind fun i => l[i]?.map (·.2)
    cases keyIdx k l with
    | none => rfl
    | some i => rfl
theorem rput_get : ∀ {l : Posts} {p : List UInt8 × Int} (k : List UInt8), SS l → getE (rput l p) k = if k = p.1 then some p.2 else getE l k
  | [], p, k, _ => by show getE [p] k = _; rw [getE_cons]
  | x :: l, p, k, h => by
    have hx : ∀ y ∈ l.map (·.1), x.1 < y := (List.pairwise_cons.1 h).1
    have hl : SS l := (List.pairwise_cons.1 h).2
    unfold rput
    split
    · rename_i h1
      rw [getE_cons, rput_get k hl, getE_cons]
      by_cases h2 : k = x.1
      · have h3 : ¬ k = p.1 := fun e => by rw [h2] at e; rw [e] at h1; exact List.lt_irrefl _ h1
        rw [if_pos h2, if_neg h3, if_pos h2]
      · rw [if_neg h2, if_neg h2]
    · split
      · rename_i h1 h2
        rw [getE_cons, getE_cons]
        by_cases h3 : k = p.1
        · rw [if_pos h3, if_pos h3]
        · rw [if_neg h3, if_neg h3, if_neg (by rw [h2]; exact h3)]
      · rw [getE_cons]
theorem srt_names (m : Posts) : (srt m).map (·.1) = keysS m := by
  unfold srt
  rw [List.map_map]
  exact List.map_id _
theorem srt_ss {m : Posts} (h : (m.map (·.1)).Nodup) : SS (srt m) := by
  unfold SS
  rw [srt_names]
  have tr : ∀ a b c : List UInt8, decide (a ≤ b) = true → decide (b ≤ c) = true → decide (a ≤ c) = true := fun a b c h1 h2 => by simp only [decide_eq_true_eq] at *; exact List.le_trans h1 h2
  have tot : ∀ a b : List UInt8, (decide (a ≤ b) || decide (b ≤ a)) = true := fun a b => by simp only [Bool.or_eq_true, decide_eq_true_eq]; exact List.le_total a b
  have h1 : (keysS m).Pairwise fun x y => decide (x ≤ y) = true := List.pairwise_mergeSort tr tot _
  have h2 : (keysS m).Nodup := (keysS_perm m).nodup_iff.2 h
  refine List.Pairwise.imp (R := fun x y => decide (x ≤ y) = true ∧ x ≠ y) (fun {x y} hxy => ?_) (List.Pairwise.and h1 h2)
  rcases Classical.em (x < y) with h4 | h4
  · exact h4
  · exact absurd (List.le_antisymm (by simpa using hxy.1) (List.not_lt.1 h4)) hxy.2
theorem srt_get {m : Posts} (h : (m.map (·.1)).Nodup) (k : List UInt8) : getE (srt m) k = getE m k := by
  cases hg : getE m k with
  | none =>
    rw [getE_none] at hg ⊢
    rw [srt_names]
    exact fun hk => hg ((keysS_perm m).mem_iff.1 hk)
  | some v =>
    have hk : k ∈ m.map (·.1) := List.mem_map.2 ⟨(k, v), mem_of_getE hg, rfl⟩
    have hl : look 0 m k = v := by unfold look; rw [hg]; rfl
    have hm : (k, look 0 m k) ∈ srt m := List.mem_map.2 ⟨k, (keysS_perm m).mem_iff.2 hk, rfl⟩
    rw [← hl]
    exact getE_of_mem (srt_ss h).nodup hm
theorem rput_srt {m : Posts} (h : (m.map (·.1)).Nodup) (k : List UInt8) (v : Int) : rput (srt m) (k, v) = srt (putE m k v) := by
  refine ss_ext (rput_ss (srt_ss h)) (srt_ss (put_nodup h)) fun k' => ?_
  rw [rput_get k' (srt_ss h), srt_get h, srt_get (put_nodup h)]
  by_cases hk : k' = k
  · subst hk
    rw [if_pos rfl, getE_put_self]
  · rw [if_neg hk, getE_put_ne hk]
end Go.AM.C

