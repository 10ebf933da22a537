/- Part of a proof over the program's translation: begun, by a closed run.; LedgerEdge answers true.; LedgerBack: postings of the draws; what is booked and taken away again. .. -/
import Derived.Test.YtjlmihjhakfchaaGreatDoorN4
import Derived.Test.YtjlmihjhakfchaaGreatDoorB0
noncomputable section
/- begun, by a closed run. -/
namespace Go.AM.C
open Go.Proofs
noncomputable section
set_option linter.unusedVariables false
set_option linter.unusedSimpArgs false
abbrev SMF : Sg := SC baseM10
theorem sMF : Sound Tryz.prog SMF := sc_sound (baseM10_ok _ (sc_glob _) (sc_pin _))
theorem begun_den : givesB (den SMF 5000 9 [] []) true = true := by kernel_rfl
theorem begun_has (H : Heap) : Has 9 [] H (.bool true) H := Has.un (run_B sMF rfl begun_den H)
end
end Go.AM.C

/- LedgerEdge answers true. -/
namespace Go.AM.C
open Go.Proofs
noncomputable section
set_option linter.unusedVariables false
set_option linter.unusedSimpArgs false

theorem hlb2 {a b : List UInt8} {x y : Int} (hx : i64 x) (hy : i64 y) (ha : a.length ≤ 20) (hb : b.length ≤ 20) : ∀ p ∈ [(a, x), (b, y)], i64 p.2 ∧ p.1.length < 4611686018427387904 := fun p hp => by
  simp only [List.mem_cons, List.not_mem_nil, or_false] at hp
  rcases hp with rfl | rfl
  · exact ⟨hx, by simp only; omega⟩
  · exact ⟨hy, by simp only; omega⟩
end
end Go.AM.C

/- LedgerBack: postings of the draws; what is booked and taken away again. -/
namespace Go.AM.C
open Go.Proofs
noncomputable section
set_option linter.unusedVariables false
set_option linter.unusedSimpArgs false

/-! #### the plain law -/
/-- What postings come to at one name. -/
def amt (undo : Bool) (l : Posts) (k : List UInt8) : Int := (l.map fun p => if p.1 = k then sg undo p.2 else 0).sum
theorem amt_cons (undo : Bool) (p : List UInt8 × Int) (l : Posts) (k : List UInt8) : amt undo (p :: l) k = (if p.1 = k then sg undo p.2 else 0) + amt undo l k := by simp [amt]
def sval (s : Sums) (k : List UInt8) : Int := (look none s k).getD 0
theorem sval_step (undo : Bool) (s : Sums) (p : List UInt8 × Int) (k : List UInt8) : sval (sumStep undo s p) k = sval s k + if p.1 = k then sg undo p.2 else 0 := by
  unfold sval sumStep look
  by_cases h : p.1 = k
  · subst h
    rw [getE_put_self, if_pos rfl]; rfl
  · rw [getE_put_ne (fun e => h e.symm), if_neg h, Int.add_zero]
theorem sval_fold (undo : Bool) : ∀ (l : Posts) (s : Sums) (k : List UInt8), sval (l.foldl (sumStep undo) s) k = sval s k + amt undo l k
  | [], s, k => by simp [amt]
  | p :: l, s, k => by
    rw [List.foldl_cons, sval_fold undo l, sval_step, amt_cons]; omega
theorem sval_sums (undo : Bool) (l : Posts) (k : List UInt8) : sval (sumsOf undo l) k = amt undo l k := by
  unfold sumsOf
  rw [sval_fold]
  have : sval [] k = 0 := rfl
  omega
end
end Go.AM.C

/- LedgerBack: postings; what the law answers. -/
namespace Go.AM
set_option linter.unusedVariables false
set_option linter.unusedSimpArgs false
section
variable {S : Sg} {call : Calling} {d : Bool} {g : Operand → AVal} {H : Heap} {c : Call} {t e : TypeId} {ti te : TI} {news : List AVal} {cap2 : Option Nat} {cl : Bool}
theorem isl_one {sz : Nat} (hn : news.length = sz) : sliceCells H sz (.isl news 0 1 cap2 cl) = some (news, 1) := by
  unfold sliceCells
  simp only
  rw [if_pos (by omega), List.drop_zero, List.take_of_length_le (by omega)]
/-- One more, made where the order is drawn, on a row that is not there. -/
theorem G.append_nils_isl (hc : c.callee = .builtin .append) (ha : c.args.toList.map g = [.nils, .isl news 0 1 cap2 cl]) (hta : c.argTypes.toList = [t, t]) (ht : S.ty t = some ti) (hd : ti.desc = .slice e) (he : S.ty e = some te) (hn : news.length = te.size) (hcl : news.all AVal.cell = true) (hb : te.bytes ≤ 1024) :
    denG S call d g H (.call c) = some (.sl H.length 0 1 none te.size, H ++ [.cells news e]) := by
  obtain ⟨d1, d2, d3, d4, d5, d6, d7, d8⟩ := ti
  simp only at hd
  subst hd
  simp only [denG, hc, ha, hta, denAppend, ht, he, isl_one hn, hcl]
  have h1 : (0 + 1) * te.bytes ≤ 140737488355328 := by omega
  rw [if_neg (by decide), if_pos ⟨h1, by omega⟩]
/-- One more, made where the order is drawn. -/
theorem G.append_sl_isl {id len : Nat} {vs : List AVal} {ty : TypeId} (hc : c.callee = .builtin .append) (ha : c.args.toList.map g = [.sl id 0 len none te.size, .isl news 0 1 cap2 cl]) (hta : c.argTypes.toList = [t, t]) (ht : S.ty t = some ti) (hd : ti.desc = .slice e) (he : S.ty e = some te) (hn : news.length = te.size) (hcl : news.all AVal.cell = true) (hb : te.bytes ≤ 1024) (hs : 0 < te.size)
    (hI : H[id]? = some (.cells vs ty)) (hv : vs.length = len * te.size) (hl : len < 1073741824) :
    denG S call d g H (.call c) = some (.sl H.length 0 (len + 1) none te.size, H.set id .dead ++ [.cells (vs ++ news) e]) := by
  obtain ⟨d1, d2, d3, d4, d5, d6, d7, d8⟩ := ti
  simp only at hd
  subst hd
  have hso : sliceCells H te.size (.sl id 0 len none te.size) = some (vs, len) := by
    unfold sliceCells
    simp only [hI]
    rw [if_pos (by omega), List.drop_zero, List.take_of_length_le (by omega)]
  simp only [denG, hc, ha, hta, denAppend, ht, he, isl_one hn, hso, hcl]
  have h1 : (len + (0 + 1)) * te.bytes ≤ 140737488355328 := by
    have : (len + (0 + 1)) * te.bytes ≤ 1073741824 * 1024 := Nat.mul_le_mul (by omega) hb
    omega
  rw [if_neg (by decide), if_pos ⟨trivial, hs, h1, by omega⟩]
end
end Go.AM
namespace Go.AM.C
open Go.Proofs
noncomputable section
set_option linter.unusedVariables false
set_option linter.unusedSimpArgs false

/-! #### Text, where the order is drawn -/
end
end Go.AM.C

/- The reference's numbers: OfU, trim. -/
namespace Go.AM.C
open Go.Proofs
noncomputable section
set_option linter.unusedVariables false
set_option linter.unusedSimpArgs false

/-- A number of the reference's. -/
def rD (n : Nat) : AVal := .isl (u64s (digs n)) 0 (digs n).length none true
def IsN (v : AVal) (n : Nat) : Prop := v = rD n ∨ v = .nils ∧ n = 0
theorem wk_nils0 : Wk .nils (.isl [] 0 0 none true) := fun c w v h => by
  cases h
  exact .isl0 _ _ _ _ _ _ (Nat.zero_le _) (fun n h => by cases h)
end
end Go.AM.C

/- The reference's numbers: Cmp. -/
namespace Go.AM.C
open Go.Proofs
noncomputable section
set_option linter.unusedVariables false
set_option linter.unusedSimpArgs false

/-- Arguments of which less is said. -/
theorem Has.wk {f : FuncId} {args args' : List AVal} {H H' : Heap} {v : AVal} (h : Has f args H v H') (hl : args'.length = args.length) (hw : ∀ (j : Nat) (a' a : AVal), args'[j]? = some a' → args[j]? = some a → Wk a' a) : Has f args' H v H' :=
  fun c w cargs r g ha => h c w cargs r g ⟨ha.1.trans hl, fun j x y hx hy => by
    have hj : j < args'.length := by rw [hl]; exact (List.getElem?_eq_some_iff.1 hx).1
    exact hw j _ x (List.getElem?_eq_getElem hj) hx _ _ _ (ha.2 j _ y (List.getElem?_eq_getElem hj) hy)⟩
theorem wk_nilsD : Wk .nils (rD 0) := by
  unfold rD
  rw [digs_zero]
  exact wk_nils0
theorem IsN.wk {v : AVal} {n : Nat} (h : IsN v n) : Wk v (rD n) := by
  rcases h with rfl | ⟨rfl, rfl⟩
  · exact Wk.refl _
  · exact wk_nilsD

theorem lt_of_len {m n : Nat} (h : (digs m).length < (digs n).length) : m < n := by
  have h1 := dval_lt (digs_dg m)
  have h2 := dval_ge (digs_dg n) (digs_top n) (by intro e; rw [e] at h; cases h)
  rw [dval_digs] at h1 h2
  have h3 : 1000000000 ^ (digs m).length ≤ 1000000000 ^ ((digs n).length - 1) := Nat.pow_le_pow_right (by decide) (by omega)
  omega
theorem dval_split (l : List Nat) (k : Nat) (hk : k ≤ l.length) : dval l = dval (l.take k) + 1000000000 ^ k * dval (l.drop k) := by
  have := dval_app (l.take k) (l.drop k)
  rw [List.take_append_drop, List.length_take, Nat.min_eq_left hk] at this
  exact this
end
end Go.AM.C

/- The reference's numbers: Add. -/
namespace Go.AM.C
open Go.Proofs
noncomputable section
set_option linter.unusedVariables false
set_option linter.unusedSimpArgs false

theorem take_step (l : List Nat) (k : Nat) : dval (l.take (k + 1)) = dval (l.take k) + 1000000000 ^ k * l.getD k 0 := by
  rcases Nat.lt_or_ge k l.length with h | h
  · have hg : l[k]? = some (l.getD k 0) := by rw [List.getD_eq_getElem?_getD, List.getElem?_eq_getElem h]; rfl
    exact dval_take_succ hg
  · rw [dval_take_all (by omega), dval_take_all h, List.getD_eq_getElem?_getD, List.getElem?_eq_none h]
    simp
theorem getD_dg {l : List Nat} (h : Dg l) (k : Nat) : l.getD k 0 < 1000000000 := by
  rcases Nat.lt_or_ge k l.length with hk | hk
  · rw [List.getD_eq_getElem?_getD, List.getElem?_eq_getElem hk]
    exact h _ (List.getElem_mem hk)
  · rw [List.getD_eq_getElem?_getD, List.getElem?_eq_none hk]; decide
theorem getD_over {l : List Nat} {k : Nat} (h : l.length ≤ k) : l.getD k 0 = 0 := by rw [List.getD_eq_getElem?_getD, List.getElem?_eq_none h]; rfl

/-- What Add knows after k digits. -/
structure AddI (a b l : List Nat) (k c : Nat) : Prop where
  len : l.length = k
  dg : Dg l
  val : dval l + 1000000000 ^ k * c = dval (a.take k) + dval (b.take k)
  c1 : c ≤ 1
  kb : k + c ≤ a.length + b.length + 1
  top : k = 0 ∨ k - 1 < a.length ∨ k - 1 < b.length ∨ 1000000000 ^ (k - 1) ≤ dval a + dval b
theorem AddI.step {a b l : List Nat} {k c s : Nat} (h : AddI a b l k c) (da : Dg a) (db : Dg b) (hs : s = c + a.getD k 0 + b.getD k 0) (go : k < a.length ∨ k < b.length ∨ 0 < c) : AddI a b (l ++ [s % 1000000000]) (k + 1) (s / 1000000000) := by
  obtain ⟨h1, h2, h3, h4, h5, h6⟩ := h
  have ga := getD_dg da k
  have gb := getD_dg db k
  have s1 : s / 1000000000 ≤ 1 := by omega
  have hmod := Nat.div_add_mod s 1000000000
  refine ⟨by simp [h1], h2.app (Nat.mod_lt _ (by decide)), ?_, s1, ?_, ?_⟩
  · rw [dval_app, take_step, take_step, h1]
    simp only [dval, Nat.mul_zero, Nat.add_zero]
    have e1 : 1000000000 ^ (k + 1) * (s / 1000000000) = 1000000000 ^ k * (1000000000 * (s / 1000000000)) := by rw [Nat.pow_succ, Nat.mul_assoc]
    have e2 : 1000000000 ^ k * s = 1000000000 ^ k * (1000000000 * (s / 1000000000)) + 1000000000 ^ k * (s % 1000000000) := by rw [← Nat.mul_add, hmod]
    have e3 : 1000000000 ^ k * s = 1000000000 ^ k * c + 1000000000 ^ k * a.getD k 0 + 1000000000 ^ k * b.getD k 0 := by rw [hs, Nat.mul_add, Nat.mul_add]
    rw [e1]
    omega
  · rcases go with g | g | g
    · omega
    · omega
    · by_cases g1 : k < a.length
      · omega
      · by_cases g2 : k < b.length
        · omega
        · rw [getD_over (by omega), getD_over (by omega)] at hs
          omega
  · rw [Nat.add_sub_cancel]
    rcases go with g | g | g
    · exact .inr (.inl g)
    · exact .inr (.inr (.inl g))
    · by_cases g1 : k < a.length
      · exact .inr (.inl g1)
      · by_cases g2 : k < b.length
        · exact .inr (.inr (.inl g2))
        · rw [dval_take_all (by omega), dval_take_all (by omega)] at h3
          have : 1000000000 ^ k * 1 ≤ 1000000000 ^ k * c := Nat.mul_le_mul_left _ g
          exact .inr (.inr (.inr (by omega)))
theorem AddI.fin {a b l : List Nat} {k : Nat} (h : AddI a b l k 0) (da : Dg a) (db : Dg b) (ta : Top a) (tb : Top b) (ha : a.length ≤ k) (hb : b.length ≤ k) : l = digs (dval a + dval b) := by
  obtain ⟨h1, h2, h3, h4, h5, h6⟩ := h
  rw [dval_take_all ha, dval_take_all hb, Nat.mul_zero, Nat.add_zero] at h3
  rw [← h3]
  refine (digs_of l h2 (top_of h2 fun hne => ?_)).symm
  have hk : k ≠ 0 := fun e => hne (List.eq_nil_of_length_eq_zero (by omega))
  rw [h1, h3]
  rcases h6 with h6 | h6 | h6 | h6
  · exact absurd h6 hk
  · have := dval_ge da ta (by intro e; rw [e] at h6; cases h6)
    rw [show a.length - 1 = k - 1 by omega] at this
    omega
  · have := dval_ge db tb (by intro e; rw [e] at h6; cases h6)
    rw [show b.length - 1 = k - 1 by omega] at this
    omega
  · exact h6

end
end Go.AM.C

/- The reference's numbers: trim. -/
namespace Go.AM.C
open Go.Proofs
noncomputable section
set_option linter.unusedVariables false
set_option linter.unusedSimpArgs false

end
end Go.AM.C

/- The reference's numbers: Sub, plain. -/
namespace Go.AM
set_option linter.unusedVariables false
set_option linter.unusedSimpArgs false
theorem WT.as {S : Sg} {n : Nat} {ops : Array Oper} {F : Fr} {H : Heap} {K : Fr → Heap → Prop} {k : Nat} {o : Oper} {rest : List Oper} {H1 : Heap} {v v' : AVal} (hop : denG S (callS S) true (opdF S F) H o.op = some (v, H1)) (hw : wantedF ops F o = some true) (ha : isAlloc o.op = false) (e : v = v')
    (next : WT S n ops rest k (putF F o.dst v') H1 K) : WT S n ops (o :: rest) k F H K := WT.op (by rw [← e]; exact hop) hw ha next
section
variable {S : Sg} {call : Calling} {d : Bool} {g : Operand → AVal} {H : Heap} {c : Call} {t e : TypeId} {ti te : TI} {news : List AVal} {cap2 : Option Nat} {cl : Bool}
end
end Go.AM
namespace Go.AM.C
set_option linter.unusedVariables false
set_option linter.unusedSimpArgs false

theorem dval_set : ∀ {l : List Nat} {i x : Nat} (z : Nat), l[i]? = some x → dval (l.set i z) + 1000000000 ^ i * x = dval l + 1000000000 ^ i * z
  | [], i, x, z, h => by simp at h
  | d :: l, 0, x, z, h => by
    have : d = x := by simpa using h
    subst this
    simp only [List.set_cons_zero, dval, Nat.pow_zero, Nat.one_mul]
    omega
  | d :: l, i + 1, x, z, h => by
    have ih := dval_set z (show l[i]? = some x by simpa using h)
    simp only [List.set_cons_succ, dval, Nat.pow_succ]
    have e1 : 1000000000 ^ i * 1000000000 * x = 1000000000 * (1000000000 ^ i * x) := by rw [Nat.mul_comm (1000000000 ^ i) 1000000000, Nat.mul_assoc]
    have e2 : 1000000000 ^ i * 1000000000 * z = 1000000000 * (1000000000 ^ i * z) := by rw [Nat.mul_comm (1000000000 ^ i) 1000000000, Nat.mul_assoc]
    rw [e1, e2]
    omega
theorem set_dg {l : List Nat} (h : Dg l) {i z : Nat} (hz : z < 1000000000) : Dg (l.set i z) := fun x hx => by
  rcases List.mem_or_eq_of_mem_set hx with hx | hx
  · exact h x hx
  · rw [hx]; exact hz
/-- What Sub knows after i digits. -/
structure SubI (a b l : List Nat) (i : Nat) : Prop where
  len : l.length = a.length
  dg : Dg l
  val : dval l + dval (b.take i) = dval a
theorem sub_pos {a b l : List Nat} {i x y : Nat} (h : SubI a b l i) (hx : l[i]? = some x) (hy : b[i]? = some y) (hxy : x < y) (hba : dval b ≤ dval a) : 0 < dval (l.drop (i + 1)) := by
  obtain ⟨h1, h2, h3⟩ := h
  have hil : i < l.length := (List.getElem?_eq_some_iff.1 hx).1
  have hib : i < b.length := (List.getElem?_eq_some_iff.1 hy).1
  have s1 := dval_split l (i + 1) hil
  rw [dval_take_succ hx] at s1
  have s2 := dval_split b (i + 1) hib
  rw [dval_take_succ hy] at s2
  have t1 := dval_lt (h2.take i)
  rw [List.length_take, Nat.min_eq_left (by omega)] at t1
  have e2 : 1000000000 ^ i * (x + 1) ≤ 1000000000 ^ i * y := Nat.mul_le_mul_left _ hxy
  rw [Nat.mul_add] at e2
  rcases Nat.eq_zero_or_pos (dval (l.drop (i + 1))) with h0 | h0
  · rw [h0, Nat.mul_zero] at s1
    omega
  · exact h0
/-- While a borrow goes up. -/
structure SubB (a l1 lk : List Nat) (i k : Nat) : Prop where
  len : lk.length = a.length
  dg : Dg lk
  val : dval lk + 1000000000 ^ (i + 1) = dval l1 + 1000000000 ^ k
  drop : lk.drop k = l1.drop k
  pos : 0 < dval (l1.drop k)
  ik : i < k
theorem SubB.start {a b l : List Nat} {i x y : Nat} (h : SubI a b l i) (hx : l[i]? = some x) (hy : b[i]? = some y) (hxy : x < y) (hyb : y < 1000000000) (hba : dval b ≤ dval a) : SubB a (l.set i (x + (1000000000 - y))) (l.set i (x + (1000000000 - y))) i (i + 1) := by
  refine ⟨by rw [List.length_set, h.len], set_dg h.dg (by omega), rfl, rfl, ?_, Nat.lt_succ_self i⟩
  rw [List.drop_set_of_lt (Nat.lt_succ_self i)]
  exact sub_pos h hx hy hxy hba
theorem SubB.lt {a l1 lk : List Nat} {i k : Nat} (h : SubB a l1 lk i k) : k < lk.length := by
  rcases Nat.lt_or_ge k lk.length with h1 | h1
  · exact h1
  · have := h.pos
    rw [← h.drop, List.drop_eq_nil_of_le h1] at this
    exact absurd this (by decide)
theorem SubB.next {a l1 lk : List Nat} {i k : Nat} (h : SubB a l1 lk i k) (h0 : lk[k]? = some 0) : SubB a l1 (lk.set k 999999999) i (k + 1) := by
  obtain ⟨h1, h2, h3, h4, h5, h6⟩ := h
  have hk : k < lk.length := (List.getElem?_eq_some_iff.1 h0).1
  have hd : lk.drop k = 0 :: lk.drop (k + 1) := by
    rw [List.drop_eq_getElem_cons hk, (List.getElem?_eq_some_iff.1 h0).2]
  have hd1 : lk.drop (k + 1) = l1.drop (k + 1) := by
    have e1 : (lk.drop k).drop 1 = (l1.drop k).drop 1 := by rw [h4]
    simpa [List.drop_drop] using e1
  refine ⟨by rw [List.length_set, h1], set_dg h2 (by decide), ?_, by rw [List.drop_set_of_lt (Nat.lt_succ_self k), hd1], ?_, by omega⟩
  · have e := dval_set 999999999 h0
    rw [Nat.mul_zero, Nat.add_zero] at e
    rw [e, Nat.pow_succ 1000000000 k]
    omega
  · rw [← h4, hd] at h5
    simp only [dval] at h5
    rw [← hd1]
    omega
theorem SubB.last {a b l lk : List Nat} {i k x y z : Nat} (hi : SubI a b l i) (hx : l[i]? = some x) (hy : b[i]? = some y) (hxy : x < y) (hyb : y < 1000000000) (h : SubB a (l.set i (x + (1000000000 - y))) lk i k) (hz : lk[k]? = some z) (h0 : z ≠ 0) : SubI a b (lk.set k (z - 1)) (i + 1) := by
  obtain ⟨h1, h2, h3, h4, h5, h6⟩ := h
  have hzb := h2 z (List.mem_of_getElem? hz)
  refine ⟨by rw [List.length_set, h1], set_dg h2 (by omega), ?_⟩
  have e1 := dval_set (z - 1) hz
  have e2 := dval_set (x + (1000000000 - y)) hx
  have v := hi.val
  rw [dval_take_succ hy]
  have e3 : 1000000000 ^ k * z = 1000000000 ^ k * (z - 1) + 1000000000 ^ k := by
    have : z = (z - 1) + 1 := by omega
    rw [show 1000000000 ^ k * z = 1000000000 ^ k * ((z - 1) + 1) by rw [← this], Nat.mul_add, Nat.mul_one]
  have e4 : 1000000000 ^ i * (x + (1000000000 - y)) + 1000000000 ^ i * y = 1000000000 ^ i * x + 1000000000 ^ (i + 1) := by
    rw [← Nat.mul_add, show x + (1000000000 - y) + y = x + 1000000000 by omega, Nat.mul_add, Nat.pow_succ]
  omega
end Go.AM.C

/- The reference's numbers: Sub. -/
namespace Go.AM.C
open Go.Proofs
noncomputable section
set_option linter.unusedVariables false
set_option linter.unusedSimpArgs false

end
end Go.AM.C

/- The reference's integers: Int, Of, Minus. -/
namespace Go.AM.C
open Go.Proofs
noncomputable section
set_option linter.unusedVariables false
set_option linter.unusedSimpArgs false

/-- An integer of the reference's. -/
def rI (z : Int) : AVal := .agg [.bool (decide (z < 0)), rD z.natAbs]
end
end Go.AM.C

/- The reference's integers: Plus. -/
namespace Go.AM.C
open Go.Proofs
noncomputable section
set_option linter.unusedVariables false
set_option linter.unusedSimpArgs false

/-- Not too long. -/
def Sm (n : Nat) : Prop := (digs n).length < 268435456
end
end Go.AM.C

/- The reference's integers: Plus. -/
namespace Go.AM.C
open Go.Proofs
noncomputable section
set_option linter.unusedVariables false
set_option linter.unusedSimpArgs false

theorem Sm.mono {a b : Nat} (h : Sm b) (hab : a ≤ b) : Sm a := by
  unfold Sm at *
  rcases Nat.lt_or_ge (digs b).length (digs a).length with h1 | h1
  · have := lt_of_len h1; omega
  · omega
end
end Go.AM.C

/- The reference's numbers: Small. -/
namespace Go.AM.C
open Go.Proofs
noncomputable section
set_option linter.unusedVariables false
set_option linter.unusedSimpArgs false

end
end Go.AM.C

/- The reference's integers: Small. -/
namespace Go.AM.C
open Go.Proofs
noncomputable section
set_option linter.unusedVariables false
set_option linter.unusedSimpArgs false

end
end Go.AM.C

/- Books that stay small. -/
namespace Go.AM.C
open Go.Proofs
noncomputable section
set_option linter.unusedVariables false
set_option linter.unusedSimpArgs false

/-! #### books that stay small -/
/-! #### what the books' functions do, by books that stay small -/
end
end Go.AM.C

/- The reference's ledger: rows of postings by field; first. -/
namespace Go.AM.C
open Go.Proofs
noncomputable section
set_option linter.unusedVariables false
set_option linter.unusedSimpArgs false

end
end Go.AM.C

/- The reference's ledger: Balance. -/
namespace Go.AM.C
open Go.Proofs
noncomputable section
set_option linter.unusedVariables false
set_option linter.unusedSimpArgs false

end
end Go.AM.C

/- The reference's ledger: All. -/
namespace Go.AM.C
open Go.Proofs
noncomputable section
set_option linter.unusedVariables false
set_option linter.unusedSimpArgs false

end
end Go.AM.C

/- The reference's ledger: put. Parts of rows appended; the plain law. -/
namespace Go.AM
set_option linter.unusedVariables false
set_option linter.unusedSimpArgs false
section
variable {S : Sg} {call : Calling} {d : Bool} {g : Operand → AVal} {H : Heap} {c : Call} {t e : TypeId} {ti te : TI} {cells : List AVal} {cap2 : Option Nat} {cl : Bool}
end
end Go.AM
namespace Go.AM.C
set_option linter.unusedVariables false
set_option linter.unusedSimpArgs false
/-- A balance among others, by rising names. -/
def rput : Posts → List UInt8 × Int → Posts
  | [], p => [p]
  | e :: l, p => if e.1 < p.1 then e :: rput l p else if e.1 = p.1 then p :: l else p :: e :: l
/-- The books by rising names. -/
def srt (m : Posts) : Posts := (keysS m).map fun k => (k, look 0 m k)
end Go.AM.C

/- The reference's ledger: a balance put among others is a balance put into the books. -/
namespace Go.AM.C
set_option linter.unusedVariables false
set_option linter.unusedSimpArgs false

/-- Rising names, none twice. -/
def SS (w : Posts) : Prop := (w.map (·.1)).Pairwise (· < ·)
theorem SS.nodup {w : Posts} (h : SS w) : (w.map (·.1)).Nodup := List.Pairwise.imp (fun hab e => by subst e; exact List.lt_irrefl _ hab) h
theorem ss_ext {a b : Posts} (ha : SS a) (hb : SS b) (h : ∀ k, getE a k = getE b k) : a = b := by
  have hn : a.map (·.1) = b.map (·.1) := by
    refine List.Perm.eq_of_pairwise (le := fun x y => x < y) (fun x y _ _ h1 h2 => absurd h2 (List.lt_asymm h1)) ha hb ((List.perm_ext_iff_of_nodup ha.nodup hb.nodup).2 fun k => ?_)
    have e1 : k ∈ a.map (·.1) ↔ getE a k ≠ none := by rw [Ne, getE_none, Classical.not_not]
    have e2 : k ∈ b.map (·.1) ↔ getE b k ≠ none := by rw [Ne, getE_none, Classical.not_not]
    rw [e1, e2, h]
  have form : ∀ (w : Posts), (w.map (·.1)).Nodup → w = (w.map (·.1)).map fun k => (k, (getE w k).getD 0) := fun w hw => by
    rw [List.map_map]
    refine (List.map_id w).symm.trans (List.map_congr_left fun e he => ?_)
    show e = (e.1, (getE w e.1).getD 0)
    rw [getE_of_mem hw he]; rfl
  rw [form a ha.nodup, form b hb.nodup, hn]
  exact List.map_congr_left fun k _ => by rw [h]
theorem rput_mem : ∀ (l : Posts) (p : List UInt8 × Int), ∀ e ∈ rput l p, e = p ∨ e ∈ l
  | [], p, e, h => .inl (by simpa [rput] using h)
  | x :: l, p, e, h => by
    unfold rput at h
    split at h
    · rcases List.mem_cons.1 h with h | h
      · exact .inr (by rw [h]; exact List.mem_cons_self)
      · rcases rput_mem l p e h with h | h
        · exact .inl h
        · exact .inr (List.mem_cons_of_mem _ h)
    · split at h
      · rcases List.mem_cons.1 h with h | h
        · exact .inl h
        · exact .inr (List.mem_cons_of_mem _ h)
      · rcases List.mem_cons.1 h with h | h
        · exact .inl h
        · exact .inr h
theorem rput_ss : ∀ {l : Posts} {p : List UInt8 × Int}, SS l → SS (rput l p)
  | [], p, _ => by show ([p.1] : List (List UInt8)).Pairwise _; exact List.pairwise_singleton _ _
  | x :: l, p, h => by
    have hx : ∀ y ∈ l.map (·.1), x.1 < y := (List.pairwise_cons.1 h).1
    have hl : SS l := (List.pairwise_cons.1 h).2
    unfold rput
    split
    · rename_i h1
      refine List.pairwise_cons.2 ⟨fun y hy => ?_, rput_ss hl⟩
      obtain ⟨e, he, rfl⟩ := List.mem_map.1 hy
      rcases rput_mem l p e he with h2 | h2
      · rw [h2]; exact h1
      · exact hx _ (List.mem_map.2 ⟨e, h2, rfl⟩)
    · split
      · rename_i h1 h2
        refine List.pairwise_cons.2 ⟨fun y hy => ?_, hl⟩
        show p.1 < y
        rw [← h2]
        exact hx y hy
      · rename_i h1 h2
        have h3 : p.1 < x.1 := by
          rcases Classical.em (p.1 < x.1) with h4 | h4
          · exact h4
          · exact absurd (List.le_antisymm (List.not_lt.1 h4) (List.not_lt.1 h1)) h2
        refine List.pairwise_cons.2 ⟨fun y hy => ?_, h⟩
        rcases List.mem_cons.1 hy with h4 | h4
        · rw [h4]; exact h3
        · exact List.lt_trans h3 (hx y h4)
theorem getE_cons (e : List UInt8 × Int) (l : Posts) (k : List UInt8) : getE (e :: l) k = if k = e.1 then some e.2 else getE l k := by
  show ((if k = e.1 then some 0 else (keyIdx k l).map (· + 1)).bind fun i => (e :: l)[i]?.map (·.2)) = _
  by_cases h : k = e.1
  · rw [if_pos h, if_pos h]; rfl
  · rw [if_neg h, if_neg h]
    show _ = (keyIdx k l).bind fun i => l[i]?.map (·.2)
    cases keyIdx k l with
    | none => rfl
    | some i => rfl
theorem rput_get : ∀ {l : Posts} {p : List UInt8 × Int} (k : List UInt8), SS l → getE (rput l p) k = if k = p.1 then some p.2 else getE l k
  | [], p, k, _ => by show getE [p] k = _; rw [getE_cons]
  | x :: l, p, k, h => by
    have hx : ∀ y ∈ l.map (·.1), x.1 < y := (List.pairwise_cons.1 h).1
    have hl : SS l := (List.pairwise_cons.1 h).2
    unfold rput
    split
    · rename_i h1
      rw [getE_cons, rput_get k hl, getE_cons]
      by_cases h2 : k = x.1
      · have h3 : ¬ k = p.1 := fun e => by rw [h2] at e; rw [e] at h1; exact List.lt_irrefl _ h1
        rw [if_pos h2, if_neg h3, if_pos h2]
      · rw [if_neg h2, if_neg h2]
    · split
      · rename_i h1 h2
        rw [getE_cons, getE_cons]
        by_cases h3 : k = p.1
        · rw [if_pos h3, if_pos h3]
        · rw [if_neg h3, if_neg h3, if_neg (by rw [h2]; exact h3)]
      · rw [getE_cons]
theorem srt_names (m : Posts) : (srt m).map (·.1) = keysS m := by
  unfold srt
  rw [List.map_map]
  exact List.map_id _
theorem srt_ss {m : Posts} (h : (m.map (·.1)).Nodup) : SS (srt m) := by
  unfold SS
  rw [srt_names]
  have tr : ∀ a b c : List UInt8, decide (a ≤ b) = true → decide (b ≤ c) = true → decide (a ≤ c) = true := fun a b c h1 h2 => by simp only [decide_eq_true_eq] at *; exact List.le_trans h1 h2
  have tot : ∀ a b : List UInt8, (decide (a ≤ b) || decide (b ≤ a)) = true := fun a b => by simp only [Bool.or_eq_true, decide_eq_true_eq]; exact List.le_total a b
  have h1 : (keysS m).Pairwise fun x y => decide (x ≤ y) = true := List.pairwise_mergeSort tr tot _
  have h2 : (keysS m).Nodup := (keysS_perm m).nodup_iff.2 h
  refine List.Pairwise.imp (R := fun x y => decide (x ≤ y) = true ∧ x ≠ y) (fun {x y} hxy => ?_) (List.Pairwise.and h1 h2)
  rcases Classical.em (x < y) with h4 | h4
  · exact h4
  · exact absurd (List.le_antisymm (by simpa using hxy.1) (List.not_lt.1 h4)) hxy.2
theorem srt_get {m : Posts} (h : (m.map (·.1)).Nodup) (k : List UInt8) : getE (srt m) k = getE m k := by
  cases hg : getE m k with
  | none =>
    rw [getE_none] at hg ⊢
    rw [srt_names]
    exact fun hk => hg ((keysS_perm m).mem_iff.1 hk)
  | some v =>
    have hk : k ∈ m.map (·.1) := List.mem_map.2 ⟨(k, v), mem_of_getE hg, rfl⟩
    have hl : look 0 m k = v := by unfold look; rw [hg]; rfl
    have hm : (k, look 0 m k) ∈ srt m := List.mem_map.2 ⟨k, (keysS_perm m).mem_iff.2 hk, rfl⟩
    rw [← hl]
    exact getE_of_mem (srt_ss h).nodup hm
end Go.AM.C

