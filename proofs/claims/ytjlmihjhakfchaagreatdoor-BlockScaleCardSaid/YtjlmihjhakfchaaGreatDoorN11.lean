/- Part of a proof over the program's translation: Contracts told by relations; the reference's sums, where the order is drawn.; block.Parts: the closure that compares rests; slices.SortStableFunc of up to twenty.; block.Parts: slices.SortStableFunc of up to twenty places. .. -/
import Derived.Test.YtjlmihjhakfchaaGreatDoorA8
import Derived.Test.YtjlmihjhakfchaaGreatDoorN4
import Derived.Test.YtjlmihjhakfchaaGreatDoorN9
import Derived.Test.YtjlmihjhakfchaaGreatDoorN10
import Derived.Test.YtjlmihjhakfchaaGreatDoorNx1
noncomputable section
/- Contracts told by relations; the reference's sums, where the order is drawn. -/
namespace Go.AM
set_option linter.unusedVariables false
set_option linter.unusedSimpArgs false
section
variable {S : Sg} {call : Calling} {d : Bool} {g : Operand → AVal} {H : Heap}
end
end Go.AM
namespace Go.AM.C
open Go.Proofs
noncomputable section
set_option linter.unusedVariables false
set_option linter.unusedSimpArgs false

/-! #### what tells apart -/
/-! #### integers of the reference's, a nil row for nothing -/
def rI0 : AVal := .agg [.bool false, .nils]
def IsI (v : AVal) (z : Int) : Prop := v = rI z ∨ v = rI0 ∧ z = 0
theorem wk_agg2 {a b a' b' : AVal} (h1 : Wk a a') (h2 : Wk b b') : Wk (.agg [a, b]) (.agg [a', b']) := fun c w v h => by
  cases h with
  | agg _ vs hs hh =>
    refine .agg _ vs hs fun j x y hx hy => ?_
    match j, hx with
    | 0, hx => cases hx; exact h1 _ _ _ (hh 0 _ _ rfl hy)
    | 1, hx => cases hx; exact h2 _ _ _ (hh 1 _ _ rfl hy)
theorem IsI.wk {v : AVal} {z : Int} (h : IsI v z) : Wk v (rI z) := by
  rcases h with rfl | ⟨rfl, rfl⟩
  · exact Wk.refl _
  · exact wk_agg2 (Wk.refl _) wk_nilsD
end
end Go.AM.C

/- block.Parts: the closure that compares rests; slices.SortStableFunc of up to twenty. -/
namespace Go.AM.C.BK
open Go.Proofs
noncomputable section
set_option linter.unusedVariables false
set_option linter.unusedSimpArgs false
noncomputable def ti97 : TI := ⟨.slice 90, 1, 24, [.nils], false, [], false, msOf Tryz.prog 97⟩
theorem ti97_ok : tiOf Tryz.prog 97 = some ti97 := by kernel_rfl
noncomputable def ti105 : TI := ⟨odsOf Tryz.prog 105, 1, 8, [.nilfn], false, [], false, msOf Tryz.prog 105⟩
theorem ti105_ok : tiOf Tryz.prog 105 = some ti105 := by kernel_rfl
noncomputable def ti99 : TI := ⟨odsOf Tryz.prog 99, 1, 0, [.any], false, [], false, msOf Tryz.prog 99⟩
theorem ti99_ok : tiOf Tryz.prog 99 = some ti99 := by kernel_rfl
noncomputable def tys : List (Nat × TI) := [(97, ti97), (105, ti105), (99, ti99)]
theorem tys_ok : AllT Tryz.prog tys := ⟨ti97_ok, ti105_ok, ti99_ok, trivial⟩

/-- Tables with the types of block.Parts. -/
abbrev mkB (l : List Ent) : Sg := mkS Tryz.prog (tyOf (BK.tys ++ Go.AM.C.tys)) (fun _ => false) globF pinF (fun _ => false) false l
theorem mkB_sound {l : List Ent} (h : AllE Tryz.prog (mkB l) l) : Sound Tryz.prog (mkB l) := mkS_sound mixed (fun t i h => tyOf_ok (DV.allT_app BK.tys_ok Go.AM.C.tys_ok) t i h) h globF_ok
theorem unB {l : List Ent} {f : FuncId} {args : List AVal} {H H' : Heap} {v : AVal} (h : DoesC Tryz.prog (mkB l) f args H v H') : Has f args H v H' := DoesC.glob rfl rfl h
theorem inB {l : List Ent} {f : FuncId} {args : List AVal} {H H' : Heap} {v : AVal} (h : Has f args H v H') : DoesC Tryz.prog (mkB l) f args H v H' := DoesC.glob rfl rfl h
theorem bN : (mkB []).ty 97 = some ti97 := rfl
theorem bn : (mkB []).ty 90 = some ti90 := rfl
theorem bI : (mkB []).ty 98 = some ti98 := rfl
theorem bi : (mkB []).ty 3 = some ti3 := rfl

def nps (l : List Nat) : List AVal := l.map fun (n : Nat) => .obj (.np n)
def ints (l : List Nat) : List AVal := l.map fun (n : Nat) => iA (n : Int)
theorem nps_at {l : List Nat} {j : Nat} (h : j < l.length) : (nps l)[j]? = some (.obj (.np (l.getD j 0))) := by
  unfold nps
  rw [List.getElem?_map, List.getD_eq_getElem?_getD, List.getElem?_eq_getElem h]
  rfl
theorem ints_at {l : List Nat} {j : Nat} (h : j < l.length) : (ints l)[j]? = some (iA (l.getD j 0 : Nat)) := by
  unfold ints
  rw [List.getElem?_map, List.getD_eq_getElem?_getD, List.getElem?_eq_getElem h]
  rfl
theorem ints_set (l : List Nat) (j x : Nat) : (ints l).set j (iA (x : Int)) = ints (l.set j x) := by unfold ints; rw [List.map_set]
theorem ints_len (l : List Nat) : (ints l).length = l.length := by unfold ints; simp
theorem nps_len (l : List Nat) : (nps l).length = l.length := by unfold nps; simp

/-! #### the closure -/
def ncmpR (args : List AVal) (H : Heap) (v : AVal) (H' : Heap) : Prop := ∃ n m : Nat, Fit n ∧ Fit m ∧ args = [.obj (.np n), .obj (.np m)] ∧ v = iA (cmpN n m) ∧ H' = H
theorem ncmpR_has : ∀ args H v H', ncmpR args H v H' → Has 56 args H v H' := by
  rintro _ H _ _ ⟨n, m, hn, hm, rfl, rfl, rfl⟩
  exact cmp_np n m hn hm _
theorem ncmpR_fun : ∀ args H v H1 u H2, ncmpR args H v H1 → ncmpR args H u H2 → v = u ∧ H1 = H2 := by
  rintro _ H _ _ _ _ ⟨n, m, hn, hm, rfl, rfl, rfl⟩ ⟨n', m', hn', hm', h, rfl, rfl⟩
  injection h with h1 h2
  injection h2 with h2
  injection h1 with h1
  injection h2 with h2
  injection h1 with h1
  injection h2 with h2
  subst h1; subst h2
  exact ⟨rfl, rfl⟩
abbrev ncmpE : Ent := ⟨56, relX ncmpR, true, relX_quiet fun _ _ _ _ ⟨_, _, _, _, _, _, h⟩ => h⟩
abbrev SK : Sg := mkB [ncmpE]
theorem sK : Sound Tryz.prog SK := mkB_sound ⟨relX_ok ncmpR_has _ rfl rfl, trivial⟩
theorem ncmpK {n m : Nat} (hn : Fit n) (hm : Fit m) (H : Heap) : callS SK 56 [.obj (.np n), .obj (.np m)] H = some (iA (cmpN n m), H) :=
  (show callS SK 56 [.obj (.np n), .obj (.np m)] H = relX ncmpR [.obj (.np n), .obj (.np m)] H from rfl).trans (relX_eq ncmpR_fun ⟨n, m, hn, hm, rfl, rfl, rfl⟩)

/-- Where the rests lie. -/
structure RestsAt (H : Heap) (P R : Nat) (rs : List Nat) : Prop where
  p : H[P]? = some (.cells [.sl R 0 rs.length none 1] 97)
  r : H[R]? = some (.cells (nps rs) 90)
  fit : ∀ x ∈ rs, Fit x
theorem RestsAt.set {H : Heap} {P R : Nat} {rs : List Nat} (h : RestsAt H P R rs) {O : Nat} (h1 : O ≠ P) (h2 : O ≠ R) (x : AObj) : RestsAt (H.set O x) P R rs :=
  ⟨by rw [List.getElem?_set_ne h1]; exact h.p, by rw [List.getElem?_set_ne h2]; exact h.r, h.fit⟩
theorem getD_mem {l : List Nat} {j : Nat} (h : j < l.length) : l.getD j 0 ∈ l := by
  rw [List.getD_eq_getElem?_getD, List.getElem?_eq_getElem h]
  exact List.getElem_mem h
set_option maxRecDepth 100000 in
theorem clos_has {H : Heap} {P R : Nat} {rs : List Nat} (h : RestsAt H P R rs) {a b : Nat} (ha : a < rs.length) (hb : b < rs.length) :
    Has 55 [iA (a : Int), iA (b : Int), .ptr P 0] H (iA (cmpN (rs.getD b 0) (rs.getD a 0))) H := by
  refine unB (l := [ncmpE]) ?_
  refine does_run sK (show SK.fn 55 = some Tryz.f55 by kernel_rfl) rfl (by kernel_rfl) (Nat.le_of_ble_eq_true rfl) ?_
  refine W.seq (W.region ?_)
  refine WO.op rfl rfl (WO.nil (W.seq (W.draw0 rfl (by kernel_rfl) ?_)))
  refine WT.op (G.load_ptr rfl bN rfl h.p rfl) rfl rfl ?_
  refine WT.op rfl rfl rfl ?_
  refine WT.op (G.idx_sl rfl rfl bN rfl bn rfl (by omega) (by omega)) rfl rfl ?_
  refine WT.op (G.load_ptr (v := .obj (.np (rs.getD b 0))) rfl bn rfl h.r (by rw [idx0]; exact nps_at hb)) rfl rfl ?_
  refine WT.op (G.load_ptr rfl bN rfl h.p rfl) rfl rfl ?_
  refine WT.op rfl rfl rfl ?_
  refine WT.op (G.idx_sl rfl rfl bN rfl bn rfl (by omega) (by omega)) rfl rfl ?_
  refine WT.op (G.load_ptr (v := .obj (.np (rs.getD a 0))) rfl bn rfl h.r (by rw [idx0]; exact nps_at ha)) rfl rfl ?_
  refine WT.op (ncmpK (h.fit _ (getD_mem hb)) (h.fit _ (getD_mem ha)) _) rfl rfl ?_
  exact WT.op rfl rfl rfl (WT.nil (W.ret ⟨trivial, _, rfl, Wk.refl _, rfl⟩))

/-! #### insertion, plain -/
def ltR (rs : List Nat) (a b : Nat) : Bool := decide (cmpN (rs.getD b 0) (rs.getD a 0) < 0)
def swp (l : List Nat) (j : Nat) : List Nat := (l.set (j + 1) (l.getD j 0)).set j (l.getD (j + 1) 0)
def sink (lt : Nat → Nat → Bool) : Nat → List Nat → List Nat
  | 0, l => l
  | j + 1, l => if lt (l.getD (j + 1) 0) (l.getD j 0) = true then sink lt j (swp l j) else l
def isortK (lt : Nat → Nat → Bool) : Nat → List Nat → List Nat
  | 0, l => l
  | i + 1, l => sink lt (i + 1) (isortK lt i l)
theorem swp_len (l : List Nat) (j : Nat) : (swp l j).length = l.length := by simp [swp]
theorem swp_mem {l : List Nat} {j : Nat} (h : j + 1 < l.length) : ∀ x ∈ swp l j, x ∈ l := fun x hx => by
  rcases List.mem_or_eq_of_mem_set hx with hx | rfl
  · rcases List.mem_or_eq_of_mem_set hx with hx | rfl
    · exact hx
    · exact getD_mem (by omega)
  · exact getD_mem h
theorem sink_len (lt : Nat → Nat → Bool) : ∀ (j : Nat) (l : List Nat), (sink lt j l).length = l.length
  | 0, l => rfl
  | j + 1, l => by
    unfold sink
    split
    · rw [sink_len lt j, swp_len]
    · rfl
theorem sink_mem (lt : Nat → Nat → Bool) : ∀ (j : Nat) (l : List Nat), j < l.length → ∀ x ∈ sink lt j l, x ∈ l
  | 0, l, _, x, h => h
  | j + 1, l, hj, x, h => by
    unfold sink at h
    split at h
    · exact swp_mem hj x (sink_mem lt j _ (by rw [swp_len]; omega) x h)
    · exact h
theorem isort_len (lt : Nat → Nat → Bool) : ∀ (i : Nat) (l : List Nat), (isortK lt i l).length = l.length
  | 0, l => rfl
  | i + 1, l => by
    show (sink lt (i + 1) (isortK lt i l)).length = _
    rw [sink_len, isort_len lt i]
theorem isort_mem (lt : Nat → Nat → Bool) : ∀ (i : Nat) (l : List Nat), i < l.length → ∀ x ∈ isortK lt i l, x ∈ l
  | 0, l, _, x, h => h
  | i + 1, l, hi, x, h => isort_mem lt i l (by omega) x (sink_mem lt (i + 1) _ (by rw [isort_len]; exact hi) x h)
theorem isort_same {lt : Nat → Nat → Bool} {l : List Nat} (h : ∀ a ∈ l, ∀ b ∈ l, lt a b = false) : ∀ i, i < l.length → isortK lt i l = l
  | 0, _ => rfl
  | i + 1, hi => by
    show sink lt (i + 1) (isortK lt i l) = l
    rw [isort_same h i (by omega)]
    unfold sink
    rw [if_neg]
    rw [h _ (getD_mem hi) _ (getD_mem (by omega))]
    simp
end
end Go.AM.C.BK

/- block.Parts: slices.SortStableFunc of up to twenty places. -/
namespace Go.AM.C.BK
open Go.Proofs
noncomputable section
set_option linter.unusedVariables false
set_option linter.unusedSimpArgs false

theorem nps_inj : ∀ {a b : List Nat}, nps a = nps b → a = b
  | [], [], _ => rfl
  | [], _ :: _, h => by cases h
  | _ :: _, [], h => by cases h
  | x :: a, y :: b, h => by
    have h' : AVal.obj (.np x) :: nps a = AVal.obj (.np y) :: nps b := h
    injection h' with h1 h2
    injection h1 with h1
    injection h1 with h1
    rw [h1, nps_inj h2]
def cloR (args : List AVal) (H : Heap) (v : AVal) (H' : Heap) : Prop := ∃ P R rs, ∃ a b : Nat, RestsAt H P R rs ∧ a < rs.length ∧ b < rs.length ∧ args = [iA (a : Int), iA (b : Int), .ptr P 0] ∧ v = iA (cmpN (rs.getD b 0) (rs.getD a 0)) ∧ H' = H
theorem cloR_has : ∀ args H v H', cloR args H v H' → Has 55 args H v H' := by
  rintro _ H _ _ ⟨P, R, rs, a, b, h, ha, hb, rfl, rfl, rfl⟩
  exact clos_has h ha hb
theorem cloR_fun : ∀ args H v H1 u H2, cloR args H v H1 → cloR args H u H2 → v = u ∧ H1 = H2 := by
  rintro _ H _ _ _ _ ⟨P, R, rs, a, b, h, ha, hb, rfl, rfl, rfl⟩ ⟨P', R', rs', a', b', h', ha', hb', e, rfl, rfl⟩
  injection e with e1 e2
  injection e2 with e2 e3
  injection e3 with e3
  injection e3 with e3
  injection e1 with _ e1
  injection e2 with _ e2
  subst e3
  have h1 := Option.some.inj (h.p.symm.trans h'.p)
  injection h1 with h1
  injection h1 with h1
  injection h1 with h1
  subst h1
  have h2 := Option.some.inj (h.r.symm.trans h'.r)
  injection h2 with h2
  have h3 := nps_inj h2
  subst h3
  have e4 : a = a' := by omega
  have e5 : b = b' := by omega
  subst e4; subst e5
  exact ⟨rfl, rfl⟩
abbrev cloE : Ent := ⟨55, relX cloR, true, relX_quiet fun _ _ _ _ ⟨_, _, _, _, _, _, _, _, _, _, h⟩ => h⟩
abbrev SO : Sg := mkB [cloE]
theorem sO : Sound Tryz.prog SO := mkB_sound ⟨relX_ok cloR_has _ rfl rfl, trivial⟩
theorem cloO {H : Heap} {P R : Nat} {rs : List Nat} (h : RestsAt H P R rs) {a b : Nat} (ha : a < rs.length) (hb : b < rs.length) : callS SO 55 [iA (a : Int), iA (b : Int), .ptr P 0] H = some (iA (cmpN (rs.getD b 0) (rs.getD a 0)), H) :=
  (show callS SO 55 [iA (a : Int), iA (b : Int), .ptr P 0] H = relX cloR [iA (a : Int), iA (b : Int), .ptr P 0] H from rfl).trans (relX_eq cloR_fun ⟨P, R, rs, a, b, h, ha, hb, rfl, rfl, rfl⟩)
abbrev fnC (P : Nat) : AVal := .fn 55 [] [.ptr P 0]
abbrev oC (l : List Nat) : AObj := .cells (ints l) 3
set_option maxRecDepth 100000 in
set_option maxHeartbeats 2000000 in
theorem isort_has {H : Heap} {O P R : Nat} {rs l : List Nat} {cap : Option Nat} (hO : H[O]? = some (oC l)) (h : RestsAt H P R rs) (h1 : O ≠ P) (h2 : O ≠ R) (hl : ∀ x ∈ l, x < rs.length) (hn : 0 < l.length) (hn2 : l.length < 1048576) :
    Has 203 [.sl O 0 l.length cap 1, iA ((0 : Nat) : Int), iA (l.length : Int), fnC P] H (.tup []) (H.set O (oC (isortK (ltR rs) (l.length - 1) l))) := by
  have hOl : O < H.length := (List.getElem?_eq_some_iff.1 hO).1
  have hat : ∀ c, (H.set O (oC c))[O]? = some (oC c) := fun c => List.getElem?_set_self hOl
  have hra : ∀ c, RestsAt (H.set O (oC c)) P R rs := fun c => h.set h1 h2 _
  have hlt : ∀ a b, ltR rs a b = decide (cmpN (rs.getD b 0) (rs.getD a 0) < 0) := fun a b => rfl
  generalize hlT : ltR rs = lt at hlt ⊢
  refine unB (l := [cloE]) ?_
  refine does_run sO (show SO.fn 203 = some Tryz.f203 by kernel_rfl) rfl (by kernel_rfl) (Nat.le_of_ble_eq_true rfl) ?_
  refine W.seq (W.region ?_)
  refine WO.op rfl rfl ?_
  refine WO.op rfl rfl ?_
  refine WO.op rfl rfl (WO.nil (W.block ?_))
  refine W.heq (H' := H.set O (oC (isortK lt 0 l))) (set_same hO).symm ?_
  refine W.fits (F' := fr [(0, .sl O 0 l.length cap 1), (1, iA ((0 : Nat) : Int)), (2, iA (l.length : Int)), (3, fnC P), (8, iA ((0 + 1 : Nat) : Int))]) (fits_fr ⟨rfl, rfl, rfl, rfl, rfl, trivial⟩) ?_
  refine W.loopI (fun k : Nat => k < l.length) (fun k => l.length - k) (fun k => fr [(0, .sl O 0 l.length cap 1), (1, iA ((0 : Nat) : Int)), (2, iA (l.length : Int)), (3, fnC P), (8, iA ((k + 1 : Nat) : Int))]) (fun k => H.set O (oC (isortK lt k l))) ?_ 0 hn
  intro k hk
  refine W.seq (W.seq (W.region ?_))
  refine WO.op rfl rfl ?_
  refine WO.op rfl rfl ?_
  by_cases hkl : k + 1 < l.length
  · refine WO.as (v' := .bool true) rfl rfl (bdT (by omega)) (WO.nil (W.cond (b := true) rfl (fun _ => W.skip ?_) (fun h => by cases h)))
    refine W.seq (W.block (W.seq (W.region ?_)))
    refine WO.op rfl rfl ?_
    refine WO.op rfl rfl (WO.nil (W.block ?_))
    refine W.fits (F' := fr [(0, .sl O 0 l.length cap 1), (1, iA ((0 : Nat) : Int)), (2, iA (l.length : Int)), (3, fnC P), (8, iA ((k + 1 : Nat) : Int)), (9, iA ((k + 1 : Nat) : Int))]) (fits_fr ⟨rfl, rfl, rfl, rfl, rfl, rfl, trivial⟩) ?_
    refine W.loopI (α := Nat × List Nat) (fun x => sink lt x.1 x.2 = isortK lt (k + 1) l ∧ x.1 < l.length ∧ x.2.length = l.length ∧ ∀ y ∈ x.2, y < rs.length) (fun x => x.1)
      (fun x => fr [(0, .sl O 0 l.length cap 1), (1, iA ((0 : Nat) : Int)), (2, iA (l.length : Int)), (3, fnC P), (8, iA ((k + 1 : Nat) : Int)), (9, iA (x.1 : Int))]) (fun x => H.set O (oC x.2)) ?_ (k + 1, isortK lt k l) ⟨rfl, hkl, isort_len _ _ _, fun y hy => hl y (isort_mem _ _ _ hk y hy)⟩
    rintro ⟨j, c⟩ ⟨hs, hj, hc, hm⟩
    simp only at hs hj hc hm
    change W _ _ _ _ (fr [(0, .sl O 0 l.length cap 1), (1, iA ((0 : Nat) : Int)), (2, iA (l.length : Int)), (3, fnC P), (8, iA ((k + 1 : Nat) : Int)), (9, iA (j : Int))]) (H.set O (oC c)) _
    have hcO := hat c
    refine W.seq (W.seq (W.draw0 rfl (by kernel_rfl) ?_))
    refine WT.op rfl rfl rfl ?_
    refine WT.op rfl rfl rfl ?_
    cases j with
    | zero =>
      have hce : c = isortK lt (k + 1) l := hs
      refine WT.as (v' := .bool false) rfl rfl rfl (bdF (by omega)) ?_
      refine WT.op rfl rfl rfl ?_
      repeat refine WT.skip rfl rfl ?_
      refine WT.op rfl rfl rfl (WT.nil (W.cond (b := false) rfl (fun h => by cases h) (fun _ => W.exit ?_)))
      refine W.region ?_
      refine WO.op rfl rfl ?_
      refine WO.as (v' := iA ((k + 1 + 1 : Nat) : Int)) rfl rfl (int_i64 (by omega) (by omega)) ?_
      refine WO.op rfl rfl (WO.nil ⟨k + 1, hkl, by omega, fits_fr ⟨rfl, rfl, rfl, rfl, rfl, trivial⟩, ?_⟩)
      rw [hce]
    | succ j =>
      have hcl1 : (ints c)[0 + ((j + 1 : Nat) : Int).toNat * 1]? = some (iA (c.getD (j + 1) 0 : Nat)) := by rw [idx0]; exact ints_at (by omega)
      have hcl0 : (ints c)[0 + ((j : Nat) : Int).toNat * 1]? = some (iA (c.getD j 0 : Nat)) := by rw [idx0]; exact ints_at (by omega)
      have ha := hm _ (getD_mem (l := c) (j := j + 1) (by omega))
      have hb := hm _ (getD_mem (l := c) (j := j) (by omega))
      have hcall := cloO (hra c) ha hb
      refine WT.as (v' := .bool true) rfl rfl rfl (bdT (by omega)) ?_
      refine WT.op rfl rfl rfl ?_
      refine WT.op rfl rfl rfl ?_
      refine WT.op rfl rfl rfl ?_
      refine WT.op rfl rfl rfl ?_
      refine WT.op (G.idx_sl rfl rfl bI rfl bi rfl (by omega) (by omega)) rfl rfl ?_
      refine WT.op (G.load_ptr rfl bi rfl hcO hcl1) rfl rfl ?_
      refine WT.op rfl rfl rfl ?_
      refine WT.op rfl rfl rfl ?_
      refine WT.as (v' := iA (j : Int)) rfl rfl rfl (int_i64 (by omega) (by omega)) ?_
      refine WT.op (G.idx_sl rfl rfl bI rfl bi rfl (by omega) (by omega)) rfl rfl ?_
      refine WT.op (G.load_ptr rfl bi rfl hcO hcl0) rfl rfl ?_
      refine WT.op hcall rfl rfl ?_
      by_cases hg : lt (c.getD (j + 1) 0) (c.getD j 0) = true
      · have hs' : sink lt j (swp c j) = isortK lt (k + 1) l := by
          have e : sink lt (j + 1) c = sink lt j (swp c j) := by
            show (if lt (c.getD (j + 1) 0) (c.getD j 0) = true then sink lt j (swp c j) else c) = _
            rw [if_pos hg]
          rw [← e]; exact hs
        have hg' := hg
        rw [hlt, decide_eq_true_eq] at hg'
        refine WT.as (v' := .bool true) rfl rfl rfl (bdT hg') ?_
        refine WT.op rfl rfl rfl (WT.nil (W.cond (b := true) rfl (fun _ => W.skip ?_) (fun h => by cases h)))
        refine W.seq (W.block (W.draw0 rfl (by kernel_rfl) ?_))
        refine WT.op rfl rfl rfl ?_
        refine WT.op rfl rfl rfl ?_
        refine WT.op rfl rfl rfl ?_
        refine WT.op rfl rfl rfl ?_
        refine WT.as (v' := iA (j : Int)) rfl rfl rfl (int_i64 (by omega) (by omega)) ?_
        refine WT.op rfl rfl rfl ?_
        refine WT.op rfl rfl rfl ?_
        refine WT.as (v' := iA (j : Int)) rfl rfl rfl (int_i64 (by omega) (by omega)) ?_
        refine WT.op (G.idx_sl rfl rfl bI rfl bi rfl (by omega) (by omega)) rfl rfl ?_
        refine WT.op (G.load_ptr rfl bi rfl hcO hcl0) rfl rfl ?_
        refine WT.op rfl rfl rfl ?_
        refine WT.op rfl rfl rfl ?_
        refine WT.op (G.idx_sl rfl rfl bI rfl bi rfl (by omega) (by omega)) rfl rfl ?_
        refine WT.op (G.load_ptr rfl bi rfl hcO hcl1) rfl rfl ?_
        refine WT.op (G.idx_sl rfl rfl bI rfl bi rfl (by omega) (by omega)) rfl rfl ?_
        refine WT.op (G.store_ptr (v := iA (c.getD j 0 : Nat)) rfl rfl rfl bi rfl hcO (by rw [idx0, ints_len]; omega)) rfl rfl ?_
        refine WT.op (G.idx_sl rfl rfl bI rfl bi rfl (by omega) (by omega)) rfl rfl ?_
        refine WT.op (G.store_ptr (v := iA (c.getD (j + 1) 0 : Nat)) rfl rfl rfl bi rfl (List.getElem?_set_self (by rw [List.length_set]; exact hOl)) (by rw [idx0, List.length_set, ints_len]; omega)) rfl rfl (WT.nil (W.region ?_))
        refine WO.op rfl rfl ?_
        refine WO.as (v' := iA (j : Int)) rfl rfl (int_i64 (by omega) (by omega)) ?_
        refine WO.op rfl rfl (WO.nil ⟨(j, swp c j), ⟨hs', by simp only; omega, by rw [swp_len]; exact hc, fun y hy => hm y (swp_mem (by omega) y hy)⟩, by simp only; omega, fits_fr ⟨rfl, rfl, rfl, rfl, rfl, rfl, trivial⟩, ?_⟩)
        simp only [idx0, ints_set, List.set_set]
        rfl
      · have hce : c = isortK lt (k + 1) l := by
          have e : sink lt (j + 1) c = c := by
            show (if lt (c.getD (j + 1) 0) (c.getD j 0) = true then sink lt j (swp c j) else c) = _
            rw [if_neg hg]
          rw [← e]; exact hs
        have hg' := hg
        rw [hlt, decide_eq_true_eq] at hg'
        refine WT.as (v' := .bool false) rfl rfl rfl (bdF hg') ?_
        refine WT.op rfl rfl rfl (WT.nil (W.cond (b := false) rfl (fun h => by cases h) (fun _ => W.exit ?_)))
        refine W.region ?_
        refine WO.op rfl rfl ?_
        refine WO.as (v' := iA ((k + 1 + 1 : Nat) : Int)) rfl rfl (int_i64 (by omega) (by omega)) ?_
        refine WO.op rfl rfl (WO.nil ⟨k + 1, hkl, by omega, fits_fr ⟨rfl, rfl, rfl, rfl, rfl, trivial⟩, ?_⟩)
        rw [hce]
  · have hke : l.length - 1 = k := by omega
    rw [hke]
    refine WO.as (v' := .bool false) rfl rfl (bdF (by omega)) (WO.nil (W.cond (b := false) rfl (fun h => by cases h) (fun _ => W.exit ?_)))
    exact ⟨trivial, _, rfl, Wk.refl _, rfl⟩
end
end Go.AM.C.BK

/- block.Parts: slices.stableCmpFunc, slices.SortStableFunc of up to twenty places. -/
namespace Go.AM.C.BK
open Go.Proofs
noncomputable section
set_option linter.unusedVariables false
set_option linter.unusedSimpArgs false

abbrev S1 : Sg := mkB []
theorem s1 : Sound Tryz.prog S1 := mkB_sound trivial
/-- Nothing is left to be sorted. -/
theorem isort_end {H : Heap} {v fnv : AVal} (n : Nat) (hn : n < 1048576) : Has 203 [v, iA (n : Int), iA (n : Int), fnv] H (.tup []) H := by
  refine unB (l := []) ?_
  refine does_run s1 (show S1.fn 203 = some Tryz.f203 by kernel_rfl) rfl (by kernel_rfl) (Nat.le_of_ble_eq_true rfl) ?_
  refine W.seq (W.region ?_)
  refine WO.op rfl rfl ?_
  refine WO.as (v' := iA ((n + 1 : Nat) : Int)) rfl rfl (int_i64 (by omega) (by omega)) ?_
  refine WO.op rfl rfl (WO.nil (W.block ?_))
  refine W.fits (F' := fr [(2, iA (n : Int)), (8, iA ((n + 1 : Nat) : Int))]) (fits_fr ⟨rfl, rfl, trivial⟩) ?_
  refine W.loopI (fun _ : Unit => True) (fun _ => 0) (fun _ => fr [(2, iA (n : Int)), (8, iA ((n + 1 : Nat) : Int))]) (fun _ => H) ?_ () trivial
  intro _ _
  refine W.seq (W.seq (W.region ?_))
  refine WO.op rfl rfl ?_
  refine WO.op rfl rfl ?_
  refine WO.as (v' := .bool false) rfl rfl (bdF (by omega)) (WO.nil (W.cond (b := false) rfl (fun h => by cases h) (fun _ => W.exit ?_)))
  exact ⟨trivial, _, rfl, Wk.refl _, rfl⟩
set_option maxRecDepth 100000 in
theorem stable_has {H : Heap} {O P R : Nat} {rs l : List Nat} {cap : Option Nat} (hO : H[O]? = some (oC l)) (h : RestsAt H P R rs) (h1 : O ≠ P) (h2 : O ≠ R) (hl : ∀ x ∈ l, x < rs.length) (hn : 0 < l.length) (hn2 : l.length ≤ 20) :
    Has 115 [.sl O 0 l.length cap 1, iA (l.length : Int), fnC P] H (.tup []) (H.set O (oC (isortK (ltR rs) (l.length - 1) l))) := by
  have hs := isort_has (cap := cap) hO h h1 h2 hl hn (by omega)
  generalize isortK (ltR rs) (l.length - 1) l = T at hs ⊢
  generalize hL : l.length = n at hs hn hn2 ⊢
  refine unB (l := []) ?_
  refine does_run s1 (show S1.fn 115 = some Tryz.f115 by kernel_rfl) rfl (by kernel_rfl) (Nat.le_of_ble_eq_true rfl) ?_
  refine W.seq (W.region ?_)
  refine WO.op rfl rfl (WO.nil (W.seq (W.region ?_)))
  refine WO.op rfl rfl ?_
  refine WO.op rfl rfl ?_
  refine WO.op rfl rfl (WO.nil ?_)
  by_cases h20 : n = 20
  · subst h20
    refine W.midE (α := Unit) (fun _ => True) (fun _ => [(0, .sl O 0 20 cap 1), (1, iA ((20 : Nat) : Int)), (2, fnC P), (6, iA ((20 : Nat) : Int)), (7, iA ((20 : Nat) : Int))]) (fun _ => H.set O (oC T)) ?_ ?_
    · refine W.block ?_
      refine W.fits (F' := fr [(0, .sl O 0 20 cap 1), (1, iA ((20 : Nat) : Int)), (2, fnC P), (6, iA ((20 : Nat) : Int)), (7, iA ((0 : Nat) : Int)), (8, iA ((20 : Nat) : Int))]) (fits_fr ⟨rfl, rfl, rfl, rfl, rfl, rfl, trivial⟩) ?_
      refine W.loopI (α := Bool) (fun _ => True) (fun b => if b then 0 else 1) (fun b => fr [(0, .sl O 0 20 cap 1), (1, iA ((20 : Nat) : Int)), (2, fnC P), (6, iA ((20 : Nat) : Int)), (7, iA (((if b then 20 else 0) : Nat) : Int)), (8, iA (((if b then 40 else 20) : Nat) : Int))]) (fun b => if b then H.set O (oC T) else H) ?_ false trivial
      intro b _
      cases b with
      | false =>
        refine W.heq (H' := H) rfl ?_
        refine W.seq (W.seq (W.region ?_))
        refine WO.op rfl rfl ?_
        refine WO.op rfl rfl ?_
        refine WO.as (v' := .bool true) rfl rfl rfl (WO.nil (W.cond (b := true) rfl (fun _ => W.skip ?_) (fun h => by cases h)))
        refine W.block (W.seq (W.region ?_))
        refine WO.op rfl rfl ?_
        refine WO.op rfl rfl ?_
        refine WO.op rfl rfl ?_
        refine WO.op rfl rfl ?_
        refine WO.call rfl (inB hs) rfl (WO.nil (W.seq (W.region ?_)))
        refine WO.op rfl rfl ?_
        refine WO.op rfl rfl (WO.nil (W.region ?_))
        refine WO.op rfl rfl ?_
        refine WO.op rfl rfl ?_
        refine WO.op rfl rfl ?_
        exact WO.op rfl rfl (WO.nil ⟨true, trivial, by decide, fits_fr ⟨rfl, rfl, rfl, rfl, rfl, rfl, trivial⟩, rfl⟩)
      | true =>
        refine W.heq (H' := H.set O (oC T)) rfl ?_
        refine W.seq (W.seq (W.region ?_))
        refine WO.op rfl rfl ?_
        refine WO.op rfl rfl ?_
        refine WO.as (v' := .bool false) rfl rfl rfl (WO.nil (W.cond (b := false) rfl (fun h => by cases h) (fun _ => W.exit ?_)))
        exact ⟨rfl, (), trivial, ⟨rfl, rfl, rfl, rfl, rfl, trivial⟩, rfl⟩
    intro _ _
    change W _ _ _ _ (fr [(0, .sl O 0 20 cap 1), (1, iA ((20 : Nat) : Int)), (2, fnC P), (6, iA ((20 : Nat) : Int)), (7, iA ((20 : Nat) : Int))]) (H.set O (oC T)) _
    refine W.seq (W.region ?_)
    refine WO.op rfl rfl ?_
    refine WO.op rfl rfl ?_
    refine WO.op rfl rfl ?_
    refine WO.op rfl rfl ?_
    refine WO.call rfl (inB (isort_end 20 (by decide))) rfl (WO.nil (W.block ?_))
    refine W.fits (F' := fr [(1, iA ((20 : Nat) : Int)), (6, iA ((20 : Nat) : Int))]) (fits_fr ⟨rfl, rfl, trivial⟩) ?_
    refine W.loopI (fun _ : Unit => True) (fun _ => 0) (fun _ => fr [(1, iA ((20 : Nat) : Int)), (6, iA ((20 : Nat) : Int))]) (fun _ => H.set O (oC T)) ?_ () trivial
    intro _ _
    refine W.seq (W.seq (W.region ?_))
    refine WO.op rfl rfl ?_
    refine WO.op rfl rfl ?_
    refine WO.as (v' := .bool false) rfl rfl rfl (WO.nil (W.cond (b := false) rfl (fun h => by cases h) (fun _ => W.exit ?_)))
    exact ⟨trivial, _, rfl, Wk.refl _, rfl⟩
  · refine W.midE (α := Unit) (fun _ => True) (fun _ => [(0, .sl O 0 n cap 1), (1, iA (n : Int)), (2, fnC P), (6, iA ((20 : Nat) : Int)), (7, iA ((0 : Nat) : Int))]) (fun _ => H) ?_ ?_
    · refine W.block ?_
      refine W.fits (F' := fr [(0, .sl O 0 n cap 1), (1, iA (n : Int)), (2, fnC P), (6, iA ((20 : Nat) : Int)), (7, iA ((0 : Nat) : Int)), (8, iA ((20 : Nat) : Int))]) (fits_fr ⟨rfl, rfl, rfl, rfl, rfl, rfl, trivial⟩) ?_
      refine W.loopI (fun _ : Unit => True) (fun _ => 0) (fun _ => fr [(0, .sl O 0 n cap 1), (1, iA (n : Int)), (2, fnC P), (6, iA ((20 : Nat) : Int)), (7, iA ((0 : Nat) : Int)), (8, iA ((20 : Nat) : Int))]) (fun _ => H) ?_ () trivial
      intro _ _
      refine W.seq (W.seq (W.region ?_))
      refine WO.op rfl rfl ?_
      refine WO.op rfl rfl ?_
      refine WO.as (v' := .bool false) rfl rfl (bdF (by omega)) (WO.nil (W.cond (b := false) rfl (fun h => by cases h) (fun _ => W.exit ?_)))
      exact ⟨rfl, (), trivial, ⟨rfl, rfl, rfl, rfl, rfl, trivial⟩, rfl⟩
    intro _ _
    change W _ _ _ _ (fr [(0, .sl O 0 n cap 1), (1, iA (n : Int)), (2, fnC P), (6, iA ((20 : Nat) : Int)), (7, iA ((0 : Nat) : Int))]) H _
    refine W.seq (W.region ?_)
    refine WO.op rfl rfl ?_
    refine WO.op rfl rfl ?_
    refine WO.op rfl rfl ?_
    refine WO.op rfl rfl ?_
    refine WO.call rfl (inB hs) rfl (WO.nil (W.block ?_))
    refine W.fits (F' := fr [(1, iA (n : Int)), (6, iA ((20 : Nat) : Int))]) (fits_fr ⟨rfl, rfl, trivial⟩) ?_
    refine W.loopI (fun _ : Unit => True) (fun _ => 0) (fun _ => fr [(1, iA (n : Int)), (6, iA ((20 : Nat) : Int))]) (fun _ => H.set O (oC T)) ?_ () trivial
    intro _ _
    refine W.seq (W.seq (W.region ?_))
    refine WO.op rfl rfl ?_
    refine WO.op rfl rfl ?_
    refine WO.as (v' := .bool false) rfl rfl (bdF (by omega)) (WO.nil (W.cond (b := false) rfl (fun h => by cases h) (fun _ => W.exit ?_)))
    exact ⟨trivial, _, rfl, Wk.refl _, rfl⟩
theorem sort_has {H : Heap} {O P R : Nat} {rs l : List Nat} {cap : Option Nat} (hO : H[O]? = some (oC l)) (h : RestsAt H P R rs) (h1 : O ≠ P) (h2 : O ≠ R) (hl : ∀ x ∈ l, x < rs.length) (hn : 0 < l.length) (hn2 : l.length ≤ 20) :
    Has 54 [.sl O 0 l.length cap 1, fnC P] H (.tup []) (H.set O (oC (isortK (ltR rs) (l.length - 1) l))) := by
  have hs := stable_has (cap := cap) hO h h1 h2 hl hn hn2
  generalize isortK (ltR rs) (l.length - 1) l = T at hs ⊢
  generalize l.length = n at hs ⊢
  refine unB (l := []) ?_
  refine does_run s1 (show S1.fn 54 = some Tryz.f54 by kernel_rfl) rfl (by kernel_rfl) (Nat.le_of_ble_eq_true rfl) ?_
  refine W.region ?_
  refine WO.op rfl rfl ?_
  refine WO.op rfl rfl ?_
  refine WO.op rfl rfl ?_
  refine WO.op rfl rfl ?_
  refine WO.call rfl (inB hs) rfl (WO.nil ?_)
  exact ⟨trivial, _, rfl, Wk.refl _, rfl⟩
end
end Go.AM.C.BK

/- block.Parts: rows that grow; no share is less than nothing; the plain parts. -/
namespace Go.AM
set_option linter.unusedVariables false
set_option linter.unusedSimpArgs false
/-- A row of an abstract heap, or none. -/
def RowK (H : Heap) (v : AVal) (cs : List AVal) (ty : TypeId) : Prop := cs = [] ∧ v = .nils ∨ ∃ id, v = .sl id 0 cs.length none 1 ∧ H[id]? = some (.cells cs ty)
/-- Where it lies. -/
def idK : AVal → Option Nat
  | .sl id _ _ _ _ => some id
  | _ => none
theorem RowK.cons {H : Heap} {v : AVal} {cs : List AVal} {ty : TypeId} (h : RowK H v cs ty) (h0 : cs ≠ []) : ∃ id, v = .sl id 0 cs.length none 1 ∧ idK v = some id ∧ H[id]? = some (.cells cs ty) := by
  rcases h with ⟨h, _⟩ | ⟨id, rfl, h⟩
  · exact absurd h h0
  · exact ⟨id, rfl, rfl, h⟩
theorem RowK.lt {H : Heap} {v : AVal} {cs : List AVal} {ty : TypeId} (h : RowK H v cs ty) {j : Nat} (hj : idK v = some j) : j < H.length := by
  rcases h with ⟨_, rfl⟩ | ⟨id, rfl, h⟩
  · cases hj
  · cases hj; exact (List.getElem?_eq_some_iff.1 h).1
theorem RowK.mono {H H' : Heap} {v : AVal} {cs : List AVal} {ty : TypeId} (h : RowK H v cs ty) (hh : ∀ j, idK v = some j → H'[j]? = H[j]?) : RowK H' v cs ty := by
  rcases h with h | ⟨id, rfl, h⟩
  · exact .inl h
  · exact .inr ⟨id, rfl, by rw [hh id rfl]; exact h⟩
theorem RowK.beq {H : Heap} {v : AVal} {cs : List AVal} {ty : TypeId} (h : RowK H v cs ty) : beqA 9 v v = true := by
  rcases h with ⟨_, rfl⟩ | ⟨id, rfl, h⟩
  · rfl
  · simp [beqA]
theorem RowK.cell {H : Heap} {v : AVal} {cs : List AVal} {ty : TypeId} (h : RowK H v cs ty) : v.cell = true := by
  rcases h with ⟨_, rfl⟩ | ⟨id, rfl, h⟩ <;> rfl
/-- One more. -/
theorem RowK.app {H : Heap} {v : AVal} {cs : List AVal} {ty : TypeId} (h : RowK H v cs ty) (e : TypeId) (x : AVal) (hx : x.cell = true) (hl : cs.length < 1073741824) :
    ∃ H', (∀ {S : Sg} {call : Calling} {d : Bool} {g : Operand → AVal} {c : Call} {t : TypeId} {ti te : TI} {cap2 : Option Nat} {cl : Bool}, c.callee = .builtin .append → c.args.toList.map g = [v, .isl [x] 0 1 cap2 cl] → c.argTypes.toList = [t, t] → S.ty t = some ti → ti.desc = .slice e → S.ty e = some te → te.size = 1 → te.bytes ≤ 1024 →
        denG S call d g H (.call c) = some (.sl H.length 0 (cs ++ [x]).length none 1, H')) ∧ H'.length = H.length + 1 ∧ RowK H' (.sl H.length 0 (cs ++ [x]).length none 1) (cs ++ [x]) e ∧ ∀ j, j < H.length → idK v ≠ some j → H'[j]? = H[j]? := by
  rcases h with ⟨rfl, rfl⟩ | ⟨id, rfl, h⟩
  · refine ⟨H ++ [.cells [x] e], ?_, by simp, .inr ⟨H.length, rfl, app_at rfl⟩, fun j hj _ => app_lt hj⟩
    intro S call d g c t ti te cap2 cl hc ha hta ht hd he hs hb
    have := G.append_nils_isl (news := [x]) hc ha hta ht hd he hs.symm (by simp [hx]) hb (d := d) (call := call) (H := H)
    rw [hs] at this
    exact this
  · have hid := (List.getElem?_eq_some_iff.1 h).1
    refine ⟨H.set id .dead ++ [.cells (cs ++ [x]) e], ?_, by simp, .inr ⟨H.length, rfl, ?_⟩, fun j hj hn => ?_⟩
    · intro S call d g c t ti te cap2 cl hc ha hta ht hd he hs hb
      have := G.append_sl_isl (news := [x]) (id := id) (len := cs.length) (vs := cs) (ty := ty) hc (by rw [hs]; exact ha) hta ht hd he hs.symm (by simp [hx]) hb (by omega) h (by rw [hs]; omega) hl (d := d) (call := call)
      rw [hs] at this
      rw [this, List.length_append]
      rfl
    · have e1 : H.length = (H.set id .dead).length := by simp
      rw [e1]
      exact app_at rfl
    · rw [app_lt (by simpa using hj), List.getElem?_set_ne]
      rintro rfl
      exact hn rfl
/-- One more, where the order is not drawn: what is put to it lies in a row of one of its own. -/
theorem RowK.app2 {H : Heap} {v : AVal} {cs : List AVal} {ty : TypeId} (h : RowK H v cs ty) (e : TypeId) (x : AVal) (hx : x.cell = true) (hl : cs.length < 1073741824) {id2 : Nat} {ty2 : TypeId} (h2 : H[id2]? = some (.cells [x] ty2)) :
    ∃ H', (∀ {S : Sg} {call : Calling} {d : Bool} {g : Operand → AVal} {c : Call} {t : TypeId} {ti te : TI} {cap2 : Option Nat}, c.callee = .builtin .append → c.args.toList.map g = [v, .sl id2 0 1 cap2 1] → c.argTypes.toList = [t, t] → S.ty t = some ti → ti.desc = .slice e → S.ty e = some te → te.size = 1 → te.bytes ≤ 1024 →
        denG S call d g H (.call c) = some (.sl H.length 0 (cs ++ [x]).length none 1, H')) ∧ H'.length = H.length + 1 ∧ RowK H' (.sl H.length 0 (cs ++ [x]).length none 1) (cs ++ [x]) e ∧ ∀ j, j < H.length → idK v ≠ some j → H'[j]? = H[j]? := by
  rcases h with ⟨rfl, rfl⟩ | ⟨id, rfl, h⟩
  · refine ⟨H ++ [.cells [x] e], ?_, by simp, .inr ⟨H.length, rfl, app_at rfl⟩, fun j hj _ => app_lt hj⟩
    intro S call d g c t ti te cap2 hc ha hta ht hd he hs hb
    have := G.append_nils (news := [x]) (id2 := id2) (cap2 := cap2) (ty2 := ty2) hc (by rw [hs]; exact ha) hta ht hd he h2 hs.symm (by simp [hx]) hb (d := d) (call := call)
    rw [hs] at this
    exact this
  · have hid := (List.getElem?_eq_some_iff.1 h).1
    refine ⟨H.set id .dead ++ [.cells (cs ++ [x]) e], ?_, by simp, .inr ⟨H.length, rfl, ?_⟩, fun j hj hn => ?_⟩
    · intro S call d g c t ti te cap2 hc ha hta ht hd he hs hb
      have := G.append_sl (news := [x]) (id := id) (len := cs.length) (vs := cs) (ty := ty) (id2 := id2) (cap2 := cap2) (ty2 := ty2) hc (by rw [hs]; exact ha) hta ht hd he h2 hs.symm (by simp [hx]) hb (by omega) h (by rw [hs]; omega) hl (d := d) (call := call)
      rw [hs] at this
      rw [this, List.length_append]
      rfl
    · have e1 : H.length = (H.set id .dead).length := by simp
      rw [e1]
      exact app_at rfl
    · rw [app_lt (by simpa using hj), List.getElem?_set_ne]
      rintro rfl
      exact hn rfl
end Go.AM
namespace Go.AM.C.BK
open Go.Proofs
noncomputable section
set_option linter.unusedVariables false
set_option linter.unusedSimpArgs false

theorem below_has (s : Nat) (hs : s < 9223372036854775808) (H : Heap) : Has 44 [iA (s : Int)] H (.bool false) H := by
  refine unB (l := []) ?_
  refine does_run s1 (show S1.fn 44 = some Tryz.f44 by kernel_rfl) rfl (by kernel_rfl) (Nat.le_of_ble_eq_true rfl) ?_
  refine W.seq (W.region ?_)
  refine WO.op rfl rfl (WO.nil (W.seq (W.region ?_)))
  refine WO.op rfl rfl ?_
  refine WO.as (v' := .bool false) rfl rfl (bdF (by omega)) ?_
  exact WO.op rfl rfl (WO.nil (W.ret ⟨trivial, _, rfl, Wk.refl _, rfl⟩))
theorem bL : (mkB []).ty 23 = some ti23 := rfl
theorem bl : (mkB []).ty 2 = some ti2 := rfl
theorem index_has (sh : List Nat) (hs : ∀ s ∈ sh, s < 9223372036854775808) (hn : sh.length < 1048576) (H : Heap) :
    Has 106 [.isl (ints sh) 0 sh.length none true, .fn 44 [] []] H (iA (-1)) H := by
  refine unB (l := []) ?_
  refine does_run s1 (show S1.fn 106 = some Tryz.f106 by kernel_rfl) rfl (by kernel_rfl) (Nat.le_of_ble_eq_true rfl) ?_
  refine W.seq (W.region ?_)
  refine WO.op rfl rfl (WO.nil (W.seq (W.seq (W.region ?_))))
  refine WO.op rfl rfl ?_
  refine WO.op rfl rfl ?_
  refine WO.op rfl rfl (WO.nil (W.block ?_))
  refine W.fits (F' := fr [(0, .isl (ints sh) 0 sh.length none true), (1, .fn 44 [] []), (7, iA (sh.length : Int)), (8, iA ((0 : Nat) : Int))]) (fits_fr ⟨rfl, rfl, rfl, rfl, trivial⟩) ?_
  refine W.loopI (fun k : Nat => k ≤ sh.length) (fun k => sh.length - k) (fun k => fr [(0, .isl (ints sh) 0 sh.length none true), (1, .fn 44 [] []), (7, iA (sh.length : Int)), (8, iA (k : Int))]) (fun _ => H) ?_ 0 (Nat.zero_le _)
  intro k hk
  refine W.seq (W.region ?_)
  by_cases hlt : k < sh.length
  · refine WO.as (v' := .bool true) rfl rfl (bdT (by omega)) (WO.nil (W.seq (W.cond (b := true) rfl (fun _ => W.skip ?_) (fun h => by cases h))))
    refine W.seq (W.block (W.seq (W.region ?_)))
    refine WO.op rfl rfl ?_
    refine WO.op rfl rfl (WO.nil (W.seq (W.region ?_)))
    refine WO.op rfl rfl ?_
    refine WO.op rfl rfl ?_
    refine WO.op rfl rfl ?_
    refine WO.op (G.idx_isl rfl rfl bL rfl bl (by omega) (by omega)) rfl ?_
    refine WO.op (G.load_ip rfl bl rfl (show (ints sh)[0 + ((k : Nat) : Int).toNat * 1]? = some (iA (sh.getD k 0 : Nat)) by rw [idx0]; exact ints_at hlt)) rfl ?_
    refine WO.call rfl (inB (below_has (sh.getD k 0) (hs _ (getD_mem hlt)) _)) rfl (WO.nil ?_)
    refine W.cond (b := false) rfl (fun h => by cases h) (fun _ => W.skip (W.region ?_))
    refine WO.as (v' := iA ((k + 1 : Nat) : Int)) rfl rfl (int_i64 (by omega) (by omega)) ?_
    exact WO.op rfl rfl (WO.nil ⟨k + 1, by omega, by omega, fits_fr ⟨rfl, rfl, rfl, rfl, trivial⟩, rfl⟩)
  · refine WO.as (v' := .bool false) rfl rfl (bdF (by omega)) (WO.nil (W.seq (W.cond (b := false) rfl (fun h => by cases h) (fun _ => W.exit ?_))))
    refine W.seq (W.region ?_)
    exact WO.op rfl rfl (WO.nil (W.ret ⟨trivial, _, rfl, Wk.refl _, rfl⟩))
theorem contains_has (sh : List Nat) (hs : ∀ s ∈ sh, s < 9223372036854775808) (hn : sh.length < 1048576) (H : Heap) :
    Has 43 [.isl (ints sh) 0 sh.length none true, .fn 44 [] []] H (.bool false) H := by
  have hi := index_has sh hs hn
  refine unB (l := []) ?_
  refine does_run s1 (show S1.fn 43 = some Tryz.f43 by kernel_rfl) rfl (by kernel_rfl) (Nat.le_of_ble_eq_true rfl) ?_
  refine W.seq (W.region ?_)
  refine WO.op rfl rfl (WO.nil (W.seq (W.region ?_)))
  refine WO.op rfl rfl ?_
  refine WO.op rfl rfl ?_
  refine WO.call rfl (inB (hi _)) rfl ?_
  refine WO.op rfl rfl ?_
  exact WO.op rfl rfl (WO.nil (W.ret ⟨trivial, _, rfl, Wk.refl _, rfl⟩))

/-! #### the parts, plain -/
def qsN (A S : Nat) (sh : List Nat) : List Nat := sh.map fun s => A * s / S
def rsN (A S : Nat) (sh : List Nat) : List Nat := sh.map fun s => A * s % S
def bumpN : List Nat → List Nat → List Nat
  | [], l => l
  | i :: r, l => bumpN r (l.set i (l.getD i 0 + 1))
def ordN (A : Nat) (sh : List Nat) : List Nat := isortK (ltR (rsN A sh.sum sh)) (sh.length - 1) (List.range sh.length)
def missN (A : Nat) (sh : List Nat) : Nat := A - (qsN A sh.sum sh).sum
def partsN (A : Nat) (sh : List Nat) : List Nat := bumpN ((ordN A sh).take (missN A sh)) (qsN A sh.sum sh)
theorem bump_len : ∀ (o l : List Nat), (bumpN o l).length = l.length
  | [], l => rfl
  | i :: r, l => by show (bumpN r _).length = _; rw [bump_len r, List.length_set]
theorem qs_len (A S : Nat) (sh : List Nat) : (qsN A S sh).length = sh.length := by unfold qsN; simp
theorem rs_len (A S : Nat) (sh : List Nat) : (rsN A S sh).length = sh.length := by unfold rsN; simp
theorem ord_len (A : Nat) (sh : List Nat) : (ordN A sh).length = sh.length := by unfold ordN; rw [isort_len, List.length_range]
theorem takeD {l : List Nat} {k : Nat} (h : k < l.length) : l.take (k + 1) = l.take k ++ [l.getD k 0] := by
  rw [List.take_add_one, List.getD_eq_getElem?_getD, List.getElem?_eq_getElem h]
  rfl
theorem qs_getD {A S : Nat} {sh : List Nat} {k : Nat} (h : k < sh.length) : (qsN A S sh).getD k 0 = A * sh.getD k 0 / S := by
  unfold qsN
  rw [List.getD_eq_getElem?_getD, List.getD_eq_getElem?_getD, List.getElem?_map, List.getElem?_eq_getElem h]
  rfl
theorem rs_getD {A S : Nat} {sh : List Nat} {k : Nat} (h : k < sh.length) : (rsN A S sh).getD k 0 = A * sh.getD k 0 % S := by
  unfold rsN
  rw [List.getD_eq_getElem?_getD, List.getD_eq_getElem?_getD, List.getElem?_map, List.getElem?_eq_getElem h]
  rfl
theorem qs_take (A S : Nat) (sh : List Nat) (k : Nat) : (qsN A S sh).take k = qsN A S (sh.take k) := by unfold qsN; rw [List.map_take]
theorem qr_sum (A S : Nat) : ∀ sh : List Nat, S * (qsN A S sh).sum + (rsN A S sh).sum = A * sh.sum
  | [] => rfl
  | s :: sh => by
    have ih := qr_sum A S sh
    have h1 := Nat.div_add_mod (A * s) S
    show S * (A * s / S + (qsN A S sh).sum) + (A * s % S + (rsN A S sh).sum) = A * (s + sh.sum)
    rw [Nat.mul_add, Nat.mul_add]
    omega
theorem rs_le {A S : Nat} (hS : 0 < S) : ∀ sh : List Nat, (rsN A S sh).sum + sh.length ≤ S * sh.length
  | [] => by simp [rsN]
  | s :: sh => by
    have ih := rs_le hS (A := A) sh
    have h1 := Nat.mod_lt (A * s) hS
    show A * s % S + (rsN A S sh).sum + (sh.length + 1) ≤ S * (sh.length + 1)
    rw [Nat.mul_add]
    omega
theorem sum_take_le : ∀ (l : List Nat) (k : Nat), (l.take k).sum ≤ l.sum
  | [], k => by simp
  | x :: l, 0 => by simp
  | x :: l, k + 1 => by
    rw [List.take_succ_cons, List.sum_cons, List.sum_cons]
    have := sum_take_le l k
    omega
theorem sum_takeD {l : List Nat} {k : Nat} (h : k < l.length) : (l.take (k + 1)).sum = (l.take k).sum + l.getD k 0 := by
  rw [takeD h, List.sum_append]
  simp
theorem getD_le_sum {l : List Nat} {k : Nat} (h : k < l.length) : l.getD k 0 ≤ l.sum := by
  have h1 := sum_takeD h
  have h2 := sum_take_le l (k + 1)
  omega
theorem qs_sum_le {A : Nat} {sh : List Nat} (h0 : 0 < sh.sum) : (qsN A sh.sum sh).sum ≤ A := by
  have h := qr_sum A sh.sum sh
  refine Nat.le_of_mul_le_mul_left (c := sh.sum) ?_ h0
  rw [Nat.mul_comm sh.sum A]
  omega
theorem miss_lt {A : Nat} {sh : List Nat} (h0 : 0 < sh.sum) : missN A sh < sh.length := by
  have h := qr_sum A sh.sum sh
  have hl : 0 < sh.length := by
    cases sh with
    | nil => simp at h0
    | cons => simp
  have h2 := rs_le (A := A) h0 sh
  have h3 : A < (qsN A sh.sum sh).sum + sh.length := by
    refine Nat.lt_of_mul_lt_mul_left (a := sh.sum) ?_
    rw [Nat.mul_add, Nat.mul_comm sh.sum A]
    omega
  unfold missN
  omega
theorem ord_lt (A : Nat) (sh : List Nat) (h : 0 < sh.length) : ∀ x ∈ ordN A sh, x < sh.length := fun x hx => by
  have := isort_mem _ _ _ (by rw [List.length_range]; omega) x hx
  exact List.mem_range.1 this
end
end Go.AM.C.BK

/- block.Parts: the walk. -/
namespace Go.AM.C.BK
open Go.Proofs
noncomputable section
set_option linter.unusedVariables false
set_option linter.unusedSimpArgs false

/-! #### contracts in draws -/
def nofR (args : List AVal) (H : Heap) (v : AVal) (H' : Heap) : Prop := ∃ n : Nat, n < B64 ∧ args = [.int .u64 (n : Int)] ∧ v = .obj (.np n) ∧ H' = H
theorem nofR_has : ∀ args H v H', nofR args H v H' → Has 46 args H v H' := by
  rintro _ H _ _ ⟨n, hn, rfl, rfl, rfl⟩
  exact of_np n hn _
theorem nofR_fun : ∀ args H v H1 u H2, nofR args H v H1 → nofR args H u H2 → v = u ∧ H1 = H2 := by
  rintro _ H _ _ _ _ ⟨n, hn, rfl, rfl, rfl⟩ ⟨n', hn', h, rfl, rfl⟩
  injection h with h1
  injection h1 with _ h1
  have e : n = n' := by omega
  subst e
  exact ⟨rfl, rfl⟩
def naddR (args : List AVal) (H : Heap) (v : AVal) (H' : Heap) : Prop := ∃ n m : Nat, Fit n ∧ Fit m ∧ args = [.obj (.np n), .obj (.np m)] ∧ v = .obj (.np (n + m)) ∧ H' = H
theorem naddR_has : ∀ args H v H', naddR args H v H' → Has 47 args H v H' := by
  rintro _ H _ _ ⟨n, m, hn, hm, rfl, rfl, rfl⟩
  exact add_np n m hn hm _
theorem naddR_fun : ∀ args H v H1 u H2, naddR args H v H1 → naddR args H u H2 → v = u ∧ H1 = H2 := by
  rintro _ H _ _ _ _ ⟨n, m, hn, hm, rfl, rfl, rfl⟩ ⟨n', m', hn', hm', h, rfl, rfl⟩
  injection h with h1 h2
  injection h2 with h2
  injection h1 with h1
  injection h2 with h2
  injection h1 with h1
  injection h2 with h2
  subst h1; subst h2
  exact ⟨rfl, rfl⟩
abbrev nofE : Ent := ⟨46, relX nofR, true, relX_quiet fun _ _ _ _ ⟨_, _, _, _, h⟩ => h⟩
abbrev naddE : Ent := ⟨47, relX naddR, true, relX_quiet fun _ _ _ _ ⟨_, _, _, _, _, _, h⟩ => h⟩
abbrev SB : Sg := mkB [nofE, naddE]
theorem sB : Sound Tryz.prog SB := mkB_sound ⟨relX_ok nofR_has _ rfl rfl, relX_ok naddR_has _ rfl rfl, trivial⟩
theorem nofB {n : Nat} (hn : n < B64) (H : Heap) : callS SB 46 [.int .u64 (n : Int)] H = some (.obj (.np n), H) :=
  (show callS SB 46 [.int .u64 (n : Int)] H = relX nofR [.int .u64 (n : Int)] H from rfl).trans (relX_eq nofR_fun ⟨n, hn, rfl, rfl, rfl⟩)
theorem naddB {n m : Nat} (hn : Fit n) (hm : Fit m) (H : Heap) : callS SB 47 [.obj (.np n), .obj (.np m)] H = some (.obj (.np (n + m)), H) :=
  (show callS SB 47 [.obj (.np n), .obj (.np m)] H = relX naddR [.obj (.np n), .obj (.np m)] H from rfl).trans (relX_eq naddR_fun ⟨n, m, hn, hm, rfl, rfl, rfl⟩)

/-! #### the rows while they grow -/
structure St (A S : Nat) (sh : List Nat) (k : Nat) (G : Heap) (vp vr vo : AVal) : Prop where
  hk : k ≤ sh.length
  p : RowK G vp (nps ((qsN A S sh).take k)) 90
  r : RowK G vr (nps ((rsN A S sh).take k)) 90
  o : RowK G vo (ints (List.range k)) 3
  c : G[0]? = some (.cells [vr] 97)
  p0 : idK vp ≠ some 0
  r0 : idK vr ≠ some 0
  o0 : idK vo ≠ some 0
  pr : ∀ j, idK vp = some j → idK vr ≠ some j
  po : ∀ j, idK vp = some j → idK vo ≠ some j
  ro : ∀ j, idK vr = some j → idK vo ≠ some j
theorem nps_snoc (l : List Nat) (x : Nat) : nps (l ++ [x]) = nps l ++ [.obj (.np x)] := by unfold nps; rw [List.map_append]; rfl
theorem ints_snoc (l : List Nat) (x : Nat) : ints (l ++ [x]) = ints l ++ [iA (x : Int)] := by unfold ints; rw [List.map_append]; rfl

/-- What a draw of three appends needs. -/
def AppD (G : Heap) (v x v' : AVal) (e : TypeId) (G' : Heap) : Prop :=
  ∀ {S : Sg} {call : Calling} {d : Bool} {g : Operand → AVal} {c : Call} {t : TypeId} {ti te : TI} {cap2 : Option Nat} {cl : Bool}, c.callee = .builtin .append → c.args.toList.map g = [v, .isl [x] 0 1 cap2 cl] → c.argTypes.toList = [t, t] → S.ty t = some ti → ti.desc = .slice e → S.ty e = some te → te.size = 1 → te.bytes ≤ 1024 →
    denG S call d g G (.call c) = some (v', G')
set_option maxHeartbeats 2000000 in
theorem St.step {A S : Nat} {sh : List Nat} {k : Nat} {G : Heap} {vp vr vo : AVal} (h : St A S sh k G vp vr vo) (hk : k < sh.length) (hb : sh.length < 1048576) :
    ∃ G1 G2 G3 vp' vr' vo', AppD G vp (.obj (.np (A * sh.getD k 0 / S))) vp' 90 G1 ∧ AppD G1 vr (.obj (.np (A * sh.getD k 0 % S))) vr' 90 G2 ∧ AppD G2 vo (iA (k : Int)) vo' 3 G3 ∧
      G1[0]? = some (.cells [vr] 97) ∧ G2[0]? = some (.cells [vr] 97) ∧ G3[0]? = some (.cells [vr] 97) ∧ vr'.cell = true ∧
      St A S sh (k + 1) (G3.set 0 (.cells [vr'] 97)) vp' vr' vo' := by
  have hql : (nps ((qsN A S sh).take k)).length < 1073741824 := by rw [nps_len, List.length_take]; omega
  have hrl : (nps ((rsN A S sh).take k)).length < 1073741824 := by rw [nps_len, List.length_take]; omega
  have hol : (ints (List.range k)).length < 1073741824 := by rw [ints_len, List.length_range]; omega
  have h0 : 0 < G.length := (List.getElem?_eq_some_iff.1 h.c).1
  obtain ⟨G1, a1, l1, r1, k1⟩ := h.p.app 90 (.obj (.np (A * sh.getD k 0 / S))) rfl hql
  have hr1 := h.r.mono (H' := G1) fun j hj => k1 j (h.r.lt hj) (fun e => h.pr j e hj)
  have ho1 := h.o.mono (H' := G1) fun j hj => k1 j (h.o.lt hj) (fun e => h.po j e hj)
  have hc1 : G1[0]? = some (.cells [vr] 97) := by rw [k1 0 h0 h.p0]; exact h.c
  obtain ⟨G2, a2, l2, r2, k2⟩ := hr1.app 90 (.obj (.np (A * sh.getD k 0 % S))) rfl hrl
  have ho2 := ho1.mono (H' := G2) fun j hj => k2 j (by have := h.o.lt hj; omega) (fun e => h.ro j e hj)
  have hc2 : G2[0]? = some (.cells [vr] 97) := by rw [k2 0 (by omega) h.r0]; exact hc1
  obtain ⟨G3, a3, l3, r3, k3⟩ := ho2.app 3 (iA (k : Int)) rfl hol
  have hc3 : G3[0]? = some (.cells [vr] 97) := by rw [k3 0 (by omega) h.o0]; exact hc2
  refine ⟨G1, G2, G3, _, _, _, a1, a2, a3, hc1, hc2, hc3, rfl, ?_⟩
  have kp : ∀ j, j < G.length → idK vr ≠ some j → idK vo ≠ some j → idK vp ≠ some j → G3[j]? = G[j]? := fun j hj e1 e2 e3 => by rw [k3 j (by omega) e2, k2 j (by omega) e1, k1 j hj e3]
  have eP : nps ((qsN A S sh).take k) ++ [.obj (.np (A * sh.getD k 0 / S))] = nps ((qsN A S sh).take (k + 1)) := by rw [takeD (by rw [qs_len]; exact hk), nps_snoc, qs_getD hk]
  have eR : nps ((rsN A S sh).take k) ++ [.obj (.np (A * sh.getD k 0 % S))] = nps ((rsN A S sh).take (k + 1)) := by rw [takeD (by rw [rs_len]; exact hk), nps_snoc, rs_getD hk]
  have eO : ints (List.range k) ++ [iA (k : Int)] = ints (List.range (k + 1)) := by rw [List.range_succ, ints_snoc]
  refine ⟨hk, ?_, ?_, ?_, List.getElem?_set_self (by omega), ?_, ?_, ?_, ?_, ?_, ?_⟩
  · rw [← eP]
    refine r1.mono fun j hj => ?_
    cases hj
    rw [List.getElem?_set_ne (by omega), k3 _ (by omega) (fun e => by have := h.o.lt e; omega), k2 _ (by omega) (fun e => by have := h.r.lt e; omega)]
  · rw [← eR]
    refine r2.mono fun j hj => ?_
    cases hj
    rw [List.getElem?_set_ne (by omega), k3 _ (by omega) (fun e => by have := h.o.lt e; omega)]
  · rw [← eO]
    refine r3.mono fun j hj => ?_
    cases hj
    rw [List.getElem?_set_ne (by omega)]
  · intro e; injection e with e; omega
  · intro e; injection e with e; omega
  · intro e; injection e with e; omega
  · intro j hj e
    injection hj with hj
    injection e with e
    omega
  · intro j hj e
    injection hj with hj
    injection e with e
    omega
  · intro j hj e
    injection hj with hj
    injection e with e
    omega
end
end Go.AM.C.BK

/- block.Parts: the walk. -/
namespace Go.AM.C.BK
open Go.Proofs
noncomputable section
set_option linter.unusedVariables false
set_option linter.unusedSimpArgs false

theorem fit_prod {a b : Nat} (ha : a ≤ 9223372036854775808) (hb : b < 18446744073709551616) : Fit (a * b) := by
  have h : a * b < B64 ^ 2 := by
    refine Nat.lt_of_le_of_lt (Nat.mul_le_mul ha (Nat.le_of_lt hb)) ?_
    decide
  have := lims_len_le h
  unfold Fit
  omega
def smI (z : Int) : Int := bif small64 z then z else 0
def outsA (t : Int) (l : List Nat) : List AVal := l.map fun (p : Nat) => iA (smI (sz (decide (t < 0)) p))
theorem outs_len (t : Int) (l : List Nat) : (outsA t l).length = l.length := by unfold outsA; simp
theorem outs_take (t : Int) {l : List Nat} {k : Nat} (h : k < l.length) : outsA t (l.take k) ++ [iA (smI (sz (decide (t < 0)) (l.getD k 0)))] = outsA t (l.take (k + 1)) := by
  rw [takeD h]; unfold outsA; rw [List.map_append]; rfl
theorem outs_closed (t : Int) (l : List Nat) : ∀ a ∈ outsA t l, a.closed1 = true := by
  intro a ha
  unfold outsA at ha
  obtain ⟨x, _, rfl⟩ := List.mem_map.1 ha
  rfl
theorem mem_le_sum {x : Nat} : ∀ {l : List Nat}, x ∈ l → x ≤ l.sum
  | y :: l, h => by
    rw [List.sum_cons]
    rcases List.mem_cons.1 h with rfl | h
    · omega
    · have := mem_le_sum h
      omega
theorem bump_snoc (i : Nat) : ∀ (o l : List Nat), bumpN (o ++ [i]) l = (bumpN o l).set i ((bumpN o l).getD i 0 + 1)
  | [], l => rfl
  | j :: o, l => bump_snoc i o _
theorem bump_le {B : Nat} : ∀ (o l : List Nat) (c : Nat), (∀ x ∈ l, x ≤ B + c) → ∀ x ∈ bumpN o l, x ≤ B + c + o.length
  | [], l, c, h, x, hx => h x hx
  | i :: o, l, c, h, x, hx => by
    have := bump_le (B := B) o (l.set i (l.getD i 0 + 1)) (c + 1) (fun y hy => by
      rcases List.mem_or_eq_of_mem_set hy with hy | rfl
      · have := h y hy; omega
      · by_cases hi : i < l.length
        · have := h _ (getD_mem hi); omega
        · rw [List.getD_eq_getElem?_getD, List.getElem?_eq_none (by omega)]; simp; omega) x hx
    rw [List.length_cons]
    omega
theorem nps_set (l : List Nat) (j x : Nat) : (nps l).set j (.obj (.np x)) = nps (l.set j x) := by unfold nps; rw [List.map_set]
set_option maxRecDepth 100000 in
set_option maxHeartbeats 4000000 in
theorem parts_has (t : Int) (ht : i64 t) (sh : List Nat) (hs : ∀ s ∈ sh, s < 9223372036854775808) (h20 : sh.length ≤ 20) (h0 : 0 < sh.sum) (hS : sh.sum < B64) (H : Heap) :
    Has 10 [iA t, .isl (ints sh) 0 sh.length none true] H (.tup [.isl (outsA t (partsN t.natAbs sh)) 0 sh.length none true, .nili]) H := by
  have hl0 : 0 < sh.length := by
    cases sh with
    | nil => simp at h0
    | cons => simp
  have hA : t.natAbs ≤ 9223372036854775808 := by unfold i64 at ht; omega
  have hicl : (AVal.isl (ints sh) 0 sh.length none true).closed = true := rfl
  have hcont := contains_has sh hs (by omega)
  refine unB (l := [nofE, naddE]) ?_
  refine does_pure sB (show SB.fn 10 = some Tryz.f10 by kernel_rfl) rfl (by kernel_rfl) (Nat.le_of_ble_eq_true rfl) rfl rfl ?_
  refine W.seq (W.region ?_)
  refine WO.op rfl rfl ?_
  refine WO.op rfl rfl (WO.nil (W.seq (W.region ?_)))
  refine WO.op rfl rfl ?_
  refine WO.call rfl (inB (hcont _)) rfl ?_
  refine WO.op rfl rfl (WO.nil (W.seq (W.seq (W.region ?_))))
  refine WO.op rfl rfl ?_
  refine WO.op rfl rfl ?_
  refine WO.as (v' := .bool false) rfl rfl (bdF (by omega)) ?_
  refine WO.op rfl rfl ?_
  refine WO.op rfl rfl ?_
  refine WO.op rfl rfl ?_
  refine WO.as (v' := .bool false) rfl rfl (bdF (by omega)) ?_
  refine WO.op rfl rfl ?_
  refine WO.op rfl rfl ?_
  refine WO.op rfl rfl ?_
  refine WO.op rfl rfl (WO.nil (W.cond (b := false) rfl (fun h => by cases h) (fun _ => W.skip ?_)))
  -- the sum
  refine W.seq (W.region ?_)
  refine WO.call rfl (inB (of_np 0 (by decide) _)) rfl ?_
  refine WO.op rfl rfl (WO.nil ?_)
  refine W.mid (H1 := []) [(0, iA t), (1, .isl (ints sh) 0 sh.length none true), (7, .obj (.np sh.sum))] ?_ ?_
  · refine W.seq (W.region ?_)
    refine WO.op rfl rfl ?_
    refine WO.op rfl rfl ?_
    refine WO.op rfl rfl (WO.nil (W.block ?_))
    refine W.fits (F' := fr [(0, iA t), (1, .isl (ints sh) 0 sh.length none true), (7, .obj (.np (sh.take 0).sum)), (44, .isl (ints sh) 0 sh.length none true), (45, iA (sh.length : Int)), (46, iA ((0 : Nat) : Int))]) (fits_fr ⟨rfl, rfl, rfl, rfl, rfl, rfl, trivial⟩) ?_
    refine W.loopI (fun k : Nat => k ≤ sh.length) (fun k => sh.length - k) (fun k => fr [(0, iA t), (1, .isl (ints sh) 0 sh.length none true), (7, .obj (.np (sh.take k).sum)), (44, .isl (ints sh) 0 sh.length none true), (45, iA (sh.length : Int)), (46, iA (k : Int))]) (fun _ => []) ?_ 0 (Nat.zero_le _)
    intro k hk
    refine W.seq (W.region ?_)
    by_cases hlt : k < sh.length
    · have hsk := hs _ (getD_mem hlt)
      have hsum := sum_takeD hlt
      have hsum2 := sum_take_le sh (k + 1)
      refine WO.as (v' := .bool true) rfl rfl (bdT (by omega)) (WO.nil (W.seq (W.cond (b := true) rfl (fun _ => W.skip ?_) (fun h => by cases h))))
      refine W.seq (W.block (W.seq (W.region ?_)))
      refine WO.op (G.idx_isl rfl rfl bL rfl bl (by omega) (by omega)) rfl ?_
      refine WO.op (G.load_ip rfl bl rfl (show (ints sh)[0 + ((k : Nat) : Int).toNat * 1]? = some (iA (sh.getD k 0 : Nat)) by rw [idx0]; exact ints_at hlt)) rfl ?_
      refine WO.op rfl rfl (WO.nil (W.region ?_))
      refine WO.op rfl rfl ?_
      refine WO.op rfl rfl ?_
      refine WO.as (v' := .int .u64 ((sh.getD k 0 : Nat) : Int)) rfl rfl (int_u64 (by omega) rfl) ?_
      refine WO.call rfl (inB (of_np (sh.getD k 0) (by unfold B64; omega) _)) rfl ?_
      refine WO.call rfl (inB (add_np (sh.take k).sum (sh.getD k 0) (fit_small (by omega)) (fit_small (by unfold B64; omega)) _)) rfl ?_
      refine WO.op rfl rfl (WO.nil (W.region ?_))
      refine WO.as (v' := iA ((k + 1 : Nat) : Int)) rfl rfl (int_i64 (by omega) (by omega)) ?_
      exact WO.op rfl rfl (WO.nil ⟨k + 1, by omega, by omega, fits_fr ⟨rfl, rfl, by rw [hsum]; rfl, rfl, rfl, rfl, trivial⟩, rfl⟩)
    · have hke : k = sh.length := by omega
      subst hke
      refine WO.as (v' := .bool false) rfl rfl (bdF (by omega)) (WO.nil (W.seq (W.cond (b := false) rfl (fun h => by cases h) (fun _ => W.exit ?_))))
      refine ⟨rfl, ⟨rfl, rfl, ?_, trivial⟩, rfl⟩
      show AVal.obj (.np (sh.take sh.length).sum) = _
      rw [List.take_length]
  refine W.seq (W.seq (W.region ?_))
  refine WO.op rfl rfl ?_
  refine WO.call rfl (inB (zero_np sh.sum _)) rfl (WO.nil (W.cond (b := false) (by show AVal.bool (decide _) = _; exact bdF (by omega)) (fun h => by cases h) (fun _ => W.skip ?_)))
  refine W.seq (W.region ?_)
  refine WO.op rfl rfl ?_
  refine WO.call rfl (inB (ofz t ht _)) rfl ?_
  refine WO.op rfl rfl (WO.nil (W.seq (W.region ?_)))
  refine WO.op rfl rfl ?_
  refine WO.call rfl (inB (absz (IsZ.mk t) _)) rfl ?_
  refine WO.op rfl rfl (WO.nil (W.seq (W.region ?_)))
  refine WO.op rfl rfl ?_
  refine WO.op rfl rfl (WO.nil (W.seq (W.region ?_)))
  refine WO.op rfl rfl (WO.nil ?_)
  -- the rows
  generalize hAe : t.natAbs = A at *
  refine W.midE (α := Heap × AVal × AVal × AVal) (fun x => St A sh.sum sh sh.length x.1 x.2.1 x.2.2.1 x.2.2.2)
    (fun x => [(0, iA t), (11, .obj (.np (missN A sh))), (12, x.2.1), (13, .ptr 0 0), (14, x.2.2.2)]) (fun x => x.1) ?_ ?_
  · refine W.seq (W.region ?_)
    refine WO.op rfl rfl ?_
    refine WO.op rfl rfl ?_
    refine WO.op rfl rfl (WO.nil (W.block ?_))
    refine W.fits (F' := fr [(0, iA t), (1, .isl (ints sh) 0 sh.length none true), (7, .obj (.np sh.sum)), (10, .obj (.zp t)), (11, .obj (.np (A - ((qsN A sh.sum sh).take 0).sum))), (12, .nils), (13, .ptr 0 0), (14, .nils), (63, .isl (ints sh) 0 sh.length none true), (64, iA (sh.length : Int)), (65, iA ((0 : Nat) : Int))]) (fits_fr ⟨rfl, rfl, rfl, rfl, rfl, rfl, rfl, rfl, rfl, rfl, rfl, trivial⟩) ?_
    refine W.loopI (α := Nat × Heap × AVal × AVal × AVal) (fun x => St A sh.sum sh x.1 x.2.1 x.2.2.1 x.2.2.2.1 x.2.2.2.2) (fun x => sh.length - x.1)
      (fun x => fr [(0, iA t), (1, .isl (ints sh) 0 sh.length none true), (7, .obj (.np sh.sum)), (10, .obj (.zp t)), (11, .obj (.np (A - ((qsN A sh.sum sh).take x.1).sum))), (12, x.2.2.1), (13, .ptr 0 0), (14, x.2.2.2.2), (63, .isl (ints sh) 0 sh.length none true), (64, iA (sh.length : Int)), (65, iA (x.1 : Int))]) (fun x => x.2.1) ?_
      (0, [.cells [.nils] 97], .nils, .nils, .nils) ⟨Nat.zero_le _, .inl ⟨rfl, rfl⟩, .inl ⟨rfl, rfl⟩, .inl ⟨rfl, rfl⟩, rfl, (fun h => by cases h), (fun h => by cases h), (fun h => by cases h), (fun _ h => by cases h), (fun _ h => by cases h), (fun _ h => by cases h)⟩
    rintro ⟨k, Y, vp, vr, vo⟩ hst
    simp only at hst ⊢
    change W _ _ _ _ (fr [(0, iA t), (1, .isl (ints sh) 0 sh.length none true), (7, .obj (.np sh.sum)), (10, .obj (.zp t)), (11, .obj (.np (A - ((qsN A sh.sum sh).take k).sum))), (12, vp), (13, .ptr 0 0), (14, vo), (63, .isl (ints sh) 0 sh.length none true), (64, iA (sh.length : Int)), (65, iA (k : Int))]) Y _
    refine W.seq (W.region ?_)
    by_cases hlt : k < sh.length
    · have hsk := hs _ (getD_mem hlt)
      have hqs := qs_sum_le (A := A) h0
      have hqt := sum_take_le (qsN A sh.sum sh) (k + 1)
      have hqd := sum_takeD (l := qsN A sh.sum sh) (k := k) (by rw [qs_len]; exact hlt)
      rw [qs_getD hlt] at hqd
      have hfa : Fit (A * sh.getD k 0) := fit_prod hA (by omega)
      have hfs : (lims (A * sh.getD k 0)).length < 1048576 := by
        have : (lims (A * sh.getD k 0)).length ≤ 2 := lims_len_le (Nat.lt_of_le_of_lt (Nat.mul_le_mul hA (Nat.le_of_lt hsk)) (by decide))
        omega
      obtain ⟨G1, G2, G3, vp', vr', vo', a1, a2, a3, c1, c2, c3, hce, hst'⟩ := hst.step hlt (by omega)
      have hbq := hst.r.beq
      have hc0 := hst.c
      refine WO.as (v' := .bool true) rfl rfl (bdT (by omega)) (WO.nil (W.seq (W.cond (b := true) rfl (fun _ => W.skip ?_) (fun h => by cases h))))
      refine W.seq (W.block (W.seq (W.region ?_)))
      refine WO.op rfl rfl ?_
      refine WO.op (G.idx_isl rfl rfl bL rfl bl (by omega) (by omega)) rfl ?_
      refine WO.op (G.load_ip rfl bl rfl (show (ints sh)[0 + ((k : Nat) : Int).toNat * 1]? = some (iA (sh.getD k 0 : Nat)) by rw [idx0]; exact ints_at hlt)) rfl ?_
      refine WO.op rfl rfl ?_
      refine WO.op rfl rfl (WO.nil (W.seq (W.region ?_)))
      refine WO.op rfl rfl ?_
      refine WO.call rfl (inB (absz (IsZ.mk t) _)) rfl ?_
      rw [hAe]
      refine WO.op rfl rfl ?_
      refine WO.as (v' := .int .u64 ((sh.getD k 0 : Nat) : Int)) rfl rfl (int_u64 (by omega) rfl) ?_
      refine WO.call rfl (inB (of_np (sh.getD k 0) (by unfold B64; omega) _)) rfl ?_
      refine WO.call rfl (inB (mul_np A (sh.getD k 0) (fit_small (by unfold B64; omega)) (fit_small (by unfold B64; omega)) _)) rfl ?_
      refine WO.op rfl rfl ?_
      refine WO.call rfl (inB (divS_np (A * sh.getD k 0) sh.sum (by omega) hS hfs _)) rfl ?_
      refine WO.op rfl rfl ?_
      refine WO.op rfl rfl ?_
      refine WO.op rfl rfl ?_
      refine WO.op rfl rfl ?_
      refine WO.op rfl rfl ?_
      refine WO.op rfl rfl ?_
      refine WO.op rfl rfl (WO.nil (W.seq (W.region ?_)))
      refine WO.op rfl rfl ?_
      refine WO.op rfl rfl ?_
      refine WO.call rfl (inB (sub_np (A - ((qsN A sh.sum sh).take k).sum) (A * sh.getD k 0 / sh.sum) (fit_small (by unfold B64; omega)) (fit_small (by unfold B64; omega)) _)) rfl ?_
      rw [if_neg (by omega)]
      refine WO.op rfl rfl ?_
      refine WO.op rfl rfl ?_
      refine WO.op rfl rfl ?_
      refine WO.op rfl rfl (WO.nil ?_)
      have hmi : A - ((qsN A sh.sum sh).take k).sum - A * sh.getD k 0 / sh.sum = A - ((qsN A sh.sum sh).take (k + 1)).sum := by omega
      rw [hmi]
      generalize hmi2 : A - ((qsN A sh.sum sh).take (k + 1)).sum = mi
      generalize A * sh.getD k 0 / sh.sum = q at *
      generalize A * sh.getD k 0 % sh.sum = r at *
      refine W.drawK0 [92] (fun X => X[0]? = some (.cells [vr] 97)) 13 (by rfl) (by kernel_rfl) ?_
      refine WK.op rfl rfl rfl rfl hc0 hc0 ?_
      refine WK.op rfl rfl rfl rfl hc0 hc0 ?_
      refine WK.op rfl rfl rfl rfl hc0 hc0 ?_
      refine WK.op (a1 (cap2 := some 1) (cl := true) rfl rfl rfl bN rfl bn rfl (by decide)) rfl rfl rfl hc0 c1 ?_
      refine WK.free c1 (fun X hX => G.load_ptr rfl bN rfl hX rfl) rfl rfl hbq ?_
      refine WK.op rfl rfl rfl rfl c1 c1 ?_
      refine WK.op rfl rfl rfl rfl c1 c1 ?_
      refine WK.op (a2 (cap2 := some 1) (cl := true) rfl rfl rfl bN rfl bn rfl (by decide)) rfl rfl rfl c1 c2 ?_
      refine WK.op rfl rfl rfl rfl c2 c2 ?_
      refine WK.op rfl rfl rfl rfl c2 c2 ?_
      refine WK.op rfl rfl rfl rfl c2 c2 ?_
      refine WK.op (a3 (cap2 := some 1) (cl := true) rfl rfl rfl bI rfl bi rfl (by decide)) rfl rfl rfl c2 c3 ?_
      refine WK.op rfl rfl rfl rfl c3 c3 ?_
      refine WK.tail ?_
      refine WT.op (G.store_ptr (v := vr') rfl rfl hce bN rfl c3 (by simp)) rfl rfl ?_
      refine WT.op rfl rfl rfl (WT.nil (W.region ?_))
      refine WO.as (v' := iA ((k + 1 : Nat) : Int)) rfl rfl (int_i64 (by omega) (by omega)) ?_
      exact WO.op rfl rfl (WO.nil ⟨(k + 1, G3.set 0 (.cells [vr'] 97), vp', vr', vo'), hst', by simp only; omega, fits_fr ⟨rfl, rfl, rfl, rfl, Eq.trans (b := .obj (.np mi)) rfl (by rw [← hmi2]), rfl, rfl, rfl, rfl, rfl, rfl, trivial⟩, rfl⟩)
    · have hke : k = sh.length := by have := hst.hk; omega
      subst hke
      refine WO.as (v' := .bool false) rfl rfl (bdF (by omega)) (WO.nil (W.seq (W.cond (b := false) rfl (fun h => by cases h) (fun _ => W.exit ?_))))
      refine ⟨rfl, (Y, vp, vr, vo), hst, ⟨rfl, ?_, rfl, rfl, rfl, trivial⟩, rfl⟩
      show AVal.obj (.np (A - ((qsN A sh.sum sh).take sh.length).sum)) = _
      rw [List.take_of_length_le (by rw [qs_len]; exact Nat.le_refl _)]
      rfl
  rintro ⟨Y, vp, vr, vo⟩ hst
  simp only at hst ⊢
  have hqn : nps ((qsN A sh.sum sh).take sh.length) ≠ [] := fun e => by have := congrArg List.length e; rw [nps_len, List.length_take, qs_len] at this; rw [List.length_nil] at this; omega
  have hrn : nps ((rsN A sh.sum sh).take sh.length) ≠ [] := fun e => by have := congrArg List.length e; rw [nps_len, List.length_take, rs_len] at this; rw [List.length_nil] at this; omega
  have hon : ints (List.range sh.length) ≠ [] := fun e => by have := congrArg List.length e; rw [ints_len, List.length_range] at this; rw [List.length_nil] at this; omega
  obtain ⟨a, rfl, ea, ha⟩ := hst.p.cons hqn
  obtain ⟨b, rfl, eb, hb⟩ := hst.r.cons hrn
  obtain ⟨o, rfl, eo, ho⟩ := hst.o.cons hon
  have hc := hst.c
  have ha0 : a ≠ 0 := fun e => hst.p0 (by rw [ea, e])
  have hb0 : b ≠ 0 := fun e => hst.r0 (by rw [eb, e])
  have ho0 : o ≠ 0 := fun e => hst.o0 (by rw [eo, e])
  have hao : a ≠ o := fun e => hst.po a ea (by rw [eo, e])
  have hbo : b ≠ o := fun e => hst.ro b eb (by rw [eo, e])
  have hab : a ≠ b := fun e => hst.pr a ea (by rw [eb, e])
  rw [List.take_of_length_le (by rw [qs_len]; exact Nat.le_refl _)] at ha
  rw [List.take_of_length_le (by rw [rs_len]; exact Nat.le_refl _)] at hb hc
  rw [List.take_of_length_le (by rw [qs_len]; exact Nat.le_refl _)]
  rw [nps_len, rs_len] at hc
  rw [nps_len, qs_len, ints_len, List.length_range]
  clear hst hqn hrn hon ea eb eo
  have hrests : RestsAt Y 0 b (rsN A sh.sum sh) := ⟨by rw [rs_len]; exact hc, hb, fun x hx => by
    obtain ⟨s, _, rfl⟩ := List.mem_map.1 hx
    exact fit_small (Nat.lt_trans (Nat.mod_lt _ h0) hS)⟩
  have hsort := fun cap => sort_has (cap := cap) ho hrests ho0 (Ne.symm hbo) (by intro x hx; rw [rs_len]; exact List.mem_range.1 hx) (by rw [List.length_range]; exact hl0) (by rw [List.length_range]; exact h20)
  rw [List.length_range] at hsort
  change ∀ cap, Has _ _ _ _ (Y.set o (oC (ordN A sh))) at hsort
  have hmiss := miss_lt (A := A) h0
  have hmA : missN A sh ≤ A := by unfold missN; omega
  have hordl := ord_len A sh
  have hordm := ord_lt A sh hl0
  have hYo : o < Y.length := (List.getElem?_eq_some_iff.1 ho).1
  have ha1 : (Y.set o (oC (ordN A sh)))[a]? = some (.cells (nps (qsN A sh.sum sh)) 90) := by rw [List.getElem?_set_ne (Ne.symm hao)]; exact ha
  have ho1 : (Y.set o (oC (ordN A sh)))[o]? = some (oC (ordN A sh)) := List.getElem?_set_self hYo
  have hpe : partsN A sh = bumpN ((ordN A sh).take (missN A sh)) (qsN A sh.sum sh) := rfl
  generalize partsN A sh = PR at hpe ⊢
  have hql := qs_len A sh.sum sh
  have hqf : ∀ x ∈ qsN A sh.sum sh, x ≤ A := fun x hx => by
    have := mem_le_sum hx
    have := qs_sum_le (A := A) h0
    omega
  generalize missN A sh = M at *
  generalize qsN A sh.sum sh = Q at *
  generalize ordN A sh = O at *
  have hZl : (Y.set o (oC O)).length = Y.length := List.length_set
  generalize Y.set o (oC O) = Z at *
  have hZa : a < Z.length := (List.getElem?_eq_some_iff.1 ha1).1
  generalize hn : sh.length = n at *
  clear hcont hs hS hc hb hrests ho ha
  -- the sort, what is missing
  refine W.seq (W.region ?_)
  refine WO.op rfl rfl ?_
  refine WO.op rfl rfl ?_
  refine WO.call rfl (inB (hsort _)) rfl (WO.nil (W.seq (W.region ?_)))
  refine WO.op rfl rfl ?_
  refine WO.call rfl (inB (small_np M _)) rfl ?_
  rw [if_pos (show M < B64 by unfold B64; omega)]
  refine WO.op rfl rfl ?_
  refine WO.op rfl rfl ?_
  refine WO.op rfl rfl ?_
  refine WO.op rfl rfl ?_
  refine WO.op rfl rfl (WO.nil ?_)
  refine W.mid (H1 := Z.set a (.cells (nps PR) 90)) [(0, iA t), (12, .sl a 0 n none 1)] ?_ ?_
  · refine W.seq (W.region ?_)
    refine WO.op rfl rfl ?_
    refine WO.op rfl rfl ?_
    refine WO.op (G.slice_sl (l := 0) (h := M) rfl bI rfl bi rfl rfl ⟨_, rfl⟩ (by omega) (by simp; omega) (by simp)) rfl ?_
    refine WO.op rfl rfl ?_
    refine WO.op rfl rfl (WO.nil (W.block ?_))
    refine W.heq (H' := Z.set a (.cells (nps (bumpN (O.take 0) Q)) 90)) (set_same ha1).symm ?_
    refine W.fits (F' := fr [(0, iA t), (12, .sl a 0 n none 1), (111, .sl o 0 M none 1), (112, iA (M : Int)), (113, iA ((0 : Nat) : Int))]) (fits_fr ⟨rfl, rfl, rfl, rfl, rfl, trivial⟩) ?_
    refine W.loopI (fun k : Nat => k ≤ M) (fun k => M - k) (fun k => fr [(0, iA t), (12, .sl a 0 n none 1), (111, .sl o 0 M none 1), (112, iA (M : Int)), (113, iA (k : Int))]) (fun k => Z.set a (.cells (nps (bumpN (O.take k) Q)) 90)) ?_ 0 (Nat.zero_le _)
    intro k hk
    refine W.seq (W.region ?_)
    by_cases hlt : k < M
    · have hkO : k < O.length := by omega
      have hi := hordm _ (getD_mem hkO)
      have hot : O.take (k + 1) = O.take k ++ [O.getD k 0] := takeD hkO
      have hbs := bump_snoc (O.getD k 0) (O.take k) Q
      rw [← hot] at hbs
      have hbl := bump_len (O.take k) Q
      have hbf := bump_le (B := A) (O.take k) Q 0 (fun x hx => hqf x hx)
      rw [List.length_take] at hbf
      have hge := hbf _ (getD_mem (l := bumpN (O.take k) Q) (j := O.getD k 0) (by omega))
      have hX1 : (Z.set a (.cells (nps (bumpN (O.take k) Q)) 90))[o]? = some (oC O) := by rw [List.getElem?_set_ne hao]; exact ho1
      have hX2 : (Z.set a (.cells (nps (bumpN (O.take k) Q)) 90))[a]? = some (.cells (nps (bumpN (O.take k) Q)) 90) := List.getElem?_set_self hZa
      have hl1 : (ints O)[0 + ((k : Nat) : Int).toNat * 1]? = some (iA (O.getD k 0 : Nat)) := by rw [idx0]; exact ints_at hkO
      generalize O.getD k 0 = i at *
      have hl2 : (nps (bumpN (O.take k) Q))[0 + ((i : Nat) : Int).toNat * 1]? = some (.obj (.np ((bumpN (O.take k) Q).getD i 0))) := by rw [idx0]; exact nps_at (by omega)
      refine WO.as (v' := .bool true) rfl rfl (bdT (by omega)) (WO.nil (W.seq (W.cond (b := true) rfl (fun _ => W.skip ?_) (fun h => by cases h))))
      refine W.seq (W.block (W.seq (W.region ?_)))
      refine WO.op (G.idx_sl rfl rfl bI rfl bi rfl (by omega) (by omega)) rfl ?_
      refine WO.op (G.load_ptr rfl bi rfl hX1 hl1) rfl ?_
      refine WO.op rfl rfl (WO.nil (W.draw0 rfl (by kernel_rfl) ?_))
      refine WT.op rfl rfl rfl ?_
      refine WT.op rfl rfl rfl ?_
      refine WT.op rfl rfl rfl ?_
      refine WT.op rfl rfl rfl ?_
      refine WT.op (G.idx_sl rfl rfl bN rfl bn rfl (by omega) (by omega)) rfl rfl ?_
      refine WT.op (G.load_ptr rfl bn rfl hX2 hl2) rfl rfl ?_
      refine WT.op (nofB (n := 1) (by decide) _) rfl rfl ?_
      refine WT.op (naddB (fit_small (by unfold B64; omega)) (fit_small (by decide)) _) rfl rfl ?_
      refine WT.op (G.idx_sl rfl rfl bN rfl bn rfl (by omega) (by omega)) rfl rfl ?_
      refine WT.op (G.store_ptr (v := .obj (.np ((bumpN (O.take k) Q).getD i 0 + 1))) rfl rfl rfl bn rfl hX2 (by rw [idx0, nps_len]; omega)) rfl rfl (WT.nil (W.region ?_))
      refine WO.as (v' := iA ((k + 1 : Nat) : Int)) rfl rfl (int_i64 (by omega) (by omega)) ?_
      refine WO.op rfl rfl (WO.nil ⟨k + 1, by omega, by omega, fits_fr ⟨rfl, rfl, rfl, rfl, rfl, trivial⟩, ?_⟩)
      rw [idx0, nps_set, List.set_set, hbs]
    · have hke : k = M := by omega
      subst hke
      refine WO.as (v' := .bool false) rfl rfl (bdF (by omega)) (WO.nil (W.seq (W.cond (b := false) rfl (fun h => by cases h) (fun _ => W.exit ?_))))
      refine ⟨rfl, ⟨rfl, rfl, trivial⟩, ?_⟩
      rw [hpe]
  have hPl : PR.length = n := by rw [hpe, bump_len, hql]
  have hZ1 : (Z.set a (.cells (nps PR) 90))[a]? = some (.cells (nps PR) 90) := List.getElem?_set_self hZa
  generalize Z.set a (.cells (nps PR) 90) = Z' at hZ1 ⊢
  clear hpe hqf hql hordm hordl ho1 ha1 hsort hYo hZa
  -- the answer
  refine W.seq (W.region ?_)
  refine WO.op rfl rfl (WO.nil (W.seq (W.seq (W.region ?_))))
  refine WO.op rfl rfl ?_
  refine WO.op rfl rfl ?_
  refine WO.op rfl rfl (WO.nil (W.block ?_))
  refine W.fits (F' := fr [(0, iA t), (24, .nils), (127, .sl a 0 n none 1), (128, iA (n : Int)), (129, iA ((0 : Nat) : Int))]) (fits_fr ⟨rfl, rfl, rfl, rfl, rfl, trivial⟩) ?_
  refine W.loopI (α := Nat × Heap × AVal) (fun x => x.1 ≤ n ∧ RowK x.2.1 x.2.2 (outsA t (PR.take x.1)) 2 ∧ x.2.1[a]? = some (.cells (nps PR) 90) ∧ idK x.2.2 ≠ some a) (fun x => n - x.1)
    (fun x => fr [(0, iA t), (24, x.2.2), (127, .sl a 0 n none 1), (128, iA (n : Int)), (129, iA (x.1 : Int))]) (fun x => x.2.1) ?_ (0, Z', .nils) ⟨Nat.zero_le _, .inl ⟨rfl, rfl⟩, hZ1, (fun h => by cases h)⟩
  rintro ⟨k, X, vo⟩ ⟨hk, hr, hXa, hne⟩
  simp only at hk hr hXa hne ⊢
  change W _ _ _ _ (fr [(0, iA t), (24, vo), (127, .sl a 0 n none 1), (128, iA (n : Int)), (129, iA (k : Int))]) X _
  refine W.seq (W.region ?_)
  by_cases hlt : k < n
  · have hl2 : (nps PR)[0 + ((k : Nat) : Int).toNat * 1]? = some (.obj (.np (PR.getD k 0))) := by rw [idx0]; exact nps_at (by omega)
    have hot := outs_take t (l := PR) (k := k) (by omega)
    have hXl : a < X.length := (List.getElem?_eq_some_iff.1 hXa).1
    have hsm : smallA (sz (decide (t < 0)) (PR.getD k 0)) = .tup [iA (smI (sz (decide (t < 0)) (PR.getD k 0))), .bool (small64 (sz (decide (t < 0)) (PR.getD k 0)))] := rfl
    generalize hsmI : smI (sz (decide (t < 0)) (PR.getD k 0)) = z at hot hsm
    have hsmz := smallz (IsZ.mk (sz (decide (t < 0)) (PR.getD k 0)))
    rw [hsm] at hsmz
    obtain ⟨X', hden, hXl', hr', hkeep⟩ := (hr.mono (H' := X ++ [.cells [iA z] 2]) fun j hj => app_lt (hr.lt hj)).app2 2 (iA z) rfl (by rw [outs_len, List.length_take]; omega) (app_at rfl)
    rw [hot] at hr' hden
    refine WO.as (v' := .bool true) rfl rfl (bdT (by omega)) (WO.nil (W.seq (W.cond (b := true) rfl (fun _ => W.skip ?_) (fun h => by cases h))))
    refine W.seq (W.block (W.seq (W.region ?_)))
    refine WO.op (G.idx_sl rfl rfl bN rfl bn rfl (by omega) (by omega)) rfl ?_
    refine WO.op (G.load_ptr rfl bn rfl hXa hl2) rfl ?_
    refine WO.op rfl rfl (WO.nil (W.seq (W.region ?_)))
    refine WO.op rfl rfl ?_
    refine WO.op rfl rfl ?_
    refine WO.op rfl rfl ?_
    refine WO.call rfl (inB (new_zp (decide (t < 0)) (PR.getD k 0) _)) rfl ?_
    refine WO.call rfl (inB (hsmz _)) rfl ?_
    refine WO.op rfl rfl ?_
    refine WO.op rfl rfl ?_
    refine WO.op rfl rfl ?_
    refine WO.op rfl rfl ?_
    refine WO.op rfl rfl (WO.nil (W.region ?_))
    refine WO.op rfl rfl ?_
    refine WO.op rfl rfl ?_
    refine WO.op rfl rfl ?_
    refine WO.op (hden (cap2 := some 1) rfl rfl rfl bL rfl bl rfl (by decide)) rfl ?_
    refine WO.op rfl rfl (WO.nil (W.region ?_))
    refine WO.as (v' := iA ((k + 1 : Nat) : Int)) rfl rfl (int_i64 (by omega) (by omega)) ?_
    have hal : (X ++ [AObj.cells [iA z] 2]).length = X.length + 1 := by simp
    refine WO.op rfl rfl (WO.nil ⟨(k + 1, X', .sl (X ++ [AObj.cells [iA z] 2]).length 0 (outsA t (PR.take (k + 1))).length none 1), ⟨by simp only; omega, hr', ?_, ?_⟩, by simp only; omega, fits_fr ⟨rfl, rfl, rfl, rfl, rfl, trivial⟩, rfl⟩)
    · rw [hkeep a (by omega) hne, app_lt hXl]; exact hXa
    · intro e
      injection e with e
      omega
  · have hke : k = n := by omega
    subst hke
    refine WO.as (v' := .bool false) rfl rfl (bdF (by omega)) (WO.nil (W.seq (W.cond (b := false) rfl (fun h => by cases h) (fun _ => W.exit ?_))))
    rw [List.take_of_length_le (by omega)] at hr
    obtain ⟨id, rfl, _, hid⟩ := hr.cons (fun e => by have := congrArg List.length e; rw [outs_len, List.length_nil] at this; omega)
    refine W.seq (W.region ?_)
    refine WO.op rfl rfl ?_
    refine WO.op rfl rfl ?_
    refine WO.op rfl rfl (WO.nil (W.ret ⟨trivial, .tup [.sl id 0 (outsA t PR).length none 1, .nili], rfl, ?_⟩))
    refine seals_tup2 ?_ (Seals.same _ rfl)
    rw [outs_len, hPl]
    refine Seals.sl id 0 k none 1 _ _ _ hid (by rw [outs_len]; omega) (by rw [outs_len]; omega) (fun j x y hx hy => ?_) (outs_closed _ _)
    rw [Nat.zero_add, hy] at hx
    cases hx
    exact Seals.same _ (closed1_ (outs_closed _ _ _ (List.mem_of_getElem? hy)))
end
end Go.AM.C.BK

/- The reference's ledger: Post. -/
namespace Go.AM
set_option linter.unusedVariables false
set_option linter.unusedSimpArgs false
end Go.AM
namespace Go.AM.C
open Go.Proofs
noncomputable section
set_option linter.unusedVariables false
set_option linter.unusedSimpArgs false

theorem sl_placed {c : Ctx} {w : World} {id off n sz : Nat} {cap : Option Nat} {v : Value} (hv : VR c w (.sl id off n cap sz) v) : ∃ p, c.ι id = some p := by
  cases hv with
  | sl _ _ _ _ _ b o ca hι _ _ _ _ => exact ⟨_, hι⟩
  | sl0 _ _ _ _ b o a hι _ => exact ⟨_, hι⟩
end
end Go.AM.C

/- BlockEven answers true. -/
namespace Go.AM.C.BK
open Go.Proofs
noncomputable section
set_option linter.unusedVariables false
set_option linter.unusedSimpArgs false

/-! #### plain -/
theorem rem20 (n : Int) : ∃ k : Nat, k < 20 ∧ Int.tmod (wrapI .i64 (Int.tmod n 20 + 20)) 20 = (k : Int) := by
  have h1 : -20 < Int.tmod n 20 ∧ Int.tmod n 20 < 20 := by
    rcases Int.le_total 0 n with h | h
    · have := Int.tmod_nonneg (b := 20) (a := n) h
      have := Int.tmod_lt_of_pos n (show (0 : Int) < 20 by decide)
      omega
    · have e : Int.tmod n 20 = -(Int.tmod (-n) 20) := by rw [Int.neg_tmod]; omega
      have := Int.tmod_nonneg (a := -n) 20 (by omega)
      have := Int.tmod_lt_of_pos (-n) (show (0 : Int) < 20 by decide)
      omega
  rw [wrap_i64 (by omega)]
  obtain ⟨m, hm⟩ : ∃ m : Nat, Int.tmod n 20 + 20 = (m : Int) := ⟨(Int.tmod n 20 + 20).toNat, by omega⟩
  rw [hm]
  exact ⟨m % 20, Nat.mod_lt _ (by decide), (Int.ofNat_tmod m 20).symm⟩
theorem andM (n : Int) (M : Nat) (hM : M < 9223372036854775808) : ∃ v : Nat, wrapI .i64 ((BitVec.ofInt 64 n &&& BitVec.ofInt 64 (M : Int)).toNat : Int) = (v : Int) ∧ v ≤ M := by
  have h : (BitVec.ofInt 64 n &&& BitVec.ofInt 64 (M : Int)).toNat ≤ M := by
    rw [BitVec.toNat_and]
    refine Nat.le_trans Nat.and_le_right ?_
    rw [BitVec.toNat_ofInt]
    omega
  generalize (BitVec.ofInt 64 n &&& BitVec.ofInt 64 (M : Int)).toNat = v at h ⊢
  exact ⟨v, wrap_i64 (by omega), h⟩
theorem sum_rep (s : Nat) : ∀ m : Nat, (List.replicate m s).sum = m * s
  | 0 => by simp
  | m + 1 => by rw [List.replicate_succ, List.sum_cons, sum_rep s m, Nat.succ_mul]; omega
theorem getD_rep {m s k : Nat} (h : k < m) : (List.replicate m s).getD k 0 = s := by
  rw [List.getD_eq_getElem?_getD, List.getElem?_replicate, if_pos h]
  rfl
theorem qs_rep (A m s S : Nat) : qsN A S (List.replicate m s) = List.replicate m (A * s / S) := by unfold qsN; rw [List.map_replicate]
theorem rs_rep (A m s S : Nat) : rsN A S (List.replicate m s) = List.replicate m (A * s % S) := by unfold rsN; rw [List.map_replicate]
theorem getD_set {l : List Nat} {i x k : Nat} (h : i < l.length) : (l.set i x).getD k 0 = if k = i then x else l.getD k 0 := by
  rw [List.getD_eq_getElem?_getD, List.getElem?_set]
  by_cases e : i = k
  · subst e
    rw [if_pos rfl, if_pos h, if_pos rfl]
    rfl
  · rw [if_neg e, if_neg (Ne.symm e), List.getD_eq_getElem?_getD]
theorem bump_range {l : List Nat} {m : Nat} (hl : l.length = m) : ∀ c, c ≤ m → ∀ k, (bumpN ((List.range m).take c) l).getD k 0 = if k < c then l.getD k 0 + 1 else l.getD k 0
  | 0, _, k => by rw [List.take_zero, if_neg (by omega)]; rfl
  | c + 1, hc, k => by
    have ht : (List.range m).take (c + 1) = (List.range m).take c ++ [c] := by
      rw [takeD (by rw [List.length_range]; omega)]
      congr 1
      rw [List.getD_eq_getElem?_getD, List.getElem?_range (by omega)]
      rfl
    rw [ht, bump_snoc, getD_set (by rw [bump_len, hl]; omega), bump_range hl c (by omega) c, bump_range hl c (by omega) k]
    by_cases e : k = c
    · subst e
      rw [if_pos rfl, if_neg (by omega), if_pos (by omega)]
    · rw [if_neg e]
      by_cases h : k < c
      · rw [if_pos h, if_pos (by omega)]
      · rw [if_neg h, if_neg (by omega)]
theorem ord_rep (A m s : Nat) (hm : 0 < m) : ordN A (List.replicate m s) = List.range m := by
  unfold ordN
  rw [List.length_replicate]
  refine isort_same (fun a ha b hb => ?_) _ (by rw [List.length_range]; omega)
  unfold ltR
  rw [rs_rep, getD_rep (List.mem_range.1 ha), getD_rep (List.mem_range.1 hb)]
  unfold cmpN
  simp
theorem parts_rep (A m s k : Nat) (hm : 0 < m) (hs : 0 < s) (hk : k < m) : (partsN A (List.replicate m s)).getD k 0 = if k < A % m then A / m + 1 else A / m := by
  have hq : A * s / (m * s) = A / m := Nat.mul_div_mul_right A m hs
  have hd := Nat.div_add_mod A m
  have hml := Nat.mod_lt A hm
  unfold partsN missN
  rw [ord_rep A m s hm, sum_rep, qs_rep, sum_rep, hq, bump_range (List.length_replicate) _ (by omega), getD_rep hk]
  have : A - m * (A / m) = A % m := by omega
  rw [this]
theorem even_el (t : Int) (ht : i64 t) (m s k : Nat) (hm : 0 < m) (hs : 0 < s) (hk : k < m) :
    smI (sz (decide (t < 0)) ((partsN t.natAbs (List.replicate m s)).getD k 0)) = if k < t.natAbs % m then (if 0 < t then t.tdiv m + 1 else t.tdiv m - 1) else t.tdiv m := by
  rw [parts_rep _ _ _ _ hm hs hk]
  have hA : t.natAbs ≤ 9223372036854775808 := by unfold i64 at ht; omega
  have hdl := Nat.div_le_self t.natAbs m
  have hd := Nat.div_add_mod t.natAbs m
  have hml := Nat.mod_lt t.natAbs hm
  have h2 : k < t.natAbs % m → 2 * (t.natAbs / m) + 1 ≤ t.natAbs := fun h => by
    have : 2 * (t.natAbs / m) ≤ m * (t.natAbs / m) := Nat.mul_le_mul_right _ (by omega)
    omega
  have hneg : t < 0 → t.tdiv m = -((t.natAbs / m : Nat) : Int) := fun h => by
    have e1 : t = -(t.natAbs : Int) := by omega
    rw [e1, Int.neg_tdiv, Int.natAbs_neg, Int.natAbs_natCast]
    exact congrArg Neg.neg (Int.ofNat_tdiv _ _).symm
  have hpos : 0 < t → t.tdiv m = ((t.natAbs / m : Nat) : Int) := fun h => by
    have e1 : t = (t.natAbs : Int) := by omega
    rw [e1, Int.natAbs_natCast]
    exact (Int.ofNat_tdiv _ _).symm
  have hzero : t = 0 → t.natAbs / m = 0 ∧ t.natAbs % m = 0 ∧ t.tdiv m = 0 := fun h => by subst h; simp
  unfold i64 at ht
  have hsm : ∀ z : Int, -9223372036854775808 ≤ z ∧ z < 9223372036854775808 → smI z = z := fun z h => by
    unfold smI small64
    rw [decide_eq_true h.1, decide_eq_true h.2]
    rfl
  clear hd
  generalize t.natAbs / m = q at *
  generalize t.natAbs % m = r at *
  generalize t.tdiv m = d at *
  rcases Int.lt_trichotomy t 0 with h | h | h
  · have e := hneg h
    subst e
    rw [decide_eq_true h]
    by_cases hh : k < r
    · have := h2 hh
      rw [if_pos hh, if_pos hh, if_neg (by omega)]
      have e2 : sz true (q + 1) = -(q : Int) - 1 := by unfold sz; simp only [cond_true]; omega
      rw [e2, hsm _ (by omega)]
    · rw [if_neg hh, if_neg hh]
      have e2 : sz true q = -(q : Int) := rfl
      rw [e2, hsm _ (by omega)]
  · obtain ⟨rfl, rfl, rfl⟩ := hzero h
    subst h
    simp [sz, smI]
  · have e := hpos h
    subst e
    rw [decide_eq_false (by omega)]
    by_cases hh : k < r
    · have := h2 hh
      rw [if_pos hh, if_pos hh, if_pos h]
      have e2 : sz false (q + 1) = (q : Int) + 1 := by unfold sz; simp only [cond_false]; omega
      rw [e2, hsm _ (by omega)]
    · rw [if_neg hh, if_neg hh]
      have e2 : sz false q = (q : Int) := rfl
      rw [e2, hsm _ (by omega)]
theorem quo_facts (t : Int) (ht : i64 t) (m : Nat) (hm : 0 < m) : i64 (t.tdiv m) ∧ (0 < t.natAbs % m → -9223372036854775808 < t.tdiv m ∧ t.tdiv m < 9223372036854775807) := by
  have hA : t.natAbs ≤ 9223372036854775808 := by unfold i64 at ht; omega
  have hdl := Nat.div_le_self t.natAbs m
  have hd := Nat.div_add_mod t.natAbs m
  have hml := Nat.mod_lt t.natAbs hm
  have h2 : 0 < t.natAbs % m → 2 * (t.natAbs / m) + 1 ≤ t.natAbs := fun h => by
    have : 2 * (t.natAbs / m) ≤ m * (t.natAbs / m) := Nat.mul_le_mul_right _ (by omega)
    omega
  have hneg : t < 0 → t.tdiv m = -((t.natAbs / m : Nat) : Int) := fun h => by
    have e1 : t = -(t.natAbs : Int) := by omega
    rw [e1, Int.neg_tdiv, Int.natAbs_neg, Int.natAbs_natCast]
    exact congrArg Neg.neg (Int.ofNat_tdiv _ _).symm
  have hpos : 0 ≤ t → t.tdiv m = ((t.natAbs / m : Nat) : Int) := fun h => by
    have e1 : t = (t.natAbs : Int) := by omega
    rw [e1, Int.natAbs_natCast]
    exact (Int.ofNat_tdiv _ _).symm
  clear hd
  unfold i64 at ht ⊢
  generalize t.natAbs / m = q at *
  generalize t.natAbs % m = r at *
  generalize t.tdiv m = d at *
  omega
theorem tmod_abs (t : Int) (m : Nat) : (t.tmod m).natAbs = t.natAbs % m := by
  rw [Int.natAbs_tmod, Int.natAbs_natCast]

/-! #### a row is made immutable in mid-run -/
theorem WO.sealK {S : Sg} {n : Nat} {draw : Bool} {ops : Array Oper} {rest : List Oper} {i : Nat} {F : Fr} {HH : Heap} {K : Fr → Heap → Prop} {t : Nat} {cs : List AVal} {ty : TypeId} (ht : t < n) (ho : RowK HH (F t) cs ty) (h0 : cs ≠ []) (hc : ∀ a ∈ cs, a.closed1 = true)
    (next : ∀ J, (∀ id, idK (F t) ≠ some id → J[id]? = HH[id]?) → WO Tryz.prog S n draw ops rest i (putF F (some t) (.isl cs 0 cs.length none true)) J K) : WO Tryz.prog S n draw ops rest i F HH K := by
  obtain ⟨id, h1, hid, hH⟩ := ho.cons h0
  refine WO.seal1 (id := id) (t := t) (a' := .isl cs 0 cs.length none true) ht hH rfl (fun c w v hv => ?_) ?_ (next (HH.set id .dead) (fun j hj => by rw [List.getElem?_set_ne (fun e => hj (by rw [hid, e]))]))
  · rw [h1] at hv
    exact sl_placed hv
  · rw [h1]
    have hat : (only HH id)[id]? = some (.cells cs ty) := (only_at HH id).trans hH
    refine Seals.sl id 0 _ none 1 _ ty _ hat (by omega) (by omega) (fun j a b ha hb => ?_) hc
    rw [Nat.zero_add] at ha
    rw [ha] at hb
    cases hb
    exact Seals.same _ (closed1_ (hc a (List.mem_of_getElem? ha)))
theorem ints_closed (l : List Nat) : ∀ a ∈ ints l, a.closed1 = true := by
  intro a ha
  unfold ints at ha
  obtain ⟨x, _, rfl⟩ := List.mem_map.1 ha
  rfl
theorem ints_rep (k s : Nat) : ints (List.replicate k s) ++ [iA (s : Int)] = ints (List.replicate (k + 1) s) := by
  rw [List.replicate_succ', ints_snoc]
theorem abs_has (x : Int) (hx : -9223372036854775808 < x ∧ x < 9223372036854775808) (H : Heap) : Has 11 [iA x] H (iA (x.natAbs : Int)) H := by
  refine does_pure s0 (show S0.fn 11 = some Tryz.f11 by kernel_rfl) rfl (by kernel_rfl) (Nat.le_of_ble_eq_true rfl) rfl rfl ?_
  refine W.seq (W.region ?_)
  refine WO.op rfl rfl (WO.nil (W.seq (W.seq (W.region ?_))))
  refine WO.op rfl rfl ?_
  by_cases h : x < 0
  · refine WO.as (v' := .bool true) rfl rfl (bdT h) (WO.nil (W.cond (b := true) rfl (fun _ => ?_) (fun h => by cases h)))
    refine W.seq (W.region ?_)
    refine WO.op rfl rfl ?_
    refine WO.as (v' := iA (x.natAbs : Int)) rfl rfl (int_i64 (by omega) (by omega)) ?_
    exact WO.op rfl rfl (WO.nil (W.ret ⟨trivial, _, rfl, Seals.same _ rfl⟩))
  · refine WO.as (v' := .bool false) rfl rfl (bdF h) (WO.nil (W.cond (b := false) rfl (fun h => by cases h) (fun _ => W.skip ?_)))
    refine W.seq (W.region ?_)
    refine WO.as (v' := iA (x.natAbs : Int)) rfl rfl (int_eq (by omega)) ?_
    exact WO.op rfl rfl (WO.nil (W.ret ⟨trivial, _, rfl, Seals.same _ rfl⟩))
theorem quoI {S : Sg} {call : Calling} {d : Bool} {g : Operand → AVal} {H : Heap} {x y : Operand} {t yt : TypeId} {a : Int} {m : Nat} (hx : g x = iA a) (hy : g y = iA (m : Int)) (h : m ≠ 0) :
    denG S call d g H (.binOp .quo t x y yt) = some (.int .i64 (wrapI .i64 (a.tdiv m)), H) := by
  simp only [denG, hx, hy]
  show withH H (if (m : Int) = 0 then none else some (AVal.int .i64 (wrapI .i64 (a.tdiv (m : Int))))) = _
  rw [if_neg (by omega)]
  rfl
theorem remI {S : Sg} {call : Calling} {d : Bool} {g : Operand → AVal} {H : Heap} {x y : Operand} {t yt : TypeId} {a : Int} {m : Nat} (hx : g x = iA a) (hy : g y = iA (m : Int)) (h : m ≠ 0) :
    denG S call d g H (.binOp .rem t x y yt) = some (iA (a.tmod m), H) := by
  simp only [denG, hx, hy]
  show withH H (if (m : Int) = 0 then none else some (AVal.int .i64 (a.tmod (m : Int)))) = _
  rw [if_neg (by omega)]
  rfl
set_option maxRecDepth 100000 in
set_option maxHeartbeats 4000000 in
theorem even_has (a n b : Int) (ha : i64 a) (H : Heap) : Has 3 [iA a, iA n, iA b] H (.bool true) H := by
  obtain ⟨k, hk, hkn⟩ := rem20 n
  obtain ⟨v, hv1, hv2⟩ := andM b 1125899906842623 (by decide)
  refine unB (l := []) ?_
  refine does_pure s1 (show S1.fn 3 = some Tryz.f3 by kernel_rfl) rfl (by kernel_rfl) (Nat.le_of_ble_eq_true rfl) rfl rfl ?_
  refine W.seq (W.region ?_)
  refine WO.op rfl rfl (WO.nil (W.seq (W.region ?_)))
  refine WO.call rfl (inB (begun_has _)) rfl ?_
  refine WO.op rfl rfl (WO.nil (W.seq (W.seq (W.region ?_))))
  refine WO.op rfl rfl ?_
  refine WO.op rfl rfl (WO.nil (W.cond (b := false) rfl (fun h => by cases h) (fun _ => W.skip (W.seq (W.region ?_)))))
  refine WO.op rfl rfl ?_
  refine WO.op rfl rfl ?_
  refine WO.op rfl rfl ?_
  refine WO.as (v' := iA (k : Int)) rfl rfl (int_eq hkn) ?_
  refine WO.as (v' := iA ((k + 1 : Nat) : Int)) rfl rfl (int_i64 (by omega) (by omega)) ?_
  refine WO.op rfl rfl ?_
  refine WO.as (v' := iA (v : Int)) rfl rfl (int_eq hv1) ?_
  refine WO.as (v' := iA ((v + 1 : Nat) : Int)) rfl rfl (int_i64 (by omega) (by omega)) ?_
  refine WO.op rfl rfl ?_
  refine WO.op rfl rfl (WO.nil (W.seq (W.region ?_)))
  generalize hm : k + 1 = m
  generalize hs : v + 1 = s
  refine WO.op rfl rfl (WO.nil ?_)
  refine W.midE (α := Heap × AVal) (fun x => RowK x.1 x.2 (ints (List.replicate m s)) 2) (fun x => [(0, iA a), (1, iA (m : Int)), (8, x.2)]) (fun x => x.1) ?_ ?_
  · refine W.seq (W.region ?_)
    refine WO.op rfl rfl (WO.nil (W.block ?_))
    refine W.fits (F' := fr [(0, iA a), (1, iA (m : Int)), (2, iA (s : Int)), (8, .nils), (9, iA ((0 : Nat) : Int))]) (fits_fr ⟨rfl, rfl, rfl, rfl, rfl, trivial⟩) ?_
    refine W.loopI (α := Nat × Heap × AVal) (fun x => x.1 ≤ m ∧ RowK x.2.1 x.2.2 (ints (List.replicate x.1 s)) 2) (fun x => m - x.1)
      (fun x => fr [(0, iA a), (1, iA (m : Int)), (2, iA (s : Int)), (8, x.2.2), (9, iA (x.1 : Int))]) (fun x => x.2.1) ?_ (0, [], .nils) ⟨Nat.zero_le _, .inl ⟨rfl, rfl⟩⟩
    rintro ⟨j, X, vo⟩ ⟨hj, hr⟩
    simp only at hj hr ⊢
    change W _ _ _ _ (fr [(0, iA a), (1, iA (m : Int)), (2, iA (s : Int)), (8, vo), (9, iA (j : Int))]) X _
    refine W.seq (W.seq (W.region ?_))
    refine WO.op rfl rfl ?_
    refine WO.op rfl rfl ?_
    by_cases hlt : j < m
    · have hot := ints_rep j s
      obtain ⟨X', hden, hXl', hr', hkeep⟩ := (hr.mono (H' := X ++ [.cells [iA (s : Int)] 2]) fun j hj => app_lt (hr.lt hj)).app2 2 (iA (s : Int)) rfl (by rw [ints_len, List.length_replicate]; omega) (app_at rfl)
      rw [hot] at hr' hden
      refine WO.as (v' := .bool true) rfl rfl (bdT (by omega)) (WO.nil (W.cond (b := true) rfl (fun _ => W.skip ?_) (fun h => by cases h)))
      refine W.seq (W.block (W.region ?_))
      refine WO.op rfl rfl ?_
      refine WO.op rfl rfl ?_
      refine WO.op rfl rfl ?_
      refine WO.op (hden (cap2 := some 1) rfl rfl rfl bL rfl bl rfl (by decide)) rfl ?_
      refine WO.op rfl rfl (WO.nil (W.region ?_))
      refine WO.op rfl rfl ?_
      refine WO.as (v' := iA ((j + 1 : Nat) : Int)) rfl rfl (int_i64 (by omega) (by omega)) ?_
      exact WO.op rfl rfl (WO.nil ⟨(j + 1, X', .sl (X ++ [AObj.cells [iA (s : Int)] 2]).length 0 (ints (List.replicate (j + 1) s)).length none 1), ⟨by simp only; omega, hr'⟩, by simp only; omega, fits_fr ⟨rfl, rfl, rfl, rfl, rfl, trivial⟩, rfl⟩)
    · have hje : j = m := by omega
      subst hje
      refine WO.as (v' := .bool false) rfl rfl (bdF (by omega)) (WO.nil (W.cond (b := false) rfl (fun h => by cases h) (fun _ => W.exit ?_)))
      exact ⟨rfl, (X, vo), hr, ⟨rfl, rfl, rfl, trivial⟩, rfl⟩
  rintro ⟨X, vo⟩ hr
  simp only at hr ⊢
  have hml : (List.replicate m s).length = m := List.length_replicate
  have hparts := parts_has a ha (List.replicate m s) (fun x hx => by rw [(List.mem_replicate.1 hx).2]; omega) (by rw [hml]; omega) (by rw [sum_rep]; exact Nat.mul_pos (by omega) (by omega))
    (by rw [sum_rep]; have := Nat.mul_le_mul (show m ≤ 20 by omega) (show s ≤ 1125899906842624 by omega); unfold B64; omega)
  have hel := fun k => even_el a ha m s k (by omega) (by omega)
  have hpl : (partsN a.natAbs (List.replicate m s)).length = m := by unfold partsN; rw [bump_len, qs_len, hml]
  generalize partsN a.natAbs (List.replicate m s) = PR at *
  rw [hml] at hparts
  refine W.seq (W.region ?_)
  refine WO.sealK (t := 8) (by decide) hr (fun e => by have := congrArg List.length e; rw [ints_len, hml, List.length_nil] at this; omega) (ints_closed _) fun J _ => ?_
  rw [ints_len, hml]
  refine WO.op rfl rfl ?_
  refine WO.op rfl rfl ?_
  refine WO.call rfl (inB (hparts _)) rfl ?_
  refine WO.op rfl rfl ?_
  refine WO.op rfl rfl ?_
  refine WO.op rfl rfl ?_
  refine WO.op rfl rfl ?_
  refine WO.op rfl rfl (WO.nil (W.seq (W.seq (W.region ?_))))
  refine WO.op rfl rfl ?_
  refine WO.op rfl rfl ?_
  refine WO.op rfl rfl ?_
  refine WO.op rfl rfl ?_
  refine WO.op rfl rfl ?_
  refine WO.op rfl rfl ?_
  refine WO.as (v' := .bool false) rfl rfl (bnT rfl) ?_
  refine WO.op rfl rfl (WO.nil (W.cond (b := false) rfl (fun h => by cases h) (fun _ => W.skip ?_)))
  refine W.seq (W.seq (W.region ?_))
  refine WO.op rfl rfl ?_
  refine WO.op rfl rfl ?_
  refine WO.op rfl rfl (WO.nil (W.block ?_))
  refine W.fits (F' := fr [(0, iA a), (1, iA (m : Int)), (10, .isl (outsA a PR) 0 m none true), (49, iA (m : Int)), (50, iA ((0 : Nat) : Int))]) (fits_fr ⟨rfl, rfl, rfl, rfl, rfl, trivial⟩) ?_
  refine W.loopI (fun j : Nat => j ≤ m) (fun j => m - j) (fun j => fr [(0, iA a), (1, iA (m : Int)), (10, .isl (outsA a PR) 0 m none true), (49, iA (m : Int)), (50, iA (j : Int))]) (fun _ => J) ?_ 0 (Nat.zero_le _)
  intro j hj
  refine W.seq (W.region ?_)
  by_cases hlt : j < m
  · have hg : (outsA a PR)[0 + ((j : Nat) : Int).toNat * 1]? = some (iA (smI (sz (decide (a < 0)) (PR.getD j 0)))) := by
      rw [idx0]
      unfold outsA
      rw [List.getElem?_map, List.getD_eq_getElem?_getD, List.getElem?_eq_getElem (by omega)]
      rfl
    rw [hel j hlt] at hg
    have hta := tmod_abs a m
    have htl : a.natAbs % m < m := Nat.mod_lt _ (by omega)
    have hab : ∀ H, Has 11 [iA (a.tmod m)] H (iA ((a.natAbs % m : Nat) : Int)) H := fun H => by
      rw [← hta]
      exact abs_has _ (by omega) H
    have hqb : i64 (a.tdiv m) ∧ (j < a.natAbs % m → -9223372036854775808 < a.tdiv m ∧ a.tdiv m < 9223372036854775807) := by
      obtain ⟨f1, f2⟩ := quo_facts a ha m (by omega)
      exact ⟨f1, fun h => f2 (by omega)⟩
    refine WO.as (v' := .bool true) rfl rfl (bdT (by omega)) (WO.nil (W.seq (W.cond (b := true) rfl (fun _ => W.skip ?_) (fun h => by cases h))))
    refine W.seq (W.block (W.seq (W.region ?_)))
    refine WO.op rfl rfl ?_
    refine WO.op rfl rfl (WO.nil (W.seq (W.region ?_)))
    refine WO.op rfl rfl ?_
    refine WO.op rfl rfl ?_
    refine WO.as (v' := iA (a.tdiv m)) (quoI rfl rfl (by omega)) rfl (int_i64 hqb.1 rfl) ?_
    refine WO.op rfl rfl (WO.nil ?_)
    generalize hr0 : a.natAbs % m = r at *
    generalize hd0 : a.tdiv m = d at *
    generalize hw : (if j < r then (if 0 < a then d + 1 else d - 1) else d) = w at hg
    refine W.mid (H1 := J) [(0, iA a), (1, iA (m : Int)), (10, .isl (outsA a PR) 0 m none true), (12, iA (j : Int)), (13, iA w), (49, iA (m : Int)), (50, iA (j : Int))] ?_ ?_
    · refine W.seq (W.region ?_)
      refine WO.op rfl rfl ?_
      refine WO.op rfl rfl ?_
      refine WO.op rfl rfl ?_
      refine WO.op (remI rfl rfl (by omega)) rfl ?_
      refine WO.call rfl (inB (hab _)) rfl ?_
      by_cases hjr : j < r
      · rw [if_pos hjr] at hw
        have hqb2 := hqb.2 hjr
        refine WO.as (v' := .bool true) rfl rfl (bdT (by omega)) ?_
        refine WO.op rfl rfl ?_
        refine WO.op rfl rfl ?_
        by_cases hp : 0 < a
        · rw [if_pos hp] at hw
          refine WO.as (v' := .bool true) rfl rfl (bdT hp) ?_
          refine WO.op rfl rfl (WO.nil (W.cond (b := true) rfl (fun _ => ?_) (fun h => by cases h)))
          refine W.region ?_
          refine WO.op rfl rfl ?_
          refine WO.as (v' := iA w) rfl rfl (int_i64 (by omega) hw) ?_
          exact WO.op rfl rfl (WO.nil ⟨rfl, ⟨rfl, rfl, rfl, rfl, rfl, rfl, rfl, trivial⟩, rfl⟩)
        · rw [if_neg hp] at hw
          refine WO.as (v' := .bool false) rfl rfl (bdF hp) ?_
          refine WO.op rfl rfl (WO.nil (W.cond (b := false) rfl (fun h => by cases h) (fun _ => ?_)))
          refine W.seq (W.region ?_)
          refine WO.op rfl rfl ?_
          refine WO.op rfl rfl ?_
          refine WO.op rfl rfl ?_
          refine WO.op (remI rfl rfl (by omega)) rfl ?_
          refine WO.call rfl (inB (hab _)) rfl ?_
          refine WO.as (v' := .bool true) rfl rfl (bdT (by omega)) (WO.nil (W.cond (b := true) rfl (fun _ => ?_) (fun h => by cases h)))
          refine W.region ?_
          refine WO.op rfl rfl ?_
          refine WO.as (v' := iA w) rfl rfl (int_i64 (by omega) hw) ?_
          exact WO.op rfl rfl (WO.nil ⟨rfl, ⟨rfl, rfl, rfl, rfl, rfl, rfl, rfl, trivial⟩, rfl⟩)
      · rw [if_neg hjr] at hw
        subst hw
        refine WO.as (v' := .bool false) rfl rfl (bdF (by omega)) ?_
        refine WO.op rfl rfl ?_
        refine WO.skip rfl ?_
        refine WO.skip rfl ?_
        refine WO.op rfl rfl (WO.nil (W.cond (b := false) rfl (fun h => by cases h) (fun _ => ?_)))
        refine W.seq (W.region ?_)
        refine WO.op rfl rfl ?_
        refine WO.op rfl rfl ?_
        refine WO.op rfl rfl ?_
        refine WO.op (remI rfl rfl (by omega)) rfl ?_
        refine WO.call rfl (inB (hab _)) rfl ?_
        refine WO.as (v' := .bool false) rfl rfl (bdF (by omega)) (WO.nil (W.cond (b := false) rfl (fun h => by cases h) (fun _ => W.skip ?_)))
        exact ⟨rfl, ⟨rfl, rfl, rfl, rfl, rfl, rfl, rfl, trivial⟩, rfl⟩
    refine W.seq (W.region ?_)
    refine WO.op rfl rfl ?_
    refine WO.op rfl rfl ?_
    refine WO.op (G.idx_isl rfl rfl bL rfl bl (by omega) (by omega)) rfl ?_
    refine WO.op (G.load_ip rfl bl rfl hg) rfl ?_
    refine WO.op rfl rfl ?_
    refine WO.as (v' := .bool false) rfl rfl (bnT rfl) (WO.nil (W.cond (b := false) rfl (fun h => by cases h) (fun _ => W.skip ?_)))
    refine W.region ?_
    refine WO.as (v' := iA ((j + 1 : Nat) : Int)) rfl rfl (int_i64 (by omega) (by omega)) ?_
    exact WO.op rfl rfl (WO.nil ⟨j + 1, by omega, by omega, fits_fr ⟨rfl, rfl, rfl, rfl, rfl, trivial⟩, rfl⟩)
  · have hje : j = m := by omega
    subst hje
    refine WO.as (v' := .bool false) rfl rfl (bdF (by omega)) (WO.nil (W.seq (W.cond (b := false) rfl (fun h => by cases h) (fun _ => W.exit ?_))))
    refine W.seq (W.region ?_)
    exact WO.op rfl rfl (WO.nil (W.ret ⟨trivial, _, rfl, Seals.same _ rfl⟩))
end
end Go.AM.C.BK

/- BlockScale: plain. -/
namespace Go.AM.C.BK
open Go.Proofs
noncomputable section
set_option linter.unusedVariables false
set_option linter.unusedSimpArgs false

/-! #### so many times as great -/
def tms (k : Nat) (sh : List Nat) : List Nat := sh.map (· * k)
theorem tms_len (k : Nat) (sh : List Nat) : (tms k sh).length = sh.length := by unfold tms; simp
theorem tms_sum (k : Nat) : ∀ sh : List Nat, (tms k sh).sum = sh.sum * k
  | [] => by simp [tms]
  | s :: sh => by
    show s * k + (tms k sh).sum = (s + sh.sum) * k
    rw [tms_sum k sh, Nat.add_mul]
theorem tms_getD (k : Nat) (sh : List Nat) (i : Nat) : (tms k sh).getD i 0 = sh.getD i 0 * k := by
  unfold tms
  rw [List.getD_eq_getElem?_getD, List.getD_eq_getElem?_getD, List.getElem?_map]
  cases sh[i]? with
  | none => simp
  | some x => rfl
theorem qs_tms {A S k : Nat} (hk : 0 < k) : ∀ sh : List Nat, qsN A (S * k) (tms k sh) = qsN A S sh
  | [] => rfl
  | s :: sh => by
    show (A * (s * k) / (S * k)) :: qsN A (S * k) (tms k sh) = (A * s / S) :: qsN A S sh
    rw [qs_tms hk sh, ← Nat.mul_assoc, Nat.mul_div_mul_right _ _ hk]
theorem rs_tms {A S k : Nat} : ∀ sh : List Nat, rsN A (S * k) (tms k sh) = tms k (rsN A S sh)
  | [] => rfl
  | s :: sh => by
    show (A * (s * k) % (S * k)) :: rsN A (S * k) (tms k sh) = (A * s % S) * k :: tms k (rsN A S sh)
    rw [rs_tms sh, ← Nat.mul_assoc, Nat.mul_mod_mul_right]
theorem cmpN_lt {n m : Nat} : cmpN n m < 0 ↔ n < m := by
  unfold cmpN
  split
  · rename_i h; simp [h]
  · rename_i h
    split <;> simp <;> omega
theorem ltR_iff (rs : List Nat) (a b : Nat) : ltR rs a b = true ↔ rs.getD b 0 < rs.getD a 0 := by
  unfold ltR
  rw [decide_eq_true_eq, cmpN_lt]
theorem ltR_tms {k : Nat} (hk : 0 < k) (rs : List Nat) : ltR (tms k rs) = ltR rs := by
  funext a b
  rw [Bool.eq_iff_iff, ltR_iff, ltR_iff, tms_getD, tms_getD]
  exact Nat.mul_lt_mul_right hk
theorem parts_tms (A : Nat) {k : Nat} (hk : 0 < k) (sh : List Nat) : partsN A (tms k sh) = partsN A sh := by
  unfold partsN ordN missN
  rw [tms_sum, qs_tms hk, rs_tms, ltR_tms hk, tms_len]

/-! #### the order -/
theorem swp_perm {l : List Nat} {j : Nat} (h : j + 1 < l.length) : (swp l j).Perm l := by
  have := List.set_set_perm (i := j + 1) (j := j) h (Nat.lt_of_succ_lt h)
  unfold swp
  rw [List.getD_eq_getElem?_getD, List.getD_eq_getElem?_getD, List.getElem?_eq_getElem h, List.getElem?_eq_getElem (show j < l.length by omega)]
  exact this
theorem sink_perm (lt : Nat → Nat → Bool) : ∀ (j : Nat) (l : List Nat), j < l.length → (sink lt j l).Perm l
  | 0, l, _ => .refl _
  | j + 1, l, h => by
    unfold sink
    split
    · exact (sink_perm lt j _ (by rw [swp_len]; omega)).trans (swp_perm h)
    · exact .refl _
theorem isort_perm (lt : Nat → Nat → Bool) (l : List Nat) : ∀ i, i < l.length → (isortK lt i l).Perm l
  | 0, _ => .refl _
  | i + 1, h => (sink_perm lt (i + 1) _ (by rw [isort_len]; exact h)).trans (isort_perm lt l i (by omega))
theorem swp_getD {l : List Nat} {j : Nat} (h : j + 1 < l.length) (p : Nat) : (swp l j).getD p 0 = if p = j then l.getD (j + 1) 0 else if p = j + 1 then l.getD j 0 else l.getD p 0 := by
  unfold swp
  rw [getD_set (by rw [List.length_set]; omega), getD_set h]
/-- Sorted up to a place. -/
def SrtTo (f : Nat → Nat) (l : List Nat) (J : Nat) : Prop := ∀ p q, p < q → q ≤ J → f (l.getD q 0) ≤ f (l.getD p 0)
theorem sink_srt (f : Nat → Nat) (lt : Nat → Nat → Bool) (hlt : ∀ a b, lt a b = true ↔ f b < f a) (J : Nat) : ∀ (j : Nat) (l : List Nat), j ≤ J → J < l.length →
    (∀ p q, p < q → q ≤ J → p ≠ j → q ≠ j → f (l.getD q 0) ≤ f (l.getD p 0)) → (∀ q, j < q → q ≤ J → f (l.getD q 0) ≤ f (l.getD j 0)) → SrtTo f (sink lt j l) J
  | 0, l, _, _, h1, h2 => fun p q hpq hq => by
    by_cases hp : p = 0
    · subst hp; exact h2 q hpq hq
    · exact h1 p q hpq hq hp (by omega)
  | j + 1, l, hj, hJ, h1, h2 => by
    unfold sink
    split
    · rename_i hh
      rw [hlt] at hh
      refine sink_srt f lt hlt J j (swp l j) (by omega) (by rw [swp_len]; exact hJ) (fun p q hpq hq hpj hqj => ?_) (fun q hqj hq => ?_)
      · rw [swp_getD (by omega), swp_getD (by omega), if_neg hpj, if_neg hqj]
        by_cases hq1 : q = j + 1
        · rw [if_pos hq1, if_neg (by omega)]
          exact h1 p j (by omega) (by omega) (by omega) (by omega)
        · rw [if_neg hq1]
          by_cases hp1 : p = j + 1
          · rw [if_pos hp1]
            exact h1 j q (by omega) hq (by omega) hq1
          · rw [if_neg hp1]
            exact h1 p q hpq hq hp1 hq1
      · rw [swp_getD (by omega), swp_getD (by omega), if_pos rfl, if_neg (by omega)]
        by_cases hq1 : q = j + 1
        · rw [if_pos hq1]; omega
        · rw [if_neg hq1]
          exact h2 q (by omega) hq
    · rename_i hh
      have hh' : ¬ f (l.getD j 0) < f (l.getD (j + 1) 0) := fun e => hh ((hlt _ _).2 e)
      intro p q hpq hq
      by_cases hq1 : q = j + 1
      · subst hq1
        by_cases hp : p = j
        · subst hp; omega
        · have := h1 p j (by omega) (by omega) (by omega) (by omega)
          omega
      · by_cases hp1 : p = j + 1
        · subst hp1; exact h2 q hpq hq
        · exact h1 p q hpq hq hp1 hq1
theorem isort_srt (f : Nat → Nat) (lt : Nat → Nat → Bool) (hlt : ∀ a b, lt a b = true ↔ f b < f a) (l : List Nat) : ∀ i, i < l.length → SrtTo f (isortK lt i l) i
  | 0, _ => fun p q h1 h2 => by omega
  | i + 1, h => by
    have ih := isort_srt f lt hlt l i (by omega)
    exact sink_srt f lt hlt (i + 1) (i + 1) _ (Nat.le_refl _) (by rw [isort_len]; exact h) (fun p q hpq hq hp hq1 => ih p q hpq (by omega)) (fun q h1 h2 => by omega)
theorem perm_sum {a b : List Nat} (h : a.Perm b) : a.sum = b.sum := by
  induction h with
  | nil => rfl
  | cons x _ ih => rw [List.sum_cons, List.sum_cons, ih]
  | swap x y l => simp only [List.sum_cons]; omega
  | trans _ _ i1 i2 => rw [i1, i2]
theorem sum_zero : ∀ {l : List Nat}, (∀ x ∈ l, x = 0) → l.sum = 0
  | [], _ => rfl
  | x :: l, h => by rw [List.sum_cons, h x (by simp), sum_zero fun y hy => h y (by simp [hy])]
theorem sum_le {c : Nat} : ∀ {l : List Nat}, (∀ x ∈ l, x ≤ c) → l.sum ≤ l.length * c
  | [], _ => by simp
  | x :: l, h => by
    rw [List.sum_cons, List.length_cons, Nat.succ_mul]
    have := h x (by simp)
    have := sum_le fun y hy => h y (List.mem_cons_of_mem x hy)
    omega
theorem map_range (l : List Nat) : (List.range l.length).map (fun i => l.getD i 0) = l := by
  apply List.ext_getElem?
  intro i
  rw [List.getElem?_map]
  by_cases h : i < l.length
  · rw [List.getElem?_range h, List.getElem?_eq_getElem h]
    simp [List.getD_eq_getElem?_getD, h]
  · rw [List.getElem?_eq_none (by rw [List.length_range]; omega), List.getElem?_eq_none (by omega)]
    rfl
/-- Among the first ones no rest is nothing. -/
theorem ord_pos {A : Nat} {sh : List Nat} (h0 : 0 < sh.sum) : ∀ i ∈ (ordN A sh).take (missN A sh), 0 < (rsN A sh.sum sh).getD i 0 := by
  intro i hi
  have hl : 0 < sh.length := by
    cases sh with
    | nil => simp at h0
    | cons => simp
  have hm := miss_lt (A := A) h0
  have hqr := qr_sum A sh.sum sh
  have hqA := qs_sum_le (A := A) h0
  have hol := ord_len A sh
  obtain ⟨p, hp, he⟩ := List.getElem_of_mem hi
  rw [List.length_take, hol] at hp
  rw [List.getElem_take] at he
  have hpo : (ordN A sh).getD p 0 = i := by rw [List.getD_eq_getElem?_getD, List.getElem?_eq_getElem (by omega), ← he]; rfl
  refine Nat.pos_of_ne_zero fun hz => ?_
  have hsrt : SrtTo (fun x => (rsN A sh.sum sh).getD x 0) (ordN A sh) (sh.length - 1) := isort_srt _ _ (ltR_iff _) _ _ (by rw [List.length_range]; omega)
  have hperm : (ordN A sh).Perm (List.range sh.length) := isort_perm _ _ _ (by rw [List.length_range]; omega)
  have hsum : ((ordN A sh).map fun x => (rsN A sh.sum sh).getD x 0).sum = (rsN A sh.sum sh).sum := by
    rw [perm_sum (hperm.map _), ← rs_len A sh.sum sh, map_range]
  have hmod : ∀ x, (rsN A sh.sum sh).getD x 0 ≤ sh.sum - 1 := fun x => by
    by_cases h : x < sh.length
    · rw [rs_getD h]
      have := Nat.mod_lt (A * sh.getD x 0) h0
      omega
    · rw [List.getD_eq_getElem?_getD, List.getElem?_eq_none (by rw [rs_len]; omega)]
      simp
  have hmM : missN A sh = A - (qsN A sh.sum sh).sum := rfl
  generalize ordN A sh = O at *
  generalize rsN A sh.sum sh = R at *
  generalize missN A sh = M at *
  rw [← List.take_append_drop p O, List.map_append, List.sum_append] at hsum
  have h1 : ((O.drop p).map fun x => R.getD x 0).sum = 0 := sum_zero fun y hy => by
    obtain ⟨x, hx, rfl⟩ := List.mem_map.1 hy
    obtain ⟨q, hq, rfl⟩ := List.getElem_of_mem hx
    rw [List.length_drop] at hq
    rw [List.getElem_drop]
    have e1 : O[p + q] = O.getD (p + q) 0 := by rw [List.getD_eq_getElem?_getD, List.getElem?_eq_getElem (by omega)]; rfl
    rw [e1]
    by_cases hq0 : q = 0
    · subst hq0
      rw [Nat.add_zero, hpo]; exact hz
    · have := hsrt p (p + q) (by omega) (by omega)
      simp only [hpo, hz] at this
      omega
  have h2 : ((O.take p).map fun x => R.getD x 0).sum ≤ p * (sh.sum - 1) := by
    have := sum_le (c := sh.sum - 1) (l := (O.take p).map fun x => R.getD x 0) fun y hy => by
      obtain ⟨x, _, rfl⟩ := List.mem_map.1 hy
      exact hmod x
    rwa [List.length_map, List.length_take, Nat.min_eq_left (by omega)] at this
  have h3 : p * (sh.sum - 1) ≤ p * sh.sum := Nat.mul_le_mul_left p (by omega)
  have h4 : (p + 1) * sh.sum ≤ M * sh.sum := Nat.mul_le_mul_right _ (by omega)
  rw [Nat.succ_mul] at h4
  have h5 : M * sh.sum + sh.sum * (qsN A sh.sum sh).sum = A * sh.sum := by
    rw [Nat.mul_comm M, ← Nat.mul_add, Nat.mul_comm]
    congr 1
    omega
  omega
theorem bump_out : ∀ (o l : List Nat) (i : Nat), i ∉ o → (bumpN o l).getD i 0 = l.getD i 0
  | [], l, i, _ => rfl
  | j :: o, l, i, h => by
    show (bumpN o (l.set j _)).getD i 0 = _
    rw [bump_out o _ i (fun e => h (by simp [e]))]
    have hne : j ≠ i := fun e => h (by simp [e])
    simp only [List.getD_eq_getElem?_getD, List.getElem?_set_ne hne]
/-- A share of nothing has nothing. -/
theorem parts_zero {A : Nat} {sh : List Nat} (h0 : 0 < sh.sum) {i : Nat} (hi : i < sh.length) (hs : sh.getD i 0 = 0) : (partsN A sh).getD i 0 = 0 := by
  unfold partsN
  rw [bump_out _ _ _ (fun h => ?_), qs_getD hi, hs]
  · simp
  · have := ord_pos h0 i h
    rw [rs_getD hi, hs] at this
    simp at this
end
end Go.AM.C.BK

/- BlockScale answers true. -/
namespace Go.AM
set_option linter.unusedVariables false
set_option linter.unusedSimpArgs false
section
variable {S : Sg} {call : Calling} {d : Bool} {g : Operand → AVal} {H : Heap} {c : Call} {t e : TypeId} {ti te : TI} {news : List AVal} {id2 : Nat} {cap2 : Option Nat} {ty2 : TypeId}
/-- Some more, on a row that is not there. -/
theorem G.append_nilsN {m : Nat} (hc : c.callee = .builtin .append) (ha : c.args.toList.map g = [.nils, .sl id2 0 (m + 1) cap2 1]) (hta : c.argTypes.toList = [t, t]) (ht : S.ty t = some ti) (hd : ti.desc = .slice e) (he : S.ty e = some te) (hs : te.size = 1) (hH : H[id2]? = some (.cells news ty2)) (hn : news.length = m + 1) (hcl : news.all AVal.cell = true) (hb : te.bytes ≤ 1024) (hm : m < 1048576) :
    denG S call d g H (.call c) = some (.sl H.length 0 (m + 1) none 1, H ++ [.cells news e]) := by
  obtain ⟨d1, d2, d3, d4, d5, d6, d7, d8⟩ := ti
  simp only at hd
  subst hd
  have hsc : sliceCells H te.size (.sl id2 0 (m + 1) cap2 1) = some (news, m + 1) := by
    rw [hs]
    unfold sliceCells
    simp only [hH]
    rw [if_pos (by omega), List.drop_zero, List.take_of_length_le (by omega)]
  simp only [denG, hc, ha, hta, denAppend, ht, he, hsc, hcl]
  have h1 : (m + 1) * te.bytes ≤ 140737488355328 := by
    have := Nat.mul_le_mul (show m + 1 ≤ 1048576 by omega) hb
    omega
  have h1' : (0 + (m + 1)) * te.bytes ≤ 140737488355328 := by rw [Nat.zero_add]; exact h1
  rw [if_neg (by decide), if_pos ⟨h1, by omega⟩, hs]
/-- Some more. -/
theorem G.append_slN {id len m : Nat} {vs : List AVal} {ty : TypeId} (hc : c.callee = .builtin .append) (ha : c.args.toList.map g = [.sl id 0 len none 1, .sl id2 0 (m + 1) cap2 1]) (hta : c.argTypes.toList = [t, t]) (ht : S.ty t = some ti) (hd : ti.desc = .slice e) (he : S.ty e = some te) (hs : te.size = 1) (hH : H[id2]? = some (.cells news ty2)) (hn : news.length = m + 1) (hcl : news.all AVal.cell = true) (hb : te.bytes ≤ 1024) (hm : m < 1048576)
    (hI : H[id]? = some (.cells vs ty)) (hv : vs.length = len) (hl : len < 1073741824) :
    denG S call d g H (.call c) = some (.sl H.length 0 (len + (m + 1)) none 1, H.set id .dead ++ [.cells (vs ++ news) e]) := by
  obtain ⟨d1, d2, d3, d4, d5, d6, d7, d8⟩ := ti
  simp only at hd
  subst hd
  have hsc : sliceCells H te.size (.sl id2 0 (m + 1) cap2 1) = some (news, m + 1) := by
    rw [hs]
    unfold sliceCells
    simp only [hH]
    rw [if_pos (by omega), List.drop_zero, List.take_of_length_le (by omega)]
  have hso : sliceCells H te.size (.sl id 0 len none 1) = some (vs, len) := by
    rw [hs]
    unfold sliceCells
    simp only [hI]
    rw [if_pos (by omega), List.drop_zero, List.take_of_length_le (by omega)]
  simp only [denG, hc, ha, hta, denAppend, ht, he, hsc, hso, hcl]
  have h1 : (len + (m + 1)) * te.bytes ≤ 140737488355328 := by
    have := Nat.mul_le_mul (show len + (m + 1) ≤ 1073741824 + 1048576 by omega) hb
    omega
  rw [if_neg (by decide), if_pos ⟨hs, by omega, h1, by omega⟩, hs]
end
/-- Some more, where the order is not drawn. -/
theorem RowK.appN {H : Heap} {v : AVal} {cs : List AVal} {ty : TypeId} (h : RowK H v cs ty) (e : TypeId) (m : Nat) (xs : List AVal) (hm : xs.length = m + 1) (hm2 : m < 1048576) (hx : xs.all AVal.cell = true) (hl : cs.length < 1073741824) {id2 : Nat} {ty2 : TypeId} (h2 : H[id2]? = some (.cells xs ty2)) :
    ∃ H', (∀ {S : Sg} {call : Calling} {d : Bool} {g : Operand → AVal} {c : Call} {t : TypeId} {ti te : TI} {cap2 : Option Nat}, c.callee = .builtin .append → c.args.toList.map g = [v, .sl id2 0 (m + 1) cap2 1] → c.argTypes.toList = [t, t] → S.ty t = some ti → ti.desc = .slice e → S.ty e = some te → te.size = 1 → te.bytes ≤ 1024 →
        denG S call d g H (.call c) = some (.sl H.length 0 (cs ++ xs).length none 1, H')) ∧ H'.length = H.length + 1 ∧ RowK H' (.sl H.length 0 (cs ++ xs).length none 1) (cs ++ xs) e ∧ ∀ j, j < H.length → idK v ≠ some j → H'[j]? = H[j]? := by
  rcases h with ⟨rfl, rfl⟩ | ⟨id, rfl, h⟩
  · refine ⟨H ++ [.cells xs e], ?_, by simp, .inr ⟨H.length, rfl, app_at rfl⟩, fun j hj _ => app_lt hj⟩
    intro S call d g c t ti te cap2 hc ha hta ht hd he hs hb
    have := G.append_nilsN (news := xs) (id2 := id2) (cap2 := cap2) (ty2 := ty2) (m := m) hc ha hta ht hd he hs h2 hm hx hb hm2 (d := d) (call := call)
    rw [this, List.nil_append, hm]
  · have hid := (List.getElem?_eq_some_iff.1 h).1
    refine ⟨H.set id .dead ++ [.cells (cs ++ xs) e], ?_, by simp, .inr ⟨H.length, rfl, ?_⟩, fun j hj hn => ?_⟩
    · intro S call d g c t ti te cap2 hc ha hta ht hd he hs hb
      have := G.append_slN (news := xs) (id := id) (len := cs.length) (vs := cs) (ty := ty) (id2 := id2) (cap2 := cap2) (ty2 := ty2) (m := m) hc ha hta ht hd he hs h2 hm hx hb hm2 h rfl hl (d := d) (call := call)
      rw [this, List.length_append, hm]
    · have e1 : H.length = (H.set id .dead).length := by simp
      rw [e1]
      exact app_at rfl
    · rw [app_lt (by simpa using hj), List.getElem?_set_ne]
      rintro rfl
      exact hn rfl
end Go.AM
namespace Go.AM.C.BK
open Go.Proofs
noncomputable section
set_option linter.unusedVariables false
set_option linter.unusedSimpArgs false

/-- Two rows that grow side by side. -/
structure Two (G : Heap) (va vb : AVal) (ls bs : List Nat) : Prop where
  a : RowK G va (ints ls) 2
  b : RowK G vb (ints bs) 2
  ab : ∀ j, idK va = some j → idK vb ≠ some j
def AppN (G : Heap) (v : AVal) (id2 m : Nat) (v' : AVal) (e : TypeId) (G' : Heap) : Prop :=
  ∀ {S : Sg} {call : Calling} {d : Bool} {g : Operand → AVal} {c : Call} {t : TypeId} {ti te : TI} {cap2 : Option Nat}, c.callee = .builtin .append → c.args.toList.map g = [v, .sl id2 0 (m + 1) cap2 1] → c.argTypes.toList = [t, t] → S.ty t = some ti → ti.desc = .slice e → S.ty e = some te → te.size = 1 → te.bytes ≤ 1024 →
    denG S call d g G (.call c) = some (v', G')
theorem ints_app (a b : List Nat) : ints (a ++ b) = ints a ++ ints b := by unfold ints; rw [List.map_append]
theorem ints_cell (l : List Nat) : (ints l).all AVal.cell = true := by
  rw [List.all_eq_true]
  intro x hx
  unfold ints at hx
  obtain ⟨y, _, rfl⟩ := List.mem_map.1 hx
  rfl
theorem Two.step {G : Heap} {va vb : AVal} {ls bs : List Nat} (h : Two G va vb ls bs) (m : Nat) (xs ys : List Nat) (hx : xs.length = m + 1) (hy : ys.length = m + 1) (hm : m < 1048576) (ha : ls.length < 1048576) (hb : bs.length < 1048576) :
    ∃ G1 G2 va' vb', AppN (G ++ [.cells (ints xs) 2]) va G.length m va' 2 G1 ∧ AppN (G1 ++ [.cells (ints ys) 2]) vb G1.length m vb' 2 G2 ∧ Two G2 va' vb' (ls ++ xs) (bs ++ ys) := by
  obtain ⟨G1, a1, l1, r1, k1⟩ := (h.a.mono (H' := G ++ [.cells (ints xs) 2]) fun j hj => app_lt (h.a.lt hj)).appN 2 m (ints xs) (by rw [ints_len, hx]) hm (ints_cell _) (by rw [ints_len]; omega) (app_at rfl)
  have hb1 : RowK G1 vb (ints bs) 2 := h.b.mono fun j hj => by
    have := h.b.lt hj
    rw [k1 j (by simp; omega) (fun e => h.ab j e hj), app_lt this]
  obtain ⟨G2, a2, l2, r2, k2⟩ := (hb1.mono (H' := G1 ++ [.cells (ints ys) 2]) fun j hj => app_lt (hb1.lt hj)).appN 2 m (ints ys) (by rw [ints_len, hy]) hm (ints_cell _) (by rw [ints_len]; omega) (app_at rfl)
  refine ⟨G1, G2, _, _, a1, a2, ?_, ?_, ?_⟩
  · rw [ints_app]
    refine r1.mono fun j hj => ?_
    have h1 := r1.lt hj
    injection hj with hj
    rw [k2 j (by rw [List.length_append]; omega) (fun e => ?_), app_lt h1]
    have := h.b.lt e
    rw [List.length_append] at hj
    omega
  · rw [ints_app]; exact r2
  · intro j e1 e2
    injection e1 with e1
    injection e2 with e2
    rw [List.length_append] at e2
    omega
def andV (M : Nat) (z : Int) : Nat := (wrapI .i64 ((BitVec.ofInt 64 z &&& BitVec.ofInt 64 (M : Int)).toNat : Int)).toNat
theorem andV_eq (M : Nat) (hM : M < 9223372036854775808) (z : Int) : wrapI .i64 ((BitVec.ofInt 64 z &&& BitVec.ofInt 64 (M : Int)).toNat : Int) = (andV M z : Int) ∧ andV M z ≤ M := by
  obtain ⟨v, h1, h2⟩ := andM z M hM
  unfold andV
  rw [h1, Int.toNat_natCast]
  exact ⟨rfl, h2⟩
def zA (l : List Int) : List AVal := l.map iA
theorem zA_at {l : List Int} {j : Nat} (h : j < l.length) : (zA l)[j]? = some (iA (l.getD j 0)) := by
  unfold zA
  rw [List.getElem?_map, List.getD_eq_getElem?_getD, List.getElem?_eq_getElem h]
  rfl
def cut40 (l : List Int) : List Nat := l.map (andV 1099511627775)
theorem cut_succ {l : List Int} {j : Nat} (h : j < l.length) : cut40 (l.take (j + 1)) = cut40 (l.take j) ++ [andV 1099511627775 (l.getD j 0)] := by
  unfold cut40
  rw [List.take_add_one, List.getD_eq_getElem?_getD, List.getElem?_eq_getElem h, List.map_append]
  rfl
theorem cut_le {l : List Int} : ∀ x ∈ cut40 l, x ≤ 1099511627775 := fun x hx => by
  unfold cut40 at hx
  obtain ⟨z, _, rfl⟩ := List.mem_map.1 hx
  exact (andV_eq _ (by decide) z).2
theorem cut_len (l : List Int) : (cut40 l).length = l.length := by unfold cut40; simp
set_option maxRecDepth 100000 in
set_option maxHeartbeats 4000000 in
theorem scale_has (a b : Int) (ha : i64 a) (l : List Int) (hl : l.length < 9223372036854775808) (H : Heap) : Has 4 [iA a, .isl (zA l) 0 l.length none true, iA b] H (.bool true) H := by
  obtain ⟨v, hv1, hv2⟩ := andM b 1023 (by decide)
  refine unB (l := []) ?_
  refine does_pure s1 (show S1.fn 4 = some Tryz.f4 by kernel_rfl) rfl (by kernel_rfl) (Nat.le_of_ble_eq_true rfl) rfl rfl ?_
  refine W.seq (W.region ?_)
  refine WO.op rfl rfl (WO.nil (W.seq (W.region ?_)))
  refine WO.call rfl (inB (begun_has _)) rfl ?_
  refine WO.op rfl rfl (WO.nil (W.seq (W.seq (W.region ?_))))
  refine WO.op rfl rfl ?_
  refine WO.op rfl rfl (WO.nil (W.cond (b := false) rfl (fun h => by cases h) (fun _ => W.skip (W.seq (W.region ?_)))))
  refine WO.op rfl rfl ?_
  refine WO.as (v' := iA (v : Int)) rfl rfl (int_eq hv1) ?_
  refine WO.as (v' := iA ((v + 1 : Nat) : Int)) rfl rfl (int_i64 (by omega) (by omega)) ?_
  refine WO.op rfl rfl (WO.nil (W.seq (W.region ?_)))
  generalize hk : v + 1 = k
  have hk1 : 0 < k := by omega
  have hk2 : k ≤ 1024 := by omega
  refine WO.op rfl rfl ?_
  refine WO.op rfl rfl (WO.nil ?_)
  refine W.midE (α := List Nat × Heap × AVal × AVal) (fun x => x.1.length ≤ 15 ∧ (∀ y ∈ x.1, y ≤ 1099511627775) ∧ Two x.2.1 x.2.2.1 x.2.2.2 x.1 (tms k x.1)) (fun x => [(0, iA a), (2, iA (k : Int)), (8, x.2.2.1), (9, x.2.2.2)]) (fun x => x.2.1) ?_ ?_
  · refine W.seq (W.region ?_)
    refine WO.op rfl rfl (WO.nil (W.block ?_))
    refine W.fits (F' := fr [(0, iA a), (1, .isl (zA l) 0 l.length none true), (2, iA (k : Int)), (8, .nils), (9, .nils), (10, iA ((0 : Nat) : Int))]) (fits_fr ⟨rfl, rfl, rfl, rfl, rfl, rfl, trivial⟩) ?_
    refine W.loopI (α := Nat × Heap × AVal × AVal) (fun x => x.1 ≤ 15 ∧ x.1 ≤ l.length ∧ Two x.2.1 x.2.2.1 x.2.2.2 (cut40 (l.take x.1)) (tms k (cut40 (l.take x.1)))) (fun x => 15 - x.1)
      (fun x => fr [(0, iA a), (1, .isl (zA l) 0 l.length none true), (2, iA (k : Int)), (8, x.2.2.1), (9, x.2.2.2), (10, iA (x.1 : Int))]) (fun x => x.2.1) ?_ (0, [], .nils, .nils) ⟨by simp only; omega, Nat.zero_le _, .inl ⟨rfl, rfl⟩, .inl ⟨rfl, rfl⟩, fun _ h => by cases h⟩
    rintro ⟨j, X, va, vb⟩ ⟨hj, hjl, ht⟩
    simp only at hj hjl ht ⊢
    change W _ _ _ _ (fr [(0, iA a), (1, .isl (zA l) 0 l.length none true), (2, iA (k : Int)), (8, va), (9, vb), (10, iA (j : Int))]) X _
    have hcl : (cut40 (l.take j)).length = j := by rw [cut_len, List.length_take]; omega
    have hex : W Tryz.prog S1 Tryz.f4.ntmps .skip (fr [(0, iA a)]) X fun _ _ _ => True := W.skip trivial
    refine W.seq (W.seq (W.region ?_))
    refine WO.op rfl rfl ?_
    refine WO.op rfl rfl ?_
    refine WO.op rfl rfl ?_
    by_cases hlt : j < l.length
    · refine WO.as (v' := .bool true) rfl rfl (bdT (by omega)) ?_
      refine WO.op rfl rfl ?_
      refine WO.op rfl rfl ?_
      by_cases h15 : j < 15
      · have hz := zA_at hlt
        obtain ⟨e1, e2⟩ := andV_eq 1099511627775 (by decide) (l.getD j 0)
        have hcs := cut_succ hlt
        generalize andV 1099511627775 (l.getD j 0) = s at *
        have hp2 : s * k ≤ 1099511627775 * 1024 := Nat.mul_le_mul e2 hk2
        have hp3 : (s : Int) * (k : Int) = ((s * k : Nat) : Int) := (Int.natCast_mul s k).symm
        obtain ⟨G1, G2, va', vb', a1, a2, ht'⟩ := ht.step 0 [s] [s * k] rfl rfl (by omega) (by omega) (by rw [tms_len]; omega)
        rw [← hcs, show tms k (cut40 (l.take j)) ++ [s * k] = tms k (cut40 (l.take (j + 1))) by rw [hcs]; unfold tms; rw [List.map_append]; rfl] at ht'
        generalize s * k = p at *
        refine WO.as (v' := .bool true) rfl rfl (bdT (by omega)) ?_
        refine WO.op rfl rfl (WO.nil (W.cond (b := true) rfl (fun _ => W.skip ?_) (fun h => by cases h)))
        refine W.seq (W.block (W.seq (W.region ?_)))
        refine WO.op rfl rfl ?_
        refine WO.op rfl rfl ?_
        refine WO.op (G.idx_isl rfl rfl bL rfl bl (by omega) (by omega)) rfl ?_
        refine WO.op (G.load_ip (v := iA (l.getD j 0)) rfl bl rfl (show (zA l)[0 + ((j : Nat) : Int).toNat * 1]? = _ by rw [idx0]; exact hz)) rfl ?_
        refine WO.as (v' := iA (s : Int)) rfl rfl (int_eq e1) ?_
        refine WO.op rfl rfl (WO.nil (W.region ?_))
        refine WO.op rfl rfl ?_
        refine WO.op rfl rfl ?_
        refine WO.op rfl rfl ?_
        refine WO.op (a1 (cap2 := some 1) rfl rfl rfl bL rfl bl rfl (by decide)) rfl ?_
        refine WO.op rfl rfl ?_
        refine WO.op rfl rfl ?_
        refine WO.op rfl rfl ?_
        refine WO.as (v' := iA (p : Int)) rfl rfl (int_i64 (by omega) hp3) ?_
        refine WO.op rfl rfl ?_
        refine WO.op (a2 (cap2 := some 1) rfl rfl rfl bL rfl bl rfl (by decide)) rfl ?_
        refine WO.op rfl rfl ?_
        refine WO.op rfl rfl (WO.nil (W.region ?_))
        refine WO.op rfl rfl ?_
        refine WO.as (v' := iA ((j + 1 : Nat) : Int)) rfl rfl (int_i64 (by omega) (by omega)) ?_
        exact WO.op rfl rfl (WO.nil ⟨(j + 1, G2, va', vb'), ⟨by simp only; omega, by simp only; omega, ht'⟩, by simp only; omega, fits_fr ⟨rfl, rfl, rfl, rfl, rfl, rfl, trivial⟩, rfl⟩)
      · refine WO.as (v' := .bool false) rfl rfl (bdF (by omega)) ?_
        refine WO.op rfl rfl (WO.nil (W.cond (b := false) rfl (fun h => by cases h) (fun _ => W.exit ?_)))
        exact ⟨rfl, (cut40 (l.take j), X, va, vb), ⟨by simp only; omega, cut_le, ht⟩, ⟨rfl, rfl, rfl, rfl, trivial⟩, rfl⟩
    · refine WO.as (v' := .bool false) rfl rfl (bdF (by omega)) ?_
      refine WO.op rfl rfl ?_
      refine WO.skip rfl ?_
      refine WO.skip rfl ?_
      refine WO.op rfl rfl (WO.nil (W.cond (b := false) rfl (fun h => by cases h) (fun _ => W.exit ?_)))
      exact ⟨rfl, (cut40 (l.take j), X, va, vb), ⟨by simp only; omega, cut_le, ht⟩, ⟨rfl, rfl, rfl, rfl, trivial⟩, rfl⟩
  rintro ⟨sh, X, va, vb⟩ ⟨hsl, hsb, ht⟩
  simp only at hsl hsb ht ⊢
  -- nothing, and one
  have hel := fun i => parts_zero (A := a.natAbs) (sh := sh ++ [0, 1]) (by rw [List.sum_append]; simp) (i := i)
  obtain ⟨G1, G2, va', vb', a1, a2, ht'⟩ := ht.step 1 [0, 1] [0, k] rfl rfl (by omega) (by omega) (by rw [tms_len]; omega)
  rw [show tms k sh ++ [0, k] = tms k (sh ++ [0, 1]) by unfold tms; rw [List.map_append]; simp] at ht'
  refine W.seq (W.region ?_)
  refine WO.op rfl rfl ?_
  refine WO.op rfl rfl ?_
  refine WO.op (a1 (cap2 := some 2) rfl rfl rfl bL rfl bl rfl (by decide)) rfl ?_
  refine WO.op rfl rfl ?_
  refine WO.op rfl rfl ?_
  refine WO.op rfl rfl ?_
  refine WO.op (a2 (cap2 := some 2) rfl rfl rfl bL rfl bl rfl (by decide)) rfl ?_
  refine WO.op rfl rfl ?_
  refine WO.op rfl rfl (WO.nil ?_)
  have hl2 : (sh ++ [0, 1]).length = sh.length + 2 := by simp
  have hb2 : ∀ y ∈ sh ++ [0, 1], y ≤ 1099511627775 := fun y hy => by
    rcases List.mem_append.1 hy with h | h
    · exact hsb y h
    · simp at h; omega
  have hs2 : 0 < (sh ++ [0, 1]).sum := by rw [List.sum_append]; simp
  clear ht
  generalize sh ++ [0, 1] = ss at *
  have hsum := sum_le hb2
  have hsum2 : ss.sum ≤ 17 * 1099511627775 := Nat.le_trans hsum (Nat.mul_le_mul (by omega) (Nat.le_refl _))
  have hsumk : (tms k ss).sum ≤ 17 * 1099511627775 * 1024 := by rw [tms_sum]; exact Nat.mul_le_mul hsum2 hk2
  have hp1 := parts_has a ha ss (fun s h => by have := hb2 s h; omega) (by omega) hs2 (by unfold B64; omega)
  have hp2 := parts_has a ha (tms k ss) (fun s h => by
    obtain ⟨x, hx, rfl⟩ := List.mem_map.1 h
    have := Nat.mul_le_mul (hb2 x hx) hk2
    omega) (by rw [tms_len]; omega) (by rw [tms_sum]; exact Nat.mul_pos hs2 hk1) (by unfold B64; omega)
  rw [parts_tms _ hk1, tms_len] at hp2
  have hpl : (partsN a.natAbs ss).length = ss.length := by unfold partsN; rw [bump_len, qs_len]
  generalize partsN a.natAbs ss = PR at *
  refine W.seq (W.region ?_)
  refine WO.sealK (t := 8) (by decide) ht'.a (fun e => by have := congrArg List.length e; rw [ints_len, List.length_nil] at this; omega) (ints_closed _) fun J hJ => ?_
  have hrb : RowK J vb' (ints (tms k ss)) 2 := ht'.b.mono fun j hj => hJ j (fun e => ht'.ab j e hj)
  rw [ints_len]
  refine WO.op rfl rfl ?_
  refine WO.op rfl rfl ?_
  refine WO.call rfl (inB (hp1 _)) rfl ?_
  refine WO.op rfl rfl ?_
  refine WO.op rfl rfl ?_
  refine WO.op rfl rfl ?_
  refine WO.op rfl rfl ?_
  refine WO.op rfl rfl (WO.nil (W.seq (W.region ?_)))
  refine WO.sealK (t := 9) (by decide) hrb (fun e => by have := congrArg List.length e; rw [ints_len, tms_len, List.length_nil] at this; omega) (ints_closed _) fun J2 _ => ?_
  rw [ints_len, tms_len]
  refine WO.op rfl rfl ?_
  refine WO.op rfl rfl ?_
  refine WO.call rfl (inB (hp2 _)) rfl ?_
  refine WO.op rfl rfl ?_
  refine WO.op rfl rfl ?_
  refine WO.op rfl rfl ?_
  refine WO.op rfl rfl ?_
  refine WO.op rfl rfl (WO.nil (W.seq (W.seq (W.region ?_))))
  refine WO.op rfl rfl ?_
  refine WO.op rfl rfl ?_
  refine WO.op rfl rfl ?_
  refine WO.op rfl rfl ?_
  refine WO.op rfl rfl ?_
  refine WO.op rfl rfl ?_
  refine WO.op rfl rfl ?_
  refine WO.op rfl rfl ?_
  refine WO.op rfl rfl ?_
  refine WO.op rfl rfl ?_
  refine WO.op rfl rfl ?_
  refine WO.as (v' := .bool false) rfl rfl (bnT rfl) ?_
  refine WO.op rfl rfl (WO.nil (W.cond (b := false) rfl (fun h => by cases h) (fun _ => W.skip ?_)))
  refine W.seq (W.seq (W.region ?_))
  refine WO.op rfl rfl ?_
  refine WO.op rfl rfl ?_
  refine WO.op rfl rfl (WO.nil (W.block ?_))
  refine W.fits (F' := fr [(8, .isl (ints ss) 0 ss.length none true), (12, .isl (outsA a PR) 0 ss.length none true), (14, .isl (outsA a PR) 0 ss.length none true), (81, iA (ss.length : Int)), (82, iA ((0 : Nat) : Int))]) (fits_fr ⟨rfl, rfl, rfl, rfl, rfl, trivial⟩) ?_
  refine W.loopI (fun j : Nat => j ≤ ss.length) (fun j => ss.length - j) (fun j => fr [(8, .isl (ints ss) 0 ss.length none true), (12, .isl (outsA a PR) 0 ss.length none true), (14, .isl (outsA a PR) 0 ss.length none true), (81, iA (ss.length : Int)), (82, iA (j : Int))]) (fun _ => J2) ?_ 0 (Nat.zero_le _)
  intro j hj
  refine W.seq (W.region ?_)
  by_cases hlt : j < ss.length
  · have hg : (outsA a PR)[0 + ((j : Nat) : Int).toNat * 1]? = some (iA (smI (sz (decide (a < 0)) (PR.getD j 0)))) := by
      rw [idx0]
      unfold outsA
      rw [List.getElem?_map, List.getD_eq_getElem?_getD, List.getElem?_eq_getElem (by omega)]
      rfl
    have hgs : (ints ss)[0 + ((j : Nat) : Int).toNat * 1]? = some (iA (ss.getD j 0 : Nat)) := by rw [idx0]; exact ints_at hlt
    have hz : ss.getD j 0 = 0 → smI (sz (decide (a < 0)) (PR.getD j 0)) = 0 := fun h => by
      rw [hel j hlt h]
      cases decide (a < 0) <;> rfl
    generalize smI (sz (decide (a < 0)) (PR.getD j 0)) = z at hg hz
    generalize ss.getD j 0 = y at hgs hz
    refine WO.as (v' := .bool true) rfl rfl (bdT (by omega)) (WO.nil (W.seq (W.cond (b := true) rfl (fun _ => W.skip ?_) (fun h => by cases h))))
    refine W.seq (W.block (W.seq (W.region ?_)))
    refine WO.op rfl rfl ?_
    refine WO.op rfl rfl (WO.nil (W.seq (W.draw0 rfl (by kernel_rfl) ?_)))
    refine WT.op rfl rfl rfl ?_
    refine WT.op rfl rfl rfl ?_
    refine WT.op (G.idx_isl rfl rfl bL rfl bl (by omega) (by omega)) rfl rfl ?_
    refine WT.op (G.load_ip rfl bl rfl hg) rfl rfl ?_
    refine WT.op rfl rfl rfl ?_
    refine WT.op rfl rfl rfl ?_
    refine WT.op (G.idx_isl rfl rfl bL rfl bl (by omega) (by omega)) rfl rfl ?_
    refine WT.op (G.load_ip rfl bl rfl hg) rfl rfl ?_
    refine WT.as (v' := .bool false) rfl rfl rfl (bnT rfl) ?_
    refine WT.op rfl rfl rfl ?_
    refine WT.op rfl rfl rfl ?_
    refine WT.op rfl rfl rfl ?_
    refine WT.op (G.idx_isl rfl rfl bL rfl bl (by omega) (by omega)) rfl rfl ?_
    refine WT.op (G.load_ip rfl bl rfl hgs) rfl rfl ?_
    by_cases hy : y = 0
    · have hz0 := hz hy
      refine WT.as (v' := .bool true) rfl rfl rfl (bdT (by omega)) ?_
      refine WT.op rfl rfl rfl ?_
      refine WT.op rfl rfl rfl ?_
      refine WT.op rfl rfl rfl ?_
      refine WT.op (G.idx_isl rfl rfl bL rfl bl (by omega) (by omega)) rfl rfl ?_
      refine WT.op (G.load_ip rfl bl rfl hg) rfl rfl ?_
      refine WT.as (v' := .bool false) rfl rfl rfl (bnT hz0) ?_
      refine WT.op rfl rfl rfl ?_
      refine WT.op rfl rfl rfl (WT.nil (W.cond (b := false) rfl (fun h => by cases h) (fun _ => W.skip ?_)))
      refine W.region ?_
      refine WO.as (v' := iA ((j + 1 : Nat) : Int)) rfl rfl (int_i64 (by omega) (by omega)) ?_
      exact WO.op rfl rfl (WO.nil ⟨j + 1, by omega, by omega, fits_fr ⟨rfl, rfl, rfl, rfl, rfl, trivial⟩, rfl⟩)
    · refine WT.as (v' := .bool false) rfl rfl rfl (bdF (by omega)) ?_
      refine WT.op rfl rfl rfl ?_
      repeat refine WT.skip rfl rfl ?_
      refine WT.op rfl rfl rfl ?_
      refine WT.op rfl rfl rfl (WT.nil (W.cond (b := false) rfl (fun h => by cases h) (fun _ => W.skip ?_)))
      refine W.region ?_
      refine WO.as (v' := iA ((j + 1 : Nat) : Int)) rfl rfl (int_i64 (by omega) (by omega)) ?_
      exact WO.op rfl rfl (WO.nil ⟨j + 1, by omega, by omega, fits_fr ⟨rfl, rfl, rfl, rfl, rfl, trivial⟩, rfl⟩)
  · have hje : j = ss.length := by omega
    subst hje
    refine WO.as (v' := .bool false) rfl rfl (bdF (by omega)) (WO.nil (W.seq (W.cond (b := false) rfl (fun h => by cases h) (fun _ => W.exit ?_))))
    refine W.seq (W.region ?_)
    exact WO.op rfl rfl (WO.nil (W.ret ⟨trivial, _, rfl, Seals.same _ rfl⟩))
end
end Go.AM.C.BK

