/- Part of a proof over the program's translation: begun, by a closed run.; TopBill answers true: by a closed run.; Days that are open: the program's calendar that is nil, the reference's. .. -/
import Derived.Test.YtkbhfhbopgefcaaGreatDoorB0
noncomputable section
/- begun, by a closed run. -/
namespace Go.AM.C
open Go.Proofs
noncomputable section
set_option linter.unusedVariables false
set_option linter.unusedSimpArgs false
abbrev SMF : Sg := SC baseM10
theorem sMF : Sound Tryz.prog SMF := sc_sound (baseM10_ok _ (sc_glob _) (sc_pin _))
theorem begun_den : givesB (den SMF 5000 65 [] []) true = true := by kernel_rfl
theorem begun_has (H : Heap) : Has 65 [] H (.bool true) H := Has.un (run_B sMF rfl begun_den H)
end
end Go.AM.C

/- TopBill answers true: by a closed run. -/
namespace Go.AM.C
open Go.Proofs
noncomputable section
set_option linter.unusedVariables false
set_option linter.unusedSimpArgs false
/-- begun is told. -/
def bgM2 : Memo := [([], .bool true)]
theorem bgM2_ok : AllM 65 bgM2 := fun e he H => by
  cases List.mem_singleton.1 he
  exact begun_has H
noncomputable def baseT : List Ent := qNo (memX bgM2) 65 :: baseM10
theorem baseT_ok (S : Sg) (hg : S.glob = S0.glob) (hp : S.pin = S0.pin) : AllE Tryz.prog S baseT := ⟨memX_ok S hg hp bgM2_ok, baseM10_ok S hg hp⟩
abbrev ST2 : Sg := SC baseT
theorem sT2 : Sound Tryz.prog ST2 := sc_sound (baseT_ok _ (sc_glob _) (sc_pin _))
theorem bill_den : givesB (den ST2 5000 3 [] []) true = true := by kernel_rfl
theorem bill_has (H : Heap) : Has 3 [] H (.bool true) H := Has.un (run_B sT2 rfl bill_den H)
end
end Go.AM.C

/- Days that are open: the program's calendar that is nil, the reference's. -/
namespace Go.AM
set_option linter.unusedVariables false
theorem allT_app {P : Program} : ∀ {a b : List (Nat × TI)}, AllT P a → AllT P b → AllT P (a ++ b)
  | [], b, _, h => h
  | (t, i) :: a, b, ha, h => ⟨ha.1, allT_app ha.2 h⟩
end Go.AM
namespace Go.AM.C.TW
open Go.Proofs
noncomputable section
set_option linter.unusedVariables false
set_option linter.unusedSimpArgs false
noncomputable def ti61 : TI := ⟨.slice 93, 1, 24, [.nils], false, [], false, msOf Tryz.prog 61⟩
theorem ti61_ok : tiOf Tryz.prog 61 = some ti61 := by kernel_rfl
noncomputable def ti35 : TI := ⟨.pointer 99, 1, 8, [.nilp], false, [], true, msOf Tryz.prog 35⟩
theorem ti35_ok : tiOf Tryz.prog 35 = some ti35 := by kernel_rfl
noncomputable def tys : List (Nat × TI) := [(61, ti61), (35, ti35)]
theorem tys_ok : AllT Tryz.prog tys := ⟨ti61_ok, ti35_ok, trivial⟩

abbrev SQ : Sg := mkS Tryz.prog (tyOf (TW.tys ++ Go.AM.C.tys)) (fun _ => false) globF pinF (fun _ => false) false []
theorem sQ : Sound Tryz.prog SQ := mkS_sound mixed (fun t i h => tyOf_ok (allT_app TW.tys_ok Go.AM.C.tys_ok) t i h) trivial globF_ok
theorem toS {f : FuncId} {args : List AVal} {H H' : Heap} {v : AVal} (h : DoesC Tryz.prog SQ f args H v H') : Has f args H v H' := DoesC.glob rfl rfl h
theorem ofS {f : FuncId} {args : List AVal} {H H' : Heap} {v : AVal} (h : Has f args H v H') : DoesC Tryz.prog SQ f args H v H' := DoesC.glob rfl rfl h

/-! #### plain days -/
def wdN (x : Nat) : Nat := (x + 1) % 7
def opn (x : Nat) : Bool := !(decide (wdN x = 0)) && !(decide (wdN x = 6))
def nxt (x : Nat) : Nat := if opn x = true then x else if opn (x + 1) = true then x + 1 else x + 2
def goN : Nat → Nat → Nat
  | 0, d => d
  | k + 1, d => goN k (nxt (d + 1))
theorem opn_iff (x : Nat) : opn x = true ↔ (x + 1) % 7 ≠ 0 ∧ (x + 1) % 7 ≠ 6 := by unfold opn wdN; simp
theorem nxt_ge (x : Nat) : x ≤ nxt x := by unfold nxt; split <;> (try split) <;> omega
theorem nxt_le (x : Nat) : nxt x ≤ x + 2 := by unfold nxt; split <;> (try split) <;> omega
theorem nxt_open (x : Nat) : opn (nxt x) = true := by
  unfold nxt
  by_cases h1 : opn x = true
  · rw [if_pos h1]; exact h1
  · by_cases h2 : opn (x + 1) = true
    · rw [if_neg h1, if_pos h2]; exact h2
    · rw [if_neg h1, if_neg h2]
      rw [opn_iff] at h1 h2 ⊢
      omega
theorem nxt_shut {x z : Nat} (h1 : x ≤ z) (h2 : z < nxt x) : opn z = false := by
  unfold nxt at h2
  split at h2
  · omega
  · rename_i h3
    split at h2
    · have : z = x := by omega
      rw [this]; simpa using h3
    · rename_i h4
      have : z = x ∨ z = x + 1 := by omega
      rcases this with rfl | rfl
      · simpa using h3
      · simpa using h4
/-- How many open days there are up to one. -/
def cnt (x : Nat) : Nat := 5 * ((x + 1) / 7) + (if (x + 1) % 7 < 5 then (x + 1) % 7 else 5)
theorem cnt_nxt (x : Nat) : cnt (nxt (x + 1)) = cnt x + 1 := by
  unfold nxt
  by_cases h1 : opn (x + 1) = true
  · rw [if_pos h1]
    rw [opn_iff] at h1
    unfold cnt
    split <;> split <;> omega
  · by_cases h2 : opn (x + 1 + 1) = true
    · rw [if_neg h1, if_pos h2]
      rw [opn_iff] at h1 h2
      unfold cnt
      split <;> split <;> omega
    · rw [if_neg h1, if_neg h2]
      rw [opn_iff] at h1 h2
      unfold cnt
      split <;> split <;> omega
theorem goN_cnt : ∀ (k d : Nat), cnt (goN k d) = cnt d + k
  | 0, d => rfl
  | k + 1, d => by
    show cnt (goN k (nxt (d + 1))) = _
    rw [goN_cnt k, cnt_nxt]; omega
theorem goN_le : ∀ (k d : Nat), goN k d ≤ d + 3 * k
  | 0, d => Nat.le_refl _
  | k + 1, d => by
    have := goN_le k (nxt (d + 1))
    have := nxt_le (d + 1)
    show goN k (nxt (d + 1)) ≤ _
    omega
theorem goN_open : ∀ (k d : Nat), opn (goN (k + 1) d) = true
  | 0, d => nxt_open _
  | k + 1, d => goN_open k (nxt (d + 1))
theorem goN_ge (k d : Nat) (hk : 0 < k) : k + 2 * (k / 5) ≤ goN k d - d + 2 ∧ d ≤ goN k d := by
  have h1 := goN_cnt k d
  obtain ⟨j, rfl⟩ : ∃ j, k = j + 1 := ⟨k - 1, by omega⟩
  have h2 := (opn_iff _).1 (goN_open j d)
  have h3 := goN_le (j + 1) d
  have h4 : d ≤ goN (j + 1) d := by
    have : ∀ (k d : Nat), d ≤ goN k d := by
      intro k
      induction k with
      | zero => intro d; exact Nat.le_refl _
      | succ k ih =>
        intro d
        have := ih (nxt (d + 1))
        have := nxt_ge (d + 1)
        show d ≤ goN k (nxt (d + 1))
        omega
    exact this _ _
  generalize goN (j + 1) d = e at *
  unfold cnt at h1
  refine ⟨?_, h4⟩
  split at h1 <;> split at h1 <;> omega

/-! #### the program's -/
theorem tI' : SQ.ty 3 = some ti3 := rfl
theorem dis_has (x : Nat) (hx : x ≤ 109572) (H : Heap) : Has 37 [iA (x : Int)] H (.bool true) H := by
  refine does_pure s0 (show S0.fn 37 = some Tryz.f37 by kernel_rfl) rfl (by kernel_rfl) (Nat.le_of_ble_eq_true rfl) rfl rfl ?_
  refine W.seq (W.region ?_)
  refine WO.op rfl rfl (WO.nil (W.seq (W.region ?_)))
  refine WO.op rfl rfl ?_
  refine WO.as (v' := .bool true) rfl rfl (bdT (by omega)) ?_
  refine WO.op rfl rfl ?_
  refine WO.op rfl rfl ?_
  refine WO.as (v' := .bool true) rfl rfl (bdT (by omega)) ?_
  refine WO.op rfl rfl ?_
  exact WO.op rfl rfl (WO.nil (W.ret ⟨trivial, _, rfl, Seals.same _ rfl⟩))
theorem ris_has (x : Nat) (hx : x ≤ 109572) (H : Heap) : Has 34 [iA (x : Int)] H (.bool true) H := by
  refine does_pure s0 (show S0.fn 34 = some Tryz.f34 by kernel_rfl) rfl (by kernel_rfl) (Nat.le_of_ble_eq_true rfl) rfl rfl ?_
  refine W.seq (W.region ?_)
  refine WO.op rfl rfl (WO.nil (W.seq (W.region ?_)))
  refine WO.op rfl rfl ?_
  refine WO.as (v' := .bool true) rfl rfl (bdT (by omega)) ?_
  refine WO.op rfl rfl ?_
  refine WO.op rfl rfl ?_
  refine WO.as (v' := .bool true) rfl rfl (bdT (by omega)) ?_
  refine WO.op rfl rfl ?_
  exact WO.op rfl rfl (WO.nil (W.ret ⟨trivial, _, rfl, Seals.same _ rfl⟩))
theorem rem7 (x : Nat) : AVal.int .i64 (Int.tmod ((x + 1 : Nat) : Int) 7) = iA (wdN x : Int) := by
  unfold wdN
  rw [show (7 : Int) = ((7 : Nat) : Int) by rfl, ← Int.ofNat_tmod]
theorem dwd_has (x : Nat) (hx : x ≤ 109572) (H : Heap) : Has 14 [iA (x : Int)] H (iA (wdN x : Int)) H := by
  have hr := rem7 x
  refine does_pure s0 (show S0.fn 14 = some Tryz.f14 by kernel_rfl) rfl (by kernel_rfl) (Nat.le_of_ble_eq_true rfl) rfl rfl ?_
  refine W.seq (W.region ?_)
  refine WO.op rfl rfl (WO.nil (W.seq (W.seq (W.region ?_))))
  refine WO.op rfl rfl ?_
  refine WO.call rfl (dis_has x hx _) rfl ?_
  refine WO.op rfl rfl (WO.nil (W.cond (b := false) rfl (fun h => by cases h) (fun _ => W.skip (W.seq (W.region ?_)))))
  refine WO.op rfl rfl ?_
  refine WO.as (v' := iA ((x + 1 : Nat) : Int)) rfl rfl (int_i64 (by omega) (by omega)) ?_
  refine WO.as (v' := iA (wdN x : Int)) rfl rfl hr ?_
  exact WO.op rfl rfl (WO.nil (W.ret ⟨trivial, _, rfl, Seals.same _ rfl⟩))
theorem rwd_has (x : Nat) (hx : x ≤ 109572) (H : Heap) : Has 66 [iA (x : Int)] H (iA (wdN x : Int)) H := by
  have hr := rem7 x
  refine does_pure s0 (show S0.fn 66 = some Tryz.f66 by kernel_rfl) rfl (by kernel_rfl) (Nat.le_of_ble_eq_true rfl) rfl rfl ?_
  refine W.seq (W.region ?_)
  refine WO.op rfl rfl (WO.nil (W.seq (W.region ?_)))
  refine WO.op rfl rfl ?_
  refine WO.as (v' := iA ((x + 1 : Nat) : Int)) rfl rfl (int_i64 (by omega) (by omega)) ?_
  refine WO.as (v' := iA (wdN x : Int)) rfl rfl hr ?_
  exact WO.op rfl rfl (WO.nil (W.ret ⟨trivial, _, rfl, Seals.same _ rfl⟩))
theorem wdN_lt (x : Nat) : wdN x < 7 := Nat.mod_lt _ (by decide)
set_option maxRecDepth 100000 in
theorem copen_has (x : Nat) (hx : x ≤ 109572) (H : Heap) : Has 36 [.nilp, iA (x : Int)] H (.bool (opn x)) H := by
  have hw := dwd_has x hx
  have ho : opn x = (!(decide (wdN x = 0)) && !(decide (wdN x = 6))) := rfl
  generalize opn x = b at ho ⊢
  generalize wdN x = w at hw ho
  refine toS ?_
  refine does_pure sQ (show SQ.fn 36 = some Tryz.f36 by kernel_rfl) rfl (by kernel_rfl) (Nat.le_of_ble_eq_true rfl) rfl rfl ?_
  refine W.seq (W.region ?_)
  refine WO.op rfl rfl (WO.nil (W.seq (W.seq (W.region ?_))))
  refine WO.op rfl rfl ?_
  refine WO.call rfl (ofS (hw _)) rfl (WO.nil (W.block ?_))
  refine W.seq (W.seq (W.region ?_))
  refine WO.as (v' := .bool false) rfl rfl (bdF (by omega)) ?_
  refine WO.op rfl rfl (WO.nil (W.cond (b := false) rfl (fun h => by cases h) (fun _ => ?_)))
  refine W.seq (W.region ?_)
  by_cases h0 : w = 0
  · subst h0
    have hb : b = false := by rw [ho]; rfl
    subst hb
    refine WO.op rfl rfl ?_
    refine WO.op rfl rfl (WO.nil (W.cond (b := true) rfl (fun _ => W.skip ?_) (fun h => by cases h)))
    refine W.cond (b := true) rfl (fun _ => ?_) (fun h => by cases h)
    refine W.seq (W.region ?_)
    exact WO.op rfl rfl (WO.nil (W.ret ⟨trivial, _, rfl, Seals.same _ rfl⟩))
  · refine WO.as (v' := .bool false) rfl rfl (bdF (by omega)) ?_
    refine WO.op rfl rfl (WO.nil (W.cond (b := false) rfl (fun h => by cases h) (fun _ => W.region ?_)))
    by_cases h6 : w = 6
    · subst h6
      have hb : b = false := by rw [ho]; rfl
      subst hb
      refine WO.op rfl rfl ?_
      refine WO.op rfl rfl (WO.nil ?_)
      refine W.cond (b := true) rfl (fun _ => ?_) (fun h => by cases h)
      refine W.seq (W.region ?_)
      exact WO.op rfl rfl (WO.nil (W.ret ⟨trivial, _, rfl, Seals.same _ rfl⟩))
    · have hb : b = true := by rw [ho, decide_eq_false h0, decide_eq_false h6]; rfl
      subst hb
      refine WO.as (v' := .bool false) rfl rfl (bdF (by omega)) ?_
      refine WO.op rfl rfl (WO.nil ?_)
      refine W.cond (b := false) rfl (fun h => by cases h) (fun _ => W.skip (W.seq (W.region ?_)))
      refine WO.op rfl rfl ?_
      refine WO.op (v := .bool true) rfl rfl ?_
      refine WO.op rfl rfl ?_
      repeat refine WO.skip rfl ?_
      refine WO.op rfl rfl ?_
      exact WO.op rfl rfl (WO.nil (W.ret ⟨trivial, _, rfl, Seals.same _ rfl⟩))
set_option maxRecDepth 100000 in
theorem ropen_has (x : Nat) (hx : x ≤ 109572) (H : Heap) : Has 35 [.nils, iA (x : Int)] H (.bool (opn x)) H := by
  have hw := rwd_has x hx
  have ho : opn x = (!(decide (wdN x = 0)) && !(decide (wdN x = 6))) := rfl
  generalize opn x = b at ho ⊢
  generalize wdN x = w at hw ho
  refine toS ?_
  refine does_pure sQ (show SQ.fn 35 = some Tryz.f35 by kernel_rfl) rfl (by kernel_rfl) (Nat.le_of_ble_eq_true rfl) rfl rfl ?_
  refine W.seq (W.region ?_)
  refine WO.op rfl rfl (WO.nil (W.seq (W.seq (W.region ?_))))
  refine WO.op rfl rfl ?_
  refine WO.call rfl (ofS (ris_has x hx _)) rfl ?_
  refine WO.op rfl rfl ?_
  refine WO.op rfl rfl ?_
  refine WO.op rfl rfl ?_
  refine WO.call rfl (ofS (hw _)) rfl ?_
  by_cases h0 : w = 0
  · subst h0
    have hb : b = false := by rw [ho]; rfl
    subst hb
    refine WO.op rfl rfl ?_
    refine WO.op rfl rfl ?_
    refine WO.op rfl rfl ?_
    repeat refine WO.skip rfl ?_
    refine WO.op rfl rfl (WO.nil (W.cond (b := true) rfl (fun _ => ?_) (fun h => by cases h)))
    refine W.seq (W.region ?_)
    exact WO.op rfl rfl (WO.nil (W.ret ⟨trivial, _, rfl, Seals.same _ rfl⟩))
  · refine WO.as (v' := .bool false) rfl rfl (bdF (by omega)) ?_
    refine WO.op rfl rfl ?_
    refine WO.op rfl rfl ?_
    refine WO.op rfl rfl ?_
    refine WO.call rfl (ofS (hw _)) rfl ?_
    by_cases h6 : w = 6
    · subst h6
      have hb : b = false := by rw [ho]; rfl
      subst hb
      refine WO.op rfl rfl ?_
      refine WO.op rfl rfl (WO.nil (W.cond (b := true) rfl (fun _ => ?_) (fun h => by cases h)))
      refine W.seq (W.region ?_)
      exact WO.op rfl rfl (WO.nil (W.ret ⟨trivial, _, rfl, Seals.same _ rfl⟩))
    · have hb : b = true := by rw [ho, decide_eq_false h0, decide_eq_false h6]; rfl
      subst hb
      refine WO.as (v' := .bool false) rfl rfl (bdF (by omega)) ?_
      refine WO.op rfl rfl (WO.nil (W.cond (b := false) rfl (fun h => by cases h) (fun _ => W.skip (W.seq (W.seq (W.region ?_))))))
      refine WO.op rfl rfl (WO.nil (W.block ?_))
      refine W.fits (F' := fr [(0, .nils), (1, iA (x : Int)), (5, iA ((0 : Nat) : Int))]) (fits_fr ⟨rfl, rfl, rfl, trivial⟩) ?_
      refine W.loopI (fun _ : Unit => True) (fun _ => 0) (fun _ => fr [(0, .nils), (1, iA (x : Int)), (5, iA ((0 : Nat) : Int))]) (fun _ => []) ?_ () trivial
      intro _ _
      refine W.seq (W.seq (W.region ?_))
      refine WO.op rfl rfl ?_
      refine WO.op rfl rfl ?_
      refine WO.op rfl rfl ?_
      refine WO.as (v' := .bool false) rfl rfl (bdF (by omega)) (WO.nil (W.cond (b := false) rfl (fun h => by cases h) (fun _ => W.exit ?_)))
      refine W.seq (W.region ?_)
      exact WO.op rfl rfl (WO.nil (W.ret ⟨trivial, _, rfl, Seals.same _ rfl⟩))
/-- The next open day. -/
theorem rnext_has (x : Nat) (hx : x + 2 ≤ 109572) (H : Heap) : Has 12 [.nils, iA (x : Int), iA 1] H (.tup [iA (nxt x : Int), .bool true]) H := by
  have h1 := nxt_ge x
  have h2 := nxt_le x
  have h3 := nxt_open x
  have h4 := fun z => @nxt_shut x z
  generalize nxt x = y at *
  refine does_pure s0 (show S0.fn 12 = some Tryz.f12 by kernel_rfl) rfl (by kernel_rfl) (Nat.le_of_ble_eq_true rfl) rfl rfl ?_
  refine W.seq (W.region ?_)
  refine WO.op rfl rfl ?_
  refine WO.op rfl rfl (WO.nil (W.seq (W.block ?_)))
  refine W.fits (F' := fr [(0, .nils), (1, iA (x : Int)), (2, iA ((1 : Nat) : Int))]) (fits_fr ⟨rfl, rfl, rfl, trivial⟩) ?_
  refine W.loopI (fun j : Nat => x ≤ j ∧ j ≤ y) (fun j => y - j) (fun j => fr [(0, .nils), (1, iA (j : Int)), (2, iA ((1 : Nat) : Int))]) (fun _ => []) ?_ x ⟨Nat.le_refl _, h1⟩
  rintro j ⟨hj1, hj2⟩
  refine W.seq (W.seq (W.region ?_))
  refine WO.op rfl rfl ?_
  refine WO.call rfl (ris_has j (by omega) _) rfl (WO.nil (W.cond (b := true) rfl (fun _ => W.skip ?_) (fun h => by cases h)))
  refine W.seq (W.block (W.seq (W.region ?_)))
  refine WO.op rfl rfl ?_
  refine WO.op rfl rfl ?_
  have ho := ropen_has j (by omega)
  by_cases hjy : j = y
  · subst hjy
    rw [h3] at ho
    refine WO.call rfl (ho _) rfl (WO.nil (W.cond (b := true) rfl (fun _ => ?_) (fun h => by cases h)))
    refine W.seq (W.region ?_)
    refine WO.op rfl rfl ?_
    refine WO.op rfl rfl ?_
    exact WO.op rfl rfl (WO.nil (W.ret ⟨trivial, _, rfl, Seals.same _ rfl⟩))
  · rw [h4 j hj1 (by omega)] at ho
    refine WO.call rfl (ho _) rfl (WO.nil (W.cond (b := false) rfl (fun h => by cases h) (fun _ => W.skip (W.region ?_))))
    refine WO.op rfl rfl ?_
    refine WO.op rfl rfl ?_
    refine WO.as (v' := iA ((j + 1 : Nat) : Int)) rfl rfl (int_i64 (by omega) (by omega)) ?_
    exact WO.op rfl rfl (WO.nil ⟨j + 1, ⟨by omega, by omega⟩, by omega, fits_fr ⟨rfl, rfl, rfl, trivial⟩, rfl⟩)
set_option maxRecDepth 100000 in
theorem cadd_has (d k : Nat) (hk : k ≤ 100) (hd : d + 3 * k ≤ 109572) (H : Heap) : Has 13 [.nilp, iA (d : Int), iA (k : Int)] H (.tup [iA (goN k d : Int), .nili]) H := by
  have hEl := goN_le k d
  generalize hE : goN k d = E at hEl ⊢
  refine does_pure s0 (show S0.fn 13 = some Tryz.f13 by kernel_rfl) rfl (by kernel_rfl) (Nat.le_of_ble_eq_true rfl) rfl rfl ?_
  refine W.seq (W.region ?_)
  refine WO.op rfl rfl ?_
  refine WO.op rfl rfl (WO.nil (W.seq (W.seq (W.region ?_))))
  refine WO.op rfl rfl ?_
  refine WO.as (v' := .bool false) rfl rfl (bdF (by omega)) ?_
  refine WO.op rfl rfl ?_
  refine WO.op rfl rfl ?_
  refine WO.as (v' := .bool false) rfl rfl (bdF (by omega)) ?_
  refine WO.op rfl rfl (WO.nil (W.cond (b := false) rfl (fun h => by cases h) (fun _ => W.skip (W.seq (W.region ?_)))))
  refine WO.op rfl rfl (WO.nil (W.seq (W.seq (W.region ?_))))
  refine WO.op rfl rfl ?_
  refine WO.as (v' := .bool false) rfl rfl (bdF (by omega)) (WO.nil (W.cond (b := false) rfl (fun h => by cases h) (fun _ => W.skip ?_)))
  refine W.seq (W.block ?_)
  refine W.fits (F' := fr [(0, .nilp), (1, iA (d : Int)), (2, iA (k : Int)), (8, iA ((1 : Nat) : Int))]) (fits_fr ⟨rfl, rfl, rfl, rfl, trivial⟩) ?_
  refine W.loopI (α := Nat × Nat) (fun x => goN x.1 x.2 = E ∧ x.1 ≤ 100 ∧ x.2 + 3 * x.1 ≤ 109572) (fun x => x.1) (fun x => fr [(0, .nilp), (1, iA (x.2 : Int)), (2, iA (x.1 : Int)), (8, iA ((1 : Nat) : Int))]) (fun _ => []) ?_ (k, d) ⟨hE, hk, hd⟩
  rintro ⟨r, e⟩ ⟨hg, hr, he⟩
  simp only at hg hr he
  change W _ _ _ _ (fr [(0, .nilp), (1, iA (e : Int)), (2, iA (r : Int)), (8, iA ((1 : Nat) : Int))]) [] _
  refine W.seq (W.seq (W.region ?_))
  refine WO.op rfl rfl ?_
  cases r with
  | zero =>
    have hgE : e = E := hg
    subst hgE
    refine WO.as (v' := .bool false) rfl rfl (bdF (by omega)) ?_
    refine WO.op rfl rfl ?_
    repeat refine WO.skip rfl ?_
    refine WO.op rfl rfl (WO.nil (W.cond (b := false) rfl (fun h => by cases h) (fun _ => W.exit ?_)))
    refine W.seq (W.seq (W.region ?_))
    refine WO.op rfl rfl ?_
    refine WO.call rfl (dwd_has e (by omega) _) rfl ?_
    refine WO.as (v' := .bool false) rfl rfl (bdF (by omega)) (WO.nil (W.cond (b := false) rfl (fun h => by cases h) (fun _ => W.skip (W.seq (W.region ?_)))))
    refine WO.op rfl rfl ?_
    refine WO.op rfl rfl ?_
    exact WO.op rfl rfl (WO.nil (W.ret ⟨trivial, _, rfl, Seals.same _ rfl⟩))
  | succ r =>
    have h1 := nxt_ge (e + 1)
    have h2 := nxt_le (e + 1)
    have h3 := nxt_open (e + 1)
    have h4 := fun z => @nxt_shut (e + 1) z
    have hg' : goN r (nxt (e + 1)) = E := hg
    generalize nxt (e + 1) = y at *
    refine WO.as (v' := .bool true) rfl rfl (bdT (by omega)) ?_
    refine WO.op rfl rfl ?_
    refine WO.op rfl rfl ?_
    refine WO.call rfl (dwd_has e (by omega) _) rfl ?_
    refine WO.as (v' := .bool true) rfl rfl (bdT (by omega)) ?_
    refine WO.op rfl rfl (WO.nil (W.cond (b := true) rfl (fun _ => W.skip ?_) (fun h => by cases h)))
    refine W.seq (W.block (W.seq (W.region ?_)))
    refine WO.op rfl rfl ?_
    refine WO.op rfl rfl ?_
    refine WO.as (v' := iA ((e + 1 : Nat) : Int)) rfl rfl (int_i64 (by omega) (by omega)) ?_
    refine WO.op rfl rfl (WO.nil (W.block ?_))
    refine W.fits (F' := fr [(0, .nilp), (1, iA ((e + 1 : Nat) : Int)), (2, iA ((r + 1 : Nat) : Int)), (8, iA ((1 : Nat) : Int))]) (fits_fr ⟨rfl, rfl, rfl, rfl, trivial⟩) ?_
    refine W.loopI (fun j : Nat => e + 1 ≤ j ∧ j ≤ y) (fun j => y - j) (fun j => fr [(0, .nilp), (1, iA (j : Int)), (2, iA ((r + 1 : Nat) : Int)), (8, iA ((1 : Nat) : Int))]) (fun _ => []) ?_ (e + 1) ⟨Nat.le_refl _, h1⟩
    rintro j ⟨hj1, hj2⟩
    refine W.seq (W.seq (W.region ?_))
    refine WO.op rfl rfl ?_
    refine WO.call rfl (dwd_has j (by omega) _) rfl ?_
    refine WO.as (v' := .bool true) rfl rfl (bdT (by omega)) ?_
    refine WO.op rfl rfl ?_
    refine WO.op rfl rfl ?_
    refine WO.op rfl rfl ?_
    have ho := copen_has j (by omega)
    by_cases hjy : j = y
    · subst hjy
      rw [h3] at ho
      refine WO.call rfl (ho _) rfl ?_
      refine WO.op rfl rfl ?_
      refine WO.op rfl rfl (WO.nil (W.cond (b := false) rfl (fun h => by cases h) (fun _ => W.exit ?_)))
      refine W.region ?_
      refine WO.op rfl rfl ?_
      refine WO.as (v' := iA (r : Int)) rfl rfl (int_i64 (by omega) (by omega)) ?_
      exact WO.op rfl rfl (WO.nil ⟨(r, j), ⟨hg', by simp only; omega, by simp only; omega⟩, by simp only; omega, fits_fr ⟨rfl, rfl, rfl, rfl, trivial⟩, rfl⟩)
    · rw [h4 j hj1 (by omega)] at ho
      refine WO.call rfl (ho _) rfl ?_
      refine WO.op rfl rfl ?_
      refine WO.op rfl rfl (WO.nil (W.cond (b := true) rfl (fun _ => W.skip ?_) (fun h => by cases h)))
      refine W.block (W.region ?_)
      refine WO.op rfl rfl ?_
      refine WO.op rfl rfl ?_
      refine WO.as (v' := iA ((j + 1 : Nat) : Int)) rfl rfl (int_i64 (by omega) (by omega)) ?_
      exact WO.op rfl rfl (WO.nil ⟨j + 1, ⟨by omega, by omega⟩, by omega, fits_fr ⟨rfl, rfl, rfl, rfl, trivial⟩, rfl⟩)
end
end Go.AM.C.TW

/- TopWeek answers true. -/
namespace Go.AM.C.TW
open Go.Proofs
noncomputable section
set_option linter.unusedVariables false
set_option linter.unusedSimpArgs false
theorem lawBegun_has (H : Heap) : Has 33 [] H (.bool true) H := by
  refine does_pure s0 (show S0.fn 33 = some Tryz.f33 by kernel_rfl) rfl (by kernel_rfl) (Nat.le_of_ble_eq_true rfl) rfl rfl ?_
  refine W.seq (W.region ?_)
  refine WO.op rfl rfl (WO.nil (W.seq (W.region ?_)))
  refine WO.call rfl (begun_has _) rfl ?_
  exact WO.op rfl rfl (WO.nil (W.ret ⟨trivial, _, rfl, Seals.same _ rfl⟩))
theorem topBegun_has (H : Heap) : Has 10 [] H (.bool true) H := by
  refine does_pure s0 (show S0.fn 10 = some Tryz.f10 by kernel_rfl) rfl (by kernel_rfl) (Nat.le_of_ble_eq_true rfl) rfl rfl ?_
  refine W.seq (W.region ?_)
  refine WO.op rfl rfl (WO.nil (W.seq (W.region ?_)))
  refine WO.call rfl (lawBegun_has _) rfl ?_
  exact WO.op rfl rfl (WO.nil (W.ret ⟨trivial, _, rfl, Seals.same _ rfl⟩))
theorem tmod_lt (x k : Int) (hk : 0 < k) : -k < Int.tmod x k ∧ Int.tmod x k < k := by
  rcases Int.le_total 0 x with h | h
  · have := Int.tmod_nonneg (b := k) (a := x) h
    have := Int.tmod_lt_of_pos x hk
    omega
  · have e : Int.tmod x k = -(Int.tmod (-x) k) := by rw [Int.neg_tmod]; omega
    have := Int.tmod_nonneg (a := -x) k (by omega)
    have := Int.tmod_lt_of_pos (-x) hk
    omega
theorem small5 (x : Int) (H : Heap) : Has 11 [iA x, iA 100000] H (iA ((Int.tmod x 100000).natAbs : Int)) H := by
  have hb := tmod_lt x 100000 (by decide)
  obtain ⟨t, ht⟩ : ∃ t, Int.tmod x 100000 = t := ⟨_, rfl⟩
  rw [ht] at hb ⊢
  refine does_pure s0 (show S0.fn 11 = some Tryz.f11 by kernel_rfl) rfl (by kernel_rfl) (Nat.le_of_ble_eq_true rfl) rfl rfl ?_
  refine W.seq (W.region ?_)
  refine WO.op rfl rfl (WO.nil (W.seq (W.region ?_)))
  refine WO.op rfl rfl ?_
  refine WO.op rfl rfl ?_
  refine WO.as (v' := iA t) rfl rfl (int_eq ht) ?_
  refine WO.op rfl rfl (WO.nil (W.seq (W.seq (W.region ?_))))
  refine WO.op rfl rfl ?_
  by_cases h : t < 0
  · refine WO.as (v' := .bool true) rfl rfl (bdT (by omega)) (WO.nil (W.cond (b := true) rfl (fun _ => W.region ?_) (fun h => by cases h)))
    refine WO.op rfl rfl ?_
    refine WO.as (v' := iA (t.natAbs : Int)) rfl rfl (int_i64 (by omega) (by omega)) ?_
    refine WO.op rfl rfl (WO.nil (W.seq (W.region ?_)))
    refine WO.op rfl rfl ?_
    exact WO.op rfl rfl (WO.nil (W.ret ⟨trivial, _, rfl, Seals.same _ rfl⟩))
  · have e : (t.natAbs : Int) = t := by omega
    rw [e]
    refine WO.as (v' := .bool false) rfl rfl (bdF (by omega)) (WO.nil (W.cond (b := false) rfl (fun h => by cases h) (fun _ => W.skip (W.seq (W.region ?_)))))
    refine WO.op rfl rfl ?_
    exact WO.op rfl rfl (WO.nil (W.ret ⟨trivial, _, rfl, Seals.same _ rfl⟩))
theorem small2 (x : Int) (H : Heap) : Has 11 [iA x, iA 100] H (iA ((Int.tmod x 100).natAbs : Int)) H := by
  have hb := tmod_lt x 100 (by decide)
  obtain ⟨t, ht⟩ : ∃ t, Int.tmod x 100 = t := ⟨_, rfl⟩
  rw [ht] at hb ⊢
  refine does_pure s0 (show S0.fn 11 = some Tryz.f11 by kernel_rfl) rfl (by kernel_rfl) (Nat.le_of_ble_eq_true rfl) rfl rfl ?_
  refine W.seq (W.region ?_)
  refine WO.op rfl rfl (WO.nil (W.seq (W.region ?_)))
  refine WO.op rfl rfl ?_
  refine WO.op rfl rfl ?_
  refine WO.as (v' := iA t) rfl rfl (int_eq ht) ?_
  refine WO.op rfl rfl (WO.nil (W.seq (W.seq (W.region ?_))))
  refine WO.op rfl rfl ?_
  by_cases h : t < 0
  · refine WO.as (v' := .bool true) rfl rfl (bdT (by omega)) (WO.nil (W.cond (b := true) rfl (fun _ => W.region ?_) (fun h => by cases h)))
    refine WO.op rfl rfl ?_
    refine WO.as (v' := iA (t.natAbs : Int)) rfl rfl (int_i64 (by omega) (by omega)) ?_
    refine WO.op rfl rfl (WO.nil (W.seq (W.region ?_)))
    refine WO.op rfl rfl ?_
    exact WO.op rfl rfl (WO.nil (W.ret ⟨trivial, _, rfl, Seals.same _ rfl⟩))
  · have e : (t.natAbs : Int) = t := by omega
    rw [e]
    refine WO.as (v' := .bool false) rfl rfl (bdF (by omega)) (WO.nil (W.cond (b := false) rfl (fun h => by cases h) (fun _ => W.skip (W.seq (W.region ?_)))))
    refine WO.op rfl rfl ?_
    exact WO.op rfl rfl (WO.nil (W.ret ⟨trivial, _, rfl, Seals.same _ rfl⟩))

set_option maxRecDepth 100000 in
theorem week_has (n k0 : Int) (H : Heap) : Has 4 [iA n, iA k0] H (.bool true) H := by
  have hd := small5 n
  have hdb := tmod_lt n 100000 (by decide)
  have hdl : (Int.tmod n 100000).natAbs < 100000 := by omega
  generalize (Int.tmod n 100000).natAbs = d at hd hdl
  have hk := small2 k0
  have hkb := tmod_lt k0 100 (by decide)
  have hkl : (Int.tmod k0 100).natAbs < 100 := by omega
  generalize (Int.tmod k0 100).natAbs = j0 at hk hkl
  have hadd := cadd_has d (j0 + 1) (by omega) (by omega)
  have hge := goN_ge (j0 + 1) d (by omega)
  have hop := goN_open j0 d
  have hEl := goN_le (j0 + 1) d
  rw [opn_iff] at hop
  generalize hE : goN (j0 + 1) d = E at hadd hge hop hEl
  have hwd := dwd_has E (by omega)
  have hw : wdN E = (E + 1) % 7 := rfl
  generalize wdN E = we at hwd hw
  have hq5 : AVal.int .i64 (wrapI .i64 (Int.tdiv ((j0 + 1 : Nat) : Int) 5)) = iA (((j0 + 1) / 5 : Nat) : Int) := by
    have e : Int.tdiv ((j0 + 1 : Nat) : Int) 5 = (((j0 + 1) / 5 : Nat) : Int) := (Int.ofNat_tdiv (j0 + 1) 5).symm
    rw [e]
    exact int_i64 (by omega) rfl
  refine does_pure s0 (show S0.fn 4 = some Tryz.f4 by kernel_rfl) rfl (by kernel_rfl) (Nat.le_of_ble_eq_true rfl) rfl rfl ?_
  refine W.seq (W.region ?_)
  refine WO.op rfl rfl (WO.nil (W.seq (W.region ?_)))
  refine WO.call rfl (topBegun_has _) rfl ?_
  refine WO.op rfl rfl (WO.nil (W.seq (W.seq (W.region ?_))))
  refine WO.op rfl rfl ?_
  refine WO.op rfl rfl (WO.nil (W.cond (b := false) rfl (fun h => by cases h) (fun _ => W.skip (W.seq (W.region ?_)))))
  refine WO.op rfl rfl ?_
  refine WO.call rfl (hd _) rfl ?_
  refine WO.op rfl rfl ?_
  refine WO.call rfl (hk _) rfl ?_
  refine WO.as (v' := iA ((j0 + 1 : Nat) : Int)) rfl rfl (int_i64 (by omega) (by omega)) ?_
  refine WO.op rfl rfl ?_
  refine WO.op rfl rfl (WO.nil (W.seq (W.region ?_)))
  refine WO.op rfl rfl ?_
  refine WO.op rfl rfl (WO.nil (W.seq (W.seq (W.region ?_))))
  refine WO.op rfl rfl (WO.nil (W.block ?_))
  refine W.fits (F' := fr [(1, iA ((j0 + 1 : Nat) : Int)), (6, iA (d : Int)), (7, iA (d : Int)), (8, iA ((0 : Nat) : Int))]) (fits_fr ⟨rfl, rfl, rfl, rfl, trivial⟩) ?_
  refine W.loopI (α := Nat × Nat) (fun x => x.1 ≤ j0 + 1 ∧ goN (j0 + 1 - x.1) x.2 = E ∧ x.2 + 3 * (j0 + 1 - x.1) ≤ 109572) (fun x => j0 + 1 - x.1) (fun x => fr [(1, iA ((j0 + 1 : Nat) : Int)), (6, iA (d : Int)), (7, iA (x.2 : Int)), (8, iA (x.1 : Int))]) (fun _ => []) ?_ (0, d) ⟨Nat.zero_le _, hE, by omega⟩
  rintro ⟨i, e⟩ ⟨hi, hg, he⟩
  simp only at hi hg he
  change W _ _ _ _ (fr [(1, iA ((j0 + 1 : Nat) : Int)), (6, iA (d : Int)), (7, iA (e : Int)), (8, iA (i : Int))]) [] _
  refine W.seq (W.seq (W.region ?_))
  refine WO.op rfl rfl ?_
  refine WO.op rfl rfl ?_
  by_cases hlt : i < j0 + 1
  · obtain ⟨r, hr⟩ : ∃ r, j0 + 1 - i = r + 1 := ⟨j0 - i, by omega⟩
    rw [hr] at hg he
    have hg' : goN r (nxt (e + 1)) = E := hg
    have hn := rnext_has (e + 1) (by omega)
    have h2 := nxt_le (e + 1)
    generalize nxt (e + 1) = y at hg' hn h2
    refine WO.as (v' := .bool true) rfl rfl (bdT (by omega)) (WO.nil (W.cond (b := true) rfl (fun _ => W.skip ?_) (fun h => by cases h)))
    refine W.seq (W.block (W.seq (W.region ?_)))
    refine WO.op rfl rfl ?_
    refine WO.as (v' := iA ((e + 1 : Nat) : Int)) rfl rfl (int_i64 (by omega) (by omega)) ?_
    refine WO.call rfl (hn _) rfl ?_
    refine WO.op rfl rfl ?_
    refine WO.op rfl rfl ?_
    refine WO.op rfl rfl ?_
    refine WO.op rfl rfl ?_
    refine WO.op rfl rfl (WO.nil (W.seq (W.seq (W.region ?_))))
    refine WO.op rfl rfl ?_
    refine WO.op rfl rfl (WO.nil (W.cond (b := false) rfl (fun h => by cases h) (fun _ => W.skip (W.region ?_))))
    refine WO.op rfl rfl ?_
    refine WO.op rfl rfl (WO.nil (W.region ?_))
    refine WO.op rfl rfl ?_
    refine WO.as (v' := iA ((i + 1 : Nat) : Int)) rfl rfl (int_i64 (by omega) (by omega)) ?_
    exact WO.op rfl rfl (WO.nil ⟨(i + 1, y), ⟨hlt, by simp only; rw [show j0 + 1 - (i + 1) = r by omega]; exact hg', by simp only; omega⟩, by simp only; omega, fits_fr ⟨rfl, rfl, rfl, rfl, trivial⟩, rfl⟩)
  · have hie : i = j0 + 1 := by omega
    subst hie
    rw [Nat.sub_self] at hg
    have hge' : e = E := hg
    subst hge'
    refine WO.as (v' := .bool false) rfl rfl (bdF (by omega)) (WO.nil (W.cond (b := false) rfl (fun h => by cases h) (fun _ => W.exit ?_)))
    refine W.seq (W.region ?_)
    refine WO.op rfl rfl (WO.nil (W.seq (W.region ?_)))
    refine WO.op rfl rfl ?_
    refine WO.op rfl rfl ?_
    refine WO.op rfl rfl ?_
    refine WO.call rfl (hadd _) rfl ?_
    refine WO.op rfl rfl ?_
    refine WO.op rfl rfl ?_
    refine WO.op rfl rfl ?_
    refine WO.op rfl rfl ?_
    refine WO.op rfl rfl (WO.nil (W.seq (W.region ?_)))
    refine WO.op rfl rfl ?_
    refine WO.op rfl rfl ?_
    refine WO.op rfl rfl ?_
    refine WO.op rfl rfl ?_
    refine WO.op rfl rfl ?_
    refine WO.as (v' := .bool true) rfl rfl (bdT rfl) ?_
    refine WO.op rfl rfl ?_
    refine WO.op rfl rfl ?_
    refine WO.op rfl rfl ?_
    refine WO.op rfl rfl ?_
    refine WO.as (v' := iA ((e - d : Nat) : Int)) rfl rfl (int_i64 (by omega) (by omega)) ?_
    refine WO.op rfl rfl ?_
    refine WO.op rfl rfl ?_
    refine WO.as (v' := iA (((j0 + 1) / 5 : Nat) : Int)) rfl rfl hq5 ?_
    refine WO.as (v' := iA (((j0 + 1) / 5 * 2 : Nat) : Int)) rfl rfl (int_i64 (by omega) (by omega)) ?_
    refine WO.as (v' := iA ((j0 + 1 + (j0 + 1) / 5 * 2 : Nat) : Int)) rfl rfl (int_i64 (by omega) (by omega)) ?_
    refine WO.as (v' := iA (((j0 + 1 + (j0 + 1) / 5 * 2 : Nat) : Int) - 2)) rfl rfl (int_i64 (by omega) rfl) ?_
    refine WO.as (v' := .bool true) rfl rfl (bdT (by omega)) ?_
    refine WO.op rfl rfl ?_
    refine WO.op rfl rfl ?_
    refine WO.op rfl rfl ?_
    refine WO.call rfl (hwd _) rfl ?_
    refine WO.as (v' := .bool true) rfl rfl (bnF (by omega)) ?_
    refine WO.op rfl rfl ?_
    refine WO.op rfl rfl ?_
    refine WO.op rfl rfl ?_
    refine WO.call rfl (hwd _) rfl ?_
    refine WO.as (v' := .bool true) rfl rfl (bnF (by omega)) ?_
    refine WO.op rfl rfl ?_
    exact WO.op rfl rfl (WO.nil (W.ret ⟨trivial, _, rfl, Seals.same _ rfl⟩))
end
end Go.AM.C.TW

