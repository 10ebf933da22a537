/- Part of a proof over the program's translation: Contracts, 8: ledger.Name.; Contracts, 9: maps.Copy into an empty map.; Contracts, 10: (*Ledger).books: what it needs. .. -/
import Derived.Test.YtkbhfhbopgefcaaGreatDoorN0
import Derived.Test.YtkbhfhbopgefcaaGreatDoorA6
noncomputable section
/- Contracts, 8: ledger.Name. -/
namespace Go.AM.C
open Go.Proofs
noncomputable section
set_option linter.unusedVariables false
set_option linter.unusedSimpArgs false

/-- A byte that no name has. -/
def badB (b : Nat) : Bool := (Nat.blt b 97 || Nat.blt 122 b) && (Nat.blt b 48 || Nat.blt 57 b) && !Nat.beq b 45
def nameOk (s : List UInt8) : Bool := !(s.any fun b => badB b.toNat) && decide (1 ≤ s.length) && decide (s.length ≤ 20)

def isB (r : Option (AVal × Heap)) (b : Bool) : Bool := match r with
  | some (.bool x, _) => x == b
  | _ => false
theorem isB_some {r : Option (AVal × Heap)} {b : Bool} (h : isB r b = true) : ∃ H', r = some (.bool b, H') := by
  unfold isB at h
  split at h
  · rename_i x H'
    have : x = b := by simpa using h
    subst this
    exact ⟨H', rfl⟩
  · cases h

theorem name1_all : (List.range 256).all (fun c => isB (den S0 100 206 [.int .u8 (Int.ofNat c)] []) (badB c)) = true := by kernel_rfl
theorem name1 (b : UInt8) (H : Heap) : Has 206 [.int .u8 (b.toNat : Int)] H (.bool (badB b.toNat)) H := by
  have h := List.all_eq_true.1 name1_all b.toNat (List.mem_range.2 b.toNat_lt)
  obtain ⟨H', h⟩ := isB_some h
  exact DoesC.run s0 h rfl rfl H

def idxBad : Nat → List UInt8 → Int
  | _, [] => -1
  | i, b :: s => if badB b.toNat then (i : Int) else idxBad (i + 1) s
theorem idxBad_any : ∀ (s : List UInt8) (i : Nat), 0 ≤ idxBad i s ↔ (s.any fun b => badB b.toNat) = true
  | [], i => by simp [idxBad]
  | b :: s, i => by
    simp only [idxBad, List.any_cons]
    have ih := idxBad_any s (i + 1)
    cases h : badB b.toNat with
    | true => simp
    | false => simpa using ih
theorem idxBad_get {s : List UInt8} {j : Nat} (h : j < s.length) : idxBad j (s.drop j) = if badB (s[j].toNat) then (j : Int) else idxBad (j + 1) (s.drop (j + 1)) := by
  rw [List.drop_eq_getElem_cons h]
  rfl

theorem tB : S0.ty 101 = some ti101 := rfl
theorem tb : S0.ty 5 = some ti5 := rfl

theorem indexFunc_bad (s : List UInt8) (hs : s.length < 4611686018427387904) (H : Heap) : Has 265 [.isl (toBytes s) 0 s.length none true, .fn 206 [] []] H (.int .i64 (idxBad 0 s)) H := by
  generalize hR : idxBad 0 s = R
  refine does_pure s0 (show S0.fn 265 = some Tryz.f265 by kernel_rfl) rfl (by kernel_rfl) (Nat.le_of_ble_eq_true rfl) rfl rfl ?_
  generalize hv : (AVal.isl (toBytes s) 0 s.length none true) = va
  refine W.seq (W.region ?_)
  repeat refine WO.op rfl rfl ?_
  refine WO.nil (W.seq (W.seq (W.region ?_)))
  refine WO.op rfl rfl ?_
  refine WO.op (v := .int .i64 (s.length : Int)) (H1 := []) (by subst hv; rfl) rfl ?_
  refine WO.op rfl rfl (WO.nil (W.block ?_))
  refine W.fits (F' := fr [(0, va), (1, .fn 206 [] []), (7, .int .i64 (s.length : Int)), (8, .int .i64 ((0 : Nat) : Int))]) (fits_fr ⟨rfl, rfl, rfl, rfl, trivial⟩) ?_
  refine W.loopI (fun j : Nat => j ≤ s.length ∧ idxBad j (s.drop j) = R) (fun j => s.length - j) (fun j => fr [(0, va), (1, .fn 206 [] []), (7, .int .i64 (s.length : Int)), (8, .int .i64 (j : Int))]) (fun _ => []) ?_ 0 ⟨by omega, by simpa using hR⟩
  rintro j ⟨hj, hjR⟩
  refine W.seq (W.region ?_)
  by_cases hlt : j < s.length
  · rw [idxBad_get hlt] at hjR
    refine WO.as (v' := .bool true) rfl rfl (bdT (by omega)) (WO.nil (W.seq (W.cond (b := true) rfl (fun _ => W.skip ?_) (fun h => by cases h))))
    refine W.seq (W.block (W.seq (W.region ?_)))
    repeat refine WO.op rfl rfl ?_
    refine WO.nil (W.seq (W.region ?_))
    refine WO.op rfl rfl ?_
    refine WO.op rfl rfl ?_
    refine WO.op rfl rfl ?_
    refine WO.op (G.idx_isl hv.symm rfl tB rfl tb (by omega) (by omega)) rfl ?_
    refine WO.op (G.load_ip rfl tb rfl (toBytes_at (List.getElem?_eq_getElem hlt))) rfl ?_
    refine WO.call rfl (name1 s[j] _) rfl ?_
    refine WO.nil (W.cond rfl (fun hb => ?_) (fun hb => ?_))
    · rw [if_pos hb] at hjR
      refine W.seq (W.region ?_)
      refine WO.op rfl rfl ?_
      refine WO.op rfl rfl (WO.nil (W.ret ⟨trivial, _, rfl, ?_⟩))
      rw [← hjR]
      exact Seals.same _ rfl
    · rw [if_neg (by rw [hb]; decide)] at hjR
      refine W.skip (W.region ?_)
      refine WO.as (v' := .int .i64 ((j + 1 : Nat) : Int)) rfl rfl (int_i64 (by omega) (by omega)) ?_
      exact WO.op rfl rfl (WO.nil ⟨j + 1, ⟨by omega, hjR⟩, by omega, fits_fr ⟨rfl, rfl, rfl, rfl, trivial⟩, rfl⟩)
  · have hje : j = s.length := by omega
    subst hje
    refine WO.as (v' := .bool false) rfl rfl (bdF (by omega)) (WO.nil (W.seq (W.cond (b := false) rfl (fun h => by cases h) (fun _ => W.exit ?_))))
    refine W.seq (W.region ?_)
    refine WO.op rfl rfl (WO.nil (W.ret ⟨trivial, _, rfl, ?_⟩))
    rw [← hjR, List.drop_length]
    exact Seals.same _ rfl

theorem containsFunc_bad (s : List UInt8) (hs : s.length < 4611686018427387904) (H : Heap) : Has 205 [.isl (toBytes s) 0 s.length none true, .fn 206 [] []] H (.bool (s.any fun b => badB b.toNat)) H := by
  refine does_pure s0 (show S0.fn 205 = some Tryz.f205 by kernel_rfl) rfl (by kernel_rfl) (Nat.le_of_ble_eq_true rfl) rfl rfl ?_
  refine W.seq (W.region ?_)
  repeat refine WO.op rfl rfl ?_
  refine WO.nil (W.seq (W.region ?_))
  refine WO.op rfl rfl ?_
  refine WO.op rfl rfl ?_
  refine WO.call rfl (indexFunc_bad s hs _) rfl ?_
  refine WO.as (v' := .bool (s.any fun b => badB b.toNat)) rfl rfl ?_ ?_
  · refine congrArg AVal.bool ?_
    rw [Bool.eq_iff_iff, decide_eq_true_eq]
    exact idxBad_any s 0
  exact WO.op rfl rfl (WO.nil (W.ret ⟨trivial, _, rfl, Seals.same _ rfl⟩))

theorem name_ok (s : List UInt8) (hs : s.length < 4611686018427387904) (H : Heap) : Has 157 [.str s] H (.bool (nameOk s)) H := by
  generalize hR : nameOk s = R
  refine does_pure s0 (show S0.fn 157 = some Tryz.f157 by kernel_rfl) rfl (by kernel_rfl) (Nat.le_of_ble_eq_true rfl) rfl rfl ?_
  refine W.seq (W.region ?_)
  repeat refine WO.op rfl rfl ?_
  refine WO.nil (W.seq (W.region ?_))
  refine WO.op rfl rfl ?_
  refine WO.op (G.toBytes rfl rfl tB rfl tb rfl (by omega)) rfl ?_
  refine WO.call rfl (containsFunc_bad s hs _) rfl ?_
  unfold nameOk at hR
  generalize (s.any fun b => badB b.toNat) = B at hR
  refine WO.op rfl rfl (WO.nil (W.seq (W.region ?_)))
  refine WO.op rfl rfl ?_
  refine WO.op rfl rfl ?_
  refine WO.op rfl rfl ?_
  cases B with
  | true =>
    refine WO.skip rfl ?_
    refine WO.skip rfl ?_
    refine WO.skip rfl ?_
    refine WO.op rfl rfl ?_
    refine WO.op rfl rfl ?_
    refine WO.skip rfl ?_
    refine WO.skip rfl ?_
    refine WO.skip rfl ?_
    refine WO.op rfl rfl ?_
    refine WO.op rfl rfl (WO.nil (W.ret ⟨trivial, _, rfl, ?_⟩))
    rw [← hR]
    exact Seals.same _ rfl
  | false =>
    refine WO.op rfl rfl ?_
    refine WO.op (G.len_str rfl rfl rfl rfl rfl) rfl ?_
    refine WO.as (v' := .bool (decide (1 ≤ s.length))) rfl rfl (bdE (by omega)) ?_
    refine WO.op rfl rfl ?_
    refine WO.op rfl rfl ?_
    by_cases h1 : 1 ≤ s.length
    · rw [decide_eq_true h1] at hR ⊢
      refine WO.op rfl rfl ?_
      refine WO.op (G.len_str rfl rfl rfl rfl rfl) rfl ?_
      refine WO.as (v' := .bool (decide (s.length ≤ 20))) rfl rfl (bdE (by omega)) ?_
      refine WO.op rfl rfl ?_
      refine WO.op rfl rfl (WO.nil (W.ret ⟨trivial, _, rfl, ?_⟩))
      rw [← hR]
      exact Seals.same _ rfl
    · rw [decide_eq_false h1] at hR ⊢
      refine WO.skip rfl ?_
      refine WO.skip rfl ?_
      refine WO.skip rfl ?_
      refine WO.op rfl rfl ?_
      refine WO.op rfl rfl (WO.nil (W.ret ⟨trivial, _, rfl, ?_⟩))
      rw [← hR]
      exact Seals.same _ rfl
end
end Go.AM.C

/- Contracts, 9: maps.Copy into an empty map. -/
namespace Go.AM.C
open Go.Proofs
noncomputable section
set_option linter.unusedVariables false
set_option linter.unusedSimpArgs false

abbrev iA (z : Int) : AVal := .int .i64 z
/-- A map that is not written: names and numbers. -/
def imapA (l : List (List UInt8 × Int)) : AVal := .imap (l.map fun e => .str e.1) (l.map fun e => iA e.2) true
/-- What a ledger's map may be. -/
def IsM (v : AVal) (l : List (List UInt8 × Int)) : Prop := v = imapA l ∨ v = .nilm ∧ l = []

theorem tM : S0.ty 195 = some ti195 := rfl
theorem tS : S0.ty 9 = some ti9 := rfl
theorem tI : S0.ty 2 = some ti2 := rfl

theorem seen_get {l : List (List UInt8 × Int)} {seen : List Nat} {j : Nat} {e : List UInt8 × Int} (hnd : (l.map (·.1)).Nodup) (hj : l[j]? = some e) (hs : j ∉ seen) (hlt : ∀ i ∈ seen, i < l.length) : keyIdx e.1 (seen.filterMap fun j => l[j]?) = none := by
  rw [keyIdx_none]
  intro hm
  obtain ⟨e', he', hk⟩ := List.mem_map.1 hm
  obtain ⟨i, hi, hie⟩ := List.mem_filterMap.1 he'
  have hil := hlt i hi
  have hjl := (List.getElem?_eq_some_iff.1 hj).1
  have h1 : (l.map (·.1))[i]? = some e.1 := by rw [List.getElem?_map, hie]; simp [hk]
  have h2 : (l.map (·.1))[j]? = some e.1 := by rw [List.getElem?_map, hj]; rfl
  have := (List.getElem?_inj (by simpa using hil) hnd).1 (h1.trans h2.symm)
  subst this
  exact hs hi

theorem copy_fresh (d : Nat) (H : Heap) (hd : H[d]? = some (.map [])) (src : AVal) (l : List (List UInt8 × Int)) (hsrc : IsM src l) (hnd : (l.map (·.1)).Nodup) :
    DoesR Tryz.prog S0 197 [.map d, src] H (fun v H' => v = .tup [] ∧ ∃ (es : List (List UInt8 × Int)) (J : AObj), es.Perm l ∧ H' = H.set d (.map (entsF iA es)) ++ [J]) := by
  have hdl : d < H.length := (List.getElem?_eq_some_iff.1 hd).1
  refine doesR_run s0 (show S0.fn 197 = some Tryz.f197 by kernel_rfl) rfl (by kernel_rfl) (Nat.le_of_ble_eq_true rfl) ?_
  rcases hsrc with rfl | ⟨rfl, rfl⟩
  · refine W.seq (W.region ?_)
    refine WO.op rfl rfl ?_
    refine WO.range_imap rfl (show opdF S0 _ _ = imapA l from rfl) tM rfl rfl fun ks' vs' hp hl => WO.nil ?_
    rw [show (l.map fun e => AVal.str e.1).zip (l.map fun e => iA e.2) = l.map fun e => (AVal.str e.1, iA e.2) from entsF_zip iA l] at hp
    obtain ⟨l', hpl, he⟩ := perm_map_inv (fun e : List UInt8 × Int => (AVal.str e.1, iA e.2)) hp l rfl
    have hks : ks' = l'.map fun e => AVal.str e.1 := by
      have := congrArg (List.map Prod.fst) he
      rw [List.map_fst_zip (by omega)] at this
      rw [this]; simp
    have hvs : vs' = l'.map fun e => iA e.2 := by
      have := congrArg (List.map Prod.snd) he
      rw [List.map_snd_zip (by omega)] at this
      rw [this]; simp
    subst hks; subst hvs
    clear he hp hl
    have hnd' : (l'.map (·.1)).Nodup := (hpl.map (·.1)).nodup_iff.2 hnd
    have hd0 : H = H.set d (.map (entsF iA (([] : List Nat).filterMap fun j => l'[j]?))) := (set_same hd).symm
    refine W.block ?_
    rw [List.length_map]
    refine W.fits (F' := fr [(0, .map d), (7, .ptr H.length 0)]) (fits_fr ⟨rfl, rfl, trivial⟩) ?_
    refine W.heq (H' := H.set d (.map (entsF iA (([] : List Nat).filterMap fun j => l'[j]?))) ++ [.iiter (l'.map fun e => AVal.str e.1) (l'.map fun e => iA e.2) l'.length []]) (by rw [← hd0]) ?_
    refine W.loopI (α := List Nat) (fun seen => seen.Nodup ∧ ∀ j ∈ seen, j < l'.length) (fun seen => l'.length - seen.length) (fun _ => fr [(0, .map d), (7, .ptr H.length 0)])
      (fun seen => H.set d (.map (entsF iA (seen.filterMap fun j => l'[j]?))) ++ [.iiter (l'.map fun e => AVal.str e.1) (l'.map fun e => iA e.2) l'.length seen]) ?_ [] ⟨List.nodup_nil, fun j hj => by simp at hj⟩
    rintro seen ⟨hsn, hsl⟩
    refine W.seq (W.region (WO.nextI rfl rfl (app_at (by simp)) rfl (fun hall => ?_) (fun j k v hk hv hjs => ?_)))
    · refine WO.op rfl rfl (WO.nil (W.seq (W.cond (b := false) rfl (fun h => by cases h) (fun _ => W.exit ⟨trivial, _, .tup [], rfl, Wk.refl _, rfl, _, _, ?_, rfl⟩))))
      exact (perm_of_all hsn hsl (by simpa using hall)).trans hpl
    · have hjl : j < l'.length := by simpa using (List.getElem?_eq_some_iff.1 hk).1
      obtain ⟨e, he⟩ : ∃ e, l'[j]? = some e := ⟨_, List.getElem?_eq_getElem hjl⟩
      rw [List.getElem?_map, he] at hk hv
      cases hk; cases hv
      rw [app_set (by simp)]
      refine WO.op rfl rfl (WO.nil (W.seq (W.cond (b := true) rfl (fun _ => W.skip ?_) (fun h => by cases h))))
      refine W.block (W.seq (W.region (WO.entryI rfl rfl (app_at (by simp)) (by rw [List.getElem?_map, he]; rfl) (by rw [List.getElem?_map, he]; rfl) rfl ?_)))
      refine WO.op rfl rfl ?_
      refine WO.op rfl rfl ?_
      refine WO.op rfl rfl ?_
      refine WO.op rfl rfl (WO.nil (W.region ?_))
      refine WO.op rfl rfl ?_
      refine WO.op rfl rfl ?_
      refine WO.op rfl rfl ?_
      have hdl2 : d < (H.set d (.map (entsF iA (seen.filterMap fun j => l'[j]?)))).length := by simpa using hdl
      have hm := mapUpdate_ents (S := S0) (f := iA) (k := e.1) (v := e.2) tM rfl tS rfl (d := d) (H := H.set d (.map (entsF iA (seen.filterMap fun j => l'[j]?))) ++ [.iiter (l'.map fun e => AVal.str e.1) (l'.map fun e => iA e.2) l'.length (seen ++ [j])]) (l := seen.filterMap fun j => l'[j]?) (by
        rw [app_lt hdl2, List.getElem?_set_self hdl])
      refine WO.op (v := undefA) (by show (match denMapUpdate S0 _ 195 (.map d) (.str e.1) (iA e.2) with | some H' => some (undefA, H') | none => none) = _; rw [hm]) rfl (WO.nil ⟨seen ++ [j], ⟨?_, ?_⟩, ?_, fits_fr ⟨rfl, rfl, trivial⟩, ?_⟩)
      · rw [List.nodup_append]
        exact ⟨hsn, by simp, fun a ha b hb => by cases List.mem_singleton.1 hb; intro hab; subst hab; exact hjs ha⟩
      · intro i hi
        rcases List.mem_append.1 hi with hi | hi
        · exact hsl i hi
        · cases List.mem_singleton.1 hi; exact hjl
      · have h1 : (seen ++ [j]).length ≤ l'.length := by
          have h2 : (seen ++ [j]).Nodup := by
            rw [List.nodup_append]
            exact ⟨hsn, by simp, fun a ha b hb => by cases List.mem_singleton.1 hb; intro hab; subst hab; exact hjs ha⟩
          refine nodup_le _ _ h2 fun i hi => ?_
          rcases List.mem_append.1 hi with hi | hi
          · exact hsl i hi
          · cases List.mem_singleton.1 hi; exact hjl
        simp only [List.length_append, List.length_singleton] at h1 ⊢
        omega
      · have e1 : putE (seen.filterMap fun j => l'[j]?) e.1 e.2 = (seen ++ [j]).filterMap fun j => l'[j]? := by
          unfold putE
          rw [seen_get hnd' he hjs hsl]
          rw [List.filterMap_append]
          simp [he]
        rw [set_app hdl2, e1, List.set_set]
  · refine W.seq (W.region ?_)
    refine WO.op rfl rfl ?_
    refine WO.op (v := .ptr H.length 0) (H1 := H ++ [.niter]) rfl rfl (WO.nil (W.block ?_))
    refine W.fits (F' := fr [(0, .map d), (7, .ptr H.length 0)]) (fits_fr ⟨rfl, rfl, trivial⟩) ?_
    refine W.loopI (α := Unit) (fun _ => True) (fun _ => 0) (fun _ => fr [(0, .map d), (7, .ptr H.length 0)]) (fun _ => H ++ [.niter]) ?_ () trivial
    rintro _ _
    refine W.seq (W.region (WO.next_nil rfl rfl (app_at rfl) rfl ?_))
    refine WO.op rfl rfl (WO.nil (W.seq (W.cond (b := false) rfl (fun h => by cases h) (fun _ => W.exit ⟨trivial, _, .tup [], rfl, Wk.refl _, rfl, [], .niter, List.Perm.refl _, ?_⟩))))
    rw [show entsF iA [] = [] from rfl, set_same hd]
end
end Go.AM.C

/- Contracts, 10: (*Ledger).books: what it needs. -/
namespace Go.AM.C
open Go.Proofs
noncomputable section
set_option linter.unusedVariables false
set_option linter.unusedSimpArgs false

/-! #### num.Add where the order is drawn -/
def zOf : AVal → Option Int
  | .obj (.zp z) => some z
  | .nilp => some 0
  | _ => none
theorem zOf_is {v : AVal} {z : Int} (h : zOf v = some z) : IsZ v z := by
  unfold zOf at h
  split at h
  · cases h; exact .inl rfl
  · cases h; exact .inr ⟨rfl, rfl⟩
  · cases h
def smallB (z : Int) : Bool := Nat.blt z.natAbs.log2 68719476736
theorem smallB_fit {z : Int} (h : smallB z = true) : FitZ z := fit_of_log (by simpa [smallB, Nat.blt_eq] using h)
theorem smallB_of {z : Int} (h : z.natAbs < 2 ^ 200) : smallB z = true := by
  unfold smallB
  rw [Nat.blt_eq]
  by_cases h0 : z.natAbs = 0
  · rw [h0]; decide
  · have := (Nat.log2_lt h0).2 h
    omega
def addX : Ext := fun args H => match args with
  | [u, v] => match zOf u, zOf v with
    | some x, some y => bif smallB x && smallB y then some (.obj (.zp (x + y)), H) else none
    | _, _ => none
  | _ => none
theorem addX_eq {u v : AVal} {x y : Int} (hu : zOf u = some x) (hv : zOf v = some y) (hx : smallB x = true) (hy : smallB y = true) (H : Heap) : addX [u, v] H = some (.obj (.zp (x + y)), H) := by
  unfold addX
  simp only [hu, hv, hx, hy, Bool.and_self, cond_true]
theorem addX_ok (S : Sg) (hg : S.glob = S0.glob) (hp : S.pin = S0.pin) : ExtAt Tryz.prog S 87 addX := by
  intro args H v H' hx
  unfold addX at hx
  split at hx
  · split at hx
    · rename_i x y hu hv
      cases hb : smallB x && smallB y with
      | false => rw [hb] at hx; cases hx
      | true =>
        rw [hb] at hx
        cases hx
        rw [Bool.and_eq_true] at hb
        exact DoesC.glob hg hp (addz (zOf_is hu) (zOf_is hv) (smallB_fit hb.1) (smallB_fit hb.2) H)
    · cases hx
  · cases hx
theorem addX_quiet : true = true → ∀ args H v H', addX args H = some (v, H') → H' = H := by
  intro _ args H v H' hx
  unfold addX at hx
  split at hx
  · split at hx
    · rename_i x y hu hv
      cases hb : smallB x && smallB y with
      | false => rw [hb] at hx; cases hx
      | true => rw [hb] at hx; cases hx; rfl
    · cases hx
  · cases hx
abbrev addE : Ent := ⟨87, addX, true, addX_quiet⟩
abbrev SA : Sg := mk [addE]
theorem sA : Sound Tryz.prog SA := mk_sound ⟨addX_ok _ rfl rfl, trivial⟩

/-! #### postings -/
/-- Places before are as they were. -/
def Ext.Keeps (H H' : Heap) : Prop := ∀ id, id < H.length → H'[id]? = H[id]?
structure SlP (H : Heap) (v : AVal) (l : Posts) : Prop where
  len : ∀ H', Ext.Keeps H H' → denLen H' S0 159 v = some (.int .i64 (l.length : Int))
  at_ : ∀ (j : Nat) (p : List UInt8 × Int), l[j]? = some p → ∃ a row off, elemAddr S0 159 v (j : Int) = some a ∧ (∀ H', Ext.Keeps H H' → rowAt H' a = some (row, off)) ∧ row[off]? = some (.str p.1) ∧ row[off + 1]? = some (iA p.2)

section
variable {S : Sg} {call : Calling} {d : Bool} {g : Operand → AVal} {H : Heap} {x y : Operand} {t : TypeId} {ti : TI}
theorem take2 {l : List AVal} {off : Nat} {a b : AVal} (h1 : l[off]? = some a) (h2 : l[off + 1]? = some b) : (l.drop off).take 2 = [a, b] := by
  have e1 := (List.getElem?_eq_some_iff.1 h1)
  have e2 := (List.getElem?_eq_some_iff.1 h2)
  rw [List.drop_eq_getElem_cons e1.1, List.drop_eq_getElem_cons e2.1, e1.2, e2.2]
  rfl
theorem G.load_agg2 {p : AVal} {row : List AVal} {off : Nat} {a b : AVal} (hx : g x = p) (ht : S.ty t = some ti) (hg : ti.agg = true) (hs : ti.size = 2) (hr : rowAt H p = some (row, off)) (h1 : row[off]? = some a) (h2 : row[off + 1]? = some b) : denG S call d g H (.load t x) = some (.agg [a, b], H) := by
  have hl : off + 2 ≤ row.length := by have := (List.getElem?_eq_some_iff.1 h2).1; omega
  simp only [denG, ht, hx, hr, getVar, hg, hs, if_true, if_pos hl, take2 h1 h2]
  rfl
theorem G.store_last {B : Heap} {vs cs : List AVal} {ty : TypeId} {id : Nat} (hH : H = B ++ [.cells vs ty]) (hi : id = B.length) (hx : g x = .ptr id 0) (hy : g y = .agg cs) (ht : S.ty t = some ti) (hs : ti.size = cs.length) (hl : vs.length = cs.length) (hc : cs.all AVal.cell = true) :
    denG S call d g H (.store t x y) = some (undefA, B ++ [.cells cs ty]) := by
  subst hH; subst hi
  have hco : cellsOf (.agg cs) = some cs := rfl
  simp only [denG, ht, hx, hy, hco, app_at rfl]
  rw [if_pos ⟨hs.symm, by omega, hc⟩, app_set rfl]
  have : setRange vs 0 cs = cs := by
    unfold setRange
    rw [List.take_zero, List.nil_append, List.drop_eq_nil_of_le (by omega), List.append_nil]
  rw [this]
theorem G.range_map {id : Nat} {es : List (AVal × AVal)} {kt et : TypeId} (hx : g x = .map id) (ht : S.ty t = some ti) (hd : ti.desc = .map kt et) (hH : H[id]? = some (.map es)) : denG S call d g H (.range t x) = some (.ptr H.length 0, H ++ [.miter id es.length []]) := by
  obtain ⟨d1, d2, d3, d4, d5, d6, d7, d8⟩ := ti
  simp only at hd
  subst hd
  simp only [denG, denRange, ht, hx, hH]
end

/-! #### the heap of the first loop -/
def zO : Option Int → AVal
  | some z => .obj (.zp z)
  | none => .nilp
theorem zO_of (o : Option Int) : zOf (zO o) = some (o.getD 0) := by cases o <;> rfl
theorem zO_is (o : Option Int) : IsZ (zO o) (o.getD 0) := zOf_is (zO_of o)
def boxP (p : List UInt8 × Int) : AObj := .cells [.str p.1, iA p.2] 148
def bkH (undo : Bool) (H : Heap) (l : Posts) : Heap := H ++ .map (entsF zO (sumsOf undo l)) :: l.map boxP
theorem bk_at (undo : Bool) (H : Heap) (l : Posts) : (bkH undo H l)[H.length]? = some (.map (entsF zO (sumsOf undo l))) := by simp [bkH]
theorem bk_lt (undo : Bool) (H : Heap) (l : Posts) : Ext.Keeps H (bkH undo H l) := fun id h => List.getElem?_append_left h
theorem bk_len (undo : Bool) (H : Heap) (l : Posts) : (bkH undo H l).length = H.length + 1 + l.length := by simp [bkH]; omega
theorem bk_step (undo : Bool) (H : Heap) (l : Posts) (p : List UInt8 × Int) : (bkH undo H l ++ [boxP p]).set H.length (.map (entsF zO (sumStep undo (sumsOf undo l) p))) = bkH undo H (l ++ [p]) := by
  unfold bkH sumsOf
  rw [List.append_assoc, List.set_append, if_neg (by omega), Nat.sub_self, List.foldl_append]
  simp
theorem Keeps.trans {H H1 H2 : Heap} (h : Ext.Keeps H H1) (k : Ext.Keeps H1 H2) (hl : H.length ≤ H1.length) : Ext.Keeps H H2 := fun id hi => (k id (by omega)).trans (h id hi)
theorem Keeps.app (H X : Heap) : Ext.Keeps H (H ++ X) := fun id h => List.getElem?_append_left h

/-! #### sums booked -/
theorem bookE_append (l : Posts) (s : Sums) (e : List UInt8 × Option Int) : bookE l (s ++ [e]) = putE (bookE l s) e.1 (look 0 (bookE l s) e.1 + e.2.getD 0) := by
  unfold bookE; rw [List.foldl_append]; rfl
theorem bookE_nodup : ∀ (s : Sums) (l : Posts), (l.map (·.1)).Nodup → ((bookE l s).map (·.1)).Nodup
  | [], l, h => h
  | e :: s, l, h => bookE_nodup s _ (put_nodup h)
theorem bookE_get : ∀ (s : Sums) (l : Posts) (k : List UInt8), (s.map (·.1)).Nodup → getE (bookE l s) k = match getE s k with
    | some v => some (look 0 l k + v.getD 0)
    | none => getE l k
  | [], l, k, _ => rfl
  | e :: s, l, k, h => by
    rw [List.map_cons, List.nodup_cons] at h
    show getE (bookE (putE l e.1 (look 0 l e.1 + e.2.getD 0)) s) k = _
    rw [bookE_get s _ k h.2]
    by_cases hk : k = e.1
    · subst hk
      have hn : getE s e.1 = none := getE_none.2 h.1
      have he : getE (e :: s) e.1 = some e.2 := by
        obtain ⟨a, b⟩ := e
        simp [getE, keyIdx]
      rw [hn, he]
      exact getE_put_self
    · have he : getE (e :: s) k = getE s k := by
        obtain ⟨a, b⟩ := e
        have hk' : ¬ k = a := hk
        unfold getE
        simp only [keyIdx, hk', if_false]
        cases keyIdx k s <;> simp
      rw [he]
      cases getE s k with
      | none => exact getE_put_ne hk
      | some v => simp only; unfold look; rw [getE_put_ne hk]

theorem bookE_perm {l l' : Posts} {s s' : Sums} (hl : l'.Perm l) (hs : s'.Perm s) (nl : (l.map (·.1)).Nodup) (ns : (s.map (·.1)).Nodup) : (bookE l' s').Perm (bookE l s) := by
  have nl' : (l'.map (·.1)).Nodup := (hl.map (·.1)).nodup_iff.2 nl
  have ns' : (s'.map (·.1)).Nodup := (hs.map (·.1)).nodup_iff.2 ns
  refine perm_of_getE (bookE_nodup _ _ nl') (bookE_nodup _ _ nl) fun k => ?_
  rw [bookE_get _ _ _ ns', bookE_get _ _ _ ns, perm_getE hs ns' k, perm_getE hl nl' k]
  unfold look
  rw [perm_getE hl nl' k]

theorem Wk.imapA {l l' : List (List UInt8 × Int)} (h : l.Perm l') : Wk (imapA l) (imapA l') := by
  intro c w v hv
  unfold C.imapA at hv ⊢
  cases hv with
  | imap _ _ _ ks' vs' b mes clk k1 k2 k3 k4 k5 k6 k7 k8 k9 =>
    refine .imap _ _ _ ks' vs' b mes clk k1 k2 k3 k4 k5 k6 (k7.trans ?_) k8 k9
    · rw [show (l.map fun e => AVal.str e.1).zip (l.map fun e => iA e.2) = l.map fun e => (AVal.str e.1, iA e.2) from entsF_zip iA l, show (l'.map fun e => AVal.str e.1).zip (l'.map fun e => iA e.2) = l'.map fun e => (AVal.str e.1, iA e.2) from entsF_zip iA l']
      exact h.map _

theorem seals_map {N : Nat} {H : Heap} {id : Nat} {l l' : List (List UInt8 × Int)} (hN : N ≤ id) (hH : H[id]? = some (.map (entsF iA l))) (h : l.Perm l') : SealsN N H (.map id) (imapA l') := by
  refine SealsN.wk' _ (imapA l) _ ?_ (Wk.imapA h)
  have := SealsN.map (N := N) id _ hN hH (fun e he => by
    obtain ⟨a, _, rfl⟩ := List.mem_map.1 he
    exact ⟨rfl, rfl⟩)
  simpa [entsF, imapA, Function.comp_def] using this
end
end Go.AM.C

/- Contracts, 11: (*Ledger).books. -/
namespace Go.AM.C
open Go.Proofs
noncomputable section
set_option linter.unusedVariables false
set_option linter.unusedSimpArgs false

def allSmall (undo : Bool) (m l : Posts) : Bool := (sumsOf undo l).all fun e => small64 (look 0 m e.1 + e.2.getD 0)
/-- Which error a booking has; 0 is none. -/
def bookCode (undo : Bool) (m l : Posts) : Nat :=
  if (l.all fun p => nameOk p.1) = true then (if total undo l = 0 then (if allSmall undo m l = true then 0 else 11) else 2) else 1
def i64 (z : Int) : Prop := -9223372036854775808 ≤ z ∧ z < 9223372036854775808

theorem look_bound {m : Posts} (h : ∀ e ∈ m, i64 e.2) (k : List UInt8) : i64 (look 0 m k) := by
  unfold look
  cases hg : getE m k with
  | none => exact ⟨by decide, by decide⟩
  | some v => exact h _ (mem_of_getE hg)

theorem small_of_nat {z : Int} {n : Nat} (h : z.natAbs ≤ n * 9223372036854775808) (hn : n < 4611686018427387904) : z.natAbs < 2 ^ 200 := by
  have : n * 9223372036854775808 ≤ 4611686018427387904 * 9223372036854775808 := Nat.mul_le_mul_right _ (by omega)
  omega

theorem names_head {l : Posts} {k : Nat} {p : List UInt8 × Int} (h : l[k]? = some p) (hb : nameOk p.1 = false) : (l.all fun p => nameOk p.1) = false := by
  rw [Bool.eq_false_iff]
  intro h2
  have := List.all_eq_true.1 h2 p (List.mem_of_getElem? h)
  rw [hb] at this
  cases this

theorem sg_i64 {undo : Bool} {a : Int} (h : i64 a) : (sg undo a).natAbs < 2 ^ 200 := by
  unfold i64 at h
  unfold sg
  cases undo <;> simp only [cond_true, cond_false] <;> omega

theorem addA {u v : AVal} {x y : Int} (hu : zOf u = some x) (hv : zOf v = some y) (hx : smallB x = true) (hy : smallB y = true) (H : Heap) : callS SA 87 [u, v] H = some (.obj (.zp (x + y)), H) :=
  (show callS SA 87 [u, v] H = addX [u, v] H from rfl).trans (addX_eq hu hv hx hy H)

theorem seen_get' {α : Type} {l : List (List UInt8 × α)} {seen : List Nat} {j : Nat} {e : List UInt8 × α} (hnd : (l.map (·.1)).Nodup) (hj : l[j]? = some e) (hs : j ∉ seen) (hlt : ∀ i ∈ seen, i < l.length) : getE (seen.filterMap fun j => l[j]?) e.1 = none := by
  rw [getE_none]
  intro hm
  obtain ⟨e', he', hk⟩ := List.mem_map.1 hm
  obtain ⟨i, hi, hie⟩ := List.mem_filterMap.1 he'
  have hil := hlt i hi
  have h1 : (l.map (·.1))[i]? = some e.1 := by rw [List.getElem?_map, hie]; simp [hk]
  have h2 : (l.map (·.1))[j]? = some e.1 := by rw [List.getElem?_map, hj]; rfl
  have := (List.getElem?_inj (by simpa using hil) hnd).1 (h1.trans h2.symm)
  subst this
  exact hs hi
theorem sel_nodup {α : Type} {l : List (List UInt8 × α)} (hnd : (l.map (·.1)).Nodup) : ∀ {seen : List Nat}, seen.Nodup → (∀ j ∈ seen, j < l.length) → ((seen.filterMap fun j => l[j]?).map (·.1)).Nodup
  | [], _, _ => List.nodup_nil
  | j :: seen, hs, hlt => by
    rw [List.nodup_cons] at hs
    obtain ⟨e, he⟩ : ∃ e, l[j]? = some e := ⟨_, List.getElem?_eq_getElem (hlt j (by simp))⟩
    rw [List.filterMap_cons_some he, List.map_cons, List.nodup_cons]
    exact ⟨getE_none.1 (seen_get' hnd he hs.1 fun i hi => hlt i (by simp [hi])), sel_nodup hnd hs.2 fun i hi => hlt i (by simp [hi])⟩

theorem tInt : S0.ty 3 = some ti3 := rfl
theorem tP : S0.ty 159 = some ti159 := rfl
theorem tp : S0.ty 148 = some ti148 := rfl
theorem tN : S0.ty 253 = some ti253 := rfl
theorem tz : S0.ty 56 = some ti56 := rfl

set_option maxRecDepth 100000 in
theorem books (undo : Bool) (m l : Posts) (src ps : AVal) (H : Heap) (L off : Nat) (vs0 : List AVal) (ty0 : TypeId) (cnt : Int) (hL : H[L]? = some (.cells vs0 ty0)) (hm : vs0[off]? = some src) (hsrc : IsM src m) (hn : vs0[off + 1]? = some (iA cnt))
    (hnd : (m.map (·.1)).Nodup) (hmb : ∀ e ∈ m, i64 e.2) (hcnt : i64 cnt ∧ i64 (cnt + 1)) (hps : SlP H ps l) (hlb : ∀ p ∈ l, i64 p.2 ∧ p.1.length < 4611686018427387904) (hll : l.length < 4611686018427387904) :
    Has 145 [.ptr L off, ps, .bool undo] H (errA (bookCode undo m l)) (H.set L (.cells (if bookCode undo m l = 0 then (vs0.set off (imapA (bookE m (sumsOf undo l)))).set (off + 1) (iA (cnt + 1)) else vs0) ty0)) := by
  have hLlt : L < H.length := (List.getElem?_eq_some_iff.1 hL).1
  refine Has.of (l := [addE]) ?_
  generalize hC : bookCode undo m l = C
  refine does_mut sA (show SA.fn 145 = some Tryz.f145 by kernel_rfl) rfl (by kernel_rfl) (Nat.le_of_ble_eq_true rfl) (L := L) (offL := off) (by simp) hL (errA_closed C) ?_
  -- an error leaves all as it was
  have out : ∀ (k : Nat) (F' : Fr) (H1 : Heap), k = C → k ≠ 0 → resF SA [.tmp 6] F' H1 = some (errA k) → Ext.Keeps H H1 → ends Ex.ret ∧ ∃ u vs1 ty1, resF SA [.tmp 6] F' H1 = some u ∧ SealsN H.length H1 u (errA C) ∧ H1[L]? = some (.cells vs1 ty1) ∧
      (if C = 0 then (vs0.set off (imapA (bookE m (sumsOf undo l)))).set (off + 1) (iA (cnt + 1)) else vs0).length = vs1.length ∧
      (∀ (j : Nat) (a b : AVal), vs1[j]? = some a → (if C = 0 then (vs0.set off (imapA (bookE m (sumsOf undo l)))).set (off + 1) (iA (cnt + 1)) else vs0)[j]? = some b → (a = b ∧ vs0[j]? = some a) ∨ (SealsN H.length H1 a b ∧ b.closed = true)) ∧ (∀ id, id < H.length → id ≠ L → H1[id]? = H[id]?) := by
    intro k F' H1 hk h0 hr hK
    subst hk
    refine ⟨trivial, _, vs0, ty0, hr, SealsN.same _ (errA_closed k), (hK L hLlt).trans hL, by rw [if_neg h0], fun j a b ha hb => ?_, fun id hid _ => hK id hid⟩
    rw [if_neg h0] at hb
    exact .inl ⟨Option.some.inj (ha.symm.trans hb), ha⟩
  refine W.seq (W.region ?_)
  refine WO.op rfl rfl (WO.nil (W.seq (W.seq (W.region ?_))))
  refine WO.op rfl rfl ?_
  refine WO.op rfl rfl (WO.nil (W.cond (b := false) rfl (fun h => by cases h) (fun _ => W.skip (W.seq (W.region ?_)))))
  -- num.Of(0), the sums
  refine WO.call rfl (ofz 0 (by decide) _).at rfl ?_
  refine WO.op rfl rfl ?_
  refine WO.op rfl rfl ?_
  refine WO.op rfl rfl (WO.nil (W.seq (W.seq (W.region ?_))))
  refine WO.op rfl rfl ?_
  refine WO.op (v := .int .i64 (l.length : Int)) (H1 := H ++ [.map []]) (by
    show withH _ (denLen _ S0 _ ps) = _
    rw [hps.len _ (Keeps.app H _)]; rfl) rfl ?_
  refine WO.op rfl rfl (WO.nil (W.block ?_))
  refine W.heq (H' := bkH undo H (l.take 0)) (by simp [bkH, sumsOf, entsF]) ?_
  refine W.fits (F' := fr [(0, .ptr L off), (1, ps), (2, .bool undo), (22, ps), (23, .int .i64 (l.length : Int)), (24, iA ((0 : Nat) : Int)), (7, .obj (.zp (total undo (l.take 0)))), (8, .map H.length)]) (fits_fr ⟨rfl, rfl, rfl, rfl, rfl, rfl, rfl, rfl, trivial⟩) ?_
  refine W.loopI (fun j : Nat => j ≤ l.length ∧ ((l.take j).all fun p => nameOk p.1) = true) (fun j => l.length - j) (fun j => fr [(0, .ptr L off), (1, ps), (2, .bool undo), (22, ps), (23, .int .i64 (l.length : Int)), (24, iA (j : Int)), (7, .obj (.zp (total undo (l.take j)))), (8, .map H.length)]) (fun j => bkH undo H (l.take j)) ?_ 0 ⟨Nat.zero_le _, rfl⟩
  rintro j ⟨hj, hnames⟩
  refine W.seq (W.region ?_)
  by_cases hlt : j < l.length
  · obtain ⟨p, hp⟩ : ∃ p, l[j]? = some p := ⟨_, List.getElem?_eq_getElem hlt⟩
    obtain ⟨hpb, hpl⟩ := hlb p (List.mem_of_getElem? hp)
    obtain ⟨a, row, offr, ha1, ha2, ha3, ha4⟩ := hps.at_ j p hp
    refine WO.as (v' := .bool true) rfl rfl (bdT (by omega)) (WO.nil (W.seq (W.cond (b := true) rfl (fun _ => W.skip ?_) (fun h => by cases h))))
    have hblen := bk_len undo H (l.take j)
    have hbk := bk_lt undo H (l.take j)
    have hbat := bk_at undo H (l.take j)
    have hsteq := bk_step undo H (l.take j) p
    have htk : l.take j ++ [p] = l.take (j + 1) := by rw [List.take_add_one, hp]; rfl
    have htot : total undo (l.take (j + 1)) = total undo (l.take j) + sg undo p.2 := foldl_take (fun (s : Int) (p : List UInt8 × Int) => s + sg undo p.2) 0 hp
    have hsb := sums_bound undo (l.take j) (fun p hp => (hlb p (List.mem_of_mem_take hp)).1)
    have htb := total_bound undo (l.take j) (fun p hp => (hlb p (List.mem_of_mem_take hp)).1)
    have hjl : (l.take j).length = j := by simp; omega
    rw [hjl] at hsb htb
    rw [htk] at hsteq
    generalize hB : bkH undo H (l.take j) = B at hblen hbk hbat hsteq
    generalize total undo (l.take j) = tot at htot htb
    generalize sumsOf undo (l.take j) = sums at hbat hsteq hsb
    refine W.seq (W.block (W.seq (W.region ?_)))
    -- the posting
    refine WO.op (v := a) (H1 := B) (by
      show withH _ (elemAddr SA _ ps (j : Int)) = _
      exact congrArg (withH B) ha1) rfl ?_
    refine WO.op (G.load_agg2 rfl tp rfl rfl (ha2 B hbk) ha3 ha4) rfl ?_
    refine WO.op (v := .ptr B.length 0) (H1 := B ++ [.cells [.str [], iA 0] 148]) rfl rfl ?_
    refine WO.op (G.store_last (B := B) rfl rfl rfl rfl tp rfl rfl rfl) rfl ?_
    refine WO.nil (W.seq (W.seq (W.region ?_)))
    refine WO.op rfl rfl ?_
    refine WO.op (G.load_ptr rfl tS rfl (app_at rfl) rfl) rfl ?_
    refine WO.call rfl (name_ok p.1 hpl _).at rfl ?_
    refine WO.op rfl rfl (WO.nil (W.cond rfl (fun hb => ?_) (fun hb => ?_)))
    · -- a name that is none
      have hbad : nameOk p.1 = false := by simpa using hb
      refine W.seq (W.region ?_)
      refine WO.call rfl (faultOf 1 (by decide) _).at rfl ?_
      refine WO.op rfl rfl (WO.nil (W.ret (out 1 _ _ ?_ (by decide) rfl (Keeps.trans hbk (Keeps.app _ _) (by omega)))))
      rw [← hC]
      unfold bookCode
      rw [if_neg (by rw [names_head hp hbad]; decide)]
    · have hok : nameOk p.1 = true := by simpa using hb
      refine W.skip (W.seq (W.region ?_))
      refine WO.op rfl rfl ?_
      refine WO.op (G.load_ptr rfl tI rfl (app_at rfl) rfl) rfl ?_
      refine WO.call rfl (ofz p.2 hpb _).at rfl ?_
      refine WO.op rfl rfl (WO.nil ?_)
      -- its sign
      refine W.mid (H1 := B ++ [boxP p]) [(0, .ptr L off), (1, ps), (2, .bool undo), (22, ps), (23, .int .i64 (l.length : Int)), (24, iA (j : Int)), (7, .obj (.zp tot)), (8, .map H.length), (10, .ptr B.length 0), (11, .obj (.zp (sg undo p.2)))] (W.seq (W.region ?_)) ?_
      · refine WO.op rfl rfl (WO.nil (W.cond rfl (fun hu => ?_) (fun hu => ?_)))
        · subst hu
          refine W.region ?_
          refine WO.op rfl rfl ?_
          refine WO.call rfl (negz (IsZ.mk _) _).at rfl ?_
          exact WO.op rfl rfl (WO.nil ⟨rfl, ⟨rfl, rfl, rfl, rfl, rfl, rfl, rfl, rfl, rfl, rfl, trivial⟩, rfl⟩)
        · subst hu
          exact W.skip ⟨rfl, ⟨rfl, rfl, rfl, rfl, rfl, rfl, rfl, rfl, rfl, rfl, trivial⟩, rfl⟩
      have st : smallB tot = true := smallB_of (small_of_nat htb (by omega))
      have sp : smallB (sg undo p.2) = true := smallB_of (sg_i64 hpb)
      have sl : smallB ((look none sums p.1).getD 0) = true := by
        unfold look
        cases hg : getE sums p.1 with
        | none => rfl
        | some o =>
          obtain ⟨z, hz, hzb⟩ := hsb _ (mem_of_getE hg)
          simp only at hz
          subst hz
          exact smallB_of (small_of_nat hzb (by omega))
      have hat2 : (B ++ [boxP p])[H.length]? = some (.map (entsF zO sums)) := by rw [app_lt (by omega)]; exact hbat
      have hdl : H.length < (B ++ [boxP p]).length := by simp; omega
      refine W.draw0 rfl (by kernel_rfl) ?_
      refine WT.op rfl rfl rfl ?_
      refine WT.op rfl rfl rfl ?_
      refine WT.op (G.load_ptr rfl tS rfl (app_at rfl) rfl) rfl rfl ?_
      refine WT.op rfl rfl rfl ?_
      refine WT.op rfl rfl rfl ?_
      refine WT.op (v := .obj (.zp (tot + sg undo p.2))) (H1 := B ++ [boxP p]) ((denG_call (f := 87) (args := [.obj (.zp tot), .obj (.zp (sg undo p.2))]) rfl).trans (addA (u := .obj (.zp tot)) (v := .obj (.zp (sg undo p.2))) rfl rfl st sp _)) rfl rfl ?_
      refine WT.op rfl rfl rfl ?_
      refine WT.op rfl rfl rfl ?_
      refine WT.op (G.load_ptr rfl tS rfl (app_at rfl) rfl) rfl rfl ?_
      refine WT.op (v := zO (look none sums p.1)) (H1 := B ++ [boxP p]) (congrArg (withH _) (lookup_ents (f := zO) (z := none) tN rfl tS rfl tz rfl hat2)) rfl rfl ?_
      refine WT.op rfl rfl rfl ?_
      refine WT.op (v := .obj (.zp ((look none sums p.1).getD 0 + sg undo p.2))) (H1 := B ++ [boxP p]) ((denG_call (f := 87) (args := [zO (look none sums p.1), .obj (.zp (sg undo p.2))]) rfl).trans (addA (v := .obj (.zp (sg undo p.2))) (zO_of _) rfl sl sp _)) rfl rfl ?_
      refine WT.op rfl rfl rfl ?_
      have hme := mapEntry_ents (f := zO) (z := none) (S := SA) (k := p.1) tN rfl tS rfl tz rfl hat2
      have fin : ∀ (F' : Fr) (H' : Heap), F' = F' → True := fun _ _ _ => trivial
      cases hq : keyIdx p.1 sums with
      | some i =>
        rw [hq] at hme
        simp only at hme
        have hge : (putE sums p.1 ((getE sums p.1).getD none))[i]? = some (p.1, (getE sums p.1).getD none) := by
          obtain ⟨e, he, _⟩ := keyIdx_some hq
          unfold putE
          rw [hq]
          exact List.getElem?_set_self (List.getElem?_eq_some_iff.1 he).1
        have hse := entryStore_ents (f := zO) (k := .i64) (v := some ((look none sums p.1).getD 0 + sg undo p.2)) (List.getElem?_set_self hdl) hge
        simp only [put_found hq, List.set_set] at hse
        refine WT.op hme rfl rfl ?_
        refine WT.op rfl rfl rfl ?_
        refine WT.op (v := undefA) (by
          show (match denEntryStore _ (.map H.length) (iA (i : Int)) (.obj (.zp ((look none sums p.1).getD 0 + sg undo p.2))) with | some H' => some (undefA, H') | none => none) = _
          exact congrArg (fun r => match r with | some H' => some (undefA, H') | none => none) hse) rfl rfl (WT.nil (W.region ?_))
        refine WO.as (v' := .int .i64 ((j + 1 : Nat) : Int)) rfl rfl (int_i64 (by omega) (by omega)) ?_
        refine WO.op rfl rfl (WO.nil ⟨j + 1, ⟨by omega, ?_⟩, by omega, fits_fr ⟨rfl, rfl, rfl, rfl, rfl, rfl, ?_, rfl, trivial⟩, hsteq⟩)
        · rw [← htk, List.all_append, hnames]; simp [hok]
        · rw [htot]; rfl
      | none =>
        rw [hq] at hme
        simp only at hme
        have hge : (sums ++ [(p.1, (none : Option Int))])[sums.length]? = some (p.1, none) := by simp
        have hse := entryStore_ents (f := zO) (k := .i64) (v := some ((look none sums p.1).getD 0 + sg undo p.2)) (List.getElem?_set_self hdl) hge
        simp only [put_new hq, List.set_set] at hse
        refine WT.op hme rfl rfl ?_
        refine WT.op rfl rfl rfl ?_
        refine WT.op (v := undefA) (by
          show (match denEntryStore _ (.map H.length) (iA (sums.length : Int)) (.obj (.zp ((look none sums p.1).getD 0 + sg undo p.2))) with | some H' => some (undefA, H') | none => none) = _
          exact congrArg (fun r => match r with | some H' => some (undefA, H') | none => none) hse) rfl rfl (WT.nil (W.region ?_))
        refine WO.as (v' := .int .i64 ((j + 1 : Nat) : Int)) rfl rfl (int_i64 (by omega) (by omega)) ?_
        refine WO.op rfl rfl (WO.nil ⟨j + 1, ⟨by omega, ?_⟩, by omega, fits_fr ⟨rfl, rfl, rfl, rfl, rfl, rfl, ?_, rfl, trivial⟩, hsteq⟩)
        · rw [← htk, List.all_append, hnames]; simp [hok]
        · rw [htot]; rfl
  · -- all are told
    have hje : j = l.length := by omega
    subst hje
    rw [List.take_length] at hnames ⊢
    have hblen := bk_len undo H l
    have hbk := bk_lt undo H l
    have hbat := bk_at undo H l
    have hsb := sums_bound undo l (fun p hp => (hlb p hp).1)
    have hsn := sums_nodup undo l
    generalize hB : bkH undo H l = B at hblen hbk hbat
    have hkB : ∀ X, Ext.Keeps H (B ++ X) := fun X => Keeps.trans hbk (Keeps.app _ _) (by omega)
    refine WO.as (v' := .bool false) rfl rfl (bdF (by omega)) (WO.nil (W.seq (W.cond (b := false) rfl (fun h => by cases h) (fun _ => W.exit ?_))))
    refine W.seq (W.seq (W.region ?_))
    refine WO.op rfl rfl ?_
    refine WO.call rfl (signz (IsZ.mk (total undo l)) _).at rfl ?_
    by_cases hto : ¬ total undo l = 0
    · refine WO.as (v' := .bool true) rfl rfl (bnF (by
        intro h
        rcases Int.lt_trichotomy (total undo l) 0 with h1 | h1 | h1
        · rw [Int.sign_eq_neg_one_of_neg h1] at h; cases h
        · exact hto h1
        · rw [Int.sign_eq_one_of_pos h1] at h; cases h)) (WO.nil (W.cond (b := true) rfl (fun _ => ?_) (fun h => by cases h)))
      refine W.seq (W.region ?_)
      refine WO.call rfl (faultOf 2 (by decide) _).at rfl ?_
      refine WO.op rfl rfl (WO.nil (W.ret (out 2 _ _ ?_ (by decide) rfl hbk)))
      rw [← hC]
      unfold bookCode
      rw [if_pos hnames, if_neg hto]
    have htot : total undo l = 0 := Decidable.not_not.1 hto
    refine WO.as (v' := .bool false) rfl rfl (bnT (by rw [htot]; rfl)) (WO.nil (W.cond (b := false) rfl (fun h => by cases h) (fun _ => W.skip ?_)))
    -- the new map
    refine W.seq (W.region ?_)
    refine WO.op rfl rfl ?_
    refine WO.op rfl rfl (WO.nil (W.seq (W.region ?_)))
    have hLB : ∀ X, (B ++ X)[L]? = some (.cells vs0 ty0) := fun X => (hkB X L hLlt).trans hL
    refine WO.op rfl rfl ?_
    refine WO.op rfl rfl ?_
    refine WO.op rfl rfl ?_
    refine WO.op rfl rfl ?_
    refine WO.op (G.load_ptr rfl tM rfl (hLB _) hm) rfl ?_
    refine WO.callR rfl (DoesR.glob rfl rfl (copy_fresh B.length _ (app_at rfl) src m hsrc hnd)) rfl fun v H1 hR => ?_
    obtain ⟨rfl, es, J, hpe, rfl⟩ := hR
    rw [app_set rfl]
    refine WO.nil (W.seq (W.seq (W.region ?_)))
    generalize hsums : sumsOf undo l = sums at hbat hsb hsn
    rw [hsums] at out
    have hHl : H.length < B.length := by omega
    have hmat : ∀ X, (B ++ X)[H.length]? = some (.map (entsF zO sums)) := fun X => by rw [List.getElem?_append_left hHl]; exact hbat
    have hcodeA : allSmall undo m l = sums.all fun e => small64 (look 0 m e.1 + e.2.getD 0) := by rw [← hsums]; rfl
    refine WO.op rfl rfl ?_
    refine WO.op (G.range_map (id := H.length) (es := entsF zO sums) rfl tN rfl (by rw [List.append_assoc]; exact hmat _)) rfl (WO.nil (W.block ?_))
    have hK : (B ++ [AObj.map (entsF iA es)] ++ [J]).length = B.length + 2 := by simp
    generalize (B ++ [AObj.map (entsF iA es)] ++ [J]).length = K at hK
    refine W.fits (F' := fr [(0, .ptr L off), (12, .map B.length), (66, .ptr K 0)]) (fits_fr ⟨rfl, rfl, rfl, trivial⟩) ?_
    refine W.heq (H' := B ++ [.map (entsF iA (bookE es (([] : List Nat).filterMap fun j => sums[j]?))), J] ++ [.miter H.length (entsF zO sums).length []]) (by simp [bookE]) ?_
    refine W.loopI (α := List Nat) (fun seen => seen.Nodup ∧ (∀ j ∈ seen, j < sums.length) ∧ ∀ j ∈ seen, ∀ e, sums[j]? = some e → small64 (look 0 m e.1 + e.2.getD 0) = true) (fun seen => sums.length - seen.length) (fun _ => fr [(0, .ptr L off), (12, .map B.length), (66, .ptr K 0)])
      (fun seen => B ++ [.map (entsF iA (bookE es (seen.filterMap fun j => sums[j]?))), J] ++ [.miter H.length (entsF zO sums).length seen]) ?_ [] ⟨List.nodup_nil, fun j hj => by simp at hj, fun j hj => by simp at hj⟩
    rintro seen ⟨hsd, hsl, hss⟩
    have hnd' : (es.map (·.1)).Nodup := (hpe.map (·.1)).nodup_iff.2 hnd
    have hsel := sel_nodup hsn hsd hsl
    refine W.seq (W.region (WO.next (mid := H.length) (es := entsF zO sums) rfl rfl (app_at (by simp; omega)) (by rw [List.append_assoc]; exact hmat _) rfl rfl (fun hall => ?_) (fun j e he hjs => ?_)))
    · -- done
      rw [entsF_len] at hall
      have hperm := perm_of_all hsd hsl hall
      have hfin : (bookE es (seen.filterMap fun j => sums[j]?)).Perm (bookE m sums) := bookE_perm hpe hperm hnd hsn
      have hC0 : C = 0 := by
        rw [← hC]
        unfold bookCode
        rw [if_pos hnames, if_pos htot, hcodeA, if_pos]
        rw [List.all_eq_true]
        intro e he
        obtain ⟨j, hj, hje⟩ := List.getElem_of_mem he
        exact hss j (hall j hj) e (by rw [List.getElem?_eq_getElem hj, hje])
      subst hC0
      rw [if_pos rfl]
      have hoff : off + 1 < vs0.length := (List.getElem?_eq_some_iff.1 hn).1
      generalize bookE es (seen.filterMap fun j => sums[j]?) = res at hfin
      generalize AObj.miter H.length (entsF zO sums).length seen = I
      have hcur : (B ++ [.map (entsF iA res), J] ++ [I])[L]? = some (.cells vs0 ty0) := by rw [List.append_assoc]; exact hLB _
      have hmapat : (B ++ [.map (entsF iA res), J] ++ [I])[B.length]? = some (.map (entsF iA res)) := by simp
      have hkeep : ∀ id, id < H.length → (B ++ [.map (entsF iA res), J] ++ [I])[id]? = H[id]? := fun id hid => by rw [List.append_assoc]; exact hkB _ id hid
      have hlen : L < (B ++ [.map (entsF iA res), J] ++ [I]).length := (List.getElem?_eq_some_iff.1 hcur).1
      generalize B ++ [.map (entsF iA res), J] ++ [I] = HH at hcur hmapat hkeep hlen
      refine WO.op rfl rfl (WO.nil (W.seq (W.cond (b := false) rfl (fun h => by cases h) (fun _ => W.exit (W.seq (W.region ?_))))))
      refine WO.op rfl rfl ?_
      refine WO.op rfl rfl ?_
      refine WO.op rfl rfl ?_
      refine WO.op rfl rfl ?_
      refine WO.op rfl rfl ?_
      refine WO.op rfl rfl ?_
      refine WO.op (G.load_ptr rfl tInt rfl hcur hn) rfl ?_
      refine WO.as (v' := iA (cnt + 1)) rfl rfl (int_i64 ⟨hcnt.2.1, hcnt.2.2⟩ rfl) ?_
      refine WO.op rfl rfl ?_
      refine WO.op rfl rfl ?_
      refine WO.op (G.store_ptr (off := off) rfl rfl rfl tM rfl hcur (by omega)) rfl ?_
      refine WO.op rfl rfl ?_
      refine WO.op rfl rfl ?_
      refine WO.op (G.store_ptr (off := off + 1) rfl rfl rfl tInt rfl (List.getElem?_set_self hlen) (by simp; omega)) rfl ?_
      refine WO.nil (W.seq (W.region (WO.op rfl rfl (WO.nil (W.ret ⟨trivial, .nili, _, ty0, rfl, SealsN.same _ rfl, by rw [List.set_set]; exact List.getElem?_set_self hlen, by simp, fun j a b ha hb => ?_, fun id hid hne => ?_⟩)))))
      · by_cases h1 : j = off + 1
        · subst h1
          rw [List.getElem?_set_self (by simp; omega)] at ha hb
          cases ha; cases hb
          exact .inr ⟨SealsN.same _ rfl, rfl⟩
        · rw [List.getElem?_set_ne (fun h => h1 h.symm)] at ha hb
          by_cases h2 : j = off
          · subst h2
            rw [List.getElem?_set_self (by omega)] at ha hb
            cases ha; cases hb
            refine .inr ⟨seals_map (l := res) (by omega) ?_ hfin, rfl⟩
            rw [List.set_set, List.getElem?_set_ne (by omega)]
            exact hmapat
          · rw [List.getElem?_set_ne (fun h => h2 h.symm)] at ha hb
            exact .inl ⟨Option.some.inj (ha.symm.trans hb), ha⟩
      · rw [List.set_set, List.getElem?_set_ne (fun h => hne h.symm)]
        exact hkeep id hid
    · -- one account
      have hj : j < sums.length := by have := (List.getElem?_eq_some_iff.1 he).1; rwa [entsF_len] at this
      obtain ⟨⟨k, o⟩, hjo⟩ : ∃ q, sums[j]? = some q := ⟨_, List.getElem?_eq_getElem hj⟩
      rw [entsF_get hjo] at he
      cases he
      have hko : (k, o) ∈ sums := List.mem_of_getElem? hjo
      obtain ⟨z, hz, hzb⟩ := hsb _ hko
      simp only at hz
      subst hz
      rw [app_set (by simp; omega)]
      have hsg := seen_get' hsn hjo hjs hsl
      have happ : (seen ++ [j]).filterMap (fun j => sums[j]?) = (seen.filterMap fun j => sums[j]?) ++ [(k, some z)] := by rw [List.filterMap_append]; simp [hjo]
      have hlk : look 0 (bookE es (seen.filterMap fun j => sums[j]?)) k = look 0 m k := by
        unfold look
        rw [bookE_get _ _ _ hsel, hsg, perm_getE hpe hnd' k]
      have hbn := bookE_append es (seen.filterMap fun j => sums[j]?) (k, some z)
      rw [← happ] at hbn
      simp only [Option.getD_some, hlk] at hbn
      generalize hcur : bookE es (seen.filterMap fun j => sums[j]?) = cur at hlk hbn
      have hlb2 := look_bound hmb k
      have hfx : FitZ (look 0 m k) := smallB_fit (smallB_of (by unfold i64 at hlb2; omega))
      have hfz : FitZ z := smallB_fit (smallB_of (small_of_nat hzb (by omega)))
      have hcat : ∀ X, (B ++ [.map (entsF iA cur), J] ++ X)[B.length]? = some (.map (entsF iA cur)) := fun X => by simp
      refine WO.op rfl rfl (WO.nil (W.seq (W.cond (b := true) rfl (fun _ => W.skip ?_) (fun h => by cases h))))
      refine W.block (W.seq (W.region (WO.entry (mid := H.length) (es := entsF zO sums) rfl rfl (app_at (by simp; omega)) (by rw [List.append_assoc]; exact hmat _) rfl (entsF_get hjo) rfl ?_)))
      refine WO.op rfl rfl ?_
      refine WO.op rfl rfl ?_
      refine WO.op rfl rfl ?_
      refine WO.op rfl rfl (WO.nil (W.seq (W.region ?_)))
      refine WO.op rfl rfl ?_
      refine WO.op rfl rfl ?_
      refine WO.op (v := iA (look 0 m k)) (by
        refine (congrArg (withH _) (lookup_ents (f := iA) (z := 0) (k := k) tM rfl tS rfl tI rfl (hcat _))).trans ?_
        have : (getE cur k).getD 0 = look 0 m k := hlk
        rw [this]; rfl) rfl ?_
      refine WO.call rfl (ofz (look 0 m k) hlb2 _).at rfl ?_
      refine WO.op rfl rfl ?_
      refine WO.call rfl (addz (IsZ.mk (look 0 m k)) (zO_is (some z)) hfx hfz _).at rfl ?_
      have hsm := smallz (IsZ.mk (look 0 m k + z)) (B ++ [.map (entsF iA cur), J] ++ [.miter H.length (entsF zO sums).length (seen ++ [j])])
      cases hs64 : small64 (look 0 m k + z) with
      | false =>
        have e2 : smallA (look 0 m k + z) = .tup [iA 0, .bool false] := by unfold smallA; rw [hs64]; rfl
        rw [e2] at hsm
        refine WO.call rfl hsm.at rfl ?_
        refine WO.op rfl rfl ?_
        refine WO.op rfl rfl ?_
        refine WO.op rfl rfl ?_
        refine WO.op rfl rfl ?_
        refine WO.op rfl rfl (WO.nil (W.seq (W.seq (W.region ?_))))
        refine WO.op rfl rfl ?_
        refine WO.op rfl rfl (WO.nil (W.cond (b := true) rfl (fun _ => W.seq (W.region ?_)) (fun h => by cases h)))
        refine WO.call rfl (faultOf 11 (by decide) _).at rfl ?_
        refine WO.op rfl rfl (WO.nil (W.ret (out 11 _ _ ?_ (by decide) rfl (by rw [List.append_assoc]; exact hkB _))))
        rw [← hC]
        unfold bookCode
        rw [if_pos hnames, if_pos htot, hcodeA, if_neg]
        intro h
        have := List.all_eq_true.1 h _ hko
        simp only [Option.getD_some, hs64] at this
        cases this
      | true =>
        have e2 : smallA (look 0 m k + z) = .tup [iA (look 0 m k + z), .bool true] := by unfold smallA; rw [hs64]; rfl
        rw [e2] at hsm
        refine WO.call rfl hsm.at rfl ?_
        refine WO.op rfl rfl ?_
        refine WO.op rfl rfl ?_
        refine WO.op rfl rfl ?_
        refine WO.op rfl rfl ?_
        refine WO.op rfl rfl (WO.nil (W.seq (W.seq (W.region ?_))))
        refine WO.op rfl rfl ?_
        refine WO.op rfl rfl (WO.nil (W.cond (b := false) rfl (fun h => by cases h) (fun _ => W.skip (W.region ?_))))
        refine WO.op rfl rfl ?_
        refine WO.op rfl rfl ?_
        refine WO.op rfl rfl ?_
        have hmu := mapUpdate_ents (S := SA) (f := iA) (k := k) (v := look 0 m k + z) tM rfl tS rfl (hcat [.miter H.length (entsF zO sums).length (seen ++ [j])])
        refine WO.op (v := undefA) (by show (match denMapUpdate SA _ 195 (.map B.length) (.str k) (iA (look 0 m k + z)) with | some H' => some (undefA, H') | none => none) = _; rw [hmu]) rfl (WO.nil ⟨seen ++ [j], ⟨?_, ?_, ?_⟩, ?_, fits_fr ⟨rfl, rfl, rfl, trivial⟩, ?_⟩)
        · rw [List.nodup_append]
          exact ⟨hsd, by simp, fun a ha b hb => by cases List.mem_singleton.1 hb; intro hab; subst hab; exact hjs ha⟩
        · intro i hi
          rcases List.mem_append.1 hi with hi | hi
          · exact hsl i hi
          · cases List.mem_singleton.1 hi; exact hj
        · intro i hi e he
          rcases List.mem_append.1 hi with hi | hi
          · exact hss i hi e he
          · cases List.mem_singleton.1 hi
            rw [hjo] at he
            cases he
            exact hs64
        · have h1 : (seen ++ [j]).length ≤ sums.length := by
            have h2 : (seen ++ [j]).Nodup := by
              rw [List.nodup_append]
              exact ⟨hsd, by simp, fun a ha b hb => by cases List.mem_singleton.1 hb; intro hab; subst hab; exact hjs ha⟩
            refine nodup_le _ _ h2 fun i hi => ?_
            rcases List.mem_append.1 hi with hi | hi
            · exact hsl i hi
            · cases List.mem_singleton.1 hi; exact hj
          simp only [List.length_append, List.length_singleton] at h1 ⊢
          omega
        · rw [hbn, List.set_append, if_pos (by simp), List.set_append, if_neg (by omega), Nat.sub_self]
          rfl
end
end Go.AM.C

