/- The abstract machine, 6: slice expressions, addresses, fields, indexes, assertions, lengths. -/
import Derived.Test.YthalheopcepgkaaAm5
namespace Go.AM
set_option linter.unusedVariables false
set_option linter.unusedSimpArgs false
variable {P : Program}

def OptR (c : Ctx) (w : World) (x : Option AVal) (v : Option Value) : Prop :=
  (∀ a, x = some a → ∃ u, v = some u ∧ VR c w a u) ∧ (x = none → v = none)

theorem slice_str {c : Ctx} {w : World} {t : TypeId} (hu : P.underlying t = some .string) {low high : Option AVal} {lo hi : Option Value} {s : ByteArray} {l h : Nat}
    (hb : bounds s.size s.size low high = some (l, h)) (hlo : OptR c w low lo) (hhi : OptR c w high hi) :
    (Instr.sliceAt t (.string s) lo hi none).run P w = .ok (.string (s.extract l h)) w := by
  obtain ⟨h1, h2, h3⟩ := bounds_ok (P := P) (w := w) hb hlo.1 hlo.2 hhi.1 hhi.2 false s.size (Nat.le_refl _) (Nat.le_refl _)
  simp [Instr.sliceAt, run_und hu, Instr.slice, h1]

theorem slice_sl {c : Ctx} {w : World} {t e : TypeId} {te : TI} (hu : P.underlying t = some (.slice e)) (he : TyOK P e te) {low high : Option AVal} {lo hi : Option Value} {a : Option Addr} {len ca most l h : Nat}
    (hb : bounds len most low high = some (l, h)) (hm : most ≤ ca) (hlm : len ≤ most) (hlo : OptR c w low lo) (hhi : OptR c w high hi) :
    (Instr.sliceAt t (.slice a len ca) lo hi none).run P w = .ok (.slice (if ca = l then a else a.map (·.add (l * te.size))) (h - l) (ca - l)) w ∧ l ≤ h ∧ h ≤ most := by
  obtain ⟨h1, h2, h3⟩ := bounds_ok (P := P) (w := w) hb hlo.1 hlo.2 hhi.1 hhi.2 true ca hm hlm
  refine ⟨?_, h2, h3⟩
  simp [Instr.sliceAt, run_und hu, Instr.slice, h1, he.sizeOf]

theorem slice_arr {c : Ctx} {w : World} {t e : TypeId} {te : TI} {n : Nat} (hu : P.underlying t = some (.array n e)) (he : TyOK P e te) {low high : Option AVal} {lo hi : Option Value} {a : Addr} {l h : Nat}
    (hb : bounds n n low high = some (l, h)) (hlo : OptR c w low lo) (hhi : OptR c w high hi) :
    (Instr.sliceAt t (.pointer (some a)) lo hi none).run P w = .ok (.slice (some (if n = l then a else a.add (l * te.size))) (h - l) (n - l)) w ∧ l ≤ h ∧ h ≤ n := by
  obtain ⟨h1, h2, h3⟩ := bounds_ok (P := P) (w := w) hb hlo.1 hlo.2 hhi.1 hhi.2 false n (Nat.le_refl _) (Nat.le_refl _)
  refine ⟨?_, h2, h3⟩
  simp [Instr.sliceAt, run_und hu, Instr.sureAddr, h1, he.sizeOf]

theorem denSlice_ok {S : Sg} (hS : SgOK P S) {c : Ctx} {w : World} {H : Heap} (r : Rel c w H) {t : TypeId} {x v : AVal} {low high mx : Option AVal} {vx : Value} {lo hi vm : Option Value}
    (h : denSlice S H t x low high mx = some v) (hx : VR c w x vx) (hlo : OptR c w low lo) (hhi : OptR c w high hi) (hmx : OptR c w mx vm) : Tells P c w (Instr.sliceAt t vx lo hi vm) v := by
  unfold denSlice at h
  cases mx with
  | some m => cases h
  | none =>
    rw [hmx.2 rfl]
    simp only at h
    split at h
    · -- string
      rename_i ht
      have hu := (hS.ty _ _ ht).und
      simp only at hu
      cases hx with
      | str l s hl =>
        subst hl
        have hsz : s.data.toList.length = s.size := Array.length_toList
        rw [hsz] at h
        cases hb : bounds s.size s.size low high with
        | none => rw [hb] at h; cases h
        | some lh =>
          obtain ⟨l, h'⟩ := lh
          rw [hb] at h; cases h
          exact ⟨.string (s.extract l h'), slice_str hu hb hlo hhi, .str _ _ (Lib.extract_data s l h')⟩
    · rename_i ht
      have hu := (hS.ty _ _ ht).und
      simp only at hu
      split at h
      · rename_i te he
        cases hx
        cases hb : bounds 0 0 low high with
        | none => rw [hb] at h; cases h
        | some lh =>
          obtain ⟨l, h'⟩ := lh
          rw [hb] at h; cases h
          obtain ⟨h1, h2, h3⟩ := slice_sl (c := c) (w := w) (a := none) hu (hS.ty _ _ he) hb (Nat.le_refl _) (Nat.le_refl _) hlo hhi
          obtain rfl : h' = 0 := by omega
          obtain rfl : l = 0 := by omega
          exact ⟨_, h1, by simpa using VR.nils⟩
      · cases h
    · rename_i id off len cap sz ht
      have hu := (hS.ty _ _ ht).und
      simp only at hu
      split at h
      · rename_i te he
        split at h
        · rename_i hz
          cases hb : bounds len (cap.getD len) low high with
          | none => rw [hb] at h; cases h
          | some lh =>
            obtain ⟨l, h'⟩ := lh
            rw [hb] at h; cases h
            cases hx with
            | sl _ _ _ _ _ b o ca h1 h2 h3 h4 h5 =>
              have hm : cap.getD len ≤ ca := by
                cases cap with
                | none => simpa using h2
                | some n => simp [h4 n rfl]
              have hlm : len ≤ cap.getD len := by
                cases cap with
                | none => simp
                | some n => rw [h4 n rfl] at h2; simpa using h2
              obtain ⟨g1, g2, g3⟩ := slice_sl (c := c) (w := w) (a := some ⟨b, o + off, none⟩) hu (hS.ty _ _ he) hb hm hlm hlo hhi
              refine ⟨_, g1, ?_⟩
              by_cases hcl : ca = l
              · rw [if_pos hcl]
                obtain rfl : h' = l := by omega
                have e1 : h' - h' = 0 := Nat.sub_self _
                have e2 : ca - h' = 0 := by omega
                rw [e1, e2]
                refine .sl0 _ _ _ _ b o _ h1 fun n hn => ?_
                cases cap with
                | none => cases hn
                | some m => simp at hn; have := h4 m rfl; omega
              · rw [if_neg hcl]
                simp only [Option.map_some, add_none]
                obtain ⟨arr, e', fz, hq, hle⟩ := h5
                have hmul : l * sz + (ca - l) * sz = ca * sz := by rw [← Nat.add_mul]; congr 1; omega
                rw [hz, Nat.add_assoc]
                refine .sl id (off + l * sz) (h' - l) _ sz b o (ca - l) h1 (by omega) (by omega) (fun n hn => ?_) ⟨arr, e', fz, hq, by omega⟩
                cases cap with
                | none => cases hn
                | some m => simp at hn; have := h4 m rfl; omega
            | sl0 _ _ _ _ b o a h1 hc =>
              have hg : cap.getD 0 = 0 := by cases cap with | none => rfl | some n => exact hc n rfl
              rw [hg] at hb
              obtain ⟨g1, g2, g3⟩ := slice_sl (c := c) (w := w) (a := some a) hu (hS.ty _ _ he) hb (Nat.le_refl _) (Nat.le_refl _) hlo hhi
              obtain rfl : h' = 0 := by omega
              obtain rfl : l = 0 := by omega
              refine ⟨_, g1, ?_⟩
              simp only [if_true, Nat.sub_self]
              refine .sl0 _ _ _ _ b o _ h1 fun n hn => ?_
              cases cap with
              | none => cases hn
              | some m => simp at hn; have := hc m rfl; omega
        · cases h
      · cases h
    · rename_i cells off len cap cl ht
      have hu := (hS.ty _ _ ht).und
      simp only at hu
      split at h
      · rename_i te he
        cases hb : bounds len len low high with
        | none => rw [hb] at h; cases h
        | some lh =>
          obtain ⟨l, h'⟩ := lh
          rw [hb] at h; cases h
          have hcap : ∀ {ca : Nat}, (∀ n, cap = some n → ca = n) → ∀ n, cap.map (· - l) = some n → ca - l = n := by
            intro ca hc n hn
            cases cap with
            | none => cases hn
            | some m => simp at hn; have := hc m rfl; omega
          cases hx with
          | isl _ _ _ _ _ b o ca g hcl hF h2 h3 h4 hc hh =>
            obtain ⟨g1, g2, g3⟩ := slice_sl (c := c) (w := w) (a := some ⟨b, o + off, none⟩) hu (hS.ty _ _ he) hb h2 (Nat.le_refl _) hlo hhi
            refine ⟨_, g1, ?_⟩
            by_cases hcl' : ca = l
            · rw [if_pos hcl']
              obtain rfl : h' = l := by omega
              rw [Nat.sub_self]
              exact .isl0 _ _ _ _ _ _ (by omega) (hcap h4)
            · rw [if_neg hcl']
              simp only [Option.map_some, add_none]
              rw [Nat.add_assoc]
              exact .isl cells (off + l * te.size) (h' - l) _ cl b o (ca - l) g hcl hF (by omega) (by omega) (hcap h4) hc hh
          | isl0 _ _ _ _ a ca h1 h2 =>
            obtain ⟨g1, g2, g3⟩ := slice_sl (c := c) (w := w) (a := a) hu (hS.ty _ _ he) hb (Nat.zero_le _) (Nat.le_refl _) hlo hhi
            obtain rfl : h' = 0 := by omega
            obtain rfl : l = 0 := by omega
            refine ⟨_, g1, ?_⟩
            exact .isl0 _ _ _ _ _ _ (by omega) (hcap h2)
      · cases h
    · rename_i n e _ _ _ _ _ ht
      have hu := (hS.ty _ _ ht).und
      simp only at hu
      split at h
      · rename_i te l h' he hb
        split at h
        · rename_i id off
          cases hx with
          | ptr _ _ b o h1 =>
            obtain ⟨g1, g2, g3⟩ := slice_arr (c := c) (w := w) (a := ⟨b, o + off, none⟩) hu (hS.ty _ _ he) hb hlo hhi
            refine ⟨_, g1, ?_⟩
            split at h
            · rename_i vs ty hH
              split at h
              · rename_i hle
                cases h
                by_cases hcl : n = l
                · rw [if_pos hcl]
                  obtain rfl : h' = l := by omega
                  rw [Nat.sub_self, show n - h' = 0 by omega]
                  exact .sl0 _ _ _ _ b o _ h1 fun m hm => by simp at hm; omega
                · rw [if_neg hcl, add_none, Nat.add_assoc]
                  obtain ⟨arr, e', hq, hl, _⟩ := r.obj id _ b o hH h1
                  have hmul : l * te.size + (n - l) * te.size = n * te.size := by rw [← Nat.add_mul]; congr 1; omega
                  exact .sl id (off + l * te.size) (h' - l) _ te.size b o (n - l) h1 (by omega) (by omega) (fun m hm => by simp at hm; omega) ⟨arr, e', _, hq, by omega⟩
              · cases h
            · cases h
        · rename_i cells off cl
          cases hx with
          | ip _ _ _ b o g hcl hF hc hh =>
            obtain ⟨g1, g2, g3⟩ := slice_arr (c := c) (w := w) (a := ⟨b, o + off, none⟩) hu (hS.ty _ _ he) hb hlo hhi
            refine ⟨_, g1, ?_⟩
            split at h
            · rename_i hle
              cases h
              by_cases hcl' : n = l
              · rw [if_pos hcl']
                obtain rfl : h' = l := by omega
                rw [Nat.sub_self]
                exact .isl0 _ _ _ _ _ _ (by omega) fun m hm => by simp at hm; omega
              · rw [if_neg hcl', add_none, Nat.add_assoc]
                exact .isl cells (off + l * te.size) (h' - l) _ cl b o (n - l) g hcl hF (by omega) (by omega) (fun m hm => by simp at hm; omega) hc hh
            · cases h
        · cases h
      · cases h
    · cases h

/-! #### addresses -/
theorem elemAddr_ok {S : Sg} (hS : SgOK P S) {c : Ctx} {w : World} {t : TypeId} {x v : AVal} {i : Int} {k : IntKind} {vx : Value} (h : elemAddr S t x i = some v) (hx : VR c w x vx) :
    Tells P c w (Instr.indexAt t vx (.int k i)) v := by
  unfold elemAddr at h
  split at h
  · rename_i n e _ _ _ _ _ ht
    have hu := (hS.ty _ _ ht).und
    simp only at hu
    split at h
    · rename_i te he
      split at h
      · rename_i hi
        obtain ⟨b, o, rfl, hv⟩ := ptrAdd_ok h hx
        refine ⟨_, ?_, hv⟩
        simp [Instr.indexAt, asIntOf, run_und hu, Instr.sureAddr, hi.1, hi.2, (hS.ty _ _ he).sizeOf, add_none]
      · cases h
    · cases h
  · rename_i e _ _ _ _ _ ht
    have hu := (hS.ty _ _ ht).und
    simp only at hu
    split at h
    · rename_i te he
      split at h
      · rename_i id off len cap sz
        split at h
        · rename_i hi
          rw [fNat_eq] at h; cases h
          cases hx with
          | sl _ _ _ _ _ b o ca h1 h2 h3 h4 h5 =>
            refine ⟨.pointer (some ⟨b, o + (off + i.toNat * sz), none⟩), ?_, .ptr _ _ b o h1⟩
            simp [Instr.indexAt, asIntOf, run_und hu, hi.2.1, hi.2.2, (hS.ty _ _ he).sizeOf, add_none, hi.1, Nat.add_assoc]
          | sl0 _ _ _ _ b o a h1 hc => exact absurd hi.2.2 (by have := hi.2.1; simp; omega)
        · cases h
      · rename_i cells off len cap cl
        split at h
        · rename_i hi
          rw [fNat_eq] at h; cases h
          cases hx with
          | isl _ _ _ _ _ b o ca g hcl hF h2 h3 h4 hc hh =>
            refine ⟨.pointer (some ⟨b, o + (off + i.toNat * te.size), none⟩), ?_, .ip _ _ _ b o g hcl hF hc hh⟩
            simp [Instr.indexAt, asIntOf, run_und hu, hi.1, hi.2, (hS.ty _ _ he).sizeOf, add_none, Nat.add_assoc]
          | isl0 _ _ _ _ a ca h1 h2 => exact absurd hi.2 (by have := hi.1; simp; omega)
        · cases h
      · cases h
    · cases h
  · cases h

/-- A part of an aggregate. -/
theorem part_ok {c : Ctx} {w : World} {t : TypeId} {sz : Nat} {ag : Bool} (hs : ∀ w, (sizeOf t).run P w = .ok sz w) (ha : ∀ w, (isAgg t).run P w = .ok ag w) {cs : List AVal} {vs : Array Value} {off : Nat} {v : AVal}
    (hl : vs.size = cs.length) (hv : ∀ (j : Nat) (a : AVal) (v : Value), cs[j]? = some a → vs[j]? = some v → VR c w a v)
    (h : (if ag then (if off + sz ≤ cs.length then some (.agg ((cs.drop off).take sz)) else none) else cs[off]?) = some v) : Tells P c w (part t vs off) v := by
  cases ag with
  | false =>
    simp only [Bool.false_eq_true, if_false] at h
    have ho : off < vs.size := by rw [hl]; exact (List.getElem?_eq_some_iff.1 h).1
    refine ⟨vs[off], ?_, hv off v _ h (Array.getElem?_eq_getElem ho)⟩
    simp [part, ha, Array.getElem?_eq_getElem ho]
  | true =>
    simp only [if_true] at h
    split at h
    · rename_i hle
      cases h
      refine ⟨.agg (vs.extract off (off + sz)), by simp [part, ha, hs], .agg _ _ (by simp; omega) fun j a u hja hju => ?_⟩
      rw [List.getElem?_take] at hja
      split at hja
      · rename_i hj
        rw [List.getElem?_drop] at hja
        rw [Array.getElem?_extract] at hju
        split at hju
        · exact hv _ _ _ hja hju
        · cases hju
      · cases hja
    · cases h

theorem denIndex_ok {S : Sg} (hS : SgOK P S) {c : Ctx} {w : World} {t : TypeId} {x v : AVal} {i : Int} {k : IntKind} {vx : Value} (h : denIndex S t x i = some v) (hx : VR c w x vx) :
    Tells P c w (Instr.index t vx (.int k i)) v := by
  unfold denIndex at h
  split at h
  · rename_i ht
    have hu := (hS.ty _ _ ht).und
    simp only at hu
    split at h
    · rename_i hi
      cases hx with
      | str l s hl =>
        subst hl
        split at h
        · rename_i b hb
          rw [fNat_eq] at h; cases h
          have hb' : s[i.toNat]? = some b := by
            rw [Array.getElem?_toList] at hb
            have hlt : i.toNat < s.data.size := (Array.getElem?_eq_some_iff.1 hb).1
            have hlt' : i.toNat < s.size := hlt
            rw [getElem?_pos s i.toNat hlt']
            have := (Array.getElem?_eq_some_iff.1 hb).2
            exact congrArg some this
          refine ⟨.int .u8 b.toNat, ?_, .int _ _⟩
          simp [Instr.index, asIntOf, run_und hu, hi, hb']
        · cases h
    · cases h
  · rename_i n e _ _ _ _ _ cs ht
    have hu := (hS.ty _ _ ht).und
    simp only at hu
    split at h
    · rename_i te he
      split at h
      · rename_i hi
        cases hx with
        | agg _ vs hs hh =>
          have T := hS.ty _ _ he
          obtain ⟨cv, hr, hv⟩ := part_ok (P := P) (t := e) (fun w => T.sizeOf w) (fun w => T.isAgg w) hs hh h
          refine ⟨cv, ?_, hv⟩
          simp [Instr.index, asIntOf, run_und hu, hi.1, hi.2, T.sizeOf, hr]
      · cases h
    · cases h
  · cases h

theorem zeroOf_ok {c : Ctx} {w : World} {t : TypeId} {ti : TI} (ht : TyOK P t ti) {z : AVal} (h : zeroOf ti = some z) : ∃ cv, (zeroValue t).run P w = .ok cv w ∧ VR c w z cv := by
  obtain ⟨inf, hi, hs, hb, zv, hz, hzz, hzl, ha, ha'⟩ := ht.info
  refine ⟨zv, by simp [zeroValue, typeInfo, hi, hz], ?_⟩
  unfold zeroOf at h
  cases hag : ti.agg with
  | true =>
    rw [hag] at h; simp only [if_true, Option.some.injEq] at h; subst h
    obtain ⟨cs, rfl⟩ := ha hag
    rw [hzz]
    exact .agg _ _ (by simp [Value.cells]) fun j a v hja hjv => by
      simp only [Value.cells] at hja
      rw [List.getElem?_map, Array.getElem?_toList, hjv] at hja
      cases hja
      exact .ofV1 _ _ _
  | false =>
    rw [hag] at h; simp only [Bool.false_eq_true, if_false] at h
    rw [hzz, ha' hag] at h
    simp at h; subst h
    exact .ofV1 _ _ _

theorem denAssert_ok {S : Sg} (hS : SgOK P S) {c : Ctx} {w : World} {x v : AVal} {xt t : TypeId} {ok : Bool} {vx : Value} (h : denAssert S x t ok = some v) (hx : VR c w x vx) :
    Tells P c w (Instr.typeAssert vx xt t ok) v := by
  unfold denAssert at h
  cases ht : S.ty t with
  | none => rw [ht] at h; cases h
  | some ta =>
    rw [ht] at h
    simp only at h
    have T := hS.ty t ta ht
    have two : ∀ {a b : AVal} {x y : Value}, VR c w a x → VR c w b y → VR c w (.tup [a, b]) (.tuple #[x, y]) := by
      intro a b x y h1 h2
      refine .tup _ _ rfl fun j a v ha hv => ?_
      match j with
      | 0 => simp at ha hv; subst ha; subst hv; exact h1
      | 1 => simp at ha hv; subst ha; subst hv; exact h2
      | j + 2 => simp at ha
    split at h
    · cases h
    · rename_i hni
      have hu := T.und
      split at h
      · rename_i tt a
        cases hx with
        | iface _ _ v' hv' =>
          split at h
          · rename_i he
            subst he
            cases ok with
            | true =>
              simp only [if_true, Option.some.injEq] at h; subst h
              refine ⟨.tuple #[v', .bool true], ?_, two hv' (.bool true)⟩
              unfold Instr.typeAssert
              simp only [Sem.run_bind, run_und hu, Result.andThen_ok]
              split <;> simp_all
            | false =>
              simp only [Bool.false_eq_true, if_false, Option.some.injEq] at h; subst h
              refine ⟨v', ?_, hv'⟩
              unfold Instr.typeAssert
              simp only [Sem.run_bind, run_und hu, Result.andThen_ok]
              split <;> simp_all
          · rename_i he
            cases ok with
            | false => cases h
            | true =>
              simp only [if_true] at h
              split at h
              · rename_i z hz
                cases h
                obtain ⟨cv, hr, hv⟩ := zeroOf_ok (c := c) (w := w) T hz
                refine ⟨.tuple #[cv, .bool false], ?_, two hv (.bool false)⟩
                unfold Instr.typeAssert
                simp only [Sem.run_bind, run_und hu, Result.andThen_ok]
                split <;> simp_all
              · cases h
      · cases hx
        cases ok with
        | false => cases h
        | true =>
          simp only [if_true] at h
          split at h
          · rename_i z hz
            cases h
            obtain ⟨cv, hr, hv⟩ := zeroOf_ok (c := c) (w := w) T hz
            refine ⟨.tuple #[cv, .bool false], ?_, two hv (.bool false)⟩
            unfold Instr.typeAssert
            simp only [Sem.run_bind, run_und hu, Result.andThen_ok]
            split <;> simp_all
          · cases h
      · cases h

end Go.AM
