/- The abstract machine, 5: slices, fields, indexes, conversions. -/
import Derived.Test.YthalheopcepgkaaAm4
import Derived.Laws.BytesArg
import Derived.Lib.Strings
namespace Go.AM
set_option linter.unusedVariables false
set_option linter.unusedSimpArgs false
variable {P : Program}

/-- It comes to a value; memory may have grown. -/
def Yields (P : Program) (c : Ctx) (w : World) (H : Heap) (s : Sem Value) (v : AVal) (H' : Heap) : Prop :=
  ∃ cv w' c', s.run P w = .ok cv w' ∧ Rel c' w' H' ∧ Post c w H c' w' H' ∧ VR c' w' v cv

theorem Tells.yields {c : Ctx} {w : World} {H : Heap} {s : Sem Value} {v : AVal} (r : Rel c w H) (h : Tells P c w s v) : Yields P c w H s v H := by
  obtain ⟨cv, h, hv⟩ := h
  exact ⟨cv, w, c, h, r, Post.refl c w H, hv⟩

theorem freeze_alloc (w : World) (arr : Array Value) (e : TypeId) (n : Nat) :
    (w.alloc (.cells arr e)).freeze ⟨w.heap.size, n, none⟩ 1 = w.alloc (.cells arr e (n, n + 1)) := by
  have h : (w.alloc (.cells arr e)).heap.modify w.heap.size (fun
      | .cells c elem (lo, hi) => .cells c elem (if lo == hi then (n, n + 1) else (min lo n, max hi (n + 1)))
      | o => o) = (w.alloc (.cells arr e (n, n + 1))).heap := by
    apply Array.ext_getElem?
    intro i
    rw [Array.getElem?_modify]
    by_cases hi : w.heap.size = i
    · subst hi
      rw [if_pos rfl, heap_alloc_at, heap_alloc_at]
      rfl
    · rw [if_neg hi]
      rcases Nat.lt_or_ge i w.heap.size with hl | hl
      · rw [heap_alloc_lt w _ hl, heap_alloc_lt w _ hl]
      · rw [Array.getElem?_eq_none (by simp; omega), Array.getElem?_eq_none (by simp; omega)]
  unfold World.freeze
  simp only [Nat.one_ne_zero, if_false]
  exact congrArg (fun h => { (w.alloc (.cells arr e)) with heap := h }) h

theorem toBytes_get (l : List UInt8) (j : Nat) : (toBytes l)[j]? = (l[j]?).map fun b => .int .u8 b.toNat := by simp [toBytes]
theorem toBytes_len (l : List UInt8) : (toBytes l).length = l.length := by simp [toBytes]

/-- The cells of a slice, as they lie. -/
theorem sliceCells_ok {c : Ctx} {w : World} {H : Heap} {sz : Nat} {x : AVal} {v : Value} {cs : List AVal} {n : Nat} (h : sliceCells H sz x = some (cs, n)) (hv : VR c w x v) (r : Rel c w H) :
    cs.length = n * sz ∧
    ((∃ a ca, v = .slice a n ca ∧ n ≤ ca ∧ ca ≤ 9223372036854775807 ∧ (0 < n → ∃ b o, a = some ⟨b, o, none⟩ ∧ ∀ (j : Nat) (a : AVal), cs[j]? = some a → ∃ u, w.cell? ⟨b, o + j, none⟩ = some u ∧ VR c w a u)) ∨
     (∃ s : ByteArray, v = .string s ∧ sz = 1 ∧ cs = toBytes s.data.toList ∧ n = s.size)) := by
  cases hv with
  | nils => simp only [sliceCells, Option.some.injEq, Prod.mk.injEq] at h; obtain ⟨rfl, rfl⟩ := h; exact ⟨by simp, .inl ⟨none, 0, rfl, by omega, by omega, by omega⟩⟩
  | str l s hs =>
    simp only [sliceCells] at h
    split at h
    · rename_i hz
      cases h
      subst hs
      exact ⟨by rw [toBytes_len, hz]; omega, .inr ⟨s, rfl, hz, rfl, Array.length_toList⟩⟩
    · cases h
  | sl id off len cap sz' b o ca h1 h2 h3 h4 h5 =>
    simp only [sliceCells] at h
    split at h
    · rename_i vs ty hH
      split at h
      · rename_i hle
        cases h
        refine ⟨by simp; omega, .inl ⟨_, ca, rfl, h2, h3, fun hn => ⟨b, o + off, rfl, fun j a ha => ?_⟩⟩⟩
        rw [List.getElem?_take] at ha
        split at ha
        · rw [List.getElem?_drop] at ha
          obtain ⟨arr, e, hb, hl, hh⟩ := r.obj id _ b o hH h1
          have hj : off + j < vs.length := (List.getElem?_eq_some_iff.1 ha).1
          have hlt : o + off + j < arr.size := by omega
          refine ⟨arr[o + off + j], by simp [World.cell?, hb, hlt], hh (off + j) a _ ha ?_⟩
          rw [← Nat.add_assoc, Array.getElem?_eq_getElem hlt]
        · cases ha
      · cases h
    · cases h
  | sl0 id off cap sz' b o a h1 hc =>
    have hn : n = 0 ∧ cs = [] := by
      simp only [sliceCells] at h
      split at h
      · split at h
        · cases h; simp
        · cases h
      · cases h
    obtain ⟨rfl, rfl⟩ := hn
    exact ⟨by simp, .inl ⟨some a, 0, rfl, by omega, by omega, by omega⟩⟩
  | isl cells off len cap cl b o ca g hcl hF h2 h3 h4 hc hh =>
    simp only [sliceCells] at h
    split at h
    · rename_i hle
      cases h
      refine ⟨by simp; omega, .inl ⟨_, ca, rfl, h2, h3, fun hn => ⟨b, o + off, rfl, fun j a ha => ?_⟩⟩⟩
      rw [List.getElem?_take] at ha
      split at ha
      · rw [List.getElem?_drop] at ha
        have hj : off + j < cells.length := (List.getElem?_eq_some_iff.1 ha).1
        exact ⟨g (off + j), by rw [Nat.add_assoc]; exact hc _ hj, hh _ a ha⟩
      · cases ha
    · cases h
  | isl0 cells off cap cl a ca h1 h2 =>
    simp only [sliceCells] at h
    split at h
    · cases h; exact ⟨by simp, .inl ⟨a, ca, rfl, by omega, h1, by omega⟩⟩
    · cases h
  | _ => simp [sliceCells] at h

theorem bytesOf_ok : ∀ (cs : List AVal) (l : List UInt8), bytesOf cs = some l → ∃ ns : List Int, cs = ns.map (AVal.int .u8) ∧ l = ns.map fun n => UInt8.ofNat n.toNat
  | [], l, h => by simp only [bytesOf, Option.some.injEq] at h; subst h; exact ⟨[], rfl, rfl⟩
  | a :: cs, l, h => by
    unfold bytesOf at h
    split at h
    · rename_i heq; cases heq
    · rename_i n rest heq
      cases heq
      split at h
      · rename_i l' hl'
        cases h
        obtain ⟨ns, h1, h2⟩ := bytesOf_ok _ _ hl'
        exact ⟨n :: ns, by simp [h1], by simp [h2]⟩
      · cases h
    · cases h

theorem conv_bytes {c : Ctx} {w : World} {H : Heap} (r : Rel c w H) {src dst e : TypeId} {d : TypeDesc} (hs : P.underlying src = some d) (hd : P.underlying dst = some (.slice e))
    (he : P.underlying e = some (.int .u8)) (s : ByteArray) (hl : s.size ≤ 4611686018427387904) :
    Yields P c w H (convert src dst (.string s)) (.isl (toBytes s.data.toList) 0 s.size none true) H := by
  generalize hcap : Question.cut (.appendCap s.size 0 e) (w.tape w.drawn (.appendCap s.size 0 e)) = cap
  have hge : s.size ≤ cap := by rw [← hcap]; simp [Question.cut]
  have hle : cap ≤ 9223372036854775807 := by
    have hlt := Nat.mod_lt (w.tape w.drawn (.appendCap s.size 0 e)) (show 0 < 2 ^ 63 - s.size by omega)
    rw [← hcap]; simp only [Question.cut] at hlt ⊢; omega
  let arr : Array Value := s.data.map (fun b => .int .u8 b.toNat) ++ Array.replicate (cap - s.size) (.int .u8 0)
  have hrun : (convert src dst (.string s)).run P w = .ok (.slice (some ⟨w.heap.size, 0, none⟩) s.size cap) (w.drew.alloc (.cells arr e (arr.size, arr.size + 1))) := by
    have h1 : (markStringish ⟨w.heap.size, 0, none⟩).run P (w.drew.alloc (.cells arr e)) = .ok () (w.drew.alloc (.cells arr e (arr.size, arr.size + 1))) := by
      have hsh : (w.drew.alloc (.cells arr e)).shape? w.heap.size = some (e, arr.size) := by
        have := heap_alloc_at w.drew (.cells arr e)
        rw [World.size_drew] at this
        unfold World.shape?
        rw [this]
      have hf := freeze_alloc w.drew arr e arr.size
      rw [World.size_drew] at hf
      simp only [markStringish, Sem.run_bind, run_shape, hsh, Result.andThen_ok, run_freeze]
      rw [hf]
    have h2 : (Conv.stringToBytes e s).run P w = .ok (.slice (some ⟨w.heap.size, 0, none⟩) s.size cap) (w.drew.alloc (.cells arr e (arr.size, arr.size + 1))) := by
      simp only [Conv.stringToBytes, Sem.run_bind, run_choose, Question.forced, Bool.false_eq_true, if_false, hcap, Result.andThen_ok, newRow, run_newObj, Sem.run_pure, World.drew_eq, World.alloc_eq, World.size_drew]
      rw [h1]
      rfl
    rw [← h2]
    cases d <;> simp [convert, run_und hs, run_und hd, run_und he]
  have r1 := r.drew
  have harr : (toBytes s.data.toList).length ≤ arr.size := by rw [toBytes_len]; simp [arr]
  obtain ⟨c', r2, p2, hF, g, hg1, hg2⟩ := new_imm r1 arr e (arr.size, arr.size + 1) (toBytes s.data.toList) harr (by
    intro j a v ha hv
    rw [toBytes_get] at ha
    cases hb : s.data.toList[j]? with
    | none => rw [hb] at ha; cases ha
    | some b =>
      rw [hb] at ha; cases ha
      have hj : j < s.data.size := by simpa using (List.getElem?_eq_some_iff.1 hb).1
      have hbb : s.data[j]? = some b := by rw [← Array.getElem?_toList]; exact hb
      have : arr[j]? = some (.int .u8 b.toNat) := by
        show (s.data.map (fun b => Value.int .u8 b.toNat) ++ Array.replicate (cap - s.size) (.int .u8 0))[j]? = _
        rw [Array.getElem?_append_left (by simpa using hj), Array.getElem?_map, hbb]; rfl
      rw [this] at hv; cases hv
      exact .int _ _)
  refine ⟨_, _, c', hrun, r2, (Post.drew c w H).trans r p2, ?_⟩
  rw [World.size_drew] at hF hg1
  have := VR.isl (c := c') (w := w.drew.alloc (.cells arr e (arr.size, arr.size + 1))) (toBytes s.data.toList) 0 s.size none true w.heap.size 0 cap g (by
    intro _ a ha
    simp only [toBytes, List.mem_map] at ha
    obtain ⟨b, _, rfl⟩ := ha
    rfl) hF hge hle (by simp) hg1 hg2
  exact this

theorem denConvert_ok {S : Sg} (hS : SgOK P S) {c : Ctx} {w : World} {H : Heap} (r : Rel c w H) {src dst : TypeId} {x v : AVal} {vx : Value}
    (h : denConvert S H src dst x = some v) (hx : VR c w x vx) : Yields P c w H (convert src dst vx) v H := by
  unfold denConvert at h
  split at h
  · rename_i hs hd
    cases hx
    rw [mkI_eq] at h; cases h
    refine Tells.yields r ⟨_, ?_, .int _ _⟩
    simp [convert, run_und (hS.ty _ _ hs).und, run_und (hS.ty _ _ hd).und, Conv.intToInt, wrapI_eq]
  · rename_i hs hd
    cases h
    cases hx with
    | str l s hl =>
      refine Tells.yields r ⟨.string s, ?_, .str _ _ hl⟩
      simp [convert, run_und (hS.ty _ _ hs).und, run_und (hS.ty _ _ hd).und]
  · rename_i hs hd
    split at h
    · rename_i he
      split at h
      · rename_i hl
        cases h
        cases hx with
        | str l s hsl =>
          subst hsl
          have hsz : s.data.toList.length = s.size := Array.length_toList
          rw [hsz] at hl ⊢
          exact conv_bytes r (hS.ty _ _ hs).und (hS.ty _ _ hd).und (hS.ty _ _ he).und s hl
      · cases h
    · cases h
  · rename_i hs hd hns
    split at h
    · rename_i he
      split at h
      · cases h
      · split at h
        · rename_i cs n hcs
          split at h
          · rename_i l hl
            cases h
            obtain ⟨hlen, hk⟩ := sliceCells_ok hcs hx r
            rcases hk with ⟨a, ca, rfl, hle, hle2, hcell⟩ | ⟨s, rfl, _⟩
            · obtain ⟨ns, rfl, rfl⟩ := bytesOf_ok _ _ hl
              rw [List.length_map, Nat.mul_one] at hlen
              cases n with
              | zero =>
                have : ns = [] := List.eq_nil_of_length_eq_zero hlen
                subst this
                refine Tells.yields r ⟨.string ByteArray.empty, ?_, .str _ _ rfl⟩
                rw [run_convert_bytes_string w src dst _ a 0 ca (hS.ty _ _ hs).und (hS.ty _ _ he).und (hS.ty _ _ hd).und]
                cases a with
                | none => rfl
                | some a => simp [Conv.bytesToString, loadCells, loadCellsFrom]
              | succ n =>
                obtain ⟨b, o, rfl, hc⟩ := hcell (by omega)
                refine Tells.yields r ⟨.string (ns.foldl (fun r n => r.push (UInt8.ofNat n.toNat)) ByteArray.empty), ?_, .str _ _ ?_⟩
                · rw [run_convert_bytes_string w src dst _ _ _ ca (hS.ty _ _ hs).und (hS.ty _ _ he).und (hS.ty _ _ hd).und]
                  refine run_bytesToString w _ _ _ ns ?_
                  rw [run_loadCells (P := P) w b o (fun k => .int .u8 (ns.getD k 0)) (n + 1)]
                  · congr 2
                    apply List.ext_getElem?
                    intro i
                    by_cases hi : i < n + 1
                    · have : i < ns.length := by omega
                      simp [hi, this]
                    · have : ns.length ≤ i := by omega
                      simp [this]; omega
                  · intro k hk
                    have hk' : k < ns.length := by omega
                    obtain ⟨u, hu, hvu⟩ := hc k (.int .u8 ns[k]) (by simp [hk'])
                    cases hvu
                    rw [hu]; simp [hk']
                · rw [foldl_push_bytes]; simp [ByteArray.empty, ByteArray.emptyWithCapacity]; rfl
            · cases hx with
              | any => simp [sliceCells] at hcs
              | str l s hs => exact absurd rfl (hns _)
              | obj o v h' => simp [sliceCells] at hcs
          · cases h
        · cases h
    · cases h
  · cases h

/-! #### slices of slices -/
theorem bound_ok {x : AVal} {v : Value} {most n : Nat} {c : Ctx} {w : World} (h : bound x most = some n) (hx : VR c w x v) (y : Nat) (hy : most ≤ y) (code : BoundsCode) :
    (Instr.sliceBound v y code).run P w = .ok n w ∧ n ≤ most := by
  cases x <;> simp only [bound, reduceCtorEq] at h
  rename_i k n
  cases hx
  split at h
  · rename_i hb
    cases h
    have hy' : n ≤ (y : Int) := by omega
    exact ⟨by simp [Instr.sliceBound, asIntOf, hb.1, hy'], by omega⟩
  · cases h

/-- The bounds of a slice expression, as the model tells them. -/
theorem bounds_ok {c : Ctx} {w : World} {len most l h : Nat} {low high : Option AVal} {lo hi : Option Value} (hb : bounds len most low high = some (l, h))
    (h1 : ∀ x, low = some x → ∃ v, lo = some v ∧ VR c w x v) (h1' : low = none → lo = none) (h2 : ∀ x, high = some x → ∃ v, hi = some v ∧ VR c w x v) (h2' : high = none → hi = none)
    (isSl : Bool) (cap : Nat) (hm : most ≤ cap) (hlm : len ≤ most) :
    (Instr.sliceBounds isSl len cap lo hi none).run P w = .ok (l, h, cap) w ∧ l ≤ h ∧ h ≤ most := by
  unfold bounds at hb
  cases high with
  | none =>
    rw [h2' rfl]
    cases low with
    | none =>
      rw [h1' rfl]
      simp only [fNat_eq, Option.some.injEq, Prod.mk.injEq] at hb
      obtain ⟨rfl, rfl⟩ := hb
      exact ⟨by simp [Instr.sliceBounds], by omega, hlm⟩
    | some x =>
      obtain ⟨v, rfl, hv⟩ := h1 x rfl
      simp only at hb
      cases hx : bound x len with
      | none => rw [hx] at hb; cases hb
      | some n =>
        rw [hx] at hb
        simp only [fNat_eq, Option.some.injEq, Prod.mk.injEq] at hb
        obtain ⟨rfl, rfl⟩ := hb
        have := bound_ok (P := P) hx hv len (Nat.le_refl _) .sliceB
        exact ⟨by simp [Instr.sliceBounds, this.1], this.2, hlm⟩
  | some y =>
    obtain ⟨u, rfl, hu⟩ := h2 y rfl
    simp only at hb
    cases hy : bound y most with
    | none => rw [hy] at hb; cases hb
    | some m =>
      rw [hy] at hb
      have hm' := bound_ok (P := P) hy hu cap hm (if isSl then .sliceAcap else .sliceAlen)
      cases low with
      | none =>
        rw [h1' rfl]
        simp only [fNat_eq, Option.some.injEq, Prod.mk.injEq] at hb
        obtain ⟨rfl, rfl⟩ := hb
        exact ⟨by simp [Instr.sliceBounds, hm'.1], by omega, hm'.2⟩
      | some x =>
        obtain ⟨v, rfl, hv⟩ := h1 x rfl
        simp only at hb
        cases hx : bound x m with
        | none => rw [hx] at hb; cases hb
        | some n =>
          rw [hx] at hb
          simp only [fNat_eq, Option.some.injEq, Prod.mk.injEq] at hb
          obtain ⟨rfl, rfl⟩ := hb
          have := bound_ok (P := P) hx hv m (Nat.le_refl _) .sliceB
          exact ⟨by simp [Instr.sliceBounds, hm'.1, this.1], this.2, hm'.2⟩

end Go.AM
