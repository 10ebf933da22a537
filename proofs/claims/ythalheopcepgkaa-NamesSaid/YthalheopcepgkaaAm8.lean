/- The abstract machine, 8: append, copy, maps, ranges over strings. -/
import Derived.Test.YthalheopcepgkaaAm7
import Derived.Laws.AppendOwn
namespace Go.AM
set_option linter.unusedVariables false
set_option linter.unusedSimpArgs false
variable {P : Program}

/-- The first k elements of a slice, as they are read. -/
theorem first_ok {c : Ctx} {w : World} {H : Heap} {sz : Nat} {x : AVal} {v : Value} {cs : List AVal} {n k : Nat} (h : sliceCells H sz x = some (cs, n)) (hv : VR c w x v) (r : Rel c w H) (hk : k ≤ n) :
    ∃ nv : Array Value, RowR c w (cs.take (k * sz)) nv ∧ ∀ w', (∀ a, w'.cell? a = w.cell? a) → (Builtin.firstCells sz k v).run P w' = .ok nv w' ∧ (Builtin.lenOf v).run P w' = .ok n w' := by
  obtain ⟨hl, hc⟩ := sliceCells_ok h hv r
  have hkn : k * sz ≤ n * sz := Nat.mul_le_mul_right _ hk
  rcases hc with ⟨a, ca, rfl, h1, h2, hcell⟩ | ⟨s, rfl, rfl, rfl, rfl⟩
  · by_cases h0 : k * sz = 0
    · refine ⟨#[], ⟨by simp [h0], fun j a v ha => by simp [h0] at ha⟩, fun w' hw => ⟨?_, by simp [Builtin.lenOf]⟩⟩
      cases a with
      | none => simp [Builtin.firstCells]
      | some a => simp [Builtin.firstCells, h0, loadCells, loadCellsFrom]
    · have hk0 : 0 < k := Nat.pos_of_ne_zero fun e => h0 (by rw [e, Nat.zero_mul])
      obtain ⟨b, o, rfl, hcc⟩ := hcell (by omega)
      let g : Nat → Value := fun j => (w.cell? ⟨b, o + j, none⟩).getD default
      have hg : ∀ j, j < k * sz → w.cell? ⟨b, o + j, none⟩ = some (g j) := by
        intro j hj
        obtain ⟨u, hu, _⟩ := hcc j cs[j] (List.getElem?_eq_getElem (by omega))
        show _ = some ((w.cell? ⟨b, o + j, none⟩).getD default)
        rw [hu]; rfl
      refine ⟨((List.range' 0 (k * sz)).map g).toArray, ⟨by simp; omega, fun j a v ha hjv => ?_⟩, fun w' hw => ⟨?_, by simp [Builtin.lenOf]⟩⟩
      · rw [List.getElem?_take] at ha
        split at ha
        · rename_i hj
          obtain ⟨u, hu, hv⟩ := hcc j a ha
          rw [hg j hj] at hu; cases hu
          simp [hj] at hjv
          rw [← hjv]; exact hv
        · cases ha
      · simp only [Builtin.firstCells]
        exact run_loadCells (P := P) w' b o g (k * sz) (fun j hj => by rw [hw]; exact hg j hj)
  · refine ⟨(s.extract 0 k).data.map fun b => .int .u8 b.toNat, ⟨?_, fun j a v ha hjv => ?_⟩, fun w' hw => ⟨by simp [Builtin.firstCells], by simp [Builtin.lenOf]⟩⟩
    · have : (s.extract 0 k).data.toList.length = k := by
        rw [Lib.extract_data]
        have : s.data.toList.length = s.size := Array.length_toList
        simp only [List.drop_zero, List.length_take, Nat.sub_zero]; omega
      rw [Array.length_toList] at this
      simp only [Array.size_map, this, List.length_take, toBytes_len, Array.length_toList]
      have : s.data.size = s.size := rfl
      omega
    · have e : (s.extract 0 k).data.toList = s.data.toList.take k := by rw [Lib.extract_data]; simp
      rw [List.getElem?_take, toBytes_get] at ha
      rw [Array.getElem?_map, ← Array.getElem?_toList, e, List.getElem?_take] at hjv
      rw [Nat.mul_one] at ha
      split at ha
      · rename_i hj
        rw [if_pos hj] at hjv
        cases hb : s.data.toList[j]? with
        | none => rw [hb] at ha; cases ha
        | some b => rw [hb] at ha hjv; cases ha; cases hjv; exact .int _ _
      · cases ha

/-- An object is given up. -/
theorem kill {c : Ctx} {w : World} {H : Heap} (r : Rel c w H) {id : Nat} {p : Nat × Nat} (hι : c.ι id = some p) : Rel c w (H.set id .dead) ∧ Post c w H c w (H.set id .dead) := by
  have liv : ∀ i, Live (H.set id .dead) i → i ≠ id ∧ Live H i := by
    intro i ⟨o, ho, hl⟩
    by_cases hi : id = i
    · subst hi
      have : id < H.length := (r.dom id p.1 p.2 hι).1
      simp [this] at ho; subst ho; cases hl
    · rw [List.getElem?_set_ne hi] at ho; exact ⟨fun e => hi e.symm, o, ho, hl⟩
  refine ⟨⟨?_, ?_, ?_, ?_, r.fr⟩, ⟨fun _ _ h => h, fun _ _ _ h => .inl h, fun _ h => h, fun _ h => .inl h, fun _ _ _ => rfl, ?_, ?_, by simp, Nat.le_refl _, fun _ arr e fz h => ⟨arr, e, fz, h, rfl⟩, rfl, rfl, rfl⟩⟩
  · intro i o b off h hi
    by_cases hii : id = i
    · subst hii
      have : id < H.length := (r.dom id b off hi).1
      simp [this] at h; subst h; trivial
    · rw [List.getElem?_set_ne hii] at h; exact r.obj i o b off h hi
  · intro i j b o1 o2 hi hj; exact r.inj i j b o1 o2 (liv i hi).2 (liv j hj).2
  · intro i b off h; have := r.dom i b off h; simpa using this
  · intro i b off hl h; exact r.sep i b off (liv i hl).2 h
  · intro i hi hn
    have : id ≠ i := fun e => by subst e; rw [hι] at hn; cases hn
    exact List.getElem?_set_ne this
  · intro i hi hn h; exact hn (liv i h).2

/-- An object's block goes over to a new object, written over in part. -/
theorem move_row {c : Ctx} {w w' : World} {H : Heap} (r : Rel c w H) {id b o o' : Nat} {x : AObj} (hid : H[id]? = some x) (hx : x.live = true) (hι : c.ι id = some (b, o)) {nc : List AVal} {ty : TypeId}
    (hsz : w'.heap.size = w.heap.size) (hoth : ∀ k, k ≠ b → w'.heap[k]? = w.heap[k]?) {arr arr' : Array Value} {e : TypeId} (hb : w.heap[b]? = some (.cells arr e (0, 0))) (hb' : w'.heap[b]? = some (.cells arr' e (0, 0))) (has : arr'.size = arr.size)
    (h1 : w'.os = w.os) (h2 : w'.tape = w.tape) (h3 : w'.output = w.output) (hfit : o' + nc.length ≤ arr'.size)
    (hv : ∀ (j : Nat) (a : AVal) (v : Value), nc[j]? = some a → arr'[o' + j]? = some v → VR c w a v) :
    ∃ c', Rel c' w' (H.set id .dead ++ [.cells nc ty]) ∧ Post c w H c' w' (H.set id .dead ++ [.cells nc ty]) ∧ c'.ι H.length = some (b, o') := by
  have hF : ¬ c.F b := r.sep id b o ⟨x, hid, hx⟩ hι
  have hlt : id < H.length := (List.getElem?_eq_some_iff.1 hid).1
  have hlen : (H.set id .dead).length = H.length := by simp
  have fresh : ∀ i p, c.ι i = some p → i ≠ H.length := fun i p h e => by have := (r.dom i p.1 p.2 h).1; omega
  have siz : ∀ (k : Nat) (arr0 : Array Value) (e0 : TypeId) (fz0 : Nat × Nat), w.heap[k]? = some (Obj.cells arr0 e0 fz0) → ∃ (arr1 : Array Value) (e1 : TypeId) (fz1 : Nat × Nat), w'.heap[k]? = some (Obj.cells arr1 e1 fz1) ∧ arr1.size = arr0.size := by
    intro k arr0 e0 fz0 hk
    by_cases hkb : k = b
    · subst hkb; rw [hb] at hk; cases hk; exact ⟨arr', e, _, hb', has⟩
    · exact ⟨arr0, e0, fz0, by rw [hoth k hkb, hk], rfl⟩
  have l : Le c w (c.bind H.length (b, o')) w' := by
    refine ⟨fun i p h => by simp [Ctx.bind, fresh i p h, h], fun _ h => h, fun k hk => hoth k (fun e => hF (e ▸ hk)), siz⟩
  have bnd : ∀ i b1 off, (c.bind H.length (b, o')).ι i = some (b1, off) → (i = H.length ∧ b1 = b ∧ off = o') ∨ (i < H.length ∧ c.ι i = some (b1, off)) := by
    intro i b1 off h
    simp only [Ctx.bind] at h
    split at h
    · rename_i hi; cases h; exact .inl ⟨hi, rfl, rfl⟩
    · exact .inr ⟨(r.dom i b1 off h).1, h⟩
  have get : ∀ i, i < H.length → (H.set id .dead ++ [.cells nc ty])[i]? = if id = i then some .dead else H[i]? := by
    intro i hi
    rw [List.getElem?_append_left (by omega)]
    split
    · rename_i he; subst he; simp [hlt]
    · rename_i he; exact List.getElem?_set_ne he
  have liv : ∀ i, i < H.length → Live (H.set id .dead ++ [.cells nc ty]) i → i ≠ id ∧ Live H i := by
    intro i hi ⟨y, hy, hyl⟩
    rw [get i hi] at hy
    split at hy
    · cases hy; cases hyl
    · rename_i he; exact ⟨fun e => he e.symm, y, hy, hyl⟩
  refine ⟨c.bind H.length (b, o'), ⟨?_, ?_, ?_, ?_, ?_⟩, ⟨l.ι, ?_, fun _ h => h, fun _ h => .inl h, ?_, ?_, ?_, by simp, by omega, siz, h1, h2, h3⟩, by simp [Ctx.bind]⟩
  · intro i y b1 off h hi
    rcases bnd i b1 off hi with ⟨rfl, rfl, rfl⟩ | ⟨hil, hi⟩
    · rw [List.getElem?_append_right (by omega), hlen, Nat.sub_self] at h
      cases h
      exact ⟨arr', e, hb', hfit, fun j a v ha hv' => (hv j a v ha hv').mono l⟩
    · rw [get i hil] at h
      split at h
      · cases h; trivial
      · rename_i he
        cases hy : y.live with
        | false => cases y <;> simp [AObj.live] at hy <;> trivial
        | true =>
          have hne : b1 ≠ b := fun e => he (r.inj id i b o off ⟨x, hid, hx⟩ ⟨y, h, hy⟩ hι (e ▸ hi))
          exact (r.obj i y b1 off h hi).mono l (hoth b1 hne)
  · intro i j b1 o1 o2 hi hj g1 g2
    rcases bnd i b1 o1 g1 with ⟨rfl, rfl, rfl⟩ | ⟨hil, g1'⟩ <;> rcases bnd j _ o2 g2 with ⟨rfl, hbb, rfl⟩ | ⟨hjl, g2'⟩
    · rfl
    · obtain ⟨hne, hl⟩ := liv j hjl hj
      exact absurd (r.inj j id _ _ _ hl ⟨x, hid, hx⟩ g2' hι) hne
    · subst hbb
      obtain ⟨hne, hl⟩ := liv i hil hi
      exact absurd (r.inj i id _ _ _ hl ⟨x, hid, hx⟩ g1' hι) hne
    · exact r.inj i j b1 o1 o2 (liv i hil hi).2 (liv j hjl hj).2 g1' g2'
  · intro i b1 off h
    rcases bnd i b1 off h with ⟨rfl, rfl, rfl⟩ | ⟨hil, h⟩
    · have := (r.dom id _ o hι).2; simp; omega
    · have := r.dom i b1 off h; simp; omega
  · intro i b1 off hl h
    rcases bnd i b1 off h with ⟨rfl, rfl, rfl⟩ | ⟨hil, h⟩
    · exact hF
    · exact r.sep i b1 off (liv i hil hl).2 h
  · intro k hk; have := r.fr k hk; omega
  · intro i b1 off h
    rcases bnd i b1 off h with ⟨rfl, rfl, rfl⟩ | ⟨hil, h⟩
    · exact .inr ⟨Nat.le_refl _, .inr ⟨id, o, ⟨x, hid, hx⟩, hι⟩⟩
    · exact .inl h
  · intro k hk hn; exact hoth k (fun e => hn id o ⟨x, hid, hx⟩ (e ▸ hι))
  · intro i hi hn
    rw [get i hi, if_neg]
    rintro rfl; rw [hι] at hn; cases hn
  · intro i hi hn h; exact hn (liv i hi h).2

/-! #### append -/
/-- It has room. -/
theorem run_append_fits {t t2 ty e : TypeId} {d2 : TypeDesc} {inf : TypeInfo} (hu : P.underlying t = some (.slice e)) (hu2 : P.underlying t2 = some d2) (hd2 : ∀ k, d2 ≠ .int k) (hi : P.info? e = some inf)
    {w w' : World} {base : Option Addr} {sLen sCap n : Nat} {x : Value} {nv : Array Value} (hlen : (Builtin.lenOf x).run P w = .ok n w) (hfirst : (Builtin.firstCells inf.size n x).run P w = .ok nv w) (hfit : sLen + n ≤ sCap)
    (hst : ∀ a, base = some a → (storeCells (a.add (sLen * inf.size)) nv.toList).run P w = .ok () w') (hn : base = none → w' = w) :
    (Builtin.append_ #[t, t2] ty #[.slice base sLen sCap, x]).run P w = .ok (.slice base (sLen + n) sCap) w' := by
  have hz : (match d2 with | .int _ => true | _ => false) = false := by cases d2 <;> first | rfl | exact absurd rfl (hd2 _)
  cases base with
  | none =>
    rw [hn rfl]
    simp [Builtin.append_, run_und hu, run_und hu2, run_sizeOf hi, hz, hlen, hfit, hfirst]
  | some a =>
    simp [Builtin.append_, run_und hu, run_und hu2, run_sizeOf hi, hz, hlen, hfit, hfirst, hst a rfl]

/-- It has none. -/
theorem run_append_new {t t2 ty e : TypeId} {d2 : TypeDesc} {inf : TypeInfo} {z : Value} (hu : P.underlying t = some (.slice e)) (hu2 : P.underlying t2 = some d2) (hd2 : ∀ k, d2 ≠ .int k) (hi : P.info? e = some inf) (hz : inf.zero = some z)
    {w : World} {base : Option Addr} {sLen sCap n : Nat} {x : Value} {ov nv : Array Value} (hlen : (Builtin.lenOf x).run P w = .ok n w) (hfirst : (Builtin.firstCells inf.size n x).run P w.drew = .ok nv w.drew)
    (hold : (Builtin.firstCells inf.size sLen (.slice base sLen sCap)).run P w.drew = .ok ov w.drew) (hfit : sCap < sLen + n)
    (h1 : sLen + n ≤ 9223372036854775807) (h2 : (sLen + n) * inf.bytes ≤ 140737488355328) :
    (Builtin.append_ #[t, t2] ty #[.slice base sLen sCap, x]).run P w =
      .ok (.slice (some ⟨w.heap.size, 0, none⟩) (sLen + n) (grownCap w (sLen + n) sCap e)) (w.drew.alloc (.cells (ov ++ nv ++ Builtin.zeroCells z.cells (grownCap w (sLen + n) sCap e - (sLen + n))) e)) := by
  have hzr : (match d2 with | .int _ => true | _ => false) = false := by cases d2 <;> first | rfl | exact absurd rfl (hd2 _)
  have hg : Builtin.nextslicecap (sLen + n) sCap * inf.bytes ≤ 281474976710656 := growslice_fits hfit h2
  have hn : ¬ (sLen + n ≤ sCap) := by omega
  have h63 : ¬ ((9223372036854775807 : Int) < (sLen : Int) + (n : Int)) := by omega
  have h48 : ¬ (281474976710656 < Builtin.nextslicecap (sLen + n) sCap * inf.bytes) := by omega
  simp [Builtin.append_, run_und hu, run_und hu2, run_sizeOf hi, hzr, hlen, hn, h63, h48, typeInfo, zeroValue, hi, hz, Question.forced, hfirst, hold, newRow, grownCap]

theorem RowR.append {c : Ctx} {w : World} {as bs : List AVal} {xs ys : Array Value} (h : RowR c w as xs) (k : RowR c w bs ys) : RowR c w (as ++ bs) (xs ++ ys) := by
  refine ⟨by simp [h.1, k.1], fun j a v ha hv => ?_⟩
  by_cases hj : j < as.length
  · rw [List.getElem?_append_left hj] at ha
    rw [Array.getElem?_append_left (by rw [h.1]; exact hj)] at hv
    exact h.2 j a v ha hv
  · rw [List.getElem?_append_right (by omega)] at ha
    rw [Array.getElem?_append_right (by rw [h.1]; omega), h.1] at hv
    exact k.2 _ a v ha hv

theorem RowR.mono {c c' : Ctx} {w w' : World} (l : Le c w c' w') {as : List AVal} {xs : Array Value} (h : RowR c w as xs) : RowR c' w' as xs :=
  ⟨h.1, fun j a v ha hv => (h.2 j a v ha hv).mono l⟩

/-- A new row behind an append. -/
theorem grown_row {c : Ctx} {w : World} {H H1 : Heap} (r0 : Rel c w H) (r : Rel c w H1) (p : Post c w H c w H1) (hH : H1.length = H.length) {e : TypeId} {sz : Nat} {cs : List AVal} {vs : Array Value} (hr : RowR c w cs vs) {need old : Nat}
    (hl : cs.length = need * sz) (h1 : need ≤ 9223372036854775807) {z : Value} (hz : z.cells.size = sz) :
    ∃ c', Rel c' (w.drew.alloc (.cells (vs ++ Builtin.zeroCells z.cells (grownCap w need old e - need)) e)) (H1 ++ [.cells cs e]) ∧
      Post c w H c' (w.drew.alloc (.cells (vs ++ Builtin.zeroCells z.cells (grownCap w need old e - need)) e)) (H1 ++ [.cells cs e]) ∧
      VR c' (w.drew.alloc (.cells (vs ++ Builtin.zeroCells z.cells (grownCap w need old e - need)) e)) (.sl H.length 0 need none sz) (.slice (some ⟨w.heap.size, 0, none⟩) need (grownCap w need old e)) := by
  have hge := grownCap_ge w need old e
  have hle := grownCap_le_maxLen w need old e (by unfold maxLen; omega)
  unfold maxLen at hle
  obtain ⟨c', r', p', hι⟩ := new_row r.drew (vs ++ Builtin.zeroCells z.cells (grownCap w need old e - need)) e cs e (by rw [Array.size_append, hr.1]; omega) (by
    intro j a v ha hv
    have hj := (List.getElem?_eq_some_iff.1 ha).1
    rw [Array.getElem?_append_left (by rw [hr.1]; exact hj)] at hv
    exact (hr.2 j a v ha hv).mono ((Post.drew c w H1).le r))
  rw [World.size_drew] at hι
  refine ⟨c', r', p.trans r0 ((Post.drew c w H1).trans r p'), ?_⟩
  rw [hH] at hι
  have hm : need * sz + (grownCap w need old e - need) * sz = grownCap w need old e * sz := by rw [← Nat.add_mul]; congr 1; omega
  refine .sl H.length 0 need none sz w.heap.size 0 _ hι hge hle (by simp) ⟨_, e, (0, 0), by have := heap_alloc_at w.drew (.cells (vs ++ Builtin.zeroCells z.cells (grownCap w need old e - need)) e); rwa [World.size_drew] at this, ?_⟩
  rw [Array.size_append, hr.1, hl, size_zeroCells, hz]
  omega

theorem VR.sl_inv {c : Ctx} {w : World} {id off len : Nat} {cap : Option Nat} {sz : Nat} {v : Value} (h : VR c w (.sl id off len cap sz) v) :
    ∃ a b o ca, v = .slice (some a) len ca ∧ c.ι id = some (b, o) ∧ len ≤ ca ∧ ca ≤ 9223372036854775807 ∧ (∀ n, cap = some n → ca = n) ∧
      (0 < ca → a = ⟨b, o + off, none⟩ ∧ ∃ (arr : Array Value) (e : TypeId) (fz : Nat × Nat), w.heap[b]? = some (Obj.cells arr e fz) ∧ o + off + ca * sz ≤ arr.size) := by
  cases h with
  | sl _ _ _ _ _ b o ca h1 h2 h3 h4 h5 => exact ⟨_, b, o, ca, rfl, h1, h2, h3, h4, fun _ => ⟨rfl, h5⟩⟩
  | sl0 _ _ _ _ b o a h1 hc => exact ⟨a, b, o, 0, rfl, h1, Nat.le_refl _, by omega, fun n hn => (hc n hn).symm, fun h => absurd h (by omega)⟩

theorem take_all {cs : List AVal} {n : Nat} (h : cs.length = n) : cs.take n = cs := List.take_of_length_le (by omega)

/-- An append in place, where the capacity was not known: the object's block goes over to a new object. -/
theorem append_move {c : Ctx} {w : World} {H : Heap} (r : Rel c w H) {t t2 ty e : TypeId} {d2 : TypeDesc} {inf : TypeInfo} (hu : P.underlying t = some (.slice e)) (hu2 : P.underlying t2 = some d2) (hni : ∀ k, d2 ≠ .int k) (hi : P.info? e = some inf)
    {id off len m ca sz b o : Nat} {cap : Option Nat} {ol news : List AVal} {k0 : Nat} {vx : Value} {nv : Array Value} (hsz : inf.size = sz) (hs : VR c w (.sl id off len cap sz) (.slice (some ⟨b, o + off, none⟩) len ca)) (hι : c.ι id = some (b, o))
    (hle2 : ca ≤ 9223372036854775807) (hroom : len + m ≤ ca) (hblk : ∃ (arr : Array Value) (e : TypeId) (fz : Nat × Nat), w.heap[b]? = some (Obj.cells arr e fz) ∧ o + off + ca * sz ≤ arr.size)
    (hsc : sliceCells H sz (.sl id off len cap sz) = some (ol, k0)) (hnr : RowR c w news nv) (hnl : news.length = m * sz) (hone : ∀ u ∈ nv.toList, u.oneCell' = true)
    (hrun : (Builtin.lenOf vx).run P w = .ok m w ∧ (Builtin.firstCells inf.size m vx).run P w = .ok nv w) :
    Yields P c w H (Builtin.append_ #[t, t2] ty #[.slice (some ⟨b, o + off, none⟩) len ca, vx]) (.sl H.length 0 (len + m) none sz) (H.set id .dead ++ [.cells (ol ++ news) e]) := by
  obtain ⟨arr, e', fz, hb, hfit⟩ := hblk
  obtain ⟨hol, hcs⟩ := sliceCells_ok hsc hs r
  have hk0 : k0 = len := by
    rcases hcs with ⟨a1, ca1, he1, _⟩ | ⟨s1, he1, _⟩
    · injection he1 with _ h _; exact h.symm
    · cases he1
  rw [hk0] at hol hcs
  cases hH : H[id]? with
  | none => exact absurd (r.dom id b o hι).1 (by have := List.getElem?_eq_none_iff.1 hH; omega)
  | some ob =>
    cases ob with
    | cells vs0 ty0 =>
      obtain ⟨arr0, e0, hb0, hl0, hh0⟩ := r.obj id _ b o hH hι
      rw [hb] at hb0; cases hb0
      have hmul : len * sz + m * sz ≤ ca * sz := by rw [← Nat.add_mul]; exact Nat.mul_le_mul_right _ hroom
      have hnvs : nv.toList.length = m * sz := by simp [hnr.1, hnl]
      have hnv2 : nv.size = m * sz := by rw [hnr.1, hnl]
      have hst := run_storeCells_at P b (o + off + len * sz) _ nv.toList 0 arr w hb (by rw [hnvs]; omega) hone
      simp only [Nat.add_zero] at hst
      have hrun2 := run_append_fits (P := P) (ty := ty) (base := some ⟨b, o + off, none⟩) hu hu2 hni hi hrun.1 hrun.2 (sLen := len) (sCap := ca) hroom (by
        intro a' ha'; cases ha'; rw [add_none, hsz]; exact hst) (by intro h; cases h)
      have hsize : ((arr.toList.take (o + off + len * sz) ++ nv.toList ++ arr.toList.drop (o + off + len * sz + nv.toList.length)).toArray).size = arr.size := by simp [hnv2]; omega
      have hb' := setRow_heap w b arr ((arr.toList.take (o + off + len * sz) ++ nv.toList ++ arr.toList.drop (o + off + len * sz + nv.toList.length)).toArray) _ (0, 0) hb
      have hcellv : ∀ (j : Nat) (a : AVal) (v : Value), (ol ++ news)[j]? = some a → ((arr.toList.take (o + off + len * sz) ++ nv.toList ++ arr.toList.drop (o + off + len * sz + nv.toList.length)).toArray)[o + off + j]? = some v → VR c w a v := by
        intro j a v ha hv
        simp only [List.getElem?_toArray] at hv
        have hlt : (arr.toList.take (o + off + len * sz)).length = o + off + len * sz := by simp; omega
        by_cases hj : j < len * sz
        · rw [List.getElem?_append_left (by omega)] at ha
          rw [List.append_assoc, List.getElem?_append_left (by omega), List.getElem?_take, if_pos (by omega), Array.getElem?_toList] at hv
          rcases hcs with ⟨a1, ca1, he1, _, _, hcc⟩ | ⟨s1, he1, _⟩
          · have hl0' : 0 < len := Nat.pos_of_ne_zero fun e => by rw [e, Nat.zero_mul] at hj; omega
            obtain ⟨b1, o1, he2, hc2⟩ := hcc hl0'
            injection he1 with h1 _ _
            rw [he2] at h1; cases h1
            obtain ⟨u, hu1, hu2⟩ := hc2 j a ha
            have : w.cell? ⟨b, o + off + j, none⟩ = arr[o + off + j]? := by unfold World.cell?; rw [hb]; rfl
            rw [this, hv] at hu1; cases hu1
            exact hu2
          · cases he1
        · rw [List.getElem?_append_right (by omega), hol] at ha
          have hjn : j - len * sz < news.length := (List.getElem?_eq_some_iff.1 ha).1
          rw [List.append_assoc, List.getElem?_append_right (by omega), hlt, List.getElem?_append_left (by omega), Array.getElem?_toList] at hv
          have : o + off + j - (o + off + len * sz) = j - len * sz := by omega
          rw [this] at hv
          exact hnr.2 _ a v ha hv
      have hoth : ∀ k, k ≠ b → (w.setRow b ((arr.toList.take (o + off + len * sz) ++ nv.toList ++ arr.toList.drop (o + off + len * sz + nv.toList.length)).toArray)).heap[k]? = w.heap[k]? := fun k hk => setRow_other w b k _ hk
      have hhs : (w.setRow b ((arr.toList.take (o + off + len * sz) ++ nv.toList ++ arr.toList.drop (o + off + len * sz + nv.toList.length)).toArray)).heap.size = w.heap.size := by simp [World.setRow]
      have ho : (w.setRow b ((arr.toList.take (o + off + len * sz) ++ nv.toList ++ arr.toList.drop (o + off + len * sz + nv.toList.length)).toArray)).os = w.os := rfl
      have ht : (w.setRow b ((arr.toList.take (o + off + len * sz) ++ nv.toList ++ arr.toList.drop (o + off + len * sz + nv.toList.length)).toArray)).tape = w.tape := rfl
      have hp : (w.setRow b ((arr.toList.take (o + off + len * sz) ++ nv.toList ++ arr.toList.drop (o + off + len * sz + nv.toList.length)).toArray)).output = w.output := rfl
      generalize w.setRow b ((arr.toList.take (o + off + len * sz) ++ nv.toList ++ arr.toList.drop (o + off + len * sz + nv.toList.length)).toArray) = w' at *
      generalize ((arr.toList.take (o + off + len * sz) ++ nv.toList ++ arr.toList.drop (o + off + len * sz + nv.toList.length)).toArray) = arr' at *
      obtain ⟨c', r', p', hι'⟩ := move_row (c := c) (w := w) (w' := w') r hH rfl hι (nc := ol ++ news) (ty := e) (o' := o + off) hhs hoth hb hb' hsize ho ht hp (by rw [hsize, List.length_append, hol, hnl]; omega) hcellv
      exact ⟨_, _, c', hrun2, r', p', .sl H.length 0 (len + m) none sz b (o + off) ca hι' hroom hle2 (by simp) ⟨_, _, (0, 0), hb', by rw [hsize]; omega⟩⟩
    | map es => obtain ⟨mes, clk, hb0, _⟩ := r.obj id _ b o hH hι; rw [hb] at hb0; cases hb0
    | siter s0 pos => obtain ⟨_, bs, _, hb0⟩ := r.obj id _ b o hH hι; rw [hb] at hb0; cases hb0
    | dead => simp [sliceCells, hH] at hsc

/-- The old cells, as an append reads them. -/
theorem olds_ok {c : Ctx} {w : World} {H : Heap} (r : Rel c w H) {sz : Nat} {s : AVal} {base : Option Addr} {len ca : Nat} {ol : List AVal} {m : Nat} (hv : VR c w s (.slice base len ca)) (hc : sliceCells H sz s = some (ol, m)) :
    ol.length = len * sz ∧ ∃ ov : Array Value, RowR c w ol ov ∧ (Builtin.firstCells sz len (.slice base len ca)).run P w.drew = .ok ov w.drew := by
  obtain ⟨hl, hk⟩ := sliceCells_ok hc hv r
  have hm : m = len := by
    rcases hk with ⟨a1, ca1, he1, _⟩ | ⟨s1, he1, _⟩
    · injection he1 with _ h _; exact h.symm
    · cases he1
  rw [hm] at hl hc
  obtain ⟨ov, h1, h2⟩ := first_ok (P := P) hc hv r (Nat.le_refl _)
  rw [take_all hl] at h1
  exact ⟨hl, ov, h1, (h2 w.drew (fun _ => rfl)).1⟩

/-- An append without room. -/
theorem append_grow {c : Ctx} {w : World} {H H1 : Heap} (r : Rel c w H) {t t2 ty e : TypeId} {d2 : TypeDesc} {te : TI} (T : TyOK P e te) (hu : P.underlying t = some (.slice e)) (hu2 : P.underlying t2 = some d2) (hni : ∀ k, d2 ≠ .int k)
    {s : AVal} {base : Option Addr} {len ca n m : Nat} {ol news : List AVal} {vx : Value} {nv : Array Value} (hv : VR c w s (.slice base len ca)) (hc : sliceCells H te.size s = some (ol, m)) (hlt : ca < len + n)
    (hb : (len + n) * te.bytes ≤ 140737488355328) (hm : len + n ≤ 4611686018427387904) (r1 : Rel c w H1) (p1 : Post c w H c w H1) (hH1 : H1.length = H.length)
    (hnr : RowR c w news nv) (hnl : news.length = n * te.size) (hrun : (Builtin.lenOf vx).run P w = .ok n w ∧ (Builtin.firstCells te.size n vx).run P w.drew = .ok nv w.drew) :
    Yields P c w H (Builtin.append_ #[t, t2] ty #[.slice base len ca, vx]) (.sl H.length 0 (len + n) none te.size) (H1 ++ [.cells (ol ++ news) e]) := by
  obtain ⟨inf, hi, hsz, hby, z, hzz, hzl0, hzl, _, _⟩ := T.info
  have hzs : z.cells.size = te.size := by rw [← hzl, hzl0]; simp
  obtain ⟨hol, ov, hor, horun⟩ := olds_ok (P := P) r hv hc
  rw [← hsz] at hrun horun
  have hrun2 := run_append_new (P := P) (ty := ty) hu hu2 hni hi hzz hrun.1 hrun.2 horun hlt (by omega) (by rw [hby]; exact hb)
  obtain ⟨c', r', p', hv'⟩ := grown_row r r1 p1 hH1 (e := e) (old := ca) (hor.append hnr) (need := len + n) (sz := te.size) (by rw [List.length_append, hol, hnl, Nat.add_mul]) (by omega) hzs
  exact ⟨_, _, c', hrun2, r', p', hv'⟩

theorem denAppend_ok {S : Sg} (hS : SgOK P S) {c : Ctx} {w : World} {H H' : Heap} (r : Rel c w H) {t t2 ty : TypeId} {s x v : AVal} {vs vx : Value} (h : denAppend S H t t2 s x = some (v, H')) (hs : VR c w s vs) (hx : VR c w x vx) :
    Yields P c w H (Builtin.append_ #[t, t2] ty #[vs, vx]) v H' := by
  unfold denAppend at h
  split at h
  · rename_i e _ _ _ _ _ t2i ht ht2
    have hu := (hS.ty _ _ ht).und
    simp only at hu
    have hu2 := (hS.ty _ _ ht2).und
    split at h
    · cases h
    · rename_i hni
      split at h
      · cases h
      · rename_i te hte
        have T := hS.ty _ _ hte
        obtain ⟨inf, hi, hsz, _⟩ := T.info
        cases hxc : sliceCells H te.size x with
        | none => rw [hxc] at h; cases h
        | some q =>
          obtain ⟨news, n⟩ := q
          rw [hxc] at h
          simp only at h
          split at h
          · cases h
          · rename_i hcell
            have hcell' : news.all AVal.cell = true := by simpa using hcell
            have hnl := (sliceCells_ok hxc hx r).1
            obtain ⟨nv, hnr, hnrun⟩ := first_ok (P := P) hxc hx r (Nat.le_refl n)
            rw [take_all hnl] at hnr
            have hone : ∀ u ∈ nv.toList, u.oneCell' = true := by
              intro u hm
              obtain ⟨j, hj, he⟩ := List.getElem_of_mem hm
              have hj' : j < nv.size := by simpa using hj
              have hjc : j < news.length := by rw [← hnr.1]; exact hj'
              exact oneCell_of (List.all_eq_true.1 hcell' news[j] (List.getElem_mem hjc)) (hnr.2 j news[j] u (List.getElem?_eq_getElem hjc) (by rw [← Array.getElem?_toList, List.getElem?_eq_getElem hj, he]))
            have runA : (Builtin.lenOf vx).run P w = .ok n w ∧ (Builtin.firstCells inf.size n vx).run P w = .ok nv w := by have := hnrun w (fun _ => rfl); rw [hsz]; exact ⟨this.2, this.1⟩
            have runB : (Builtin.lenOf vx).run P w = .ok n w ∧ (Builtin.firstCells te.size n vx).run P w.drew = .ok nv w.drew := ⟨runA.1, (hnrun w.drew (fun _ => rfl)).1⟩
            split at h
            · -- nothing is appended
              have hnv : nv = #[] := by
                apply Array.eq_empty_of_size_eq_zero
                rw [hnr.1, hnl]; simp
              have same : ∀ {base : Option Addr} {len ca : Nat}, len ≤ ca → (Builtin.append_ #[t, t2] ty #[.slice base len ca, vx]).run P w = .ok (.slice base len ca) w := by
                intro base len ca hle
                have := run_append_fits (P := P) (ty := ty) (base := base) hu hu2 hni hi runA.1 runA.2 (sLen := len) (sCap := ca) (by omega) (w' := w) (by
                  intro a _; rw [hnv]; simp [storeCells]) (fun _ => rfl)
                simpa using this
              split at h
              · cases h; cases hs; exact Tells.yields r ⟨_, same (Nat.le_refl _), .nils⟩
              · cases h
                obtain ⟨a, b, o, ca, rfl, h1, h2, _⟩ := hs.sl_inv
                exact Tells.yields r ⟨_, same h2, hs⟩
              · cases h
                cases hs with
                | isl _ _ _ _ _ b o ca g hcl hF h2 h3 h4 hc hh => exact Tells.yields r ⟨_, same h2, .isl _ _ _ _ _ b o ca g hcl hF h2 h3 h4 hc hh⟩
                | isl0 _ _ _ _ a ca h1 h2 => exact Tells.yields r ⟨_, same (Nat.zero_le _), .isl0 _ _ _ _ a ca h1 h2⟩
              · cases h
            · rename_i n0 m
              split at h
              · -- onto nil
                split at h
                · rename_i hc
                  cases h; cases hs
                  have := append_grow (P := P) (ty := ty) r T hu hu2 hni (s := .nils) (base := none) (len := 0) (ca := 0) (ol := []) (m := 0) .nils rfl (by omega) (by rw [Nat.zero_add]; exact hc.1) (by omega) r (Post.refl _ _ _) rfl hnr hnl runB
                  simpa using this
                · cases h
              · rename_i id off len cap sz
                split at h
                · rename_i hc
                  obtain ⟨hzz', hz0, hbb, hmm⟩ := hc
                  subst hzz'
                  cases hsc : sliceCells H te.size (.sl id off len cap te.size) with
                  | none => rw [hsc] at h; cases h
                  | some q =>
                    obtain ⟨ol, m'⟩ := q
                    rw [hsc] at h
                    simp only at h
                    obtain ⟨a, b, o, ca, rfl, hι, hle, hle2, hcap, hpos⟩ := hs.sl_inv
                    split at h
                    · -- the capacity is not known
                      cases h
                      by_cases hroom : len + (m + 1) ≤ ca
                      · obtain ⟨rfl, hblk⟩ := hpos (by omega)
                        exact append_move r hu hu2 hni hi hsz hs hι hle2 hroom hblk hsc hnr hnl hone runA
                      · obtain ⟨rk, pk⟩ := kill r hι
                        exact append_grow (P := P) r T hu hu2 hni hs hsc (by omega) hbb hmm rk pk (by simp) hnr hnl runB
                    · rename_i cp
                      have hca := hcap cp rfl
                      subst hca
                      split at h
                      · rename_i hroom
                        obtain ⟨rfl, hblk⟩ := hpos (by omega)
                        split at h
                        · rename_i vs0 ty0 hH
                          split at h
                          · rename_i hfit
                            cases h
                            have hfit' : off + len * te.size + news.length ≤ vs0.length := by rw [hnl, Nat.add_assoc, ← Nat.add_mul]; exact hfit
                            obtain ⟨w', hst, r', p'⟩ := store_row (P := P) r hH hι (news := news) (nv := nv.toList) (by simp [hnr.1]) (fun j a v ha hv => hnr.2 j a v ha (by rw [← Array.getElem?_toList]; exact hv)) hone hfit'
                            have hrun2 := run_append_fits (P := P) (ty := ty) (base := some ⟨b, o + off, none⟩) hu hu2 hni hi runA.1 runA.2 (sLen := len) (sCap := ca) hroom (w' := w') (by
                              intro a' ha'; cases ha'; rw [add_none, hsz, Nat.add_assoc]; exact hst) (by intro h; cases h)
                            refine ⟨_, w', c, hrun2, r', p', ?_⟩
                            obtain ⟨arr, e', fz, hb, hfb⟩ := hblk
                            obtain ⟨arr', e'', fz', hb', hsb⟩ := p'.siz b arr e' fz hb
                            exact .sl id off (len + (m + 1)) _ te.size b o ca hι hroom hle2 (fun n hn => by cases hn; rfl) ⟨arr', e'', fz', hb', by omega⟩
                          · cases h
                        · cases h
                      · rename_i hroom
                        cases h
                        exact append_grow (P := P) r T hu hu2 hni hs hsc (by omega) hbb hmm r (Post.refl _ _ _) rfl hnr hnl runB
                · cases h
              · rename_i cells off len cap cl
                split at h
                · cases h
                · rename_i cp
                  split at h
                  · rename_i hc
                    obtain ⟨hlt, hbb, hmm⟩ := hc
                    cases hsc : sliceCells H te.size (.isl cells off len (some cp) cl) with
                    | none => rw [hsc] at h; cases h
                    | some q =>
                      obtain ⟨ol, m'⟩ := q
                      rw [hsc] at h
                      cases h
                      cases hs with
                      | isl _ _ _ _ _ b o ca g hcl hF h2 h3 h4 hc hh =>
                        have := h4 cp rfl
                        exact append_grow (P := P) r T hu hu2 hni (.isl _ _ _ _ _ b o ca g hcl hF h2 h3 h4 hc hh) hsc (by omega) hbb hmm r (Post.refl _ _ _) rfl hnr hnl runB
                      | isl0 _ _ _ _ a ca h1 h2 =>
                        have := h2 cp rfl
                        exact append_grow (P := P) r T hu hu2 hni (.isl0 _ _ _ _ a ca h1 h2) hsc (by omega) hbb hmm r (Post.refl _ _ _) rfl hnr hnl runB
                  · cases h
              · cases h
  · cases h

end Go.AM
