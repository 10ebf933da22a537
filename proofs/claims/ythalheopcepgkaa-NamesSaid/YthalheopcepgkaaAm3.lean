/- The abstract machine, 3: memory: what loads, stores and new blocks do to the relation. -/
import Derived.Test.YthalheopcepgkaaAm2
namespace Go.AM
set_option linter.unusedVariables false
variable {P : Program}

theorem add_none (b o n : Nat) : (⟨b, o, none⟩ : Addr).add n = ⟨b, o + n, none⟩ := by
  unfold Addr.add; split <;> simp_all

theorem VR.ofV1 (c : Ctx) (w : World) (v : Value) : VR c w (AM.ofV1 v) v := by
  unfold AM.ofV1
  split <;> first | exact .any _ | constructor
  rfl

theorem VR.ofValue (c : Ctx) (w : World) (v : Value) : VR c w (AM.ofValue v) v := by
  unfold AM.ofValue
  split
  · rename_i cs
    refine .agg _ _ (by simp) fun j a v ha hv => ?_
    rw [List.getElem?_map] at ha
    rw [Array.getElem?_toList, hv] at ha
    cases ha
    exact .ofV1 _ _ _
  · rename_i cs
    refine .tup _ _ (by simp) fun j a v ha hv => ?_
    rw [List.getElem?_map] at ha
    rw [Array.getElem?_toList, hv] at ha
    cases ha
    exact .ofV1 _ _ _
  · exact .ofV1 _ _ _

/-- The cells of a value. -/
theorem cellsOf_ok {c : Ctx} {w : World} {a : AVal} {v : Value} {cs : List AVal} (h : cellsOf a = some cs) (hv : VR c w a v) :
    v.cells.size = cs.length ∧ ∀ (j : Nat) (x : AVal) (y : Value), cs[j]? = some x → v.cells[j]? = some y → VR c w x y := by
  have one : ∀ (a : AVal) (v : Value), VR c w a v → v.cells = #[v] → v.cells.size = [a].length ∧ ∀ (j : Nat) (x : AVal) (y : Value), [a][j]? = some x → v.cells[j]? = some y → VR c w x y := by
    intro a v hv hc
    rw [hc]
    refine ⟨rfl, fun j x y hx hy => ?_⟩
    cases j with
    | zero => simp at hx hy; subst hx; subst hy; exact hv
    | succ j => simp at hx
  cases hv with
  | any => simp [cellsOf] at h
  | tup => simp [cellsOf] at h
  | agg cs' vs hs hh => simp [cellsOf] at h; subst h; exact ⟨hs, hh⟩
  | obj o v hv' =>
    simp [cellsOf] at h; subst h
    have hc : v.cells = #[v] := by cases o <;> (simp only [expand] at hv'; cases hv'; rfl)
    exact one _ _ (.obj o v hv') hc
  | _ => first | (simp [cellsOf] at h; subst h; exact one _ _ (by constructor <;> assumption) rfl)

/-- A cell that may be stored. -/
theorem oneCell_of {c : Ctx} {w : World} {a : AVal} {v : Value} (h : a.cell = true) (hv : VR c w a v) : v.oneCell' = true := by
  cases hv with
  | any => simp [AVal.cell] at h
  | tup => simp [AVal.cell] at h
  | agg => simp [AVal.cell] at h
  | obj o v hv' => cases o <;> (simp only [expand] at hv'; cases hv'; rfl)
  | _ => rfl

/-- What a pointer points into. -/
theorem rowAt_ok {c : Ctx} {w : World} {H : Heap} {x : AVal} {v : Value} {row : List AVal} {off : Nat} (h : rowAt H x = some (row, off)) (hv : VR c w x v) (r : Rel c w H) :
    ∃ b o, v = .pointer (some ⟨b, o + off, none⟩) ∧ ∀ (j : Nat) (a : AVal), row[j]? = some a → ∃ u, w.cell? ⟨b, o + j, none⟩ = some u ∧ VR c w a u := by
  have imm : ∀ {cells : List AVal} {off : Nat} {cl : Bool} {v : Value}, VR c w (.ip cells off cl) v →
      ∃ b o, v = .pointer (some ⟨b, o + off, none⟩) ∧ ∀ (j : Nat) (a : AVal), cells[j]? = some a → ∃ u, w.cell? ⟨b, o + j, none⟩ = some u ∧ VR c w a u := by
    intro cells off cl v hv
    cases hv with
    | ip _ _ _ b o g hcl hF hc hh => exact ⟨b, o, rfl, fun j a ha => ⟨g j, hc j (List.getElem?_eq_some_iff.1 ha).1, hh j a ha⟩⟩
  cases x with
  | ptr id off' =>
    simp only [rowAt] at h
    split at h
    · rename_i vs ty hH
      simp at h; obtain ⟨rfl, rfl⟩ := h
      cases hv with
      | ptr _ _ b o hι =>
        refine ⟨b, o, rfl, fun j a ha => ?_⟩
        obtain ⟨arr, e, hb, hl, hh⟩ := r.obj id _ b o hH hι
        have hj : j < vs.length := (List.getElem?_eq_some_iff.1 ha).1
        have hlt : o + j < arr.size := by omega
        refine ⟨arr[o + j], ?_, hh j a _ ha (Array.getElem?_eq_getElem hlt)⟩
        simp [World.cell?, hb, hlt]
    · cases h
  | ip cells off' cl => simp only [rowAt, Option.some.injEq, Prod.mk.injEq] at h; obtain ⟨rfl, rfl⟩ := h; exact imm hv
  | obj o =>
    cases hv with
    | obj _ _ hv' => cases o <;> (simp only [rowAt, expand, Option.some.injEq, Prod.mk.injEq] at h; obtain ⟨rfl, rfl⟩ := h; exact imm hv')
  | _ => simp [rowAt] at h

/-- A pointer some cells further on. -/
theorem ptrAdd_ok {c : Ctx} {w : World} {x y : AVal} {v : Value} {n : Nat} (h : ptrAdd x n = some y) (hv : VR c w x v) :
    ∃ b o, v = .pointer (some ⟨b, o, none⟩) ∧ VR c w y (.pointer (some ⟨b, o + n, none⟩)) := by
  have imm : ∀ {cells : List AVal} {off : Nat} {cl : Bool} {v : Value}, VR c w (.ip cells off cl) v →
      ∃ b o, v = .pointer (some ⟨b, o, none⟩) ∧ VR c w (.ip cells (off + n) cl) (.pointer (some ⟨b, o + n, none⟩)) := by
    intro cells off cl v hv
    cases hv with
    | ip _ _ _ b o g hcl hF hc hh => exact ⟨b, o + off, rfl, by rw [Nat.add_assoc]; exact .ip cells (off + n) cl b o g hcl hF hc hh⟩
  cases x with
  | ptr id off =>
    simp only [ptrAdd, Option.some.injEq] at h; subst h
    cases hv with
    | ptr _ _ b o hι => exact ⟨b, o + off, rfl, by rw [Nat.add_assoc]; exact .ptr id (off + n) b o hι⟩
  | ip cells off cl => simp only [ptrAdd, Option.some.injEq] at h; subst h; exact imm hv
  | obj o =>
    cases hv with
    | obj _ _ hv' => cases o <;> (simp only [ptrAdd, expand, Option.some.injEq] at h; subst h; exact imm hv')
  | _ => simp [ptrAdd] at h

/-! #### loads -/
theorem run_loadCellsFrom (w : World) (b o : Nat) (g : Nat → Value) : ∀ (n i : Nat) (acc : Array Value), (∀ k, i ≤ k → k < i + n → w.cell? ⟨b, o + k, none⟩ = some (g k)) →
    (loadCellsFrom ⟨b, o, none⟩ i n acc).run P w = .ok (acc ++ ((List.range' i n).map g).toArray) w := by
  intro n
  induction n with
  | zero => intro i acc _; simp [loadCellsFrom]
  | succ n ih =>
    intro i acc h
    have h0 := h i (Nat.le_refl _) (by omega)
    simp only [loadCellsFrom, Sem.run_bind, run_load, add_none, h0, Result.andThen_ok]
    rw [ih (i + 1) (acc.push (g i)) (fun k hk hk' => h k (by omega) (by omega))]
    simp [List.range'_succ]

theorem run_loadCells (w : World) (b o : Nat) (g : Nat → Value) (n : Nat) (h : ∀ k, k < n → w.cell? ⟨b, o + k, none⟩ = some (g k)) :
    (loadCells ⟨b, o, none⟩ n).run P w = .ok ((List.range' 0 n).map g).toArray w := by
  unfold loadCells
  rw [run_loadCellsFrom (P := P) w b o g n 0 #[] (fun k _ hk => h k (by omega))]
  simp

def aggD : TypeDesc → Bool
  | .struct _ | .array _ _ => true
  | _ => false

/-- Facts on a type of the program. -/
structure TyOK (P : Program) (t : TypeId) (i : TI) : Prop where
  und : P.underlying t = some i.desc
  info : ∃ inf, P.info? t = some inf ∧ inf.size = i.size ∧ inf.bytes = i.bytes ∧ ∃ z, inf.zero = some z ∧ i.zero = z.cells.toList.map ofV1 ∧ i.zero.length = i.size ∧
    (i.agg = true → ∃ cs, z = .agg cs) ∧ (i.agg = false → z.cells = #[z])
  agg : i.agg = aggD i.desc
  flds : ∀ fs, i.desc = .struct fs → fs.size = i.flds.length ∧ ∀ (j : Nat) (f : Field) (g : Nat × Nat × Bool), fs[j]? = some f → i.flds[j]? = some g →
    f.offset = g.1 ∧ ∃ ti, P.info? f.type = some ti ∧ ti.size = g.2.1 ∧ (∃ d, P.underlying f.type = some d ∧ g.2.2 = aggD d)

theorem run_sizeOf {t : TypeId} {inf : TypeInfo} (h : P.info? t = some inf) (w : World) : (sizeOf t).run P w = .ok inf.size w := by
  simp [sizeOf, typeInfo, h]
theorem run_und {t : TypeId} {d : TypeDesc} (h : P.underlying t = some d) (w : World) : (underlying t).run P w = .ok d w := by
  simp [underlying, h]
theorem run_isAgg {t : TypeId} {d : TypeDesc} (h : P.underlying t = some d) (w : World) : (isAgg t).run P w = .ok (aggD d) w := by
  simp only [isAgg, Sem.run_bind, run_und h, Result.andThen_ok]
  cases d <;> rfl

theorem TyOK.sizeOf {t : TypeId} {i : TI} (h : TyOK P t i) (w : World) : (Go.sizeOf t).run P w = .ok i.size w := by
  obtain ⟨inf, hi, hs, _⟩ := h.info
  rw [run_sizeOf hi, hs]
theorem TyOK.isAgg {t : TypeId} {i : TI} (h : TyOK P t i) (w : World) : (Go.isAgg t).run P w = .ok i.agg w := by
  rw [run_isAgg h.und, h.agg]
theorem TyOK.run_und {t : TypeId} {i : TI} (h : TyOK P t i) (w : World) : (underlying t).run P w = .ok i.desc w := AM.run_und h.und w

/-- The variable at a place of a row. -/
theorem loadVar_ok {c : Ctx} {w : World} {t : TypeId} {ti : TI} (ht : TyOK P t ti) {row : List AVal} {off b o : Nat} {v : AVal} (h : getVar ti row off = some v)
    (hr : ∀ (j : Nat) (a : AVal), row[j]? = some a → ∃ u, w.cell? ⟨b, o + j, none⟩ = some u ∧ VR c w a u) :
    ∃ cv, (loadVar t ⟨b, o + off, none⟩).run P w = .ok cv w ∧ VR c w v cv := by
  unfold getVar at h
  cases ha : ti.agg with
  | false =>
    rw [ha] at h
    simp only [Bool.false_eq_true, if_false] at h
    obtain ⟨u, hu, hv⟩ := hr off v h
    exact ⟨u, by simp [loadVar, ht.isAgg, ha, hu], hv⟩
  | true =>
    rw [ha] at h
    simp only [if_true] at h
    split at h
    · rename_i hle
      cases h
      let g : Nat → Value := fun k => (w.cell? ⟨b, o + off + k, none⟩).getD default
      have hg : ∀ k, k < ti.size → w.cell? ⟨b, o + off + k, none⟩ = some (g k) := by
        intro k hk
        have hlt : off + k < row.length := by omega
        obtain ⟨u, hu, _⟩ := hr (off + k) row[off + k] (List.getElem?_eq_getElem hlt)
        rw [← Nat.add_assoc] at hu
        show _ = some ((w.cell? ⟨b, o + off + k, none⟩).getD default)
        rw [hu]; rfl
      refine ⟨.agg ((List.range' 0 ti.size).map g).toArray, ?_, ?_⟩
      · simp only [loadVar, Sem.run_bind, ht.isAgg, ha, Result.andThen_ok, if_true, ht.sizeOf, run_loadCells (P := P) w b (o + off) g ti.size hg]
        rfl
      · refine .agg _ _ (by simp; omega) fun j a u hja hju => ?_
        rw [List.getElem?_take] at hja
        split at hja
        · rename_i hj
          rw [List.getElem?_drop] at hja
          obtain ⟨u', hu', hv⟩ := hr (off + j) a hja
          rw [← Nat.add_assoc, hg j hj] at hu'
          cases hu'
          simp [hj] at hju
          rw [← hju]; exact hv
        · cases hja
    · cases h

/-! #### new blocks -/
def Ctx.bind (c : Ctx) (id : Nat) (p : Nat × Nat) : Ctx := ⟨fun i => if i = id then some p else c.ι i, c.F⟩
def Ctx.freeze (c : Ctx) (b : Nat) : Ctx := ⟨c.ι, fun x => c.F x ∨ x = b⟩

theorem ObjR.mono {c c' : Ctx} {w w' : World} (l : Le c w c' w') {b off : Nat} {o : AObj} (h : ObjR c w b off o) (hb : w'.heap[b]? = w.heap[b]?) : ObjR c' w' b off o := by
  cases o with
  | cells vs ty => obtain ⟨arr, e, h1, h2, h3⟩ := h; exact ⟨arr, e, by rw [hb, h1], h2, fun j a v ha hv => (h3 j a v ha hv).mono l⟩
  | map es => obtain ⟨mes, clk, h1, h2, h3⟩ := h; exact ⟨mes, clk, by rw [hb, h1], h2, fun j a m ha hm => ⟨(h3 j a m ha hm).1.mono l, (h3 j a m ha hm).2.mono l⟩⟩
  | siter s pos => obtain ⟨h0, bs, h1, h2⟩ := h; exact ⟨h0, bs, h1, by rw [hb, h2]⟩
  | dead => trivial

theorem heap_alloc_lt (w : World) (o : Obj) {b : Nat} (h : b < w.heap.size) : (w.alloc o).heap[b]? = w.heap[b]? := by
  show (w.heap.push o)[b]? = _
  rw [Array.getElem?_push, if_neg (by omega)]

theorem heap_alloc_at (w : World) (o : Obj) : (w.alloc o).heap[w.heap.size]? = some o := by
  show (w.heap.push o)[w.heap.size]? = _
  simp

theorem lt_of_cells {w : World} {b : Nat} {o : Obj} (h : w.heap[b]? = some o) : b < w.heap.size := (Array.getElem?_eq_some_iff.1 h).1

/-- A new block of which nothing is said yet. -/
theorem Post.alloc (c : Ctx) (w : World) (H : Heap) (o : Obj) : Post c w H c (w.alloc o) H :=
  ⟨fun _ _ h => h, fun _ _ _ h => .inl h, fun _ h => h, fun _ h => .inl h, fun b hb _ => heap_alloc_lt w o hb, fun _ _ _ => rfl, fun _ _ h => h, Nat.le_refl _,
   by simp, fun b arr e fz h => ⟨arr, e, fz, by rw [heap_alloc_lt w o (lt_of_cells h), h], rfl⟩, rfl, rfl, rfl⟩

theorem Rel.alloc {c : Ctx} {w : World} {H : Heap} (r : Rel c w H) (o : Obj) : Rel c (w.alloc o) H :=
  ⟨fun id x b off h hi => (r.obj id x b off h hi).mono ((Post.alloc c w H o).le r) (heap_alloc_lt w o (r.dom id b off hi).2), r.inj,
   fun id b off h => ⟨(r.dom id b off h).1, Nat.lt_of_lt_of_le (r.dom id b off h).2 (by simp)⟩, r.sep, fun b h => Nat.lt_of_lt_of_le (r.fr b h) (by simp)⟩

theorem Post.drew (c : Ctx) (w : World) (H : Heap) : Post c w H c w.drew H :=
  ⟨fun _ _ h => h, fun _ _ _ h => .inl h, fun _ h => h, fun _ h => .inl h, fun _ _ _ => rfl, fun _ _ _ => rfl, fun _ _ h => h, Nat.le_refl _, Nat.le_refl _,
   fun _ arr e fz h => ⟨arr, e, fz, h, rfl⟩, rfl, rfl, rfl⟩

theorem Rel.drew {c : Ctx} {w : World} {H : Heap} (r : Rel c w H) : Rel c w.drew H :=
  ⟨fun id x b off h hi => (r.obj id x b off h hi).mono ((Post.drew c w H).le r) rfl, r.inj, r.dom, r.sep, r.fr⟩

/-- The last block of a world may be frozen, if nobody has it. -/
theorem freeze_new {c : Ctx} {w : World} {H : Heap} (r : Rel c w H) {b : Nat} (hb : b < w.heap.size) (hn : ∀ i o, c.ι i ≠ some (b, o)) :
    Rel (c.freeze b) w H ∧ Le c w (c.freeze b) w := by
  have l : Le c w (c.freeze b) w := ⟨fun _ _ h => h, fun _ h => .inl h, fun _ _ => rfl, fun _ arr e fz h => ⟨arr, e, fz, h, rfl⟩⟩
  refine ⟨⟨fun id x b off h hi => (r.obj id x b off h hi).mono l rfl, r.inj, r.dom, fun id b' off hl hi => ?_, fun b' h => ?_⟩, l⟩
  · rintro (h | h)
    · exact r.sep id b' off hl hi h
    · subst h; exact hn id off hi
  · rcases h with h | h
    · exact r.fr b' h
    · subst h; exact hb

/-- A new row that is not to be written. -/
theorem new_imm {c : Ctx} {w : World} {H : Heap} (r : Rel c w H) (arr : Array Value) (e : TypeId) (fz : Nat × Nat) (cs : List AVal)
    (hs : cs.length ≤ arr.size) (hv : ∀ (j : Nat) (a : AVal) (v : Value), cs[j]? = some a → arr[j]? = some v → VR c w a v) :
    ∃ c', Rel c' (w.alloc (.cells arr e fz)) H ∧ Post c w H c' (w.alloc (.cells arr e fz)) H ∧ c'.F w.heap.size ∧ ∃ g : Nat → Value,
      (∀ (j : Nat), j < cs.length → (w.alloc (.cells arr e fz)).cell? ⟨w.heap.size, 0 + j, none⟩ = some (g j)) ∧ (∀ (j : Nat) (a : AVal), cs[j]? = some a → VR c' (w.alloc (.cells arr e fz)) a (g j)) := by
  have r1 := r.alloc (.cells arr e fz)
  have p1 := Post.alloc c w H (.cells arr e fz)
  obtain ⟨r2, l2⟩ := freeze_new r1 (b := w.heap.size) (by simp) (fun i o h => Nat.lt_irrefl _ (r.dom i _ o h).2)
  refine ⟨c.freeze w.heap.size, r2, ?_, .inr rfl, fun j => arr[j]?.getD default, fun j hj => ?_, fun j a ha => ?_⟩
  · refine ⟨fun _ _ h => h, fun _ _ _ h => .inl h, fun _ h => .inl h, ?_, p1.frame, p1.unm, p1.dead, p1.len, p1.size, p1.siz, rfl, rfl, rfl⟩
    rintro b (h | h)
    · exact .inl h
    · exact .inr (.inl (by omega))
  · have : j < arr.size := by omega
    rw [Nat.zero_add]
    have hc : (w.alloc (.cells arr e fz)).cell? ⟨w.heap.size, j, none⟩ = arr[j]? := by unfold World.cell?; rw [heap_alloc_at]; rfl
    rw [hc]; simp [this]
  · have hj : j < arr.size := by have := (List.getElem?_eq_some_iff.1 ha).1; omega
    have := hv j a arr[j] ha (Array.getElem?_eq_getElem hj)
    simp only [Array.getElem?_eq_getElem hj, Option.getD_some]
    exact (this.mono (p1.le r)).mono l2

/-- A new object. -/
theorem new_mut {c : Ctx} {w : World} {H : Heap} (r : Rel c w H) (x : Obj) (o : AObj)
    (ho : ∀ c' w', Le c w c' w' → w'.heap[w.heap.size]? = some x → ObjR c' w' w.heap.size 0 o) :
    ∃ c', Rel c' (w.alloc x) (H ++ [o]) ∧ Post c w H c' (w.alloc x) (H ++ [o]) ∧ c'.ι H.length = some (w.heap.size, 0) := by
  have p1 := Post.alloc c w H x
  have fresh : ∀ id p, c.ι id = some p → id ≠ H.length := fun id p h e => by have := (r.dom id p.1 p.2 h).1; omega
  have l : Le c w (c.bind H.length (w.heap.size, 0)) (w.alloc x) := by
    refine ⟨fun id p h => ?_, fun _ h => h, fun b h => heap_alloc_lt w x (r.fr b h), p1.siz⟩
    simp [Ctx.bind, fresh id p h, h]
  have old : ∀ id, id < H.length → (H ++ [o])[id]? = H[id]? := fun id h => List.getElem?_append_left h
  have bnd : ∀ id b off, (c.bind H.length (w.heap.size, 0)).ι id = some (b, off) → (id = H.length ∧ b = w.heap.size ∧ off = 0) ∨ (id < H.length ∧ c.ι id = some (b, off)) := by
    intro id b off h
    simp only [Ctx.bind] at h
    split at h
    · rename_i hid; cases h; exact .inl ⟨hid, rfl, rfl⟩
    · exact .inr ⟨(r.dom id b off h).1, h⟩
  have liv : ∀ id, id < H.length → (Live (H ++ [o]) id ↔ Live H id) := fun id h => by unfold Live; rw [old id h]
  refine ⟨c.bind H.length (w.heap.size, 0), ⟨?_, ?_, ?_, ?_, ?_⟩, ⟨l.ι, ?_, fun _ h => h, fun _ h => .inl h, p1.frame, ?_, ?_, by simp, p1.size, p1.siz, rfl, rfl, rfl⟩, by simp [Ctx.bind]⟩
  · intro id y b off h hi
    rcases bnd id b off hi with ⟨rfl, rfl, rfl⟩ | ⟨hlt, hi⟩
    · simp at h; subst h; exact ho _ _ l (heap_alloc_at w x)
    · rw [old id hlt] at h
      exact (r.obj id y b off h hi).mono l (heap_alloc_lt w x (r.dom id b off hi).2)
  · intro i j b o1 o2 hi hj h1 h2
    rcases bnd i b o1 h1 with ⟨rfl, rfl, rfl⟩ | ⟨hlt, h1⟩ <;> rcases bnd j _ o2 h2 with ⟨rfl, hb, rfl⟩ | ⟨hlt', h2⟩
    · rfl
    · exact absurd (r.dom j _ o2 h2).2 (by omega)
    · subst hb; exact absurd (r.dom i _ o1 h1).2 (by omega)
    · exact r.inj i j b o1 o2 ((liv i hlt).1 hi) ((liv j hlt').1 hj) h1 h2
  · intro id b off h
    rcases bnd id b off h with ⟨rfl, rfl, rfl⟩ | ⟨hlt, h⟩
    · simp
    · have := (r.dom id b off h).2; simp; omega
  · intro id b off hl h hF
    rcases bnd id b off h with ⟨rfl, rfl, rfl⟩ | ⟨hlt, h⟩
    · exact absurd (r.fr _ hF) (by omega)
    · exact r.sep id b off ((liv id hlt).1 hl) h hF
  · intro b h; exact Nat.lt_of_lt_of_le (r.fr b h) (by simp)
  · intro id b off h
    rcases bnd id b off h with ⟨rfl, rfl, rfl⟩ | ⟨hlt, h⟩
    · exact .inr ⟨Nat.le_refl _, .inl (Nat.le_refl _)⟩
    · exact .inl h
  · intro id hid hn; exact old id hid
  · intro id hid hn h; exact hn ((liv id hid).1 h)

/-- A new row that may be written. -/
theorem new_row {c : Ctx} {w : World} {H : Heap} (r : Rel c w H) (arr : Array Value) (e : TypeId) (cs : List AVal) (ty : TypeId)
    (hs : cs.length ≤ arr.size) (hv : ∀ (j : Nat) (a : AVal) (v : Value), cs[j]? = some a → arr[j]? = some v → VR c w a v) :
    ∃ c', Rel c' (w.alloc (.cells arr e)) (H ++ [.cells cs ty]) ∧ Post c w H c' (w.alloc (.cells arr e)) (H ++ [.cells cs ty]) ∧ c'.ι H.length = some (w.heap.size, 0) :=
  new_mut r (.cells arr e) (.cells cs ty) fun c' w' l hb => ⟨arr, e, hb, by omega, fun j a v ha hv' => (hv j a v ha (by simpa using hv')).mono l⟩

/-! #### an object is written -/
theorem upd {c : Ctx} {w w' : World} {H : Heap} (r : Rel c w H) {id b off : Nat} {x o : AObj} (hid : H[id]? = some x) (hx : x.live = true) (hι : c.ι id = some (b, off)) (ho : o.live = true)
    (hsz : w'.heap.size = w.heap.size) (hoth : ∀ k, k ≠ b → w'.heap[k]? = w.heap[k]?)
    (hs : ∀ (arr : Array Value) (e : TypeId) (fz : Nat × Nat), w.heap[b]? = some (Obj.cells arr e fz) → ∃ (arr' : Array Value) (e' : TypeId) (fz' : Nat × Nat), w'.heap[b]? = some (Obj.cells arr' e' fz') ∧ arr'.size = arr.size)
    (h1 : w'.os = w.os) (h2 : w'.tape = w.tape) (h3 : w'.output = w.output)
    (hR : Le c w c w' → ObjR c w' b off o) :
    Rel c w' (H.set id o) ∧ Post c w H c w' (H.set id o) := by
  have hF : ¬ c.F b := r.sep id b off ⟨x, hid, hx⟩ hι
  have hlt : id < H.length := (List.getElem?_eq_some_iff.1 hid).1
  have l : Le c w c w' := by
    refine ⟨fun _ _ h => h, fun _ h => h, fun k hk => hoth k (fun e => hF (e ▸ hk)), fun k arr e fz hk => ?_⟩
    by_cases hkb : k = b
    · subst hkb; exact hs arr e fz hk
    · exact ⟨arr, e, fz, by rw [hoth k hkb, hk], rfl⟩
  have liv : ∀ i, Live (H.set id o) i ↔ Live H i := by
    intro i
    unfold Live
    by_cases hi : id = i
    · subst hi
      refine ⟨fun _ => ⟨x, hid, hx⟩, fun _ => ⟨o, by simp [hlt], ho⟩⟩
    · rw [List.getElem?_set_ne hi]
  refine ⟨⟨?_, ?_, ?_, ?_, ?_⟩, ⟨fun _ _ h => h, fun _ _ _ h => .inl h, fun _ h => h, fun _ h => .inl h, ?_, ?_, ?_, by simp, by omega, l.siz, h1, h2, h3⟩⟩
  · intro i y b' off' h hi
    by_cases hii : id = i
    · subst hii
      rw [hι] at hi; cases hi
      simp [hlt] at h; subst h
      exact hR l
    · rw [List.getElem?_set_ne hii] at h
      cases hy : y.live with
      | false => cases y <;> simp [AObj.live] at hy <;> trivial
      | true =>
        have hne : b' ≠ b := fun e => hii (r.inj id i b off off' ⟨x, hid, hx⟩ ⟨y, h, hy⟩ hι (e ▸ hi))
        exact (r.obj i y b' off' h hi).mono l (hoth b' hne)
  · intro i j b' o1 o2 hi hj; exact r.inj i j b' o1 o2 ((liv i).1 hi) ((liv j).1 hj)
  · intro i b' off' h; have := r.dom i b' off' h; simp; omega
  · intro i b' off' hl h; exact r.sep i b' off' ((liv i).1 hl) h
  · intro b' h; have := r.fr b' h; omega
  · intro k hk hn; exact hoth k (fun e => hn id off ⟨x, hid, hx⟩ (e ▸ hι))
  · intro i hi hn
    have : id ≠ i := fun e => by subst e; rw [hι] at hn; cases hn
    exact List.getElem?_set_ne this
  · intro i hi hn h; exact hn ((liv i).1 h)

end Go.AM
