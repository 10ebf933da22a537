/- The abstract machine, 14: a region that draws its order is sound. -/
import Derived.Test.YthalheopcepgkaaAm13
namespace Go.AM
set_option linter.unusedVariables false
set_option linter.unusedSimpArgs false
variable {P : Program}

/-! #### the trace -/
/-- An entry that may change the heap. -/
def chg (S : Sg) (x : En) : Bool := effOp S x.o.op && x.w && !quietE S x

structure TD (S : Sg) (call : Calling) (n : Nat) (ops : Array Oper) (m : List Nat) (e0 : Tr) (k : Nat) (es : List En) (e2 : Tr) (H2 : Heap) : Prop where
  len : es.length = ops.size
  at0 : eAt es e2 0 = e0
  ent : ∀ (p : Nat) (x : En), es[p]? = some x → ops[p]? = some x.o ∧ EnOK S call n ops (k + cnt ops.toList p) x (eAt es e2 (p + 1)) ∧ x.G' = hAt es H2 (p + 1)
  ok : OkS S ops m
  pair : ∀ (i j : Nat) (x y : En), i < j → es[i]? = some x → es[j]? = some y → pairOK S call m i x j y = true

theorem readOp_eff {S : Sg} {op : Op} (h : readOp op = true) : effOp S op = false := by
  cases op <;> simp only [readOp, effOp, reduceCtorEq] at h ⊢
  split at h <;> simp_all

theorem quietE_den {S : Sg} {call : Calling} (hq : CallQ S call) {x : En} (h : quietE S x = true) {v : AVal} {H H' : Heap} (hd : denOp S call true x.e H x.o.op = some (v, H')) : H' = H := by
  unfold quietE at h
  split at h
  · rename_i c hop
    split at h
    · rename_i f hc
      split at h
      · rename_i g fi ca hg
        rw [hop] at hd
        simp only [denOp, hc, hg] at hd
        exact hq g _ _ _ _ h hd
      · cases h
    · cases h
  · cases h

theorem TD.keep {S : Sg} {call : Calling} {n : Nat} {ops : Array Oper} {m : List Nat} {e0 : Tr} {k : Nat} {es : List En} {e2 : Tr} {H2 : Heap} (T : TD S call n ops m e0 k es e2 H2) (hq : CallQ S call) {p : Nat} {x : En} (hx : es[p]? = some x) (hc : chg S x = false) : x.G' = x.G := by
  obtain ⟨_, K, _⟩ := T.ent p x hx
  cases hw : x.w with
  | false => exact (K.skip hw).2
  | true =>
    cases ha : isAlloc x.o.op with
    | true => exact (K.alloc hw ha).2
    | false =>
      have hd := K.den hw ha
      cases he : effOp S x.o.op with
      | true =>
        simp only [chg, he, hw, Bool.true_and, Bool.not_eq_false'] at hc
        exact quietE_den hq hc hd
      | false =>
        cases hr : readOp x.o.op with
        | true => exact denOp_reads hd hr
        | false => exact (denOp_still (H2 := x.G) hd he hr ha).1

theorem hAt_some {es : List En} {H2 : Heap} {p : Nat} {x : En} (hx : es[p]? = some x) : hAt es H2 p = x.G := by simp [hAt, hx]
theorem eAt_some {es : List En} {e2 : Tr} {p : Nat} {x : En} (hx : es[p]? = some x) : eAt es e2 p = x.e := by simp [eAt, hx]

theorem TD.one {S : Sg} {call : Calling} {n : Nat} {ops : Array Oper} {m : List Nat} {e0 : Tr} {k : Nat} {es : List En} {e2 : Tr} {H2 : Heap} (T : TD S call n ops m e0 k es e2 H2) (hq : CallQ S call) (p : Nat)
    (h : ∀ x, es[p]? = some x → chg S x = false) : hAt es H2 (p + 1) = hAt es H2 p := by
  cases hx : es[p]? with
  | some x => rw [← (T.ent p x hx).2.2, T.keep hq hx (h x hx), hAt_some hx]
  | none =>
    have h1 : es[p + 1]? = none := by rw [List.getElem?_eq_none_iff] at hx ⊢; omega
    simp [hAt, hx, h1]

theorem TD.first {S : Sg} {call : Calling} {n : Nat} {ops : Array Oper} {m : List Nat} {e0 : Tr} {k : Nat} {es : List En} {e2 : Tr} {H2 : Heap} (T : TD S call n ops m e0 k es e2 H2) (hq : CallQ S call) : ∀ (d q : Nat),
    hAt es H2 (q + d) = hAt es H2 q ∨ ∃ (j : Nat) (x : En), q ≤ j ∧ j < q + d ∧ es[j]? = some x ∧ chg S x = true ∧ hAt es H2 q = x.G
  | 0, q => .inl rfl
  | d + 1, q => by
    by_cases h : ∃ x, es[q]? = some x ∧ chg S x = true
    · obtain ⟨x, hx, hc⟩ := h
      exact .inr ⟨q, x, Nat.le_refl _, by omega, hx, hc, hAt_some hx⟩
    · have h1 := T.one hq q fun x hx => by
        cases hc : chg S x with
        | false => rfl
        | true => exact absurd ⟨x, hx, hc⟩ h
      rcases T.first hq d (q + 1) with h2 | ⟨j, x, h2, h3, h4, h5, h6⟩
      · refine .inl ?_
        rw [show q + (d + 1) = q + 1 + d by omega, h2, h1]
      · exact .inr ⟨j, x, by omega, by omega, h4, h5, by rw [← h1, h6]⟩

theorem TD.last {S : Sg} {call : Calling} {n : Nat} {ops : Array Oper} {m : List Nat} {e0 : Tr} {k : Nat} {es : List En} {e2 : Tr} {H2 : Heap} (T : TD S call n ops m e0 k es e2 H2) (hq : CallQ S call) (i : Nat) : ∀ (d : Nat),
    hAt es H2 (i + d) = hAt es H2 i ∨ ∃ (j : Nat) (x : En), i ≤ j ∧ j < i + d ∧ es[j]? = some x ∧ chg S x = true ∧ hAt es H2 (i + d) = x.G'
  | 0 => .inl rfl
  | d + 1 => by
    by_cases h : ∃ x, es[i + d]? = some x ∧ chg S x = true
    · obtain ⟨x, hx, hc⟩ := h
      exact .inr ⟨i + d, x, by omega, by omega, hx, hc, (T.ent _ x hx).2.2.symm⟩
    · have h1 := T.one hq (i + d) fun x hx => by
        cases hc : chg S x with
        | false => rfl
        | true => exact absurd ⟨x, hx, hc⟩ h
      rcases T.last hq i d with h2 | ⟨j, x, h2, h3, h4, h5, h6⟩
      · exact .inl (by rw [show i + (d + 1) = i + d + 1 by omega, h1, h2])
      · exact .inr ⟨j, x, h2, by omega, h4, h5, by rw [show i + (d + 1) = i + d + 1 by omega, h1, h6]⟩

theorem putA_get {n : Nat} {e e' : Tr} {dst : Option Tmp} {v : AVal} (h : putA n e dst v = some e') :
    (∀ d, dst = some d → d < n ∧ e'.get d = v) ∧ ∀ t, dst ≠ some t → e'.get t = e.get t := by
  unfold putA at h
  cases dst with
  | none => cases h; exact ⟨fun d h => (by cases h), fun t _ => rfl⟩
  | some d =>
    simp only at h
    split at h
    · rename_i hd
      cases h
      refine ⟨fun d' h => ?_, fun t ht => ?_⟩
      · cases h; exact ⟨hd, by rw [Tr.get_set, if_pos rfl]⟩
      · rw [Tr.get_set, if_neg (fun e => ht (by rw [e]))]
    · cases h

theorem putA_of {n : Nat} {e e1 e' : Tr} {dst : Option Tmp} {v : AVal} (h : putA n e dst v = some e') : ∃ e2, putA n e1 dst v = some e2 := by
  unfold putA at h ⊢
  cases dst with
  | none => exact ⟨_, rfl⟩
  | some d =>
    simp only at h ⊢
    split at h
    · rename_i hd; exact ⟨_, by rw [if_pos hd]⟩
    · cases h

theorem TD.env {S : Sg} {call : Calling} {n : Nat} {ops : Array Oper} {m : List Nat} {e0 : Tr} {k : Nat} {es : List En} {e2 : Tr} {H2 : Heap} (T : TD S call n ops m e0 k es e2 H2) : ∀ p, p ≤ ops.size →
    (∀ (j : Nat) (x : En) (t : Nat), j < p → es[j]? = some x → x.o.dst = some t → (eAt es e2 p).get t = x.v) ∧
    (∀ t : Nat, (∀ (j : Nat) (x : En), j < p → es[j]? = some x → x.o.dst ≠ some t) → (eAt es e2 p).get t = e0.get t)
  | 0, _ => ⟨fun j x t h => absurd h (Nat.not_lt_zero _), fun t _ => by rw [T.at0]⟩
  | p + 1, hp => by
    obtain ⟨h1, h2⟩ := T.env p (by omega)
    have hlt : p < es.length := by rw [T.len]; omega
    have hx : es[p]? = some es[p] := List.getElem?_eq_getElem hlt
    obtain ⟨hop, K, _⟩ := T.ent p _ hx
    have hpe : eAt es e2 p = es[p].e := eAt_some hx
    obtain ⟨g1, g2⟩ := putA_get K.put
    refine ⟨fun j y t hj hy hd => ?_, fun t ht => ?_⟩
    · by_cases hjp : j = p
      · subst hjp
        rw [hx] at hy; cases hy
        exact (g1 t hd).2
      · have hne : es[p].o.dst ≠ some t := fun h => hjp (T.ok.uniq j p _ _ t (T.ent j y hy).1 hop hd h)
        rw [g2 t hne, ← hpe]
        exact h1 j y t (by omega) hy hd
    · rw [g2 t (ht p _ (by omega) hx), ← hpe]
      exact h2 t fun j x hj hx => ht j x (by omega) hx

/-! #### an object that was to come is there -/
theorem materialize {c : Ctx} {w : World} {H : Heap} (r : Rel c w H) (arr : Array Value) (e : TypeId) (cs : List AVal) (ty : TypeId) {id : Nat} (hid : H[id]? = some (.cells cs ty)) (hno : c.ι id = none)
    (hs : cs.length ≤ arr.size) (hv : ∀ (j : Nat) (a : AVal) (v : Value), cs[j]? = some a → arr[j]? = some v → VR c w a v) :
    Rel (c.bind id (w.heap.size, 0)) (w.alloc (.cells arr e)) H ∧ Le c w (c.bind id (w.heap.size, 0)) (w.alloc (.cells arr e)) ∧
    (∀ (c0 : Ctx) (w0 : World) (H0 : Heap), Post c0 w0 H0 c w H → H0.length ≤ id → Post c0 w0 H0 (c.bind id (w.heap.size, 0)) (w.alloc (.cells arr e)) H) := by
  have p1 := Post.alloc c w H (.cells arr e)
  have fresh : ∀ i p, c.ι i = some p → i ≠ id := fun i p h e => by subst e; rw [hno] at h; cases h
  have l : Le c w (c.bind id (w.heap.size, 0)) (w.alloc (.cells arr e)) := by
    refine ⟨fun i p h => ?_, fun _ h => h, fun b h => heap_alloc_lt w _ (r.fr b h), p1.siz⟩
    simp [Ctx.bind, fresh i p h, h]
  have hlt : id < H.length := (List.getElem?_eq_some_iff.1 hid).1
  have bnd : ∀ i b off, (c.bind id (w.heap.size, 0)).ι i = some (b, off) → (i = id ∧ b = w.heap.size ∧ off = 0) ∨ (i ≠ id ∧ c.ι i = some (b, off)) := by
    intro i b off h
    simp only [Ctx.bind] at h
    split at h
    · rename_i hid; cases h; exact .inl ⟨hid, rfl, rfl⟩
    · rename_i hne; exact .inr ⟨hne, h⟩
  refine ⟨⟨?_, ?_, ?_, ?_, ?_⟩, l, fun c0 w0 H0 p hge => ?_⟩
  · intro i y b off h hi
    rcases bnd i b off hi with ⟨rfl, rfl, rfl⟩ | ⟨_, hi⟩
    · rw [hid] at h; cases h
      exact ⟨arr, e, heap_alloc_at w _, by omega, fun j a v ha hv' => (hv j a v ha (by simpa using hv')).mono l⟩
    · exact (r.obj i y b off h hi).mono l (heap_alloc_lt w _ (r.dom i b off hi).2)
  · intro i j b o1 o2 hi hj h1 h2
    rcases bnd i b o1 h1 with ⟨e1, e2, e3⟩ | ⟨_, k1⟩ <;> rcases bnd j _ o2 h2 with ⟨f1, f2, f3⟩ | ⟨_, k2⟩
    · rw [e1, f1]
    · exact absurd (r.dom j _ o2 k2).2 (by omega)
    · exact absurd (r.dom i _ o1 k1).2 (by omega)
    · exact r.inj i j b o1 o2 hi hj k1 k2
  · intro i b off h
    rcases bnd i b off h with ⟨rfl, rfl, rfl⟩ | ⟨_, h⟩
    · exact ⟨hlt, by simp⟩
    · have := r.dom i b off h; exact ⟨this.1, Nat.lt_of_lt_of_le this.2 (by simp)⟩
  · intro i b off hl h hF
    rcases bnd i b off h with ⟨rfl, rfl, rfl⟩ | ⟨_, h⟩
    · exact absurd (r.fr _ hF) (by omega)
    · exact r.sep i b off hl h hF
  · intro b h; exact Nat.lt_of_lt_of_le (r.fr b h) (by simp)
  · have hsz := p.size
    refine ⟨fun i q h => l.ι i q (p.ι i q h), fun i b off h => ?_, p.F, p.Fnew, fun b hb hn => ?_, p.unm, p.dead, p.len, Nat.le_trans hsz p1.size, fun b ar en fz h => ?_, p.os, p.tape, p.output⟩
    · rcases bnd i b off h with ⟨rfl, rfl, rfl⟩ | ⟨_, h⟩
      · exact .inr ⟨hge, .inl hsz⟩
      · exact p.new i b off h
    · rw [heap_alloc_lt w _ (Nat.lt_of_lt_of_le hb hsz)]
      exact p.frame b hb hn
    · obtain ⟨a1, e1, f1, h1, h2⟩ := p.siz b ar en fz h
      obtain ⟨a2, e2, f2, h3, h4⟩ := p1.siz b a1 e1 f1 h1
      exact ⟨a2, e2, f2, h3, by omega⟩

/-! #### the invariant -/
def On (listed : Array Bool) (i : Nat) : Prop := listed.getD i false = true

structure Inv (S : Sg) (n : Nat) (ops : Array Oper) (e0 : Tr) (k : Nat) (es : List En) (H2 : Heap) (c0 : Ctx) (w0 : World) (H0 : Heap) (q : Nat) (e : Tr) (listed : Array Bool) (c : Ctx) (w : World) (a : Act) : Prop where
  size : listed.size = ops.size
  cl : ClosedSet ops (On listed)
  eff : ∀ (j : Nat) (x : En), es[j]? = some x → effOp S x.o.op = true → (On listed j ↔ j < q)
  st : St S n c w e (hAt es H2 q) a
  post : Post c0 w0 H0 c w (hAt es H2 q)
  env1 : ∀ (j : Nat) (x : En) (t : Nat), On listed j → es[j]? = some x → x.o.dst = some t → e.get t = x.v
  env0 : ∀ t : Nat, (∀ (j : Nat) (x : En), On listed j → es[j]? = some x → x.o.dst ≠ some t) → e.get t = e0.get t
  slots : ∀ (p : Nat) (x : En) (t : TypeId), es[p]? = some x → x.o.op = .alloc t → ¬ On listed p →
    c.ι (k + cnt ops.toList p) = none ∧ ∃ ti, S.ty t = some ti ∧ (hAt es H2 q)[k + cnt ops.toList p]? = some (.cells ti.zero t)
  low : H0.length ≤ k

theorem On.set {listed : Array Bool} {i j : Nat} (hi : i < listed.size) : On (listed.setIfInBounds i true) j ↔ On listed j ∨ j = i := by
  unfold On
  rw [Array.getD_eq_getD_getElem?, Array.getElem?_setIfInBounds]
  by_cases h : i = j
  · subst h; simp [hi]
  · rw [if_neg h, ← Array.getD_eq_getD_getElem?]
    exact ⟨.inl, fun h' => h'.resolve_right (fun e => h e.symm)⟩

/-- An operation whose turn may come. -/
structure Turn (ops : Array Oper) (listed : Array Bool) (i : Nat) : Prop where
  lt : i < ops.size
  no : ¬ On listed i
  pre : ∀ o, ops[i]? = some o → ∀ e ∈ o.after, Region.binds .any e = true → On listed e.on

theorem turn_of {ops : Array Oper} {listed : Array Bool} {i : Nat} (hs : listed.size = ops.size) (h : i ∈ Region.ready .any ops listed) : Turn ops listed i := by
  unfold Region.ready at h
  rw [List.mem_filter, List.mem_range] at h
  obtain ⟨h1, h2⟩ := h
  rw [Bool.and_eq_true] at h2
  obtain ⟨h2, h3⟩ := h2
  refine ⟨h1, fun ho => ?_, fun o ho e he hb => ?_⟩
  · unfold On at ho
    have hl : i < listed.size := by omega
    simp [Array.getD_eq_getD_getElem?, hl] at h2 ho
    rw [h2] at ho; cases ho
  · rw [ho] at h3
    simp only [Option.map_some, Option.getD_some] at h3
    have := (Array.all_eq_true'.1 h3) e he
    rw [hb] at this
    simpa [On] using this

theorem ready_of {ops : Array Oper} {listed : Array Bool} {i : Nat} (hs : listed.size = ops.size) (h : Turn ops listed i) : i ∈ Region.ready .any ops listed := by
  unfold Region.ready
  rw [List.mem_filter, List.mem_range]
  refine ⟨h.lt, ?_⟩
  rw [Bool.and_eq_true]
  have hl : i < listed.size := by have := h.lt; omega
  refine ⟨?_, ?_⟩
  · have := h.no
    unfold On at this
    simp [Array.getD_eq_getD_getElem?, hl] at this ⊢
    exact this
  · have ho : ops[i]? = some ops[i] := Array.getElem?_eq_getElem h.lt
    rw [ho]
    simp only [Option.map_some, Option.getD_some]
    refine Array.all_eq_true'.2 fun e he => ?_
    by_cases hb : Region.binds .any e = true
    · have := h.pre _ ho e he hb
      unfold On at this
      simp [this]
    · simp [hb]

theorem bit_lt {ops : Array Oper} (hlt : ∀ (i : Nat) (o : Oper), ops[i]? = some o → ∀ e ∈ o.after, Region.binds .any e = true → e.on < i) {i j : Nat} {o : Oper} (ho : ops[i]? = some o) (h : bit (masks ops.toList []) i j = true) : j < i :=
  bit_mem (D := fun x => x < i) (fun i' o' ho' hi' e he hb => Nat.lt_trans (hlt i' o' ho' e he hb) hi') hlt i o ho (fun e he hb => hlt i o ho e he hb) j h

section
variable {S : Sg} {call : Calling} {n : Nat} {ops : Array Oper} {e0 : Tr} {k : Nat} {es : List En} {e2 : Tr} {H2 : Heap} {c0 : Ctx} {w0 : World} {H0 : Heap} {q : Nat} {e : Tr} {listed : Array Bool} {c : Ctx} {w : World} {a : Act}

theorem Inv.bit_on (T : TD S call n ops (masks ops.toList []) e0 k es e2 H2) (I : Inv S n ops e0 k es H2 c0 w0 H0 q e listed c w a) {i j : Nat} {o : Oper} (ho : ops[i]? = some o) (hp : ∀ e ∈ o.after, Region.binds .any e = true → On listed e.on) (h : bit (masks ops.toList []) i j = true) : On listed j :=
  bit_mem I.cl T.ok.on_lt i o ho hp j h

/-- What it looks at is what it looked at in the trace. -/
theorem Inv.looks (T : TD S call n ops (masks ops.toList []) e0 k es e2 H2) (I : Inv S n ops e0 k es H2 c0 w0 H0 q e listed c w a) {i : Nat} {x : En} (hx : es[i]? = some x) (ht : Turn ops listed i) : ∀ t ∈ Oper.looksAt ops x.o, e.get t = x.e.get t := by
  intro t hl
  have ho := (T.ent i x hx).1
  obtain ⟨g1, g2⟩ := T.env i (Nat.le_of_lt ht.lt)
  rw [eAt_some hx] at g1 g2
  by_cases hw : ∃ (j : Nat) (y : En), es[j]? = some y ∧ y.o.dst = some t
  · obtain ⟨j, y, hy, hd⟩ := hw
    have hoj := (T.ent j y hy).1
    obtain ⟨hne, hb | hb⟩ := T.ok.rw' i x.o ho t hl j y.o hoj hd
    · have hj : On listed j := I.bit_on T ho (fun e he hb => ht.pre x.o ho e he hb) hb
      have hlt : j < i := bit_lt T.ok.on_lt ho hb
      rw [I.env1 j y t hj hy hd, g1 j y t hlt hy hd]
    · have hlt : i < j := bit_lt T.ok.on_lt hoj hb
      have hj : ¬ On listed j := fun hj => ht.no (I.bit_on T hoj (fun e he hb => I.cl j y.o hoj hj e he hb) hb)
      have un : ∀ j' y', es[j']? = some y' → y'.o.dst = some t → j' = j := fun j' y' hy' hd' => T.ok.uniq j' j _ _ t (T.ent j' y' hy').1 hoj hd' hd
      rw [I.env0 t fun j' y' hj' hy' hd' => hj (by rw [← un j' y' hy' hd']; exact hj'), g2 t fun j' y' hj' hy' hd' => by rw [un j' y' hy' hd'] at hj'; omega]
  · rw [I.env0 t fun j y _ hy hd => hw ⟨j, y, hy, hd⟩, g2 t fun j y _ hy hd => hw ⟨j, y, hy, hd⟩]

theorem Inv.opds (T : TD S call n ops (masks ops.toList []) e0 k es e2 H2) (I : Inv S n ops e0 k es H2 c0 w0 H0 q e listed c w a) {i : Nat} {x : En} (hx : es[i]? = some x) (ht : Turn ops listed i) : ∀ y ∈ x.o.op.operands, opd S e y = opd S x.e y := by
  intro y hy
  cases y with
  | tmp t =>
    have : t ∈ Oper.looksAt ops x.o := by
      unfold Oper.looksAt
      rw [List.mem_append]
      refine .inl (List.mem_filterMap.2 ⟨.tmp t, by simpa using hy, rfl⟩)
    exact I.looks T hx ht t this
  | _ => rfl

theorem Inv.want (T : TD S call n ops (masks ops.toList []) e0 k es e2 H2) (I : Inv S n ops e0 k es H2 c0 w0 H0 q e listed c w a) {i : Nat} {x : En} (hx : es[i]? = some x) (ht : Turn ops listed i) : wantedA ops e x.o = some x.w := by
  rw [← (T.ent i x hx).2.1.want]
  unfold wantedA
  cases hg : x.o.guard with
  | none => rfl
  | some g =>
    obtain ⟨j, want⟩ := g
    simp only
    cases hd : (ops[j]?).bind (·.dst) with
    | none => rfl
    | some d =>
      have : d ∈ Oper.looksAt ops x.o := by
        unfold Oper.looksAt
        rw [List.mem_append]
        refine .inr ?_
        rw [hg]
        simp [hd]
      simp only [I.looks T hx ht d this]

/-- Nothing between may change the heap, if what comes now acts. -/
theorem Inv.still (T : TD S call n ops (masks ops.toList []) e0 k es e2 H2) (hcq : CallQ S call) (I : Inv S n ops e0 k es H2 c0 w0 H0 q e listed c w a) {i : Nat} {x : En} (hx : es[i]? = some x) (ht : Turn ops listed i) (he : effOp S x.o.op = true) : q ≤ i ∧ hAt es H2 q = x.G := by
  have hq : q ≤ i := by
    have : ¬ i < q := (fun h => ht.no ((I.eff i x hx he).2 h) : ¬ i < q)
    omega
  refine ⟨hq, ?_⟩
  have ho := (T.ent i x hx).1
  rcases T.first hcq (i - q) q with h | ⟨j, y, h1, h2, h3, h4, _⟩
  · rw [show q + (i - q) = i by omega] at h
    rw [← h, hAt_some hx]
  · simp only [chg, Bool.and_eq_true] at h4
    have hb := T.ok.chain i j _ _ ho (T.ent j y h3).1 he h4.1.1 (by omega)
    have := (I.eff j y h3 h4.1.1).1 (I.bit_on T ho (fun e he hb => ht.pre x.o ho e he hb) hb)
    omega

theorem Inv.next (T : TD S call n ops (masks ops.toList []) e0 k es e2 H2) (I : Inv S n ops e0 k es H2 c0 w0 H0 q e listed c w a) {i : Nat} {x : En} (hx : es[i]? = some x) (ht : Turn ops listed i)
    {q' : Nat} (hq' : q' = if effOp S x.o.op then i + 1 else q) {e' : Tr} (hput : putA n e x.o.dst x.v = some e') {c' : Ctx} {w' : World} {a' : Act} (st' : St S n c' w' e' (hAt es H2 q') a') (p' : Post c0 w0 H0 c' w' (hAt es H2 q'))
    (sl' : ∀ (p : Nat) (y : En) (t : TypeId), es[p]? = some y → y.o.op = .alloc t → p ≠ i → ¬ On listed p →
      c'.ι (k + cnt ops.toList p) = none ∧ ∃ ti, S.ty t = some ti ∧ (hAt es H2 q')[k + cnt ops.toList p]? = some (.cells ti.zero t)) :
    Inv S n ops e0 k es H2 c0 w0 H0 q' e' (listed.setIfInBounds i true) c' w' a' := by
  have hi : i < listed.size := by rw [I.size]; exact ht.lt
  have ho := (T.ent i x hx).1
  obtain ⟨g1, g2⟩ := putA_get hput
  refine ⟨by simp [I.size], ?_, ?_, st', p', ?_, ?_, ?_, I.low⟩
  · intro j o hoj hj ed hed hb
    rw [On.set hi] at hj ⊢
    rcases hj with hj | rfl
    · exact .inl (I.cl j o hoj hj ed hed hb)
    · exact .inl (ht.pre o hoj ed hed hb)
  · intro j y hy hey
    rw [On.set hi]
    subst hq'
    by_cases hex : effOp S x.o.op = true
    · rw [if_pos hex]
      have h1 : ¬ i < q := (fun h => ht.no ((I.eff i x hx hex).2 h) : ¬ i < q)
      constructor
      · rintro (h | rfl)
        · have := (I.eff j y hy hey).1 h; omega
        · omega
      · intro h
        by_cases hji : j = i
        · exact .inr hji
        · have hb := T.ok.chain i j _ _ ho (T.ent j y hy).1 hex hey (by omega)
          exact .inl (I.bit_on T ho (fun e he hb => ht.pre x.o ho e he hb) hb)
    · rw [if_neg hex, I.eff j y hy hey]
      constructor
      · rintro (h | rfl)
        · exact h
        · rw [hx] at hy; cases hy; exact absurd hey hex
      · exact .inl
  · intro j y t hj hy hd
    rw [On.set hi] at hj
    by_cases hji : j = i
    · subst hji
      rw [hx] at hy; cases hy
      exact (g1 t hd).2
    · have hne : x.o.dst ≠ some t := fun h => hji (T.ok.uniq j i _ _ t (T.ent j y hy).1 ho hd h)
      rw [g2 t hne]
      exact I.env1 j y t (hj.resolve_right hji) hy hd
  · intro t h
    have hne : x.o.dst ≠ some t := h i x ((On.set hi).2 (.inr rfl)) hx
    rw [g2 t hne]
    exact I.env0 t fun j y hj hy => h j y ((On.set hi).2 (.inl hj)) hy
  · intro p y t hy hop hn
    rw [On.set hi] at hn
    exact sl' p y t hy hop (fun h => hn (.inr h)) (fun h => hn (.inl h))

/-- The slots through a step. -/
theorem Inv.slots_step (I : Inv S n ops e0 k es H2 c0 w0 H0 q e listed c w a) {c' : Ctx} {w' : World} {H' : Heap} (p1 : Post c w (hAt es H2 q) c' w' H') :
    ∀ (p : Nat) (y : En) (t : TypeId), es[p]? = some y → y.o.op = .alloc t → ¬ On listed p →
      c'.ι (k + cnt ops.toList p) = none ∧ ∃ ti, S.ty t = some ti ∧ H'[k + cnt ops.toList p]? = some (.cells ti.zero t) := by
  intro p y t hy hop hn
  obtain ⟨h1, ti, h2, h3⟩ := I.slots p y t hy hop hn
  have hlt := (List.getElem?_eq_some_iff.1 h3).1
  refine ⟨?_, ti, h2, by rw [p1.unm _ hlt h1]; exact h3⟩
  cases h : c'.ι (k + cnt ops.toList p) with
  | none => rfl
  | some bo =>
    rcases p1.new _ bo.1 bo.2 h with h | ⟨h, _⟩
    · rw [h1] at h; cases h
    · omega

theorem cnt_mono (l : List Oper) : ∀ (p q : Nat), p ≤ q → cnt l p ≤ cnt l q := by
  intro p q h
  unfold cnt
  obtain ⟨d, rfl⟩ := Nat.le.dest h
  rw [List.take_add, List.countP_append]
  omega

theorem cnt_lt {l : List Oper} {p q : Nat} {o : Oper} (ho : l[p]? = some o) (ha : isAlloc o.op = true) (h : p < q) : cnt l p < cnt l q := by
  have h1 : cnt l (p + 1) = cnt l p + 1 := by
    unfold cnt
    rw [List.take_add_one, ho]
    simp [ha]
  have := cnt_mono l (p + 1) q h
  omega

theorem step_ok (hS : SgOK P S) (hc : CallOK P S call) (hcq : CallQ S call) (T : TD S call n ops (masks ops.toList []) e0 k es e2 H2) (I : Inv S n ops e0 k es H2 c0 w0 H0 q e listed c w a) (r0 : Rel c0 w0 H0) {i : Nat} (ht : Turn ops listed i)
    {K : Act → World → Prop} {Q : Exit → Act → World → Prop} (hK : ∀ q' e' c' w' a', Inv S n ops e0 k es H2 c0 w0 H0 q' e' (listed.setIfInBounds i true) c' w' a' → K a' w') : wpOp P ops Q i K a w := by
  have hlt : i < es.length := by rw [T.len]; exact ht.lt
  obtain ⟨x, hx⟩ : ∃ x, es[i]? = some x := ⟨_, List.getElem?_eq_getElem hlt⟩
  obtain ⟨ho, E, hG'⟩ := T.ent i x hx
  obtain ⟨e', hput⟩ := putA_of (e1 := e) E.put
  unfold wpOp
  rw [ho]
  simp only
  rw [wanted_ok I.st.env (I.want T hx ht)]
  cases hw : x.w with
  | false =>
    simp only [Bool.false_eq_true, if_false]
    have hsame : hAt es H2 (if effOp S x.o.op then i + 1 else q) = hAt es H2 q := by
      split
      · rename_i he
        rw [← hG', (E.skip hw).2]
        exact (I.still T hcq hx ht he).2.symm
      · rfl
    refine hK _ e' c w _ (I.next T hx ht rfl hput ?_ ?_ ?_)
    · rw [hsame]
      have hv : VR c w x.v undef := by rw [(E.skip hw).1]; exact VR.undef c w
      exact put_ok I.st hput hv
    · rw [hsame]; exact I.post
    · rw [hsame]
      exact fun p y t hy hop _ hn => I.slots p y t hy hop hn
  | true =>
    simp only [if_true]
    refine .inl ?_
    cases ha : isAlloc x.o.op with
    | true =>
      obtain ⟨t, hop⟩ : ∃ t, x.o.op = .alloc t := by
        cases h : x.o.op <;> rw [h] at ha <;> simp only [isAlloc, reduceCtorEq] at ha
        exact ⟨_, rfl⟩
      have heff : effOp S x.o.op = false := by rw [hop]; rfl
      obtain ⟨h1, ti, h2, h3⟩ := I.slots i x t hx hop ht.no
      obtain ⟨z, hz, _, hr⟩ := (hS.ty _ _ h2).zeroRun c w
      obtain ⟨r', l', pp⟩ := materialize I.st.rel z.cells t ti.zero t h3 h1 (by rw [hr.1]; exact Nat.le_refl _) hr.2
      have hrun : (Instr.alloc t true (.tuple #[])).run P w = .ok (.pointer (some ⟨w.heap.size, 0, none⟩)) (w.alloc (.cells z.cells t)) := by simp [Instr.alloc, hz, newVar, newRow]
      unfold Oper.wp
      have hex : execOp a.eval x.o = (do pure (.value (← Instr.alloc t true (.tuple #[])))) := by simp only [execOp, hop]
      rw [hex, Sem.run_bind, hrun]
      show K (a.put x.o.dst _) _
      have hq' : q = if effOp S x.o.op then i + 1 else q := by rw [heff]; rfl
      refine hK q e' (c.bind (k + cnt ops.toList i) (w.heap.size, 0)) _ _ (I.next T hx ht hq' hput ?_ ?_ ?_)
      · have st1 : St S n (c.bind (k + cnt ops.toList i) (w.heap.size, 0)) (w.alloc (.cells z.cells t)) e (hAt es H2 q) a := ⟨r', I.st.glob.mono l', I.st.env.mono l', I.st.size, I.st.defers⟩
        refine put_ok st1 hput ?_
        rw [(E.alloc hw ha).1]
        exact .ptr _ _ _ 0 (by simp [Ctx.bind])
      · exact pp c0 w0 H0 I.post (by have := I.low; omega)
      · intro p y t' hy hop' hpi hn
        obtain ⟨g1, ti', g2, g3⟩ := I.slots p y t' hy hop' hn
        refine ⟨?_, ti', g2, g3⟩
        have hne : k + cnt ops.toList p ≠ k + cnt ops.toList i := by
          have hoi : ops.toList[i]? = some x.o := by rw [Array.getElem?_toList]; exact ho
          have hop2 : ops.toList[p]? = some y.o := by rw [Array.getElem?_toList]; exact (T.ent p y hy).1
          have hay : isAlloc y.o.op = true := by rw [hop']; rfl
          rcases Nat.lt_or_gt_of_ne hpi with h | h
          · have := cnt_lt hop2 hay h; omega
          · have := cnt_lt hoi ha h; omega
        show (if k + cnt ops.toList p = k + cnt ops.toList i then _ else c.ι (k + cnt ops.toList p)) = none
        rw [if_neg hne]; exact g1
    | false =>
      have hd := E.den hw ha
      have hden : denOp S call true e (hAt es H2 q) x.o.op = some (x.v, hAt es H2 (if effOp S x.o.op then i + 1 else q)) := by
        rw [denOp_congr (I.opds T hx ht)]
        cases he : effOp S x.o.op with
        | true =>
          rw [(I.still T hcq hx ht he).2, if_pos rfl, ← hG']; exact hd
        | false =>
          rw [if_neg (by simp)]
          cases hr : readOp x.o.op with
          | false => exact (denOp_still hd he hr ha).2
          | true =>
            have hG := denOp_reads hd hr
            have fin : ∀ G, again S call x G = true → denOp S call true x.e G x.o.op = some (x.v, G) := by
              intro G h
              unfold again at h
              split at h
              · rename_i v G1 hv
                rw [beqA_eq _ _ _ h] at hv
                rw [hv, denOp_reads hv hr]
              · cases h
            by_cases hqi : q ≤ i
            · rcases T.first hcq (i - q) q with h | ⟨j, y, h1, h2, h3, h4, h5⟩
              · rw [show q + (i - q) = i by omega, hAt_some hx] at h
                rw [← h, hd, hG]
              · have hp := T.pair j i y x (by omega) h3 hx
                simp only [pairOK, Bool.and_eq_true] at hp
                have hcy := h4
                simp only [chg, Bool.and_eq_true] at h4
                have hnb : bit (masks ops.toList []) i j = false := by
                  cases hb : bit (masks ops.toList []) i j with
                  | false => rfl
                  | true =>
                    have := (I.eff j y h3 h4.1.1).1 (I.bit_on T ho (fun e he hb => ht.pre x.o ho e he hb) hb)
                    omega
                have := hp.2
                rw [h4.1.1, h4.1.2, h4.2, hr, hw, hnb] at this
                simp only [Bool.true_and, Bool.not_false, if_true] at this
                rw [h5]
                exact fin _ this
            · obtain ⟨d, rfl⟩ : ∃ d, q = i + d := ⟨q - i, by omega⟩
              rcases T.last hcq i d with h | ⟨j, y, h1, h2, h3, h4, h5⟩
              · rw [h, hAt_some hx, hd, hG]
              · simp only [chg, Bool.and_eq_true] at h4
                have hji : i ≠ j := fun h => by
                  subst h
                  rw [hx] at h3; cases h3
                  rw [he] at h4; exact absurd h4.1.1 (by simp)
                have hp := T.pair i j x y (by omega) hx h3
                simp only [pairOK, Bool.and_eq_true] at hp
                have hnb : bit (masks ops.toList []) j i = false := by
                  cases hb : bit (masks ops.toList []) j i with
                  | false => rfl
                  | true =>
                    have hoj := (T.ent j y h3).1
                    have hj := (I.eff j y h3 h4.1.1).2 h2
                    exact absurd (I.bit_on T hoj (fun e he hb => I.cl j y.o hoj hj e he hb) hb) ht.no
                have := hp.1
                rw [h4.1.1, h4.1.2, h4.2, hr, hw, hnb] at this
                simp only [Bool.true_and, Bool.not_false, if_true] at this
                rw [h5]
                exact fin _ this
      refine denOp_ok hS hc hden I.st.env I.st.glob I.st.rel fun cv c1 w1 r1 p1 hv => ?_
      exact hK _ e' c1 w1 _ (I.next T hx ht rfl hput (put_ok (I.st.later r1 p1) hput hv) (I.post.trans r0 p1) fun p y t hy hop _ hn => I.slots_step p1 p y t hy hop hn)

end

theorem all_listed {ops : Array Oper} {m : List Nat} {S : Sg} (ok : OkS S ops m) {listed : Array Bool} (hs : listed.size = ops.size) (h : Region.ready .any ops listed = []) : ∀ i, i < ops.size → On listed i := by
  intro i
  induction i using Nat.strongRecOn with
  | _ i ih =>
    intro hi
    refine Classical.byContradiction fun hn => ?_
    have : Turn ops listed i := ⟨hi, hn, fun o ho e he hb => ih e.on (ok.on_lt i o ho e he hb) (Nat.lt_trans (ok.on_lt i o ho e he hb) hi)⟩
    have := ready_of hs this
    rw [h] at this; simp at this

/-- How many are left. -/
def rest (listed : Array Bool) : Nat := listed.toList.countP fun b => !b

theorem rest_set {listed : Array Bool} {i : Nat} (hi : i < listed.size) (hn : ¬ On listed i) : rest (listed.setIfInBounds i true) + 1 = rest listed := by
  unfold rest On at *
  have hf : listed[i] = false := by
    simpa [Array.getD_eq_getD_getElem?, hi] using hn
  have : (listed.setIfInBounds i true).toList = listed.toList.set i true := by simp
  rw [this, List.countP_set (by simpa using hi)]
  have hpos : 0 < listed.toList.countP (fun b => !b) := by
    rw [List.countP_pos_iff]
    exact ⟨listed[i], by simp, by simp [hf]⟩
  have hg : (listed.toList)[i]'(by simpa using hi) = false := by simpa using hf
  rw [hg]
  simp only [Bool.not_false, Bool.not_true, if_true, Bool.false_eq_true, if_false]
  omega

theorem rest_zero {listed : Array Bool} (h : rest listed = 0) : ∀ i, i < listed.size → On listed i := by
  intro i hi
  unfold rest at h
  rw [List.countP_eq_zero] at h
  have := h listed[i] (by simp)
  unfold On
  simp [Array.getD_eq_getD_getElem?, hi]
  simpa using this

theorem any_ok {S : Sg} (hS : SgOK P S) {call : Calling} (hc : CallOK P S call) (hcq : CallQ S call) {n : Nat} {ops : Array Oper} {e0 : Tr} {k : Nat} {es : List En} {e2 : Tr} {H2 : Heap} (T : TD S call n ops (masks ops.toList []) e0 k es e2 H2)
    {c0 : Ctx} {w0 : World} {H0 : Heap} (r0 : Rel c0 w0 H0) {Q : Exit → Act → World → Prop} (hq : ∀ c' w' a', St S n c' w' e2 H2 a' → Post c0 w0 H0 c' w' H2 → Q .normal a' w') :
    ∀ (fuel q : Nat) (e : Tr) (listed : Array Bool) (c : Ctx) (w : World) (a : Act), Inv S n ops e0 k es H2 c0 w0 H0 q e listed c w a → rest listed ≤ fuel → wpAny P .any ops Q fuel listed a w := by
  have fin : ∀ (q : Nat) (e : Tr) (listed : Array Bool) (c : Ctx) (w : World) (a : Act), Inv S n ops e0 k es H2 c0 w0 H0 q e listed c w a → (∀ i, i < ops.size → On listed i) → Q .normal a w := by
    intro q e listed c w a I hall
    have hend : hAt es H2 ops.size = H2 := by
      have : es[ops.size]? = none := List.getElem?_eq_none (by rw [T.len]; exact Nat.le_refl _)
      simp [hAt, this]
    have hH : hAt es H2 q = H2 := by
      by_cases hqn : q ≤ ops.size
      · rcases T.first hcq (ops.size - q) q with h | ⟨j, y, h1, h2, h3, h4, _⟩
        · rw [show q + (ops.size - q) = ops.size by omega, hend] at h
          exact h.symm
        · simp only [chg, Bool.and_eq_true] at h4
          have := (I.eff j y h3 h4.1.1).1 (hall j (by omega))
          omega
      · have : es[q]? = none := List.getElem?_eq_none (by rw [T.len]; omega)
        simp [hAt, this]
    have hee : ∀ t : Nat, e.get t = e2.get t := by
      intro t
      obtain ⟨g1, g2⟩ := T.env ops.size (Nat.le_refl _)
      have he2 : eAt es e2 ops.size = e2 := by
        have : es[ops.size]? = none := List.getElem?_eq_none (by rw [T.len]; exact Nat.le_refl _)
        simp [eAt, this]
      rw [he2] at g1 g2
      by_cases hw : ∃ (j : Nat) (y : En), es[j]? = some y ∧ y.o.dst = some t
      · obtain ⟨j, y, hy, hd⟩ := hw
        have hj : j < ops.size := by rw [← T.len]; exact (List.getElem?_eq_some_iff.1 hy).1
        rw [I.env1 j y t (hall j hj) hy hd, g1 j y t hj hy hd]
      · rw [I.env0 t fun j y _ hy hd => hw ⟨j, y, hy, hd⟩, g2 t fun j y _ hy hd => hw ⟨j, y, hy, hd⟩]
    have st := I.st
    have p := I.post
    rw [hH] at st p
    exact hq c w a ⟨st.rel, st.glob, fun t => by rw [← hee t]; exact st.env t, st.size, st.defers⟩ p
  intro fuel
  induction fuel with
  | zero =>
    intro q e listed c w a I hr
    have hall : ∀ i, i < ops.size → On listed i := fun i hi => rest_zero (by omega) i (by rw [I.size]; exact hi)
    refine ⟨?_, fin q e listed c w a I hall⟩
    cases hrd : Region.ready .any ops listed with
    | nil => rfl
    | cons i l =>
      have := turn_of I.size (i := i) (by rw [hrd]; simp)
      exact absurd (hall i this.lt) this.no
  | succ fuel ih =>
    intro q e listed c w a I hr
    refine ⟨fun h => fin q e listed c w a I (all_listed T.ok I.size h), fun i hi => ?_⟩
    have ht := turn_of I.size hi
    refine step_ok hS hc hcq T I r0 ht fun q' e' c' w' a' I' => ih q' e' _ c' w' a' I' ?_
    have := rest_set (by rw [I.size]; exact ht.lt) ht.no
    omega

theorem denDraw_ok {S : Sg} (hS : SgOK P S) : DrawOK P S (denDraw S) := by
  intro call hc hcq n id ops e e' H H' c w a Q h st hq
  unfold denDraw at h
  split at h
  · cases h
  · rename_i sl hsl
    split at h
    · cases h
    · rename_i es e2 H2 htr
      split at h
      · rename_i hchk
        cases h
        rw [Bool.and_eq_true] at hchk
        obtain ⟨h1, h2, h3, h4⟩ := trace_ok ops.toList H.length e (H ++ sl) es e' H' htr
        have T : TD S call n ops (masks ops.toList []) e H.length es e' H' :=
          ⟨by simpa using h1, h2, fun p x hx => by
            obtain ⟨g1, g2, g3⟩ := h4 p x hx
            exact ⟨by rw [← Array.getElem?_toList]; exact g1, g2, g3⟩, okS_ok hchk.1, fun i j x y hij hx hy => by
            have := checkT_ok es 0 hchk.2 i j x y hij hx hy
            simpa using this⟩
        have old : ∀ i, i < H.length → (H ++ sl)[i]? = H[i]? := fun i hi => List.getElem?_append_left hi
        have liv : ∀ i b o, c.ι i = some (b, o) → (Live (H ++ sl) i ↔ Live H i) := fun i b o hi => by unfold Live; rw [old i (st.rel.dom i b o hi).1]
        have r0 : Rel c w (H ++ sl) := ⟨fun i o b off ho hi => st.rel.obj i o b off (by rw [← old i (st.rel.dom i b off hi).1]; exact ho) hi,
          fun i j b o1 o2 hi hj h1 h2 => st.rel.inj i j b o1 o2 ((liv i b o1 h1).1 hi) ((liv j b o2 h2).1 hj) h1 h2,
          fun i b off hi => ⟨by have := (st.rel.dom i b off hi).1; simp; omega, (st.rel.dom i b off hi).2⟩,
          fun i b off hl hi => st.rel.sep i b off ((liv i b off hi).1 hl) hi, st.rel.fr⟩
        have p0 : Post c w H c w (H ++ sl) := ⟨fun _ _ h => h, fun _ _ _ h => .inl h, fun _ h => h, fun _ h => .inl h, fun _ _ _ => rfl, fun i hi _ => old i hi,
          fun i hi hn hl => hn (by unfold Live at hl ⊢; rw [← old i hi]; exact hl), by simp, Nat.le_refl _, fun _ arr e fz h => ⟨arr, e, fz, h, rfl⟩, rfl, rfl, rfl⟩
        have r1 : Rel c w.drew (H ++ sl) := r0.drew
        have p1 : Post c w H c w.drew (H ++ sl) := p0.trans st.rel (Post.drew c w (H ++ sl))
        have off : ∀ i, ¬ On (Array.replicate ops.size false) i := by
          intro i h
          unfold On at h
          rw [Array.getD_eq_getD_getElem?, Array.getElem?_replicate] at h
          split at h <;> simp at h
        have hl0 : (Post.drew c w H).le st.rel = (Post.drew c w H).le st.rel := rfl
        have I : Inv S n ops e H.length es H' c w H 0 e (Array.replicate ops.size false) c w.drew a := by
          refine ⟨by simp, fun i o _ hi => absurd hi (off i), fun j x _ _ => ⟨fun h => absurd h (off j), fun h => absurd h (Nat.not_lt_zero _)⟩, ?_, ?_, fun j x t hj => absurd hj (off j), fun t _ => rfl, ?_, Nat.le_refl _⟩
          · rw [h3]
            exact ⟨r1, st.glob.mono ((Post.drew c w H).le st.rel), st.env.mono ((Post.drew c w H).le st.rel), st.size, st.defers⟩
          · rw [h3]; exact p1
          · intro p x t hx hop _
            rw [h3]
            obtain ⟨ti, g1, g2⟩ := slots_ok ops.toList sl hsl p x.o t (h4 p x hx).1 hop
            refine ⟨?_, ti, g1, ?_⟩
            · cases hi : c.ι (H.length + cnt ops.toList p) with
              | none => rfl
              | some bo => have := (st.rel.dom _ bo.1 bo.2 hi).1; omega
            · rw [List.getElem?_append_right (by omega)]
              simpa using g2
        refine wp_region_any hS.mixed ?_
        refine any_ok hS hc hcq T st.rel hq ops.size 0 e _ c w.drew a I ?_
        unfold rest
        refine Nat.le_trans List.countP_le_length (by simp)
      · cases h

/-- The whole machine. -/
def den (S : Sg) (n : Nat) : Calling := denC S (denDraw S) n

theorem den_ok {S : Sg} (hS : SgOK P S) (hx : ExtOK P S) (hqt : QuietOK S) (hglob : ∀ g, (S.glob g).closed = true ∨ S.glob g = .any) (n : Nat) : CallOK P S (den S n) :=
  denC_ok hS hx hqt hglob (denDraw_ok hS) n

end Go.AM
