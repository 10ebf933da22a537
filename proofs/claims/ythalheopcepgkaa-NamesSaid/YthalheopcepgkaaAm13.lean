/- The abstract machine, 13: a region that draws its order comes to what its text's order comes to. -/
import Derived.Test.YthalheopcepgkaaAm12
namespace Go.AM
set_option linter.unusedVariables false
set_option linter.unusedSimpArgs false
variable {P : Program}

structure En where
  o : Oper
  e : Tr
  G : Heap
  w : Bool
  v : AVal
  G' : Heap

def slotsOf (S : Sg) : List Oper → Option Heap
  | [] => some []
  | o :: rest => match o.op with
    | .alloc t => match S.ty t, slotsOf S rest with
      | some ti, some r => some (.cells ti.zero t :: r)
      | _, _ => none
    | _ => slotsOf S rest

def traceD (S : Sg) (call : Calling) (n : Nat) (ops : Array Oper) : List Oper → Nat → Tr → Heap → Option (List En × Tr × Heap)
  | [], _, e, H => some ([], e, H)
  | o :: rest, k, e, H =>
    match wantedA ops e o with
    | none => none
    | some false => match isAlloc o.op with
      | true => none
      | false => match putA n e o.dst undefA with
      | none => none
      | some e' => match traceD S call n ops rest k e' H with
        | some (es, e2, H2) => some (⟨o, e, H, false, undefA, H⟩ :: es, e2, H2)
        | none => none
    | some true => match isAlloc o.op with
      | true => match putA n e o.dst (.ptr k 0) with
        | none => none
        | some e' => match traceD S call n ops rest (k + 1) e' H with
          | some (es, e2, H2) => some (⟨o, e, H, true, .ptr k 0, H⟩ :: es, e2, H2)
          | none => none
      | false => match denOp S call true e H o.op with
        | none => none
        | some (v, H') => match putA n e o.dst v with
          | none => none
          | some e' => match traceD S call n ops rest k e' H' with
            | some (es, e2, H2) => some (⟨o, e, H, true, v, H'⟩ :: es, e2, H2)
            | none => none

def okS (S : Sg) (ops : Array Oper) (m : List Nat) : Bool :=
  let l := ops.toList.zipIdx
  (l.all fun x => x.1.after.toList.all fun e => !Region.binds .any e || decide (e.on < x.2)) &&
  (l.all fun x => l.all fun y => (match x.1.dst, y.1.dst with | some d, some d' => d != d' || x.2 == y.2 | _, _ => true)) &&
  (l.all fun x => (Oper.looksAt ops x.1).all fun t => l.all fun y => y.1.dst != some t || (x.2 != y.2 && (bit m x.2 y.2 || bit m y.2 x.2))) &&
  (l.all fun x => l.all fun y => !(effOp S x.1.op && effOp S y.1.op && decide (y.2 < x.2)) || bit m x.2 y.2) &&
  (l.all fun x => !isAlloc x.1.op || x.1.guard.isNone)

def quietE (S : Sg) (x : En) : Bool :=
  match x.o.op with
  | .call c => match c.callee with
    | .value f => match opd S x.e f with
      | .fn g _ _ => S.quiet g
      | _ => false
    | _ => false
  | _ => false

def again (S : Sg) (call : Calling) (x : En) (G : Heap) : Bool :=
  match denOp S call true x.e G x.o.op with
  | some (v, _) => beqA 9 v x.v
  | none => false

def pairOK (S : Sg) (call : Calling) (m : List Nat) (i : Nat) (x : En) (j : Nat) (y : En) : Bool :=
  (if readOp x.o.op && x.w && effOp S y.o.op && y.w && !quietE S y && !bit m j i then again S call x y.G' else true) &&
  (if effOp S x.o.op && x.w && !quietE S x && readOp y.o.op && y.w && !bit m j i then again S call y x.G else true)

def checkR (S : Sg) (call : Calling) (m : List Nat) (i : Nat) (x : En) : Nat → List En → Bool
  | _, [] => true
  | j, y :: r => pairOK S call m i x j y && checkR S call m i x (j + 1) r

def checkT (S : Sg) (call : Calling) (m : List Nat) : Nat → List En → Bool
  | _, [] => true
  | i, x :: rest => checkR S call m i x (i + 1) rest && checkT S call m (i + 1) rest

/-- A region that draws its order. -/
def denDraw (S : Sg) : Drawing := fun call n ops e H =>
  match slotsOf S ops.toList with
  | none => none
  | some sl => match traceD S call n ops ops.toList H.length e (H ++ sl) with
    | none => none
    | some (es, e', H') => match okS S ops (masks ops.toList []) && checkT S call (masks ops.toList []) 0 es with
      | true => some (e', H')
      | false => none

/-! #### what the checks say -/
structure OkS (S : Sg) (ops : Array Oper) (m : List Nat) : Prop where
  on_lt : ∀ (i : Nat) (o : Oper), ops[i]? = some o → ∀ e ∈ o.after, Region.binds .any e = true → e.on < i
  uniq : ∀ (i j : Nat) (o p : Oper) (d : Nat), ops[i]? = some o → ops[j]? = some p → o.dst = some d → p.dst = some d → i = j
  rw' : ∀ (i : Nat) (o : Oper), ops[i]? = some o → ∀ t ∈ Oper.looksAt ops o, ∀ (j : Nat) (p : Oper), ops[j]? = some p → p.dst = some t → i ≠ j ∧ (bit m i j = true ∨ bit m j i = true)
  chain : ∀ (i j : Nat) (o p : Oper), ops[i]? = some o → ops[j]? = some p → effOp S o.op = true → effOp S p.op = true → j < i → bit m i j = true
  noG : ∀ (i : Nat) (o : Oper), ops[i]? = some o → isAlloc o.op = true → o.guard = none

theorem okS_ok {S : Sg} {ops : Array Oper} {m : List Nat} (h : okS S ops m = true) : OkS S ops m := by
  unfold okS at h
  simp only [Bool.and_eq_true, List.all_eq_true] at h
  obtain ⟨⟨⟨⟨h1, h2⟩, h3⟩, h4⟩, h5⟩ := h
  have mem : ∀ i o, ops[i]? = some o → (o, i) ∈ ops.toList.zipIdx := fun i o ho => by
    rw [List.mem_zipIdx_iff_getElem?, Array.getElem?_toList]; exact ho
  refine ⟨fun i o ho e he hb => ?_, fun i j o p d ho hp hd hd' => ?_, fun i o ho t ht j p hp hd => ?_, fun i j o p ho hp h6 h7 hlt => ?_, fun i o ho ha => ?_⟩
  · have := h1 _ (mem i o ho) e (by simpa using he)
    simpa [hb] using this
  · have := h2 _ (mem i o ho) _ (mem j p hp)
    simp only [hd, hd'] at this
    simpa using this
  · have := h3 _ (mem i o ho) t ht _ (mem j p hp)
    simpa [hd] using this
  · have := h4 _ (mem i o ho) _ (mem j p hp)
    simpa [h6, h7, hlt] using this
  · have := h5 _ (mem i o ho)
    simpa [ha] using this

def eAt (es : List En) (e2 : Tr) (p : Nat) : Tr := match es[p]? with | some x => x.e | none => e2
def hAt (es : List En) (H2 : Heap) (p : Nat) : Heap := match es[p]? with | some x => x.G | none => H2
def cnt (ops : List Oper) (p : Nat) : Nat := (ops.take p).countP fun o => isAlloc o.op

/-- What an entry of the trace says. -/
structure EnOK (S : Sg) (call : Calling) (n : Nat) (ops : Array Oper) (slot : Nat) (x : En) (e' : Tr) : Prop where
  want : wantedA ops x.e x.o = some x.w
  skip : x.w = false → x.v = undefA ∧ x.G' = x.G
  alloc : x.w = true → isAlloc x.o.op = true → x.v = .ptr slot 0 ∧ x.G' = x.G
  den : x.w = true → isAlloc x.o.op = false → denOp S call true x.e x.G x.o.op = some (x.v, x.G')
  put : putA n x.e x.o.dst x.v = some e'

theorem trace_ok {S : Sg} {call : Calling} {n : Nat} {ops : Array Oper} : ∀ (rest : List Oper) (k : Nat) (e : Tr) (H : Heap) (es : List En) (e2 : Tr) (H2 : Heap), traceD S call n ops rest k e H = some (es, e2, H2) →
    es.length = rest.length ∧ eAt es e2 0 = e ∧ hAt es H2 0 = H ∧
    ∀ p x, es[p]? = some x → rest[p]? = some x.o ∧ EnOK S call n ops (k + cnt rest p) x (eAt es e2 (p + 1)) ∧ x.G' = hAt es H2 (p + 1)
  | [], k, e, H, es, e2, H2, h => by
    simp only [traceD, Option.some.injEq, Prod.mk.injEq] at h
    obtain ⟨rfl, rfl, rfl⟩ := h
    exact ⟨rfl, rfl, rfl, fun p x hx => by simp at hx⟩
  | o :: rest, k, e, H, es, e2, H2, h => by
    -- the rest of the trace behind one entry
    have go : ∀ (y : En) (k' : Nat) (e' : Tr) (H' : Heap) (es' : List En), traceD S call n ops rest k' e' H' = some (es', e2, H2) → es = y :: es' → y.o = o → y.e = e → y.G = H → y.G' = H' → EnOK S call n ops k y e' →
        (∀ p, k' + cnt rest p = k + cnt (o :: rest) (p + 1)) →
        es.length = (o :: rest).length ∧ eAt es e2 0 = e ∧ hAt es H2 0 = H ∧
        ∀ p x, es[p]? = some x → (o :: rest)[p]? = some x.o ∧ EnOK S call n ops (k + cnt (o :: rest) p) x (eAt es e2 (p + 1)) ∧ x.G' = hAt es H2 (p + 1) := by
      intro y k' e' H' es' ht he ho hye hyG hyG' hy hk
      obtain ⟨h1, h2, h3, h4⟩ := trace_ok rest k' e' H' es' e2 H2 ht
      subst he
      refine ⟨by simp [h1], by simp [eAt, hye], by simp [hAt, hyG], fun p x hx => ?_⟩
      cases p with
      | zero =>
        simp at hx; subst hx
        refine ⟨by simp [ho], ?_, ?_⟩
        · have e1 : eAt (y :: es') e2 (0 + 1) = e' := by rw [← h2]; simp [eAt]
          have e2 : k + cnt (o :: rest) 0 = k := by simp [cnt]
          rw [e1, e2]; exact hy
        · have e1 : hAt (y :: es') H2 (0 + 1) = H' := by rw [← h3]; simp [hAt]
          rw [e1]; exact hyG'
      | succ p =>
        obtain ⟨h5, h6, h7⟩ := h4 p x (by simpa using hx)
        refine ⟨by simpa using h5, ?_, ?_⟩
        · have e1 : eAt (y :: es') e2 (p + 1 + 1) = eAt es' e2 (p + 1) := by simp [eAt]
          rw [e1, ← hk p]; exact h6
        · have e1 : hAt (y :: es') H2 (p + 1 + 1) = hAt es' H2 (p + 1) := by simp [hAt]
          rw [e1]; exact h7
    unfold traceD at h
    split at h
    · cases h
    · rename_i hw
      split at h
      · cases h
      · rename_i ha
        split at h
        · cases h
        · rename_i e' hp
          split at h
          · rename_i es' e2' H2' ht
            simp only [Option.some.injEq, Prod.mk.injEq] at h
            obtain ⟨rfl, rfl, rfl⟩ := h
            exact go _ k e' H es' ht rfl rfl rfl rfl rfl ⟨hw, fun _ => ⟨rfl, rfl⟩, fun h => (by cases h), fun h => (by cases h), hp⟩ (fun p => by simp [cnt, ha])
          · cases h
    · rename_i hw
      split at h
      · rename_i ha
        split at h
        · cases h
        · rename_i e' hp
          split at h
          · rename_i es' e2' H2' ht
            simp only [Option.some.injEq, Prod.mk.injEq] at h
            obtain ⟨rfl, rfl, rfl⟩ := h
            exact go _ (k + 1) e' H es' ht rfl rfl rfl rfl rfl ⟨hw, fun h => (by cases h), fun _ _ => ⟨rfl, rfl⟩, fun _ h => (by rw [ha] at h; cases h), hp⟩ (fun p => by simp [cnt, ha]; omega)
          · cases h
      · rename_i ha
        split at h
        · cases h
        · rename_i v H' hd
          split at h
          · cases h
          · rename_i e' hp
            split at h
            · rename_i es' e2' H2' ht
              simp only [Option.some.injEq, Prod.mk.injEq] at h
              obtain ⟨rfl, rfl, rfl⟩ := h
              exact go _ k e' H' es' ht rfl rfl rfl rfl rfl ⟨hw, fun h => (by cases h), fun _ h => (by rw [ha] at h; cases h), fun _ _ => hd, hp⟩ (fun p => by simp [cnt, ha])
            · cases h

theorem slots_ok {S : Sg} : ∀ (ops : List Oper) (sl : Heap), slotsOf S ops = some sl → ∀ p o t, ops[p]? = some o → o.op = .alloc t → ∃ ti, S.ty t = some ti ∧ sl[cnt ops p]? = some (.cells ti.zero t)
  | [], sl, h, p, o, t, hp, _ => by simp at hp
  | q :: ops, sl, h, p, o, t, hp, ho => by
    unfold slotsOf at h
    split at h
    · rename_i t' hq
      split at h
      · rename_i ti r hti hr
        cases h
        cases p with
        | zero =>
          simp at hp; subst hp
          rw [hq] at ho; cases ho
          exact ⟨ti, hti, by simp [cnt]⟩
        | succ p =>
          obtain ⟨ti', h1, h2⟩ := slots_ok ops r hr p o t (by simpa using hp) ho
          refine ⟨ti', h1, ?_⟩
          have : cnt (q :: ops) (p + 1) = cnt ops p + 1 := by simp [cnt, hq, isAlloc]
          rw [this]; simpa using h2
      · cases h
    · rename_i hne
      cases p with
      | zero =>
        simp at hp; subst hp
        exact absurd ho (hne t)
      | succ p =>
        obtain ⟨ti', h1, h2⟩ := slots_ok ops sl h p o t (by simpa using hp) ho
        refine ⟨ti', h1, ?_⟩
        have ha : isAlloc q.op = false := by
          cases hqq : q.op <;> simp only [isAlloc]
          exact absurd hqq (hne _)
        have : cnt (q :: ops) (p + 1) = cnt ops p := by simp [cnt, ha]
        rw [this]; exact h2

theorem checkR_ok {S : Sg} {call : Calling} {m : List Nat} {i : Nat} {x : En} : ∀ (r : List En) (j : Nat), checkR S call m i x j r = true → ∀ k y, r[k]? = some y → pairOK S call m i x (j + k) y = true
  | [], j, h, k, y, hy => by simp at hy
  | z :: r, j, h, k, y, hy => by
    simp only [checkR, Bool.and_eq_true] at h
    cases k with
    | zero => simp at hy; subst hy; exact h.1
    | succ k =>
      have := checkR_ok r (j + 1) h.2 k y (by simpa using hy)
      rwa [show j + (k + 1) = j + 1 + k by omega]

theorem checkT_ok {S : Sg} {call : Calling} {m : List Nat} : ∀ (es : List En) (i : Nat), checkT S call m i es = true → ∀ p q x y, p < q → es[p]? = some x → es[q]? = some y → pairOK S call m (i + p) x (i + q) y = true
  | [], i, h, p, q, x, y, _, hx, _ => by simp at hx
  | z :: es, i, h, p, q, x, y, hpq, hx, hy => by
    simp only [checkT, Bool.and_eq_true] at h
    obtain ⟨q, rfl⟩ : ∃ q', q = q' + 1 := ⟨q - 1, by omega⟩
    have hy' : es[q]? = some y := by simpa using hy
    cases p with
    | zero =>
      simp at hx; subst hx
      have := checkR_ok es (i + 1) h.1 q y hy'
      rwa [show i + (q + 1) = i + 1 + q by omega]
    | succ p =>
      have := checkT_ok es (i + 1) h.2 p q x y (by omega) (by simpa using hx) hy'
      rwa [show i + (p + 1) = i + 1 + p by omega, show i + (q + 1) = i + 1 + q by omega]

end Go.AM
