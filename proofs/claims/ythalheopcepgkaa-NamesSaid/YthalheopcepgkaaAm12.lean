/- The abstract machine, 12: regions that draw their order: definitions; facts on abstract runs alone. -/
import Derived.Test.YthalheopcepgkaaAm11
import Derived.Orders
namespace Go.AM
set_option linter.unusedVariables false
set_option linter.unusedSimpArgs false
variable {P : Program}

/-! #### equality that can be asked -/
def beqL (f : AVal → AVal → Bool) : List AVal → List AVal → Bool
  | [], [] => true
  | a :: as, b :: bs => f a b && beqL f as bs
  | _, _ => false

theorem beqL_eq {f : AVal → AVal → Bool} (hf : ∀ a b, f a b = true → a = b) : ∀ as bs, beqL f as bs = true → as = bs
  | [], [], _ => rfl
  | a :: as, b :: bs, h => by
    simp only [beqL, Bool.and_eq_true] at h
    rw [hf a b h.1, beqL_eq hf as bs h.2]
  | [], b :: bs, h => by simp [beqL] at h
  | a :: as, [], h => by simp [beqL] at h

def beqA : Nat → AVal → AVal → Bool
  | 0, _, _ => false
  | n + 1, a, b => match a, b with
    | .bool a, .bool b => a == b
    | .int k a, .int k' b => decide (k = k') && decide (a = b)
    | .str a, .str b => decide (a = b)
    | .nilp, .nilp | .nils, .nils | .nilm, .nilm | .nilfn, .nilfn | .nili, .nili => true
    | .ptr i o, .ptr i' o' => decide (i = i') && decide (o = o')
    | .ip c o l, .ip c' o' l' => decide (o = o') && (l == l') && beqL (beqA n) c c'
    | .sl i o l c s, .sl i' o' l' c' s' => decide (i = i') && decide (o = o') && decide (l = l') && decide (c = c') && decide (s = s')
    | .isl c o l k cl, .isl c' o' l' k' cl' => decide (o = o') && decide (l = l') && decide (k = k') && (cl == cl') && beqL (beqA n) c c'
    | .map i, .map i' => decide (i = i')
    | .iface t v, .iface t' v' => decide (t = t') && beqA n v v'
    | .agg c, .agg c' => beqL (beqA n) c c'
    | .tup c, .tup c' => beqL (beqA n) c c'
    | .obj o, .obj o' => decide (o = o')
    | _, _ => false

theorem beqA_eq : ∀ (n : Nat) (a b : AVal), beqA n a b = true → a = b
  | 0, a, b, h => by simp [beqA] at h
  | n + 1, a, b, h => by
    have ih := beqA_eq n
    unfold beqA at h
    split at h
    case h_1 => rw [beq_iff_eq] at h; subst h; rfl
    case h_2 => simp only [Bool.and_eq_true, decide_eq_true_eq] at h; obtain ⟨rfl, rfl⟩ := h; rfl
    case h_3 => simp only [decide_eq_true_eq] at h; subst h; rfl
    case h_4 => rfl
    case h_5 => rfl
    case h_6 => rfl
    case h_7 => rfl
    case h_8 => rfl
    case h_9 => simp only [Bool.and_eq_true, decide_eq_true_eq] at h; obtain ⟨rfl, rfl⟩ := h; rfl
    case h_10 => simp only [Bool.and_eq_true, decide_eq_true_eq, beq_iff_eq] at h; obtain ⟨⟨h1, h2⟩, h3⟩ := h; have := beqL_eq ih _ _ h3; subst h1; subst h2; subst this; rfl
    case h_11 => simp only [Bool.and_eq_true, decide_eq_true_eq] at h; obtain ⟨⟨⟨⟨rfl, rfl⟩, rfl⟩, rfl⟩, rfl⟩ := h; rfl
    case h_12 => simp only [Bool.and_eq_true, decide_eq_true_eq, beq_iff_eq] at h; obtain ⟨⟨⟨⟨h1, h2⟩, h3⟩, h4⟩, h5⟩ := h; have := beqL_eq ih _ _ h5; subst h1; subst h2; subst h3; subst h4; subst this; rfl
    case h_13 => simp only [decide_eq_true_eq] at h; subst h; rfl
    case h_14 => simp only [Bool.and_eq_true, decide_eq_true_eq] at h; obtain ⟨h1, h2⟩ := h; have := ih _ _ h2; subst h1; subst this; rfl
    case h_15 => have := beqL_eq ih _ _ h; subst this; rfl
    case h_16 => have := beqL_eq ih _ _ h; subst this; rfl
    case h_17 => simp only [decide_eq_true_eq] at h; subst h; rfl
    case h_18 => cases h

/-! #### what stands ahead of what -/
def maskOf (acc : List Nat) (o : Oper) : Nat :=
  o.after.toList.foldl (fun s e => if Region.binds .any e then s ||| (2 ^ e.on ||| acc.getD e.on 0) else s) 0

def masks : List Oper → List Nat → List Nat
  | [], acc => acc
  | o :: rest, acc => masks rest (acc ++ [maskOf acc o])

def bit (m : List Nat) (i j : Nat) : Bool := (m.getD i 0).testBit j

theorem masks_keep : ∀ (os : List Oper) (acc : List Nat) (i : Nat), i < acc.length → (masks os acc).getD i 0 = acc.getD i 0
  | [], acc, i, _ => rfl
  | o :: os, acc, i, h => by
    unfold masks
    rw [masks_keep os _ i (by simp; omega)]
    rw [List.getD_eq_getElem?_getD, List.getD_eq_getElem?_getD, List.getElem?_append_left h]

theorem masks_at : ∀ (os : List Oper) (acc : List Nat) (k : Nat) (o : Oper), os[k]? = some o → ∃ acc' : List Nat, (masks os acc).getD (acc.length + k) 0 = maskOf acc' o ∧ acc'.length = acc.length + k ∧ ∀ i, i < acc.length + k → acc'.getD i 0 = (masks os acc).getD i 0
  | [], acc, k, o, h => by simp at h
  | p :: os, acc, 0, o, h => by
    simp at h; subst h
    refine ⟨acc, ?_, rfl, fun i hi => ?_⟩
    · unfold masks
      rw [Nat.add_zero, masks_keep os _ acc.length (by simp)]
      simp
    · unfold masks
      rw [masks_keep os _ i (by simp; omega), List.getD_eq_getElem?_getD, List.getD_eq_getElem?_getD, List.getElem?_append_left (by simpa using hi)]
  | p :: os, acc, k + 1, o, h => by
    unfold masks
    obtain ⟨acc', h1, h2, h3⟩ := masks_at os (acc ++ [maskOf acc p]) k o (by simpa using h)
    have hl : (acc ++ [maskOf acc p]).length + k = acc.length + (k + 1) := by simp; omega
    rw [hl] at h1 h2 h3
    exact ⟨acc', h1, h2, h3⟩

theorem mask_mem (acc : List Nat) : ∀ (es : List Edge) (s j : Nat), (es.foldl (fun s e => if Region.binds .any e then s ||| (2 ^ e.on ||| acc.getD e.on 0) else s) s).testBit j = true →
    s.testBit j = true ∨ ∃ e ∈ es, Region.binds .any e = true ∧ (e.on = j ∨ (acc.getD e.on 0).testBit j = true)
  | [], s, j, h => .inl h
  | e :: es, s, j, h => by
    simp only [List.foldl_cons] at h
    rcases mask_mem acc es _ j h with h | ⟨x, hx, h⟩
    · split at h
      · rename_i hb
        rw [Nat.testBit_or, Nat.testBit_or, Bool.or_eq_true, Bool.or_eq_true] at h
        rcases h with h | h | h
        · exact .inl h
        · refine .inr ⟨e, by simp, hb, .inl ?_⟩
          rw [Nat.testBit_two_pow] at h
          simpa using h
        · exact .inr ⟨e, by simp, hb, .inr h⟩
      · exact .inl h
    · exact .inr ⟨x, by simp [hx], h⟩

/-- What is done is closed under what must be done before. -/
def ClosedSet (ops : Array Oper) (D : Nat → Prop) : Prop := ∀ i o, ops[i]? = some o → D i → ∀ e ∈ o.after, Region.binds .any e = true → D e.on

theorem bit_mem {ops : Array Oper} {D : Nat → Prop} (hD : ClosedSet ops D) (hlt : ∀ i o, ops[i]? = some o → ∀ e ∈ o.after, Region.binds .any e = true → e.on < i) :
    ∀ (i : Nat) (o : Oper), ops[i]? = some o → (∀ e ∈ o.after, Region.binds .any e = true → D e.on) → ∀ j, bit (masks ops.toList []) i j = true → D j := by
  intro i
  induction i using Nat.strongRecOn with
  | _ i ih =>
    intro o ho hp j hb
    obtain ⟨acc', h1, h2, h3⟩ := masks_at ops.toList [] i o (by rw [Array.getElem?_toList]; exact ho)
    simp only [List.length_nil, Nat.zero_add] at h1 h2 h3
    unfold bit at hb
    rw [h1] at hb
    unfold maskOf at hb
    rcases mask_mem acc' _ 0 j hb with h | ⟨e, he, hbe, h⟩
    · simp at h
    · have hem : e ∈ o.after := by simpa using he
      have hon := hp e hem hbe
      rcases h with rfl | h
      · exact hon
      · have hei := hlt i o ho e hem hbe
        rw [h3 e.on hei] at h
        have hlen : e.on < ops.size := by
          have := (Array.getElem?_eq_some_iff.1 ho).1
          omega
        have ho' : ops[e.on]? = some ops[e.on] := Array.getElem?_eq_getElem hlen
        exact ih e.on hei _ ho' (fun e' he' hb' => hD e.on _ ho' hon e' he' hb') j h

/-! #### kinds of operations -/
def effOp (S : Sg) : Op → Bool
  | .store .. | .mapUpdate .. | .insert .. | .makeSlice .. | .makeMap .. | .range .. | .next .. => true
  | .box t _ => S.mutT t
  | .call c => match c.callee with
    | .builtin .len | .builtin .min | .builtin .max => false
    | _ => true
  | _ => false

def readOp : Op → Bool
  | .load .. | .lookup .. | .convert .. | .slice .. => true
  | .call c => match c.callee with
    | .builtin .len => true
    | _ => false
  | _ => false

def isAlloc : Op → Bool
  | .alloc _ => true
  | _ => false

theorem some_same {H H' H2 : Heap} {v0 v : AVal} (h : some (v0, H) = some (v, H')) : H' = H ∧ some (v0, H2) = some (v, H2) := by
  cases h; exact ⟨rfl, rfl⟩

theorem withH_same {H H' H2 : Heap} {x : Option AVal} {v : AVal} (h : withH H x = some (v, H')) : H' = H ∧ withH H2 x = some (v, H2) := by
  obtain ⟨h1, h2⟩ := withH_some h
  exact ⟨h2, by rw [h1]; rfl⟩

/-- What neither acts nor reads says the same in every heap. -/
theorem denOp_still {S : Sg} {call : Calling} {e : Tr} {H H' H2 : Heap} {op : Op} {v : AVal} (h : denOp S call true e H op = some (v, H')) (h1 : effOp S op = false) (h2 : readOp op = false) (h3 : isAlloc op = false) :
    H' = H ∧ denOp S call true e H2 op = some (v, H2) := by
  cases op with
  | box t x =>
    simp only [effOp] at h1
    simp only [denOp, newRowA, h1] at h ⊢
    split at h
    · rename_i cs hcs
      exact some_same h
    · cases h
  | call c =>
    cases hk : c.callee with
    | value f => simp [effOp, hk] at h1
    | invoke r m => simp [effOp, hk] at h1
    | builtin b =>
      cases b <;> simp only [effOp, hk, reduceCtorEq] at h1
      case len => simp [readOp, hk] at h2
      case min =>
        simp only [denOp, hk] at h ⊢
        exact withH_same h
      case max =>
        simp only [denOp, hk] at h ⊢
        exact withH_same h
  | alloc t => simp [isAlloc] at h3
  | store => simp [effOp] at h1
  | mapUpdate => simp [effOp] at h1
  | insert => simp [effOp] at h1
  | makeSlice => simp [effOp] at h1
  | makeMap => simp [effOp] at h1
  | range => simp [effOp] at h1
  | next => simp [effOp] at h1
  | load => simp [readOp] at h2
  | lookup => simp [readOp] at h2
  | convert => simp [readOp] at h2
  | slice => simp [readOp] at h2
  | move x => simp only [denOp] at h ⊢; exact some_same h
  | assign x => simp only [denOp] at h ⊢; exact some_same h
  | pick p x y =>
    simp only [denOp] at h ⊢
    split at h
    · exact some_same h
    · exact some_same h
    · cases h
  | build t ps =>
    simp only [denOp] at h ⊢
    split at h
    · split at h
      · split at h
        · exact some_same h
        · cases h
      · split at h
        · split at h
          · exact some_same h
          · cases h
        · cases h
      · cases h
    · cases h
  | buildSlice t n ps =>
    simp only [denOp] at h ⊢
    split at h
    · split at h
      · split at h
        · rename_i hb
          split at h
          · rename_i cs hcs
            rw [if_pos hb]
            exact some_same h
          · cases h
        · cases h
      · cases h
    · cases h
  | nilCheck x =>
    simp only [denOp] at h ⊢
    split at h <;> first | exact some_same h | cases h
  | binOp op t x y yt => simp only [denOp] at h ⊢; exact withH_same h
  | unOp op t x => simp only [denOp] at h ⊢; exact withH_same h
  | makeInterface t x =>
    simp only [denOp] at h ⊢
    split at h
    · split at h
      · cases h
      · exact some_same h
    · cases h
  | makeFunc fn first cap =>
    cases fn <;> simp only [denOp, reduceCtorEq] at h ⊢
    exact some_same h
  | fieldAddr t x i =>
    simp only [denOp] at h ⊢
    split at h
    · split at h
      · split at h
        · cases h
        · exact withH_same h
      · cases h
    · cases h
  | field t x i =>
    simp only [denOp] at h ⊢
    split at h
    · split at h
      · split at h
        · rename_i ha
          split at h
          · rename_i hl
            rw [if_pos ha, if_pos hl]
            exact some_same h
          · cases h
        · rename_i ha
          rw [if_neg ha]
          exact withH_same h
      · cases h
    · cases h
  | indexAddr t x i =>
    simp only [denOp] at h ⊢
    split at h
    · exact withH_same h
    · cases h
  | index t x i =>
    simp only [denOp] at h ⊢
    split at h
    · exact withH_same h
    · cases h
  | typeAssert x xt t ok => simp only [denOp] at h ⊢; exact withH_same h
  | extract x i =>
    simp only [denOp] at h ⊢
    split at h
    · exact withH_same h
    · cases h
  | _ => simp [denOp] at h

theorem denOp_reads {S : Sg} {call : Calling} {e : Tr} {H H' : Heap} {op : Op} {v : AVal} (h : denOp S call true e H op = some (v, H')) (h2 : readOp op = true) : H' = H := by
  cases op with
  | load t a =>
    simp only [denOp] at h
    split at h
    · exact (withH_some h).2
    · cases h
  | lookup => simp only [denOp] at h; exact (withH_some h).2
  | convert => simp only [denOp] at h; exact (withH_some h).2
  | slice => simp only [denOp] at h; exact (withH_some h).2
  | call c =>
    cases hk : c.callee with
    | value f => simp [readOp, hk] at h2
    | invoke r m => simp [readOp, hk] at h2
    | builtin b =>
      cases b <;> simp only [readOp, hk, reduceCtorEq] at h2
      simp only [denOp, hk] at h
      split at h <;> first | exact (withH_some h).2 | cases h | (rename_i hh _ _; cases hh) | (rename_i hh; cases hh)
  | _ => simp [readOp] at h2

/-- An operation asks its operands alone. -/
theorem denOp_congr {S : Sg} {call : Calling} {d : Bool} {e1 e2 : Tr} {H : Heap} {op : Op} (h : ∀ x ∈ op.operands, opd S e1 x = opd S e2 x) : denOp S call d e1 H op = denOp S call d e2 H op := by
  have lst : ∀ (xs : Array Operand), (∀ x ∈ xs, opd S e1 x = opd S e2 x) → xs.toList.map (opd S e1) = xs.toList.map (opd S e2) := by
    intro xs hx
    exact List.map_congr_left fun x hm => hx x (by simpa using hm)
  have prt : ∀ (ps : Array (Nat × Operand)), (∀ p ∈ ps, opd S e1 p.2 = opd S e2 p.2) → (ps.toList.map fun p => (p.1, opd S e1 p.2)) = (ps.toList.map fun p => (p.1, opd S e2 p.2)) := by
    intro ps hx
    exact List.map_congr_left fun p hm => by rw [hx p (by simpa using hm)]
  have opt : ∀ (x : Option Operand), (∀ y ∈ x.toArray, opd S e1 y = opd S e2 y) → x.map (opd S e1) = x.map (opd S e2) := by
    intro x hx
    cases x with
    | none => rfl
    | some y => simp only [Option.map_some]; rw [hx y (by simp)]
  cases op <;> simp only [Op.operands, Array.mem_append, List.mem_toArray, List.mem_map] at h <;> simp only [denOp]
  case move x => rw [h x (by simp)]
  case assign x => rw [h x (by simp)]
  case pick p x y => rw [h p (by simp), h x (by simp), h y (by simp)]
  case box t x => rw [h x (by simp)]
  case build t ps => rw [prt ps fun p hp => h p.2 ⟨p, by simpa using hp, rfl⟩]
  case buildSlice t n ps => rw [prt ps fun p hp => h p.2 ⟨p, by simpa using hp, rfl⟩]
  case load t x => rw [h x (by simp)]
  case store t x y => rw [h x (by simp), h y (by simp)]
  case nilCheck x => rw [h x (by simp)]
  case binOp op t x y yt => rw [h x (by simp), h y (by simp)]
  case unOp op t x => rw [h x (by simp)]
  case convert s d x => rw [h x (by simp)]
  case makeInterface t x => rw [h x (by simp)]
  case makeFunc fn first cap =>
    cases fn <;> simp only [denOp]
    rw [lst first fun x hx => h x (.inl hx), lst cap fun x hx => h x (.inr hx)]
  case makeMap t r =>
    cases r with
    | none => rfl
    | some r => simp only; rw [h r (by simp)]
  case makeSlice t l c => rw [h l (by simp), h c (by simp)]
  case slice t x lo hi mx =>
    rw [h x (by simp), opt lo fun y hy => h y (by simp [hy]), opt hi fun y hy => h y (by simp [hy]), opt mx fun y hy => h y (by simp [hy])]
  case fieldAddr t x i => rw [h x (by simp)]
  case field t x i => rw [h x (by simp)]
  case indexAddr t x i => rw [h x (by simp), h i (by simp)]
  case index t x i => rw [h x (by simp), h i (by simp)]
  case lookup t x i ok => rw [h x (by simp), h i (by simp)]
  case mapUpdate t m k x => rw [h m (by simp), h k (by simp), h x (by simp)]
  case insert t m k x => rw [h m (by simp), h k (by simp), h x (by simp)]
  case range t x => rw [h x (by simp)]
  case next it st => cases st <;> simp only [denOp]; rw [h it (by simp)]
  case typeAssert x xt t ok => rw [h x (by simp)]
  case extract x i => rw [h x (by simp)]
  case call c =>
    cases hk : c.callee with
    | value f =>
      simp only
      rw [h f (by simp [Call.operands, hk]), lst c.args fun x hx => h x (by simp [Call.operands, hx])]
    | invoke r m =>
      simp only
      rw [h r (by simp [Call.operands, hk]), lst c.args fun x hx => h x (by simp [Call.operands, hx])]
    | builtin b =>
      simp only
      rw [lst c.args fun x hx => h x (by simp [Call.operands, hx])]

end Go.AM
