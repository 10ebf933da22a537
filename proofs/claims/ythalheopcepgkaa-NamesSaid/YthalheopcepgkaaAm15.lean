/- The abstract machine, 15: its tables, asked from the program itself. -/
import Derived.Test.YthalheopcepgkaaAm14
namespace Go.AM
set_option linter.unusedVariables false
set_option linter.unusedSimpArgs false

/-- A type as the machine wants it. -/
def fldOf (P : Program) (f : Field) : Option (Nat × Nat × Bool) :=
  match P.info? f.type, P.underlying f.type with
  | some ti, some d => some (f.offset, ti.size, aggD d)
  | _, _ => none

def fldsOf (P : Program) : TypeDesc → Option (List (Nat × Nat × Bool))
  | .struct fs => fs.toList.mapM (fldOf P)
  | _ => some []

def isAggV : Value → Bool
  | .agg _ => true
  | _ => false

def tiOf (P : Program) (t : TypeId) : Option TI :=
  match P.info? t with
  | none => none
  | some inf => match P.underlying t with
    | none => none
    | some d => match inf.zero with
      | none => none
      | some z => match fldsOf P d with
        | none => none
        | some fl =>
          if z.cells.size = inf.size ∧ aggD d = isAggV z then
            some { desc := d, size := inf.size, bytes := inf.bytes, zero := z.cells.toList.map ofV1, agg := aggD d, flds := fl }
          else none

theorem mapM_get {α β : Type} (f : α → Option β) : ∀ (l : List α) (r : List β), l.mapM f = some r → r.length = l.length ∧ ∀ (j : Nat) (a : α) (b : β), l[j]? = some a → r[j]? = some b → f a = some b
  | [], r, h => by
    simp at h; subst h
    exact ⟨rfl, fun j a b h => by simp at h⟩
  | x :: l, r, h => by
    rw [List.mapM_cons] at h
    cases hx : f x with
    | none => rw [hx] at h; cases h
    | some y =>
      rw [hx] at h
      cases hl : l.mapM f with
      | none => rw [hl] at h; cases h
      | some ys =>
        rw [hl] at h
        cases h
        obtain ⟨h1, h2⟩ := mapM_get f l ys hl
        refine ⟨by simp [h1], fun j a b ha hb => ?_⟩
        cases j with
        | zero => simp at ha hb; subst ha; subst hb; exact hx
        | succ j => exact h2 j a b (by simpa using ha) (by simpa using hb)

theorem tiOf_ok {P : Program} {t : TypeId} {i : TI} (h : tiOf P t = some i) : TyOK P t i := by
  unfold tiOf at h
  split at h
  · cases h
  · rename_i inf hinf
    split at h
    · cases h
    · rename_i d hd
      split at h
      · cases h
      · rename_i z hz
        split at h
        · cases h
        · rename_i fl hfl
          split at h
          · rename_i hc
            cases h
            refine ⟨hd, ⟨inf, hinf, rfl, rfl, z, hz, rfl, by simpa using hc.1, fun ha => ?_, fun ha => ?_⟩, rfl, fun fs hfs => ?_⟩
            · have h2 := hc.2
              simp only at ha
              rw [ha] at h2
              cases z <;> simp [isAggV] at h2
              exact ⟨_, rfl⟩
            · have h2 := hc.2
              simp only at ha
              rw [ha] at h2
              cases z <;> simp [isAggV] at h2 <;> rfl
            · simp only at hfs
              subst hfs
              unfold fldsOf at hfl
              obtain ⟨h1, h2⟩ := mapM_get _ _ _ hfl
              refine ⟨by simpa using h1.symm, fun j f g hf hg => ?_⟩
              have := h2 j f g (by simpa using hf) hg
              unfold fldOf at this
              split at this
              · rename_i ti d hti hdd
                cases this
                exact ⟨rfl, ti, hti, rfl, d, hdd, rfl⟩
              · cases this
          · cases h

def fnOf (P : Program) (f : FuncId) : Option Func :=
  match P.funcs[f]? with
  | none => none
  | some fn => match fn.body with
    | none => none
    | some _ => if fn.name == "runtime.NumGoroutine" then none else some fn

theorem fnOf_ok {P : Program} {f : FuncId} {fn : Func} (h : fnOf P f = some fn) : P.funcs[f]? = some fn ∧ ∀ args w, (callFunc f args).run P w = .ok (.enter f args) w := by
  unfold fnOf at h
  split at h
  · cases h
  · rename_i fn' hf
    split at h
    · cases h
    · rename_i b hb
      split at h
      · cases h
      · rename_i hn
        cases h
        refine ⟨hf, fun args w => ?_⟩
        simp only [beq_iff_eq] at hn
        simp [callFunc, hf, hn, hb]

/-- What is said besides. -/
structure Ad where
  ext : FuncId → Option (List AVal → Heap → Option (AVal × Heap))
  pure : FuncId → Bool
  quiet : FuncId → Bool
  mutT : TypeId → Bool
  eqT : TypeId → Bool
  meth : TypeId → String → Option FuncId
  glob : Nat → AVal

def Ad.sg (A : Ad) (P : Program) : Sg :=
  { ty := tiOf P, fn := fnOf P, ext := A.ext, pure := A.pure, quiet := A.quiet, mutT := A.mutT, eqT := A.eqT, meth := A.meth, glob := A.glob }

/-- Nothing besides. -/
def Ad.nil : Ad := { ext := fun _ => none, pure := fun _ => false, quiet := fun _ => false, mutT := fun _ => false, eqT := fun _ => false, meth := fun _ _ => none, glob := fun _ => .any }

theorem Ad.sg_ok {A : Ad} {P : Program} (hm : P.follows .mixedOrders = true) (hx : ∀ f, (A.ext f).isSome = true → (fnOf P f).isSome = true)
    (he : ∀ t, A.eqT t = true → P.eqGuardType P.depth t = false ∧ ∀ (c : Ctx) (w : World) (as bs : List AVal) (b : Bool) (xs ys : Array Value),
      eqCells as bs = some b → VRs c w as xs → VRs c w bs ys → (Op.equal t (.agg xs) (.agg ys)).run P w = .ok b w)
    (hme : ∀ t m g, A.meth t m = some g → ∀ v args w, (callMethod (.iface t v) m args).run P w = (callFunc g (#[v] ++ args)).run P w) : SgOK P (A.sg P) := by
  refine ⟨fun t i h => tiOf_ok h, fun f fn h => (fnOf_ok h).1, fun f h args w => ?_, hm, he, hme⟩
  have : (fnOf P f).isSome = true := by
    rcases h with h | h
    · exact h
    · exact hx f h
  cases hf : fnOf P f with
  | none => rw [hf] at this; cases this
  | some fn => exact (fnOf_ok hf).2 args w

theorem Ad.nil_ok {P : Program} (hm : P.follows .mixedOrders = true) : SgOK P (Ad.nil.sg P) :=
  Ad.sg_ok hm (fun f h => by cases h) (fun t h => by cases h) (fun t m g h => by cases h)

/-- A call that the machine has run. -/
theorem den_calls {P : Program} {S : Sg} (hS : SgOK P S) (hx : ExtOK P S) (hqt : QuietOK S) (hglob : ∀ g, (S.glob g).closed = true ∨ S.glob g = .any) {n : Nat} {f : FuncId} {args : List AVal} {H H' : Heap} {v : AVal}
    (h : den S n f args H = some (v, H')) {c : Ctx} {w : World} {cargs : Array Value} (r : Rel c w H) (hg : Glob S c w) (ha : VRs c w args cargs) :
    Calls P f cargs w fun e w' => ∃ cv c', e = .returned cv ∧ Rel c' w' H' ∧ Post c w H c' w' H' ∧ VR c' w' v cv :=
  (den_ok hS hx hqt hglob n f args H v H' h c w cargs r hg ha).2

end Go.AM
