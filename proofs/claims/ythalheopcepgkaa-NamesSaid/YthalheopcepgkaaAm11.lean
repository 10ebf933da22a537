/- The abstract machine, 11: lists of operations, code, results, calls: whatever it answers, the program does. -/
import Derived.Test.YthalheopcepgkaaAm10
namespace Go.AM
set_option linter.unusedVariables false
set_option linter.unusedSimpArgs false
variable {P : Program}

/-- The state between two steps. -/
structure St (S : Sg) (n : Nat) (c : Ctx) (w : World) (e : Tr) (H : Heap) (a : Act) : Prop where
  rel : Rel c w H
  glob : Glob S c w
  env : EnvR c w e a.tmps
  size : a.tmps.size = n
  defers : a.defers = []

theorem put_ok {S : Sg} {n : Nat} {c : Ctx} {w : World} {e e' : Tr} {H : Heap} {a : Act} {dst : Option Tmp} {v : AVal} {cv : Value} (st : St S n c w e H a) (h : putA n e dst v = some e') (hv : VR c w v cv) : St S n c w e' H (a.put dst cv) := by
  unfold putA at h
  cases dst with
  | none => cases h; exact st
  | some d =>
    simp only at h
    split at h
    · rename_i hd
      cases h
      refine ⟨st.rel, st.glob, fun t => ?_, by simp [Act.put, st.size], st.defers⟩
      simp only [Act.put, Tr.get_set]
      by_cases ht : t = d
      · subst ht
        rw [if_pos rfl]
        have : (a.tmps.setIfInBounds t cv).getD t undef = cv := by
          rw [Array.getD_eq_getD_getElem?, Array.getElem?_setIfInBounds, if_pos rfl, if_pos (by rw [st.size]; exact hd)]; rfl
        rw [this]; exact hv
      · rw [if_neg ht]
        have : (a.tmps.setIfInBounds d cv).getD t undef = a.tmps.getD t undef := by
          rw [Array.getD_eq_getD_getElem?, Array.getElem?_setIfInBounds, if_neg (fun e => ht e.symm), ← Array.getD_eq_getD_getElem?]
        rw [this]; exact st.env t
    · cases h

theorem St.later {S : Sg} {n : Nat} {c c' : Ctx} {w w' : World} {e : Tr} {H H' : Heap} {a : Act} (st : St S n c w e H a) (r' : Rel c' w' H') (p : Post c w H c' w' H') : St S n c' w' e H' a :=
  ⟨r', st.glob.mono (p.le st.rel), st.env.mono (p.le st.rel), st.size, st.defers⟩

theorem wanted_ok {c : Ctx} {w : World} {e : Tr} {a : Act} {ops : Array Oper} {o : Oper} {b : Bool} (he : EnvR c w e a.tmps) (h : wantedA ops e o = some b) : Region.wanted o (yielded ops a.tmps) = b := by
  unfold wantedA at h
  unfold Region.wanted
  split at h
  · rename_i hg; rw [hg]; cases h; rfl
  · rename_i j want hg
    rw [hg]
    simp only
    split at h
    · rename_i hd
      cases h
      have : yielded ops a.tmps j = none := by unfold yielded; rw [hd]; rfl
      rw [this]; rfl
    · rename_i d hd
      have hv := he d
      split at h
      · rename_i x hx
        cases h
        rw [hx] at hv
        have hv' : a.tmps.getD d undef = .bool x := by generalize a.tmps.getD d undef = q at hv; cases hv; rfl
        have : a.tmps[d]? = some (.bool x) := by
          rw [Array.getD_eq_getD_getElem?] at hv'
          cases hq : a.tmps[d]? with
          | none => rw [hq] at hv'; cases hv'
          | some y => rw [hq] at hv'; simp at hv'; rw [hv']
        have : yielded ops a.tmps j = some x := by unfold yielded; rw [hd]; simp [this]
        rw [this]
        cases x <;> cases want <;> rfl
      · rename_i vs hx
        cases h
        rw [hx] at hv
        obtain ⟨us, hv'⟩ : ∃ us, a.tmps.getD d undef = .tuple us := by generalize a.tmps.getD d undef = q at hv; cases hv; exact ⟨_, rfl⟩
        have : yielded ops a.tmps j = none := by
          unfold yielded; rw [hd]
          rw [Array.getD_eq_getD_getElem?] at hv'
          cases hq : a.tmps[d]? with
          | none => simp [hq]
          | some y => rw [hq] at hv'; simp at hv'; subst hv'; simp [hq]
        rw [this]; rfl
      · cases h

theorem denOps_ok {S : Sg} (hS : SgOK P S) {call : Calling} (hc : CallOK P S call) {n : Nat} {draw : Bool} {ops : Array Oper} : ∀ (rest : List Oper) (i : Nat) (e e' : Tr) (H H' : Heap) (c : Ctx) (w : World) (a : Act) {Q : Exit → Act → World → Prop},
    rest = ops.toList.drop i → denOps S call n draw ops rest e H = some (e', H') → St S n c w e H a →
    (∀ c' w' a', St S n c' w' e' H' a' → Post c w H c' w' H' → Q .normal a' w') → wpOps P ops Q (List.range' i rest.length) a w
  | [], i, e, e', H, H', c, w, a, Q, _, h, st, hq => by
    simp only [denOps, Option.some.injEq, Prod.mk.injEq] at h
    obtain ⟨rfl, rfl⟩ := h
    exact hq c w a st (Post.refl c w H)
  | o :: rest, i, e, e', H, H', c, w, a, Q, hr, h, st, hq => by
    have ho : ops[i]? = some o := by
      have : (ops.toList.drop i)[0]? = some o := by rw [← hr]; rfl
      rw [List.getElem?_drop, Nat.add_zero, Array.getElem?_toList] at this
      exact this
    have hr' : rest = ops.toList.drop (i + 1) := by
      have := congrArg List.tail hr
      simpa [List.tail_drop] using this
    simp only [List.length_cons, List.range'_succ, wpOps, ho]
    unfold denOps at h
    split at h
    · cases h
    · rename_i hw
      rw [wanted_ok st.env hw]
      simp only [Bool.false_eq_true, if_false]
      split at h
      · rename_i e1 hp
        exact denOps_ok hS hc rest (i + 1) e1 e' H H' c w _ hr' h (put_ok st hp (VR.undef c w)) hq
      · cases h
    · rename_i hw
      rw [wanted_ok st.env hw]
      simp only [if_true]
      split at h
      · cases h
      · rename_i v H1 hop
        split at h
        · rename_i e1 hp
          refine .inl (denOp_ok hS hc hop st.env st.glob st.rel fun cv c1 w1 r1 p1 hv => ?_)
          exact denOps_ok hS hc rest (i + 1) e1 e' H1 H' c1 w1 _ hr' h (put_ok (st.later r1 p1) hp hv) fun c2 w2 a2 st2 p2 => hq c2 w2 a2 st2 (p1.trans st.rel p2)
        · cases h

def exOf : Ex → Exit
  | .normal => .normal
  | .exit id => .exit id
  | .ret => .ret

/-- The body of a loop is about to run. -/
def LoopWp (P : Program) (c : Code) (Q : Exit → Act → World → Prop) (a : Act) (w : World) : Prop :=
  ∀ (b : Frame) (k : List Item) (cs : List Frame), ∃ e a' w', Q e a' w' ∧ Arrives P (lone (b.at a (.code c :: .inLoop c :: k)) cs w) b k cs e a' w'

theorem LoopWp.wp {c : Code} {Q : Exit → Act → World → Prop} {a : Act} {w : World} (h : LoopWp P c Q a w) : (Code.loop c).wp P Q a w :=
  fun b k cs => let ⟨e, a', w', q, r⟩ := h b k cs; ⟨e, a', w', q, .of_steps (.one step_loop) r⟩

theorem LoopWp.of {c : Code} {Q : Exit → Act → World → Prop} {a : Act} {w : World} (h : c.wp P (Exit.then (LoopWp P c Q) Q) a w) : LoopWp P c Q a w := by
  intro b k cs
  obtain ⟨e, a₁, w₁, hq, harr⟩ := h b (.inLoop c :: k) cs
  cases e with
  | normal =>
    obtain ⟨e₂, a₂, w₂, hq₂, harr₂⟩ := hq b k cs
    exact ⟨e₂, a₂, w₂, hq₂, .of_steps (Steps.trans harr (.one step_inLoop)) harr₂⟩
  | exit id => exact ⟨_, a₁, w₁, hq, .pass (x := .inLoop c) rfl (fun _ _ => .inl (by simp)) harr⟩
  | goto l => exact ⟨_, a₁, w₁, hq, .pass (x := .inLoop c) rfl (fun _ _ => .inl (by simp)) harr⟩
  | ret => exact ⟨_, a₁, w₁, hq, .pass (x := .inLoop c) rfl (fun _ _ => .inl (by simp)) harr⟩
  | panic ch => exact ⟨_, a₁, w₁, hq, .pass (x := .inLoop c) rfl (fun _ _ => .inl (by simp)) harr⟩
  | outgrown => exact ⟨_, a₁, w₁, hq, .pass (x := .inLoop c) rfl (fun _ _ => .inl (by simp)) harr⟩

def Good (P : Program) (code : Code) (Q : Exit → Act → World → Prop) (a : Act) (w : World) : Prop :=
  match code with
  | .loop c => LoopWp P c Q a w
  | c => c.wp P Q a w

theorem Good.wp {code : Code} {Q : Exit → Act → World → Prop} {a : Act} {w : World} (h : Good P code Q a w) : code.wp P Q a w := by
  cases code with
  | loop c => exact LoopWp.wp h
  | _ => exact h

def RunOK (P : Program) (S : Sg) (n : Nat) (run : Run) : Prop :=
  ∀ (code : Code) (e e' : Tr) (H H' : Heap) (x : Ex) (c : Ctx) (w : World) (a : Act) (Q : Exit → Act → World → Prop), run code e H = some (x, e', H') → St S n c w e H a →
    (∀ c' w' a', St S n c' w' e' H' a' → Post c w H c' w' H' → Q (exOf x) a' w') → Good P code Q a w

/-- A quiet function leaves the heap as it is. -/
def CallQ (S : Sg) (call : Calling) : Prop := ∀ f args H v H', S.quiet f = true → call f args H = some (v, H') → H' = H

def DrawOK (P : Program) (S : Sg) (dr : Drawing) : Prop :=
  ∀ (call : Calling), CallOK P S call → CallQ S call → ∀ (n id : Nat) (ops : Array Oper) (e e' : Tr) (H H' : Heap) (c : Ctx) (w : World) (a : Act) (Q : Exit → Act → World → Prop), dr call n ops e H = some (e', H') → St S n c w e H a →
    (∀ c' w' a', St S n c' w' e' H' a' → Post c w H c' w' H' → Q .normal a' w') → (Code.region id ops true).wp P Q a w

theorem stepCode_ok {S : Sg} (hS : SgOK P S) {dr : Drawing} (hdr : DrawOK P S dr) {call : Calling} (hc : CallOK P S call) (hcq : CallQ S call) {n : Nat} {rec : Run} (hrec : RunOK P S n rec) : RunOK P S n (stepCode S dr call n rec) := by
  intro code e e' H H' x c w a Q h st hq
  cases code with
  | skip => simp only [stepCode, Option.some.injEq, Prod.mk.injEq] at h; obtain ⟨rfl, rfl, rfl⟩ := h; exact wp_skip (hq c w a st (Post.refl _ _ _))
  | label l => simp only [stepCode, Option.some.injEq, Prod.mk.injEq] at h; obtain ⟨rfl, rfl, rfl⟩ := h; exact wp_label (hq c w a st (Post.refl _ _ _))
  | exit id => simp only [stepCode, Option.some.injEq, Prod.mk.injEq] at h; obtain ⟨rfl, rfl, rfl⟩ := h; exact wp_exit (hq c w a st (Post.refl _ _ _))
  | ret => simp only [stepCode, Option.some.injEq, Prod.mk.injEq] at h; obtain ⟨rfl, rfl, rfl⟩ := h; exact wp_ret (hq c w a st (Post.refl _ _ _))
  | region id ops draw =>
    cases draw with
    | false =>
      simp only [stepCode] at h
      split at h
      · rename_i e1 H1 hd
        cases h
        refine wp_region ?_
        have := denOps_ok hS hc ops.toList 0 e e' H H' c w a (by simp) hd st hq
        rwa [Array.length_toList, ← List.range_eq_range'] at this
      · cases h
    | true =>
      simp only [stepCode] at h
      split at h
      · rename_i e1 H1 hd
        cases h
        exact hdr call hc hcq n id ops e e' H H' c w a Q hd st hq
      · cases h
  | seq p q =>
    simp only [stepCode] at h
    split at h
    · rename_i e1 H1 h1
      refine wp_seq (Good.wp (hrec p e e1 H H1 .normal c w a _ h1 st fun c1 w1 a1 st1 p1 => ?_))
      exact Good.wp (hrec q e1 e' H1 H' x c1 w1 a1 Q h st1 fun c2 w2 a2 st2 p2 => hq c2 w2 a2 st2 (p1.trans st.rel p2))
    · rename_i hne
      refine wp_seq (Good.wp (hrec p e e' H H' x c w a _ h st fun c1 w1 a1 st1 p1 => ?_))
      have hq1 := hq c1 w1 a1 st1 p1
      cases x with
      | normal => exact absurd h (hne e' H')
      | exit id => exact hq1
      | ret => exact hq1
  | cond p y z =>
    simp only [stepCode] at h
    have hv := opd_ok (S := S) (a := a) st.env st.glob p
    split at h
    · rename_i hb
      rw [hb] at hv
      have hb' : a.eval p = .bool true := by generalize a.eval p = q at hv; cases hv; rfl
      exact wp_cond_true hb' (Good.wp (hrec y e e' H H' x c w a Q h st hq))
    · rename_i hb
      rw [hb] at hv
      have hb' : a.eval p = .bool false := by generalize a.eval p = q at hv; cases hv; rfl
      exact wp_cond_false hb' (Good.wp (hrec z e e' H H' x c w a Q h st hq))
    · cases h
  | block id body =>
    simp only [stepCode] at h
    split at h
    · rename_i id' e1 H1 h1
      refine wp_block (Good.wp (hrec body e e1 H H1 (.exit id') c w a _ h1 st fun c1 w1 a1 st1 p1 => ?_))
      show (if id' = id then Q .normal a1 w1 else Q (.exit id') a1 w1)
      split at h
      · rename_i hid; cases h; rw [if_pos hid]; exact hq c1 w1 a1 st1 p1
      · rename_i hid; cases h; rw [if_neg hid]; exact hq c1 w1 a1 st1 p1
    · rename_i hne
      refine wp_block (Good.wp (hrec body e e' H H' x c w a _ h st fun c1 w1 a1 st1 p1 => ?_))
      have hq1 := hq c1 w1 a1 st1 p1
      cases x with
      | normal => exact hq1
      | exit id' => exact absurd h (hne id' e' H')
      | ret => exact hq1
  | loop body =>
    simp only [stepCode] at h
    split at h
    · rename_i e1 H1 h1
      refine LoopWp.of (Good.wp (hrec body e e1 H H1 .normal c w a _ h1 st fun c1 w1 a1 st1 p1 => ?_))
      exact hrec (.loop body) e1 e' H1 H' x c1 w1 a1 Q h st1 fun c2 w2 a2 st2 p2 => hq c2 w2 a2 st2 (p1.trans st.rel p2)
    · rename_i hne
      refine LoopWp.of (Good.wp (hrec body e e' H H' x c w a _ h st fun c1 w1 a1 st1 p1 => ?_))
      have hq1 := hq c1 w1 a1 st1 p1
      cases x with
      | normal => exact absurd h (hne e' H')
      | exit id => exact hq1
      | ret => exact hq1
  | _ => simp [stepCode] at h

/-! #### results -/
def resOne (tmps : Array Value) : ResultVar → Sem Value
  | .tmp t => pure (tmps.getD t undef)
  | .cell p t => do loadVar t (← asAddr (tmps.getD p undef))

theorem results_eq (fn : Func) (tmps : Array Value) : results fn tmps = (do let vs ← fn.results.mapM (resOne tmps); pure (if h : vs.size = 1 then vs[0] else .tuple vs)) := by
  unfold results
  congr 1

theorem oneRes_ok {S : Sg} (hS : SgOK P S) {n : Nat} {c : Ctx} {w : World} {e : Tr} {H : Heap} {a : Act} (st : St S n c w e H a) {r : ResultVar} {v : AVal} (h : oneRes S e H r = some v) :
    ∃ cv, (resOne a.tmps r).run P w = .ok cv w ∧ VR c w v cv := by
  cases r with
  | tmp t => simp only [oneRes, Option.some.injEq] at h; subst h; exact ⟨_, rfl, st.env t⟩
  | cell p t =>
    simp only [oneRes] at h
    split at h
    · rename_i ti row off ht hrow
      obtain ⟨b, o, hva, hcells⟩ := rowAt_ok hrow (st.env p) st.rel
      obtain ⟨cv, hr, hv⟩ := loadVar_ok (hS.ty _ _ ht) h hcells
      exact ⟨cv, by simp [resOne, hva, asAddr, hr], hv⟩
    · cases h

theorem allRes_ok {S : Sg} (hS : SgOK P S) {n : Nat} {c : Ctx} {w : World} {e : Tr} {H : Heap} {a : Act} (st : St S n c w e H a) : ∀ (rs : List ResultVar) (vs : List AVal), allRes S e H rs = some vs →
    ∃ cvs : List Value, (rs.mapM (resOne a.tmps)).run P w = .ok cvs w ∧ VRs c w vs cvs.toArray
  | [], vs, h => by
    simp only [allRes, Option.some.injEq] at h; subst h
    exact ⟨[], by simp, rfl, fun j a v h => by simp at h⟩
  | r :: rs, vs, h => by
    unfold allRes at h
    split at h
    · rename_i v vs' h1 h2
      cases h
      obtain ⟨cv, hr, hv⟩ := oneRes_ok hS st h1
      obtain ⟨cvs, hrs, hvs⟩ := allRes_ok hS st rs vs' h2
      refine ⟨cv :: cvs, ?_, ?_⟩
      · rw [List.mapM_cons]
        simp only [Sem.run_bind, hr, Result.andThen_ok, hrs, Sem.run_pure]
      · have := VRs.cons hv hvs
        simpa using this
    · cases h

theorem results_ok {S : Sg} (hS : SgOK P S) {n : Nat} {c : Ctx} {w : World} {e : Tr} {H : Heap} {a : Act} (st : St S n c w e H a) {fn : Func} {v : AVal} (h : denResults S fn e H = some v) :
    ∃ cv, (results fn a.tmps).run P w = .ok cv w ∧ VR c w v cv := by
  unfold denResults at h
  cases ha : allRes S e H fn.results.toList with
  | none => rw [ha] at h; cases h
  | some vs =>
    rw [ha] at h
    obtain ⟨cvs, hr, hv⟩ := allRes_ok hS st _ _ ha
    have hrun : (results fn a.tmps).run P w = .ok (if h : cvs.toArray.size = 1 then cvs.toArray[0] else .tuple cvs.toArray) w := by
      rw [results_eq, Array.mapM_eq_mapM_toList, Sem.run_bind, Sem.run_map, hr]
      rfl
    refine ⟨_, hrun, ?_⟩
    have hs : cvs.toArray.size = vs.length := hv.1
    match vs, h with
    | [x], h =>
      simp only [Option.some.injEq] at h; subst h
      have h0 : 0 < cvs.toArray.size := by rw [hs]; simp
      rw [dif_pos (show cvs.toArray.size = 1 from hs)]
      exact hv.2 0 _ _ rfl (Array.getElem?_eq_getElem h0)
    | [], h =>
      simp only [Option.some.injEq] at h; subst h
      rw [dif_neg (by rw [hs]; simp)]
      exact .tup _ _ hv.1 hv.2
    | x :: y :: vs, h =>
      simp only [Option.some.injEq] at h; subst h
      rw [dif_neg (by rw [hs]; simp)]
      exact .tup _ _ hv.1 hv.2

/-! #### sealing -/
theorem sealL_get {f : AVal → Option AVal} : ∀ (as bs : List AVal), sealL f as = some bs → bs.length = as.length ∧ ∀ (j : Nat) (b : AVal), bs[j]? = some b → ∃ a, as[j]? = some a ∧ f a = some b
  | [], bs, h => by simp only [sealL, Option.some.injEq] at h; subst h; exact ⟨rfl, fun j b h => by simp at h⟩
  | a :: as, bs, h => by
    unfold sealL at h
    split at h
    · rename_i b bs' h1 h2
      cases h
      obtain ⟨hl, hg⟩ := sealL_get as bs' h2
      refine ⟨by simp [hl], fun j x hx => ?_⟩
      cases j with
      | zero => simp at hx; subst hx; exact ⟨a, rfl, h1⟩
      | succ j => exact hg j x (by simpa using hx)
    · cases h

/-- What is live becomes frozen. -/
def Ctx.shut (c : Ctx) (H : Heap) : Ctx := ⟨c.ι, fun b => c.F b ∨ ∃ id o, Live H id ∧ c.ι id = some (b, o)⟩

theorem Ctx.shut_le (c : Ctx) (w : World) (H : Heap) : Le c w (c.shut H) w :=
  ⟨fun _ _ h => h, fun _ h => .inl h, fun _ _ => rfl, fun _ arr e fz h => ⟨arr, e, fz, h, rfl⟩⟩

theorem seal_ok {c : Ctx} {w : World} {H : Heap} (r : Rel c w H) : ∀ (n : Nat) (a a' : AVal) (v : Value), sealV H n a = some a' → VR c w a v → VR (c.shut H) w a' v
  | 0, a, a', v, h, _ => by cases h
  | n + 1, a, a', v, h, hv => by
    unfold sealV at h
    split at h
    · cases h; exact hv.mono (c.shut_le w H)
    · split at h
      · rename_i id off hcl
        split at h
        · rename_i vs ty hH
          split at h
          · rename_i cs hcs
            split at h
            · rename_i hall
              cases h
              obtain ⟨hl, hg⟩ := sealL_get _ _ hcs
              cases hv with
              | ptr _ _ b o hι =>
                obtain ⟨arr, e, hb, hlen, hh⟩ := r.obj id _ b o hH hι
                refine .ip cs off true b o (fun j => arr[o + j]?.getD default) (fun _ => List.all_eq_true.1 hall) (.inr ⟨id, o, ⟨_, hH, rfl⟩, hι⟩) (fun j hj => ?_) fun j x hx => ?_
                · have : o + j < arr.size := by omega
                  simp [World.cell?, hb, this]
                · obtain ⟨y, hy, hs⟩ := hg j x hx
                  have hj : j < vs.length := (List.getElem?_eq_some_iff.1 hy).1
                  have hlt : o + j < arr.size := by omega
                  simp only [Array.getElem?_eq_getElem hlt, Option.getD_some]
                  exact seal_ok r n y x _ hs (hh j y _ hy (Array.getElem?_eq_getElem hlt))
            · cases h
          · cases h
        · cases h
      · rename_i id off len cap sz hcl
        split at h
        · rename_i vs ty hH
          split at h
          · rename_i hfit
            split at h
            · rename_i cs hcs
              split at h
              · rename_i hall
                cases h
                obtain ⟨hl, hg⟩ := sealL_get _ _ hcs
                cases hv with
                | sl _ _ _ _ _ b o ca hι h2 h3 h4 h5 =>
                  obtain ⟨arr, e, hb, hlen, hh⟩ := r.obj id _ b o hH hι
                  have hcl' : cs.length = len * sz := by rw [hl]; simp; omega
                  have := VR.isl (c := c.shut H) (w := w) cs 0 len cap true b (o + off) ca (fun j => arr[o + off + j]?.getD default) (fun _ => List.all_eq_true.1 hall) (.inr ⟨id, o, ⟨_, hH, rfl⟩, hι⟩) h2 h3 h4 (fun j hj => by
                    have : o + off + j < arr.size := by omega
                    simp [World.cell?, hb, this]) fun j x hx => by
                    obtain ⟨y, hy, hs⟩ := hg j x hx
                    rw [List.getElem?_take] at hy
                    split at hy
                    · rw [List.getElem?_drop] at hy
                      have hj : off + j < vs.length := (List.getElem?_eq_some_iff.1 hy).1
                      have hlt : o + off + j < arr.size := by omega
                      simp only [Array.getElem?_eq_getElem hlt, Option.getD_some]
                      exact seal_ok r n y x _ hs (hh (off + j) y _ hy (by rw [← Nat.add_assoc]; exact Array.getElem?_eq_getElem hlt))
                    · cases hy
                  exact this
                | sl0 _ _ _ _ b o a hι hc => exact .isl0 _ _ _ _ _ _ (by omega) fun m hm => (hc m hm).symm
              · cases h
            · cases h
          · cases h
        · cases h
      · rename_i cells off cl hcl
        split at h
        · rename_i cs hcs
          split at h
          · rename_i hall
            cases h
            obtain ⟨hl, hg⟩ := sealL_get _ _ hcs
            cases hv with
            | ip _ _ _ b o g h1 hF hc hh =>
              refine .ip cs off true b o g (fun _ => List.all_eq_true.1 hall) (.inl hF) (fun j hj => hc j (by omega)) fun j x hx => ?_
              obtain ⟨y, hy, hs⟩ := hg j x hx
              exact seal_ok r n y x _ hs (hh j y hy)
          · cases h
        · cases h
      · rename_i cells off len cap cl hcl
        split at h
        · rename_i cs hcs
          split at h
          · rename_i hall
            cases h
            obtain ⟨hl, hg⟩ := sealL_get _ _ hcs
            cases hv with
            | isl _ _ _ _ _ b o ca g h1 hF h2 h3 h4 hc hh =>
              refine .isl cs off len cap true b o ca g (fun _ => List.all_eq_true.1 hall) (.inl hF) h2 h3 h4 (fun j hj => hc j (by omega)) fun j x hx => ?_
              obtain ⟨y, hy, hs⟩ := hg j x hx
              exact seal_ok r n y x _ hs (hh j y hy)
            | isl0 _ _ _ _ a ca h1 h2 => exact .isl0 _ _ _ _ a ca h1 h2
          · cases h
        · cases h
      · rename_i t x hcl
        split at h
        · rename_i x' hx
          cases h
          cases hv with
          | iface _ _ u hu => exact .iface t x' u (seal_ok r n x x' u hx hu)
        · cases h
      · rename_i cs hcl
        split at h
        · rename_i cs' hcs
          cases h
          obtain ⟨hl, hg⟩ := sealL_get _ _ hcs
          cases hv with
          | agg _ vs hs hh =>
            refine .agg cs' vs (by omega) fun j x u hx hu => ?_
            obtain ⟨y, hy, hsv⟩ := hg j x hx
            exact seal_ok r n y x u hsv (hh j y u hy hu)
        · cases h
      · rename_i cs hcl
        split at h
        · rename_i cs' hcs
          cases h
          obtain ⟨hl, hg⟩ := sealL_get _ _ hcs
          cases hv with
          | tup _ vs hs hh =>
            refine .tup cs' vs (by omega) fun j x u hx hu => ?_
            obtain ⟨y, hy, hsv⟩ := hg j x hx
            exact seal_ok r n y x u hsv (hh j y u hy hu)
        · cases h
      · cases h

/-! #### calls -/
theorem argTr_get : ∀ (as : List AVal) (i : Nat) (e : Tr) (t : Nat), (argTr as i e).get t = if i ≤ t ∧ t < i + as.length then as.getD (t - i) .any else e.get t
  | [], i, e, t => by rw [if_neg (by simp only [List.length_nil]; omega)]; rfl
  | a :: as, i, e, t => by
    unfold argTr
    rw [argTr_get as (i + 1) _ t, Tr.get_set]
    simp only [List.length_cons]
    by_cases h : i + 1 ≤ t ∧ t < i + 1 + as.length
    · rw [if_pos h, if_pos (by omega)]
      have : t - i = (t - (i + 1)) + 1 := by omega
      rw [this, List.getD_cons_succ]
    · rw [if_neg h]
      by_cases h2 : t = i
      · subst h2
        rw [if_pos rfl, if_pos (by omega), Nat.sub_self]; rfl
      · rw [if_neg h2, if_neg (by omega)]

theorem St.start {S : Sg} {n : Nat} {c : Ctx} {w : World} {H : Heap} {args : List AVal} {cargs : Array Value} (r : Rel c w H) (hg : Glob S c w) (ha : VRs c w args cargs) (hn : args.length ≤ n) :
    St S n c w (argTr args 0 .lf) H { tmps := cargs ++ Array.replicate (n - cargs.size) undef, defers := [] } := by
  refine ⟨r, hg, fun t => ?_, by simp [ha.1]; omega, rfl⟩
  rw [argTr_get]
  split
  · rename_i h
    have ht : t < args.length := by omega
    have htc : t < cargs.size := by rw [ha.1]; exact ht
    have e1 : args.getD (t - 0) .any = args[t] := by simp [ht]
    have e2 : (cargs ++ Array.replicate (n - cargs.size) undef).getD t undef = cargs[t] := by
      rw [Array.getD_eq_getD_getElem?, Array.getElem?_append_left htc, Array.getElem?_eq_getElem htc]; rfl
    rw [e1, e2]
    exact ha.2 t _ _ (List.getElem?_eq_getElem ht) (Array.getElem?_eq_getElem htc)
  · rw [Tr.get_lf]; exact .any _

def ExtOK (P : Program) (S : Sg) : Prop :=
  ∀ f x, S.ext f = some x → ∀ args H v H', x args H = some (v, H') → ∀ c w cargs, Rel c w H → Glob S c w → VRs c w args cargs →
    Calls P f cargs w fun e w' => ∃ cv c', e = .returned cv ∧ Rel c' w' H' ∧ Post c w H c' w' H' ∧ VR c' w' v cv

/-- A call that hands nothing of its own heap back. -/
theorem pure_post {c c1 : Ctx} {w w' : World} {H H1 : Heap} (r : Rel c w H) (r1 : Rel c1 w' H1) (p : Post ⟨fun _ => none, c.F⟩ w [] c1 w' H1) :
    Rel ⟨c.ι, (c1.shut H1).F⟩ w' H ∧ Post c w H ⟨c.ι, (c1.shut H1).F⟩ w' H := by
  have nolive : ∀ i, ¬ Live ([] : Heap) i := fun i ⟨o, ho, _⟩ => by simp at ho
  have old : ∀ b, b < w.heap.size → w'.heap[b]? = w.heap[b]? := fun b hb => p.frame b hb fun i o hl => absurd hl (nolive i)
  have hF : ∀ b, (c1.shut H1).F b → c.F b ∨ w.heap.size ≤ b := by
    rintro b (h | ⟨id, o, hl, hi⟩)
    · rcases p.Fnew b h with h | h | ⟨i, o, hl, _⟩
      · exact .inl h
      · exact .inr h
      · exact absurd hl (nolive i)
    · rcases p.new id b o hi with h | ⟨_, h | ⟨i, o, hl, _⟩⟩
      · cases h
      · exact .inr h
      · exact absurd hl (nolive i)
  have l : Le c w ⟨c.ι, (c1.shut H1).F⟩ w' := ⟨fun _ _ h => h, fun b h => .inl (p.F b h), fun b h => old b (r.fr b h), p.siz⟩
  refine ⟨⟨fun id o b off h hi => (r.obj id o b off h hi).mono l (old b (r.dom id b off hi).2), r.inj, fun id b off h => ⟨(r.dom id b off h).1, Nat.lt_of_lt_of_le (r.dom id b off h).2 p.size⟩, fun id b off hl hi h => ?_, fun b h => ?_⟩,
    ⟨fun _ _ h => h, fun _ _ _ h => .inl h, fun b h => .inl (p.F b h), fun b h => ?_, fun b hb _ => old b hb, fun _ _ _ => rfl, fun _ _ h => h, Nat.le_refl _, p.size, p.siz, p.os, p.tape, p.output⟩⟩
  · rcases hF b h with h | h
    · exact r.sep id b off hl hi h
    · have := (r.dom id b off hi).2; omega
  · rcases h with h | ⟨id, o, hl, hi⟩
    · exact r1.fr b h
    · exact (r1.dom id b o hi).2
  · rcases hF b h with h | h
    · exact .inl h
    · exact .inr (.inl h)

theorem stepCall_ok {S : Sg} (hS : SgOK P S) (hx : ExtOK P S) (hglob : ∀ g, (S.glob g).closed = true ∨ S.glob g = .any) {rec : FuncId → Func → Code → Tr → Heap → Option (Ex × Tr × Heap)} (hrec : ∀ f fn, RunOK P S fn.ntmps (rec f fn)) : CallOK P S (stepCall S rec) := by
  intro f args H v H' h c w cargs r hg ha
  unfold stepCall at h
  split at h
  · rename_i x hxf
    exact ⟨fun w => hS.call f (.inr (by rw [hxf]; rfl)) cargs w, hx f x hxf args H v H' h c w cargs r hg ha⟩
  · split at h
    · cases h
    · rename_i fn hfn
      refine ⟨fun w => hS.call f (.inl (by rw [hfn]; rfl)) cargs w, ?_⟩
      split at h
      · cases h
      · rename_i code hcode
        split at h
        · rename_i hn
          split at h
          · -- pure
            split at h
            · rename_i hcl
              split at h
              · cases h
              · rename_i y e1 H1 hne hrun
                split at h
                · rename_i u hu
                  split at h
                  · rename_i u' hs
                    split at h
                    · rename_i hc2
                      cases h
                      have r0 : Rel ⟨fun _ => none, c.F⟩ w [] := ⟨fun id o b off h => (by simp at h), fun i j b o1 o2 ⟨o, ho, _⟩ => (by simp at ho), fun id b off h => (by cases h), fun id b off ⟨o, ho, _⟩ => (by simp at ho), r.fr⟩
                      have g0 : Glob S ⟨fun _ => none, c.F⟩ w := fun g => by
                        rcases hglob g with h | h
                        · exact (hg g).shut h _
                        · rw [h]; exact .any _
                      have a0 : VRs ⟨fun _ => none, c.F⟩ w args cargs := ⟨ha.1, fun j x y hx hy => (ha.2 j x y hx hy).shut (List.all_eq_true.1 hcl x (List.mem_of_getElem? hx)) _⟩
                      have st := St.start (n := fn.ntmps) r0 g0 a0 hn
                      refine calls_of_wp (hS.fn f fn hfn) hcode (Good.wp (hrec f fn code _ e1 [] H1 y _ w _ _ hrun st fun c1 w1 a1 st1 p1 => ?_))
                      obtain ⟨cv, hr, hv⟩ := results_ok hS st1 hu
                      have hv' := (seal_ok st1.rel _ _ _ _ hs hv).shut hc2 c.ι
                      obtain ⟨rr, pp⟩ := pure_post r st1.rel p1
                      have fin : bodyPost P fn (fun e w' => ∃ cv c', e = .returned cv ∧ Rel c' w' H ∧ Post c w H c' w' H ∧ VR c' w' v cv) (exOf y) a1 w1 := by
                        cases y with
                        | normal => exact ⟨st1.defers, cv, hr, cv, _, rfl, rr, pp, hv'⟩
                        | ret => exact ⟨st1.defers, cv, hr, cv, _, rfl, rr, pp, hv'⟩
                        | exit id => exact absurd rfl (hne id)
                      exact fin
                    · cases h
                  · cases h
                · cases h
              · cases h
            · cases h
          · split at h
            · cases h
            · rename_i y e1 H1 hne hrun
              obtain ⟨hres, rfl⟩ := withH_some h
              have st := St.start (n := fn.ntmps) r hg ha hn
              refine calls_of_wp (hS.fn f fn hfn) hcode (Good.wp (hrec f fn code _ e1 H _ y _ w _ _ hrun st fun c1 w1 a1 st1 p1 => ?_))
              obtain ⟨cv, hr, hv⟩ := results_ok hS st1 hres
              cases y with
              | normal => exact ⟨st1.defers, cv, hr, cv, _, rfl, st1.rel, p1, hv⟩
              | ret => exact ⟨st1.defers, cv, hr, cv, _, rfl, st1.rel, p1, hv⟩
              | exit id => exact absurd rfl (hne id)
            · cases h
        · cases h

/-- What the table of quiet functions says. -/
def QuietOK (S : Sg) : Prop := ∀ f, S.quiet f = true → (∀ x, S.ext f = some x → ∀ args H v H', x args H = some (v, H') → H' = H) ∧ (S.ext f = none → S.pure f = true)

theorem stepCall_q {S : Sg} (hq : QuietOK S) {rec : FuncId → Func → Code → Tr → Heap → Option (Ex × Tr × Heap)} : CallQ S (stepCall S rec) := by
  intro f args H v H' hf h
  obtain ⟨h1, h2⟩ := hq f hf
  unfold stepCall at h
  split at h
  · rename_i x hxf
    exact h1 x hxf args H v H' h
  · rename_i hxf
    split at h
    · cases h
    · split at h
      · cases h
      · split at h
        · rw [h2 hxf] at h
          simp only [if_true] at h
          split at h
          · split at h
            · cases h
            · split at h
              · split at h
                · split at h
                  · cases h; rfl
                  · cases h
                · cases h
              · cases h
            · cases h
          · cases h
        · cases h

theorem denR_ok {S : Sg} (hS : SgOK P S) (hx : ExtOK P S) (hqt : QuietOK S) (hglob : ∀ g, (S.glob g).closed = true ∨ S.glob g = .any) {dr : Drawing} (hdr : DrawOK P S dr) : ∀ (n : Nat) (f : FuncId) (fn : Func), RunOK P S fn.ntmps (denR S dr n f fn)
  | 0, f, fn => fun code e e' H H' x c w a Q h => by cases h
  | n + 1, f, fn => stepCode_ok hS hdr (stepCall_ok hS hx hglob fun f fn => denR_ok hS hx hqt hglob hdr n f fn) (stepCall_q hqt) (denR_ok hS hx hqt hglob hdr n f fn)

theorem denC_ok {S : Sg} (hS : SgOK P S) (hx : ExtOK P S) (hqt : QuietOK S) (hglob : ∀ g, (S.glob g).closed = true ∨ S.glob g = .any) {dr : Drawing} (hdr : DrawOK P S dr) (n : Nat) : CallOK P S (denC S dr n) :=
  stepCall_ok hS hx hglob fun f fn => denR_ok hS hx hqt hglob hdr n f fn

end Go.AM
