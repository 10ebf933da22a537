/- The abstract machine, 10: any operation. -/
import Derived.Test.YthalheopcepgkaaAm9
import Derived.Laws.RangeAny
namespace Go.AM
set_option linter.unusedVariables false
set_option linter.unusedSimpArgs false
variable {P : Program}

theorem range_ok {S : Sg} (hS : SgOK P S) {c : Ctx} {w : World} {H : Heap} (r : Rel c w H) {t : TypeId} {s : ByteArray} (hu : P.underlying t = some .string) :
    Yields P c w H (Instr.range t (.string s)) (.ptr H.length 0) (H ++ [.siter s.data.toList 0]) := by
  obtain ⟨c', r', p', hι⟩ := new_mut r (.stringIter s 0) (.siter s.data.toList 0) fun c' w' l hb => ⟨rfl, s, rfl, hb⟩
  exact ⟨.pointer (some ⟨w.heap.size, 0, none⟩), _, c', by simp [Instr.range, run_und hu], r', p', .ptr _ _ _ 0 hι⟩

theorem tup1 {c : Ctx} {w : World} {a : AVal} {x : Value} (h1 : VR c w a x) : VR c w (.tup [a]) (.tuple #[x]) := by
  refine .tup _ _ rfl fun j a v ha hv => ?_
  match j with
  | 0 => simp at ha hv; subst ha; subst hv; exact h1
  | j + 1 => simp at ha

theorem tup3 {c : Ctx} {w : World} {a b d : AVal} {x y z : Value} (h1 : VR c w a x) (h2 : VR c w b y) (h3 : VR c w d z) : VR c w (.tup [a, b, d]) (.tuple #[x, y, z]) := by
  refine .tup _ _ rfl fun j a v ha hv => ?_
  match j with
  | 0 => simp at ha hv; subst ha; subst hv; exact h1
  | 1 => simp at ha hv; subst ha; subst hv; exact h2
  | 2 => simp at ha hv; subst ha; subst hv; exact h3
  | j + 3 => simp at ha

theorem decode_low (s : ByteArray) (pos : Nat) (b : UInt8) (hb : s.data.toList[pos]? = some b) (h : b.toNat < 128) : pos < s.size ∧ Utf8.decode s pos = (b.toNat, 1) := by
  have hlt : pos < s.data.toList.length := (List.getElem?_eq_some_iff.1 hb).1
  have hsz : s.data.toList.length = s.size := Array.length_toList
  have hp : pos < s.size := by omega
  refine ⟨hp, ?_⟩
  have hg : s.get! (pos + 0) = b := by
    have h1 : s.data[pos]? = some b := by rw [← Array.getElem?_toList]; exact hb
    simp only [Nat.add_zero]
    unfold ByteArray.get!
    cases s with
    | mk d =>
      simp only at h1 ⊢
      rw [getElem!_def, h1]
  simp only [Utf8.decode, hg]
  rw [if_pos h]

theorem next_ok {c : Ctx} {w : World} {H : Heap} (r : Rel c w H) {id pos : Nat} {s : List UInt8} {vi : Value} {ty : TypeId} (hi : VR c w (.ptr id 0) vi) (hH : H[id]? = some (.siter s pos)) :
    (s[pos]? = none → Yields P c w H (Instr.next vi true ty) (.tup [.bool false]) H) ∧
    (∀ b, s[pos]? = some b → b.toNat < 128 → Yields P c w H (Instr.next vi true ty) (.tup [.bool true, .int .i64 pos, .int .i32 b.toNat]) (H.set id (.siter s (pos + 1)))) := by
  cases hi with
  | ptr _ _ b o hι =>
    obtain ⟨rfl, bs, hbs, hb⟩ := r.obj id _ b o hH hι
    subst hbs
    have hsz : bs.data.toList.length = bs.size := Array.length_toList
    have hg : (getObj b).run P w = .ok (.stringIter bs pos) w := by simp [getObj, Sem.run, hb]
    have hlt : b < w.heap.size := (r.dom id b 0 hι).2
    constructor
    · intro hn
      have : ¬ pos < bs.size := by have := List.getElem?_eq_none_iff.1 hn; omega
      exact Tells.yields r ⟨.tuple #[.bool false], by simp [Instr.next, hg, this], tup1 (.bool false)⟩
    · intro x hx hx128
      obtain ⟨hp, hd⟩ := decode_low bs pos x hx hx128
      have hset : (setObj b (.stringIter bs (pos + 1))).run P w = .ok () { w with heap := w.heap.setIfInBounds b (.stringIter bs (pos + 1)) } := by simp [setObj, Sem.run, hb]
      obtain ⟨r', p'⟩ := upd (w' := { w with heap := w.heap.setIfInBounds b (.stringIter bs (pos + 1)) }) r hH rfl hι (o := .siter bs.data.toList (pos + 1)) rfl (by simp) (fun j hj => by simp [Array.getElem?_setIfInBounds, Ne.symm hj]) (fun arr e fz he => by rw [hb] at he; cases he) rfl rfl rfl
        fun l => ⟨rfl, bs, rfl, by simp [hlt]⟩
      refine ⟨.tuple #[.bool true, .int .i64 pos, .int .i32 x.toNat], _, c, ?_, r', p', tup3 (.bool true) (.int _ _) (.int _ _)⟩
      simp only [Instr.next, Sem.run_bind, hg, Result.andThen_ok, if_pos hp, hd, hset, Sem.run_pure, goInt]

theorem denLen_ok {S : Sg} (hS : SgOK P S) {c : Ctx} {w : World} {H : Heap} (r : Rel c w H) {t ty : TypeId} {ats : Array TypeId} {x v : AVal} {vx : Value} (h : denLen H S t x = some v) (hx : VR c w x vx) (hat : ats[0]? = some t) :
    Tells P c w (Builtin.len_ ats ty #[vx]) v := by
  unfold denLen at h
  split at h
  · rename_i ht
    have hu := (hS.ty _ _ ht).und
    simp only at hu
    cases hx with
    | str l s hs =>
      subst hs; rw [fNat_eq] at h; cases h
      have hsz : s.data.toList.length = s.size := Array.length_toList
      exact ⟨.int .i64 s.size, by simp [Builtin.len_, hat, run_und hu, goInt], by rw [hsz]; exact .int _ _⟩
  · rename_i ht
    have hu := (hS.ty _ _ ht).und
    simp only at hu
    cases h; cases hx
    exact ⟨.int .i64 0, by simp [Builtin.len_, hat, run_und hu, goInt], .int _ _⟩
  · rename_i ht
    have hu := (hS.ty _ _ ht).und
    simp only at hu
    cases h
    obtain ⟨a, b, o, ca, rfl, _⟩ := hx.sl_inv
    exact ⟨_, by simp [Builtin.len_, hat, run_und hu, goInt], .int _ _⟩
  · rename_i ht
    have hu := (hS.ty _ _ ht).und
    simp only at hu
    cases h
    cases hx with
    | isl => exact ⟨_, by simp [Builtin.len_, hat, run_und hu, goInt], .int _ _⟩
    | isl0 => exact ⟨_, by simp [Builtin.len_, hat, run_und hu, goInt], .int _ _⟩
  · rename_i ht
    have hu := (hS.ty _ _ ht).und
    simp only at hu
    cases h
    exact ⟨_, by simp [Builtin.len_, hat, run_und hu, goInt], .int _ _⟩
  · rename_i ht
    have hu := (hS.ty _ _ ht).und
    simp only at hu
    cases h; cases hx
    exact ⟨.int .i64 0, by simp [Builtin.len_, hat, run_und hu, goInt], .int _ _⟩
  · rename_i ht
    have hu := (hS.ty _ _ ht).und
    simp only at hu
    split at h
    · rename_i es hH
      rw [fNat_eq] at h; cases h
      cases hx with
      | map _ b o hι =>
        obtain ⟨mes, clk, hb, hl, _⟩ := r.obj _ _ b o hH hι
        have hg : (getObj b).run P w = .ok (.map mes clk) w := by simp [getObj, Sem.run, hb]
        exact ⟨.int .i64 mes.size, by simp [Builtin.len_, hat, run_und hu, goInt, hg], by rw [hl]; exact .int _ _⟩
    · cases h
  · cases h

theorem denMinMax_ok {c : Ctx} {w : World} {ats : Array TypeId} {ty : TypeId} {xs : List AVal} {vs : Array Value} {v : AVal} {mn : Bool} (h : denMinMax mn xs = some v) (hx : VRs c w xs vs) :
    Tells P c w (if mn then Builtin.min_ ats ty vs else Builtin.max_ ats ty vs) v := by
  unfold denMinMax at h
  split at h
  · rename_i k a k' b
    split at h
    · rename_i hk
      subst hk
      rw [mkI_eq] at h; cases h
      have hs : vs.size = 2 := hx.1
      have h0 := hx.2 0 _ vs[0] rfl (Array.getElem?_eq_getElem (by omega))
      have h1 := hx.2 1 _ vs[1] rfl (Array.getElem?_eq_getElem (by omega))
      have hv : vs = #[vs[0], vs[1]] := by
        apply Array.ext (by simp [hs])
        intro i hi _
        match i with
        | 0 => rfl
        | 1 => rfl
        | i + 2 => omega
      generalize e0 : vs[0] = v0 at *
      generalize e1 : vs[1] = v1 at *
      subst hv
      cases h0; cases h1
      cases mn with
      | true => exact ⟨.int k (if b < a then b else a), by simp [Builtin.min_, Builtin.min2], .int _ _⟩
      | false => exact ⟨.int k (if a < b then b else a), by simp [Builtin.max_, Builtin.max2], .int _ _⟩
    · cases h
  · cases h

/-- The calls are what they are said to be. -/
def CallOK (P : Program) (S : Sg) (call : Calling) : Prop :=
  ∀ f args H v H', call f args H = some (v, H') → ∀ c w cargs, Rel c w H → Glob S c w → VRs c w args cargs →
    (∀ w, (callFunc f cargs).run P w = .ok (.enter f cargs) w) ∧
    Calls P f cargs w fun e w' => ∃ cv c', e = .returned cv ∧ Rel c' w' H' ∧ Post c w H c' w' H' ∧ VR c' w' v cv

theorem wp_of_yields {c : Ctx} {w : World} {H H' : Heap} {s : Sem Value} {v : AVal} {o : Oper} {a : Act} {next : Act → World → Prop} {Q : Exit → Act → World → Prop}
    (hx : execOp a.eval o = (do pure (.value (← s)))) (y : Yields P c w H s v H') (hn : ∀ cv c' w', Rel c' w' H' → Post c w H c' w' H' → VR c' w' v cv → next (a.put o.dst cv) w') : o.wp P a w next Q := by
  obtain ⟨cv, w', c', hr, r', p', hv⟩ := y
  unfold Oper.wp
  rw [hx, Sem.run_bind, hr]
  exact hn cv c' w' r' p' hv

theorem wp_of_unit {w : World} {s : Sem Unit} {o : Oper} {a : Act} {next : Act → World → Prop} {Q : Exit → Act → World → Prop}
    (hx : execOp a.eval o = (do s; pure .skip)) {w' : World} (hr : s.run P w = .ok () w') (hn : next (a.put o.dst undef) w') : o.wp P a w next Q := by
  unfold Oper.wp
  rw [hx, Sem.run_bind, hr]
  exact hn

theorem VR.undef (c : Ctx) (w : World) : VR c w undefA Go.undef := .tup [] #[] rfl fun j a v h => by simp at h

theorem wp_of_call {c : Ctx} {w : World} {H H' : Heap} {f : FuncId} {cargs : Array Value} {v : AVal} {o : Oper} {a : Act} {next : Act → World → Prop} {Q : Exit → Act → World → Prop}
    (hx : (execOp a.eval o).run P w = .ok (.enter f cargs) w) (y : Calls P f cargs w fun e w' => ∃ cv c', e = .returned cv ∧ Rel c' w' H' ∧ Post c w H c' w' H' ∧ VR c' w' v cv)
    (hn : ∀ cv c' w', Rel c' w' H' → Post c w H c' w' H' → VR c' w' v cv → next (a.put o.dst cv) w') : o.wp P a w next Q := by
  unfold Oper.wp
  rw [hx, Oper.upon_enter]
  refine y.mono ?_
  rintro e w' ⟨cv, c', rfl, r', p', hv⟩
  exact hn cv c' w' r' p' hv

theorem opds_ok {S : Sg} {c : Ctx} {w : World} {e : Tr} {a : Act} (he : EnvR c w e a.tmps) (hg : Glob S c w) (xs : Array Operand) : VRs c w (xs.toList.map (opd S e)) (xs.map a.eval) := by
  refine ⟨by simp, fun j x v hx hv => ?_⟩
  rw [List.getElem?_map, Array.getElem?_toList] at hx
  rw [Array.getElem?_map] at hv
  cases hj : xs[j]? with
  | none => rw [hj] at hx; cases hx
  | some y => rw [hj] at hx hv; cases hx; cases hv; exact opd_ok he hg y

theorem VRs.append {c : Ctx} {w : World} {as bs : List AVal} {xs ys : Array Value} (h : VRs c w as xs) (k : VRs c w bs ys) : VRs c w (as ++ bs) (xs ++ ys) := RowR.append h k

theorem VRs.cons {c : Ctx} {w : World} {a : AVal} {as : List AVal} {x : Value} {xs : Array Value} (h : VR c w a x) (k : VRs c w as xs) : VRs c w (a :: as) (#[x] ++ xs) := by
  refine VRs.append (as := [a]) ⟨rfl, fun j b v hb hv => ?_⟩ k
  match j with
  | 0 => simp at hb hv; subst hb; subst hv; exact h
  | j + 1 => simp at hb

theorem optR {S : Sg} {c : Ctx} {w : World} {e : Tr} {a : Act} (he : EnvR c w e a.tmps) (hg : Glob S c w) (x : Option Operand) : OptR c w (x.map (opd S e)) (x.map a.eval) := by
  cases x with
  | none => exact ⟨fun a h => (by cases h), fun _ => rfl⟩
  | some x => exact ⟨fun y h => (by cases h; exact ⟨_, rfl, opd_ok he hg x⟩), fun h => (by cases h)⟩

theorem parts_ok {S : Sg} {c : Ctx} {w : World} {e : Tr} {a : Act} (he : EnvR c w e a.tmps) (hg : Glob S c w) (ps : Array (Nat × Operand)) :
    (ps.map fun (i, x) => (i, a.eval x)).size = (ps.toList.map fun p => (p.1, opd S e p.2)).length ∧
    ∀ (j : Nat) (x : Nat × AVal) (y : Nat × Value), (ps.toList.map fun p => (p.1, opd S e p.2))[j]? = some x → (ps.map fun (i, x) => (i, a.eval x)).toList[j]? = some y → x.1 = y.1 ∧ VR c w x.2 y.2 := by
  refine ⟨by simp, fun j x y hx hy => ?_⟩
  rw [List.getElem?_map, Array.getElem?_toList] at hx
  rw [Array.getElem?_toList, Array.getElem?_map] at hy
  cases hj : ps[j]? with
  | none => rw [hj] at hx; cases hx
  | some p => rw [hj] at hx hy; cases hx; cases hy; exact ⟨rfl, opd_ok he hg p.2⟩

theorem withH_some {H H' : Heap} {x : Option AVal} {v : AVal} (h : withH H x = some (v, H')) : x = some v ∧ H' = H := by
  cases x with
  | none => cases h
  | some y => cases h; exact ⟨rfl, rfl⟩

theorem denOp_ok {S : Sg} (hS : SgOK P S) {call : Calling} (hc : CallOK P S call) {draw : Bool} {o : Oper} {a : Act} {e : Tr} {H H' : Heap} {v : AVal} {c : Ctx} {w : World}
    (h : denOp S call draw e H o.op = some (v, H')) (he : EnvR c w e a.tmps) (hg : Glob S c w) (r : Rel c w H) {next : Act → World → Prop} {Q : Exit → Act → World → Prop}
    (hn : ∀ cv c' w', Rel c' w' H' → Post c w H c' w' H' → VR c' w' v cv → next (a.put o.dst cv) w') : o.wp P a w next Q := by
  have V := fun x => opd_ok (S := S) (a := a) he hg x
  cases ho : o.op with
  | move x =>
    rw [ho] at h; simp only [denOp, Option.some.injEq, Prod.mk.injEq] at h; obtain ⟨rfl, rfl⟩ := h
    exact wp_of_yields (s := pure (a.eval x)) (by simp [execOp, ho]) (Tells.yields r ⟨_, rfl, V x⟩) hn
  | assign x =>
    rw [ho] at h; simp only [denOp, Option.some.injEq, Prod.mk.injEq] at h; obtain ⟨rfl, rfl⟩ := h
    exact wp_of_yields (s := pure (a.eval x)) (by simp [execOp, ho]) (Tells.yields r ⟨_, rfl, V x⟩) hn
  | pick p x y =>
    rw [ho] at h
    simp only [denOp] at h
    have hp := V p
    split at h
    · rename_i hb; cases h
      rw [hb] at hp
      have hb' : a.eval p = .bool true := by generalize a.eval p = q at hp; cases hp; rfl
      exact wp_of_yields (s := pure (a.eval x)) (by simp [execOp, ho, hb', asBool]) (Tells.yields r ⟨_, rfl, V x⟩) hn
    · rename_i hb; cases h
      rw [hb] at hp
      have hb' : a.eval p = .bool false := by generalize a.eval p = q at hp; cases hp; rfl
      exact wp_of_yields (s := pure (a.eval y)) (by simp [execOp, ho, hb', asBool]) (Tells.yields r ⟨_, rfl, V y⟩) hn
    · cases h
  | alloc t =>
    rw [ho] at h
    simp only [denOp] at h
    split at h
    · rename_i ti ht; cases h
      exact wp_of_yields (by simp only [execOp, ho]) (alloc_ok r (hS.ty _ _ ht)) hn
    · cases h
  | box t x =>
    rw [ho] at h
    simp only [denOp] at h
    split at h
    · rename_i cs hcs
      have hb := box_ok (P := P) r (t := t) (V x) hcs (S.mutT t)
      simp only [Option.some.injEq] at h
      have e1 : v = (newRowA (S.mutT t) H cs t).1 := by rw [h]
      have e2 : H' = (newRowA (S.mutT t) H cs t).2 := by rw [h]
      subst e1; subst e2
      exact wp_of_yields (by simp only [execOp, ho]) hb hn
    · cases h
  | build t ps =>
    rw [ho] at h
    simp only [denOp] at h
    obtain ⟨hl, hv⟩ := parts_ok (S := S) (a := a) he hg ps
    split at h
    · rename_i ti ht
      split at h
      · rename_i fs hd
        split at h
        · rename_i cs hf; cases h
          exact wp_of_yields (by simp only [execOp, ho]) (Tells.yields r (build_ok hS ht hd hl hv hf)) hn
        · cases h
      · rename_i n el hd
        split at h
        · rename_i te hte
          split at h
          · rename_i cs hf; cases h
            exact wp_of_yields (by simp only [execOp, ho]) (Tells.yields r (build_arr_ok hS ht hd hte hl hv hf)) hn
          · cases h
        · cases h
      · cases h
    · cases h
  | buildSlice t n ps =>
    rw [ho] at h
    simp only [denOp] at h
    obtain ⟨hl, hv⟩ := parts_ok (S := S) (a := a) he hg ps
    split at h
    · rename_i el _ _ _ _ _ ht
      have hu := (hS.ty _ _ ht).und
      simp only at hu
      split at h
      · rename_i te hte
        split at h
        · rename_i hb
          split at h
          · rename_i cs hf
            have hn' : n ≤ 9223372036854775807 := by omega
            have y := buildSlice_ok hS r hu hte hl hv hb.1 hn' hf draw
            cases draw with
            | true => cases h; exact wp_of_yields (by simp only [execOp, ho]) y hn
            | false => cases h; exact wp_of_yields (by simp only [execOp, ho]) y hn
          · cases h
        · cases h
      · cases h
    · cases h
  | load t x =>
    rw [ho] at h
    simp only [denOp] at h
    split at h
    · rename_i ti row off ht hrow
      obtain ⟨hgv, rfl⟩ := withH_some h
      obtain ⟨b, off', hva, hcells⟩ := rowAt_ok hrow (V x) r
      obtain ⟨cv, hr, hv⟩ := loadVar_ok (hS.ty _ _ ht) hgv hcells
      exact wp_of_yields (s := Instr.loadAt t (a.eval x)) (by simp [execOp, ho]) (Tells.yields r ⟨cv, by simp [Instr.loadAt, hva, Instr.sureAddr, hr], hv⟩) hn
    · cases h
  | store t x y =>
    rw [ho] at h
    simp only [denOp] at h
    split at h
    · rename_i ti id off cs ht hx hcs
      split at h
      · rename_i vs ty hH
        split at h
        · rename_i hcnd
          cases h
          have hvx := V x
          rw [hx] at hvx
          obtain ⟨w', hr, r', p'⟩ := store_ok hS r ht hvx (V y) hcs hH hcnd.1 hcnd.2.1 hcnd.2.2
          exact wp_of_unit (by simp only [execOp, ho]) hr (hn _ c w' r' p' (VR.undef _ _))
        · cases h
      · cases h
    · cases h
  | nilCheck x =>
    rw [ho] at h
    simp only [denOp] at h
    have hv := V x
    have same : ∀ {y : AVal}, (∀ v, VR c w y v → v ≠ .pointer none ∧ v ≠ .nilIface ∧ v ≠ .nilFunc ∧ ∀ m f g, v ≠ .func (.method m) f g) → opd S e x = y → some (y, H) = some (v, H') → o.wp P a w next Q := by
      intro y hy hxy hh
      cases hh
      rw [hxy] at hv
      obtain ⟨h1, h2, h3, h4⟩ := hy _ hv
      refine wp_of_yields (s := pure (a.eval x)) ?_ (Tells.yields r ⟨_, rfl, hv⟩) hn
      simp only [execOp, ho]
      first | rfl | (split <;> simp_all)
    split at h
    · rename_i hx; exact same (fun v hv => by cases hv; simp) hx h
    · rename_i hx; exact same (fun v hv => by cases hv; simp) hx h
    · rename_i ob hx
      exact same (fun v hv => by cases hv with | obj _ _ hv => cases ob <;> (simp only [expand] at hv; cases hv; simp)) hx h
    · rename_i hx; exact same (fun v hv => by cases hv; simp) hx h
    · rename_i hx; exact same (fun v hv => by cases hv; simp) hx h
    · cases h
  | binOp op t x y yt =>
    rw [ho] at h
    simp only [denOp] at h
    obtain ⟨hb, rfl⟩ := withH_some h
    exact wp_of_yields (by simp only [execOp, ho]) (Tells.yields r (denBin_ok hS hb (V x) (V y))) hn
  | unOp op t x =>
    rw [ho] at h
    simp only [denOp] at h
    obtain ⟨hb, rfl⟩ := withH_some h
    exact wp_of_yields (by simp only [execOp, ho]) (Tells.yields r (denUn_ok hb (V x))) hn
  | convert s d x =>
    rw [ho] at h
    simp only [denOp] at h
    obtain ⟨hb, rfl⟩ := withH_some h
    exact wp_of_yields (by simp only [execOp, ho]) (denConvert_ok hS r hb (V x)) hn
  | makeInterface t x =>
    rw [ho] at h
    simp only [denOp] at h
    split at h
    · rename_i ti ht
      split at h
      · cases h
      · rename_i hni
        cases h
        have hu := (hS.ty _ _ ht).und
        refine wp_of_yields (s := Instr.makeInterface t (a.eval x)) (by simp [execOp, ho]) (Tells.yields r ⟨.iface t (a.eval x), ?_, .iface _ _ _ (V x)⟩) hn
        simp only [Instr.makeInterface, Sem.run_bind, run_und hu, Result.andThen_ok]
        rfl
    · cases h
  | makeFunc fn first cap =>
    rw [ho] at h
    cases fn with
    | func f =>
      simp only [denOp, Option.some.injEq, Prod.mk.injEq] at h
      obtain ⟨rfl, rfl⟩ := h
      have h1 := opds_ok (S := S) (a := a) he hg first
      have h2 := opds_ok (S := S) (a := a) he hg cap
      exact wp_of_yields (s := pure (.func (.func f) (first.map a.eval) (cap.map a.eval))) (by simp [execOp, ho, Instr.makeFunc]) (Tells.yields r ⟨_, rfl, .fn f _ _ _ _ h1.1 h2.1 h1.2 h2.2⟩) hn
    | _ => simp [denOp] at h
  | makeMap t q =>
    rw [ho] at h
    simp only [denOp] at h
    cases q with
    | none =>
      cases h
      exact wp_of_yields (by simp only [execOp, ho]; rfl) (makeMap_ok r t) hn
    | some q =>
      simp only at h
      split at h
      · rename_i kt et _ _ _ _ _ k n ht hq
        cases h
        have hu := (hS.ty _ _ ht).und
        simp only at hu
        have hv := V q
        rw [hq] at hv
        have hq' : a.eval q = .int k n := by generalize a.eval q = q' at hv; cases hv; rfl
        obtain ⟨cv, w', c', hr, r', p', hv'⟩ := makeMap_ok (P := P) r t
        refine wp_of_yields (s := Instr.makeMap t (some (a.eval q))) (by simp [execOp, ho]) ⟨cv, w', c', ?_, r', p', hv'⟩ hn
        rw [← hr]
        simp [Instr.makeMap, run_und hu, hq', asInt, asIntOf]
      · cases h
  | makeSlice t l k =>
    rw [ho] at h
    simp only [denOp] at h
    exact wp_of_yields (by simp only [execOp, ho]) (denMakeSlice_ok hS r h (V l) (V k)) hn
  | slice t x lo hi mx =>
    rw [ho] at h
    simp only [denOp] at h
    obtain ⟨hb, rfl⟩ := withH_some h
    exact wp_of_yields (by simp only [execOp, ho]) (Tells.yields r (denSlice_ok hS r hb (V x) (optR he hg lo) (optR he hg hi) (optR he hg mx))) hn
  | fieldAddr t x i =>
    rw [ho] at h
    simp only [denOp] at h
    split at h
    · rename_i ti ht
      split at h
      · rename_i fs off size ag hd hf
        split at h
        · cases h
        · rename_i m
          obtain ⟨hb, rfl⟩ := withH_some h
          obtain ⟨b, o', hva, hv⟩ := ptrAdd_ok hb (V x)
          have T := hS.ty _ _ ht
          have hu := T.und
          rw [hd] at hu
          obtain ⟨hfl, hff⟩ := T.flds fs hd
          have hi : i < fs.size := by rw [hfl]; exact (List.getElem?_eq_some_iff.1 hf).1
          obtain ⟨h1, inf, h2, h3, _⟩ := hff i fs[i] _ (Array.getElem?_eq_getElem hi) hf
          refine wp_of_yields (s := Instr.fieldAt t (a.eval x) i) (by simp [execOp, ho]) (Tells.yields r ⟨_, ?_, hv⟩) hn
          have hne : ¬ (inf.size = 0) := by rw [h3]; simp
          simp only at h1
          simp [Instr.fieldAt, run_und hu, Array.getElem?_eq_getElem hi, hva, Instr.sureAddr, fieldPlace, run_sizeOf h2, hne, add_none, h1]
      · cases h
    · cases h
  | field t x i =>
    rw [ho] at h
    simp only [denOp] at h
    split at h
    · rename_i ti ht
      split at h
      · rename_i fs off size ag cs hd hf hx
        have T := hS.ty _ _ ht
        have hu := T.und
        rw [hd] at hu
        obtain ⟨hfl, hff⟩ := T.flds fs hd
        have hi : i < fs.size := by rw [hfl]; exact (List.getElem?_eq_some_iff.1 hf).1
        obtain ⟨h1, inf, h2, h3, d, h4, h5⟩ := hff i fs[i] _ (Array.getElem?_eq_getElem hi) hf
        simp only at h1 h3 h5
        have hvx := V x
        rw [hx] at hvx
        obtain ⟨vs, hvs⟩ : ∃ vs, a.eval x = .agg vs := by generalize a.eval x = q' at hvx; cases hvx; exact ⟨_, rfl⟩
        rw [hvs] at hvx
        have hh : (if ag then (if off + size ≤ cs.length then some (.agg ((cs.drop off).take size)) else none) else cs[off]?) = some v ∧ H' = H := by
          cases ag with
          | true =>
            simp only [if_true] at h ⊢
            split at h
            · cases h; rename_i hle; exact ⟨by rw [if_pos hle], rfl⟩
            · cases h
          | false => simp only [Bool.false_eq_true, if_false] at h ⊢; exact withH_some h
        obtain ⟨hh, rfl⟩ := hh
        cases hvx with
        | agg _ _ hs hv =>
          obtain ⟨cv, hr, hv'⟩ := part_ok (P := P) (c := c) (w := w) (t := fs[i].type) (fun w => by rw [run_sizeOf h2 w, h3]) (fun w => by rw [run_isAgg h4 w, ← h5]) hs hv hh
          refine wp_of_yields (s := Instr.field t (a.eval x) i) (by simp [execOp, ho]) (Tells.yields r ⟨cv, ?_, hv'⟩) hn
          simp [Instr.field, run_und hu, Array.getElem?_eq_getElem hi, hvs, asAgg, h1, hr]
      · cases h
    · cases h
  | indexAddr t x i =>
    rw [ho] at h
    simp only [denOp] at h
    split at h
    · rename_i k n hi
      obtain ⟨hb, rfl⟩ := withH_some h
      have hvi := V i
      rw [hi] at hvi
      have hi' : a.eval i = .int k n := by generalize a.eval i = q' at hvi; cases hvi; rfl
      exact wp_of_yields (s := Instr.indexAt t (a.eval x) (a.eval i)) (by simp [execOp, ho]) (Tells.yields r (by rw [hi']; exact elemAddr_ok hS hb (V x))) hn
    · cases h
  | index t x i =>
    rw [ho] at h
    simp only [denOp] at h
    split at h
    · rename_i k n hi
      obtain ⟨hb, rfl⟩ := withH_some h
      have hvi := V i
      rw [hi] at hvi
      have hi' : a.eval i = .int k n := by generalize a.eval i = q' at hvi; cases hvi; rfl
      exact wp_of_yields (s := Instr.index t (a.eval x) (a.eval i)) (by simp [execOp, ho]) (Tells.yields r (by rw [hi']; exact denIndex_ok hS hb (V x))) hn
    · cases h
  | lookup t x k ok =>
    rw [ho] at h
    simp only [denOp] at h
    obtain ⟨hb, rfl⟩ := withH_some h
    exact wp_of_yields (by simp only [execOp, ho]) (Tells.yields r (denLookup_ok hS r hb (V x) (V k))) hn
  | mapUpdate t m k x =>
    rw [ho] at h
    simp only [denOp] at h
    split at h
    · rename_i H1 hb; cases h
      obtain ⟨w', hr, r', p'⟩ := denMapUpdate_ok hS r hb (V m) (V k) (V x)
      exact wp_of_unit (by simp only [execOp, ho]) hr (hn _ c w' r' p' (VR.undef _ _))
    · cases h
  | insert t m k x =>
    rw [ho] at h
    simp only [denOp] at h
    split at h
    · rename_i H1 hb; cases h
      obtain ⟨w', hr, r', p'⟩ := denMapUpdate_ok hS r hb (V m) (V k) (V x)
      exact wp_of_unit (by simp only [execOp, ho]) hr (hn _ c w' r' p' (VR.undef _ _))
    · cases h
  | range t x =>
    rw [ho] at h
    simp only [denOp] at h
    split at h
    · rename_i s ht hx
      cases h
      have hu := (hS.ty _ _ ht).und
      simp only at hu
      have hvx := V x
      rw [hx] at hvx
      obtain ⟨bs, hbs, rfl⟩ : ∃ bs : ByteArray, a.eval x = .string bs ∧ bs.data.toList = s := by generalize a.eval x = q' at hvx; cases hvx with | str l s h => exact ⟨s, rfl, h⟩
      exact wp_of_yields (s := Instr.range t (a.eval x)) (by simp [execOp, ho]) (by rw [hbs]; exact range_ok hS r hu) hn
    · cases h
  | next it st =>
    rw [ho] at h
    cases st with
    | false => simp [denOp] at h
    | true =>
      simp only [denOp] at h
      split at h
      · rename_i id hit
        have hvi := V it
        rw [hit] at hvi
        split at h
        · rename_i s pos hH
          obtain ⟨n1, n2⟩ := next_ok (P := P) (ty := o.type) r hvi hH
          split at h
          · rename_i hnone; cases h
            exact wp_of_yields (by simp only [execOp, ho]) (n1 hnone) hn
          · rename_i b hb
            split at h
            · rename_i hlt
              rw [fNat_eq, fNat_eq] at h; cases h
              exact wp_of_yields (by simp only [execOp, ho]) (n2 b hb hlt) hn
            · cases h
        · cases h
      · cases h
  | typeAssert x xt t ok =>
    rw [ho] at h
    simp only [denOp] at h
    obtain ⟨hb, rfl⟩ := withH_some h
    exact wp_of_yields (by simp only [execOp, ho]) (Tells.yields r (denAssert_ok (xt := xt) hS hb (V x))) hn
  | extract x i =>
    rw [ho] at h
    simp only [denOp] at h
    split at h
    · rename_i vs hx
      obtain ⟨hb, rfl⟩ := withH_some h
      have hvx := V x
      rw [hx] at hvx
      obtain ⟨us, hus⟩ : ∃ us, a.eval x = .tuple us := by generalize a.eval x = q' at hvx; cases hvx; exact ⟨_, rfl⟩
      rw [hus] at hvx
      cases hvx with
      | tup _ _ hs hv =>
        have hi : i < us.size := by rw [hs]; exact (List.getElem?_eq_some_iff.1 hb).1
        refine wp_of_yields (s := Instr.extract (a.eval x) i) (by simp [execOp, ho]) (Tells.yields r ⟨us[i], ?_, hv i v _ hb (Array.getElem?_eq_getElem hi)⟩) hn
        rw [hus]
        simp [Instr.extract, Array.getElem?_eq_getElem hi]
    · cases h
  | call k =>
    rw [ho] at h
    simp only [denOp] at h
    have hargs := opds_ok (S := S) (a := a) he hg k.args
    split at h
    · rename_i f hk
      split at h
      · rename_i g first cap hf
        have hvf := V f
        rw [hf] at hvf
        obtain ⟨vf, vc, hvf', h1, h2⟩ : ∃ vf vc, a.eval f = .func (.func g) vf vc ∧ VRs c w first vf ∧ VRs c w cap vc := by
          generalize a.eval f = q' at hvf; cases hvf with | fn _ _ _ vf vc s1 s2 h1 h2 => exact ⟨vf, vc, rfl, ⟨s1, h1⟩, ⟨s2, h2⟩⟩
        obtain ⟨hcf, hcalls⟩ := hc _ _ _ _ _ h c w _ r hg ((h1.append hargs).append h2)
        refine wp_of_call ?_ hcalls hn
        simp only [execOp, ho, resolve, hk, hvf', Deferred.ofValue, Sem.run_bind, Sem.run_pure, Result.andThen_ok, invoke]
        exact hcf w
      · cases h
    · rename_i q m hk
      split at h
      · rename_i t x hq
        split at h
        · rename_i g hm
          have hvq := V q
          rw [hq] at hvq
          obtain ⟨u, hu, hvu⟩ : ∃ u, a.eval q = .iface t u ∧ VR c w x u := by generalize a.eval q = q' at hvq; cases hvq with | iface _ _ u h => exact ⟨u, rfl, h⟩
          obtain ⟨hcf, hcalls⟩ := hc _ _ _ _ _ h c w _ r hg (VRs.cons hvu hargs)
          refine wp_of_call ?_ hcalls hn
          have hmm := hS.meth t m g hm u (k.args.map a.eval) w
          simp only [execOp, ho, resolve, hk, hu, Sem.run_bind, Sem.run_pure, Result.andThen_ok, invoke]
          have e0 : (#[Value.iface t u] ++ k.args.map a.eval)[0]? = some (.iface t u) := by rw [Array.getElem?_append_left (Nat.zero_lt_one)]; rfl
          have e1 : (#[Value.iface t u] ++ k.args.map a.eval).extract 1 (#[Value.iface t u] ++ k.args.map a.eval).size = k.args.map a.eval := by simp
          simp only [e0, e1]
          rw [hmm]
          exact hcf w
        · cases h
      · cases h
    · rename_i b hk
      have run : ∀ {s : Sem Value} {v : AVal} {H' : Heap}, builtin b k.argTypes o.type (k.args.map fun | .const _ => true | _ => false) (k.args.map a.eval) = (do pure (.value (← s))) → Yields P c w H s v H' →
          (∀ cv c' w', Rel c' w' H' → Post c w H c' w' H' → VR c' w' v cv → next (a.put o.dst cv) w') → o.wp P a w next Q := by
        intro s v H' hb y hn
        refine wp_of_yields (s := s) ?_ y hn
        simp only [execOp, ho, resolve, hk, invoke]
        exact hb
      have two : ∀ {x y : AVal}, k.args.toList.map (opd S e) = [x, y] → ∃ vx vy, k.args.map a.eval = #[vx, vy] ∧ VR c w x vx ∧ VR c w y vy := by
        intro x y hxy
        rw [hxy] at hargs
        have hs : (k.args.map a.eval).size = 2 := hargs.1
        refine ⟨(k.args.map a.eval)[0], (k.args.map a.eval)[1], ?_, hargs.2 0 _ _ rfl (Array.getElem?_eq_getElem (by omega)), hargs.2 1 _ _ rfl (Array.getElem?_eq_getElem (by omega))⟩
        apply Array.ext (by simp [hs])
        intro i hi _
        match i with
        | 0 => rfl
        | 1 => rfl
        | i + 2 => omega
      have one : ∀ {x : AVal}, k.args.toList.map (opd S e) = [x] → ∃ vx, k.args.map a.eval = #[vx] ∧ VR c w x vx := by
        intro x hxy
        rw [hxy] at hargs
        have hs : (k.args.map a.eval).size = 1 := hargs.1
        refine ⟨(k.args.map a.eval)[0], ?_, hargs.2 0 _ _ rfl (Array.getElem?_eq_getElem (by omega))⟩
        apply Array.ext (by simp [hs])
        intro i hi _
        match i with
        | 0 => rfl
        | i + 1 => omega
      split at h
      · rename_i s x t t2 hxs hts
        obtain ⟨vx, vy, hv, h1, h2⟩ := two hxs
        have hat : k.argTypes = #[t, t2] := by rw [← hts]
        exact run (s := Builtin.append_ k.argTypes o.type (k.args.map a.eval)) (by simp [builtin]) (by rw [hv, hat]; exact denAppend_ok hS r h h1 h2) hn
      · rename_i d x t ts hxs hts
        obtain ⟨vx, vy, hv, h1, h2⟩ := two hxs
        have hat : k.argTypes[0]? = some t := by rw [← Array.getElem?_toList, hts]; rfl
        exact run (s := Builtin.copy_ k.argTypes o.type (k.args.map a.eval)) (by simp [builtin]) (by rw [hv]; exact denCopy_ok hS r h h1 h2 hat) hn
      · rename_i x t ts hxs hts
        obtain ⟨vx, hv, h1⟩ := one hxs
        obtain ⟨hb, rfl⟩ := withH_some h
        have hat : k.argTypes[0]? = some t := by rw [← Array.getElem?_toList, hts]; rfl
        exact run (s := Builtin.len_ k.argTypes o.type (k.args.map a.eval)) (by simp [builtin]) (by rw [hv]; exact Tells.yields r (denLen_ok hS r hb h1 hat)) hn
      · obtain ⟨hb, rfl⟩ := withH_some h
        exact run (s := Builtin.min_ k.argTypes o.type (k.args.map a.eval)) (by simp [builtin]) (Tells.yields r (denMinMax_ok (mn := true) (ats := k.argTypes) (ty := o.type) hb hargs)) hn
      · obtain ⟨hb, rfl⟩ := withH_some h
        exact run (s := Builtin.max_ k.argTypes o.type (k.args.map a.eval)) (by simp [builtin]) (Tells.yields r (denMinMax_ok (mn := false) (ats := k.argTypes) (ty := o.type) hb hargs)) hn
      · cases h
  | _ => rw [ho] at h; simp [denOp] at h

end Go.AM
