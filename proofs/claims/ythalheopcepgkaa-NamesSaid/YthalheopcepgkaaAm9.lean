/- The abstract machine, 9: copy, maps, ranges over strings, lengths, fields. -/
import Derived.Test.YthalheopcepgkaaAm8
namespace Go.AM
set_option linter.unusedVariables false
set_option linter.unusedSimpArgs false
variable {P : Program}

theorem take_take_le {cs : List AVal} {a b : Nat} (h : a ≤ b) : (cs.take b).take a = cs.take a := by rw [List.take_take]; congr 1; omega

theorem denCopy_ok {S : Sg} (hS : SgOK P S) {c : Ctx} {w : World} {H H' : Heap} (r : Rel c w H) {t ty : TypeId} {ats : Array TypeId} {d x v : AVal} {vd vx : Value} (h : denCopy S H t d x = some (v, H')) (hd : VR c w d vd) (hx : VR c w x vx)
    (hat : ats[0]? = some t) : Yields P c w H (Builtin.copy_ ats ty #[vd, vx]) v H' := by
  unfold denCopy at h
  split at h
  · rename_i e _ _ _ _ _ ht
    have hu := (hS.ty _ _ ht).und
    simp only at hu
    split at h
    · cases h
    · rename_i te hte
      have T := hS.ty _ _ hte
      obtain ⟨inf, hi, hsz, _⟩ := T.info
      cases hxc : sliceCells H te.size x with
      | none => rw [hxc] at h; cases h
      | some q =>
        obtain ⟨news, n⟩ := q
        rw [hxc] at h
        simp only at h
        split at h
        · cases h
        · rename_i hcell
          have hcell' : news.all AVal.cell = true := by simpa using hcell
          have hnl := (sliceCells_ok hxc hx r).1
          split at h
          · cases h; cases hd
            obtain ⟨nv, hnr, hnrun⟩ := first_ok (P := P) hxc hx r (Nat.zero_le n)
            refine Tells.yields r ⟨.int .i64 0, ?_, .int _ _⟩
            have h1 := hnrun w (fun _ => rfl)
            have hm : Nat.min n 0 = 0 := Nat.min_zero n
            simp [Builtin.copy_, hat, run_und hu, h1.2, hm, T.sizeOf, h1.1, goInt]
          · rename_i id off len cap sz
            split at h
            · rename_i hc
              obtain ⟨hzz, hz0⟩ := hc
              subst hzz
              split at h
              · rename_i vs0 ty0 hH
                rw [fNat_eq] at h
                split at h
                · rename_i hfit
                  cases h
                  obtain ⟨a, b, o, ca, rfl, hι, hle, hle2, hcap, hpos⟩ := hd.sl_inv
                  obtain ⟨nv, hnr, hnrun⟩ := first_ok (P := P) hxc hx r (Nat.min_le_left n len)
                  have h1 := hnrun w (fun _ => rfl)
                  have hkl : (news.take (min n len * te.size)).length = min n len * te.size := by
                    rw [List.length_take, hnl]
                    have : min n len * te.size ≤ n * te.size := Nat.mul_le_mul_right _ (Nat.min_le_left n len)
                    omega
                  have hone : ∀ u ∈ nv.toList, u.oneCell' = true := by
                    intro u hm
                    obtain ⟨j, hj, he⟩ := List.getElem_of_mem hm
                    have hj' : j < nv.size := by simpa using hj
                    have hjc : j < (news.take (min n len * te.size)).length := by rw [← hnr.1]; exact hj'
                    have hmem := List.mem_of_mem_take (List.getElem_mem hjc)
                    exact oneCell_of (List.all_eq_true.1 hcell' _ hmem) (hnr.2 j _ u (List.getElem?_eq_getElem hjc) (by rw [← Array.getElem?_toList, List.getElem?_eq_getElem hj, he]))
                  by_cases h0 : ca = 0
                  · -- nothing to copy to
                    have hl0 : len = 0 := by omega
                    subst hl0
                    have hm : min n 0 = 0 := Nat.min_zero n
                    have hm' : Nat.min n 0 = 0 := Nat.min_zero n
                    have hnv : nv = #[] := Array.eq_empty_of_size_eq_zero (by rw [hnr.1, hkl, hm]; simp)
                    have hH' : H.set id (.cells (setRange vs0 off (news.take (min n 0 * te.size))) ty0) = H := by
                      rw [hm]
                      have : setRange vs0 off (news.take (0 * te.size)) = vs0 := by simp [setRange]
                      rw [this]
                      apply List.ext_getElem?
                      intro i
                      by_cases hi : id = i
                      · subst hi
                        rw [hH, List.getElem?_set_self (List.getElem?_eq_some_iff.1 hH).1]
                      · rw [List.getElem?_set_ne hi]
                    rw [hH', hm]
                    refine Tells.yields r ⟨.int .i64 0, ?_, .int _ _⟩
                    rw [hm] at h1
                    simp [Builtin.copy_, hat, run_und hu, h1.2, hm', T.sizeOf, h1.1, goInt, hnv, storeCells]
                  · obtain ⟨rfl, hblk⟩ := hpos (by omega)
                    obtain ⟨w', hst, r', p'⟩ := store_row (P := P) r hH hι (news := news.take (min n len * te.size)) (nv := nv.toList) (off := off) (by simp [hnr.1]) (fun j a v ha hv => hnr.2 j a v ha (by rw [← Array.getElem?_toList]; exact hv)) hone (by rw [hkl]; exact hfit)
                    refine ⟨.int .i64 (min n len : Nat), w', c, ?_, r', p', .int _ _⟩
                    have hm' : Nat.min n len = min n len := rfl
                    simp [Builtin.copy_, hat, run_und hu, h1.2, hm', T.sizeOf, h1.1, goInt, hst]
                · cases h
              · cases h
            · cases h
          · cases h
  · cases h

/-! #### maps -/
theorem sameKey_ok {c : Ctx} {w : World} {d : TypeDesc} {k x : AVal} {vk vx : Value} {b : Bool} (hd : keyOk d k = true) (h : sameKey k x = some b) (hk : VR c w k vk) (hx : VR c w x vx) : Instr.sameNow d vk vx = some b := by
  unfold keyOk at hd
  split at hd
  · cases hk
    unfold sameKey at h
    split at h
    · rename_i heq; cases heq; cases hx
      split at h
      · rename_i hkk; cases h; subst hkk; simp [Instr.sameNow, BEq.beq]
      · cases h
    · rename_i heq; cases heq
    · cases h
  · cases hk with
    | str l s hs =>
      unfold sameKey at h
      split at h
      · rename_i heq; cases heq
      · rename_i heq; cases heq
        cases hx with
        | str l' s' hs' =>
          cases h
          subst hs; subst hs'
          simp only [Instr.sameNow]
          rw [beq_toListBytes, ByteArray.toList_eq, ByteArray.toList_eq, beq_dec]
      · cases h
  · cases hd

theorem findKey_ok {c : Ctx} {w : World} {d : TypeDesc} {k : AVal} {vk : Value} (hd : keyOk d k = true) (hk : VR c w k vk) : ∀ (es : List (AVal × AVal)) (ms : List MapEntry) (i : Nat) (res : Option (Nat × AVal)), ms.length = es.length →
    (∀ (j : Nat) (a : AVal × AVal) (m : MapEntry), es[j]? = some a → ms[j]? = some m → VR c w a.1 m.key ∧ VR c w a.2 m.val) → findKeyA k es i = some res →
    (res = none ∧ Instr.findNow d vk ms i = some none) ∨ (∃ j a v, res = some (j, a) ∧ i ≤ j ∧ j < i + es.length ∧ Instr.findNow d vk ms i = some (some (j, v)) ∧ VR c w a v ∧ (∃ e, es[j - i]? = some e ∧ sameKey k e.1 = some true))
  | [], ms, i, res, hl, _, h => by
    have : ms = [] := List.eq_nil_of_length_eq_zero (by simpa using hl)
    subst this
    simp only [findKeyA, Option.some.injEq] at h
    exact .inl ⟨h.symm, rfl⟩
  | e :: es, [], i, res, hl, _, h => by simp at hl
  | e :: es, m :: ms, i, res, hl, hv, h => by
    obtain ⟨h1, h2⟩ := hv 0 e m rfl rfl
    unfold findKeyA at h
    cases hs : sameKey k e.1 with
    | none => rw [hs] at h; cases h
    | some b =>
      rw [hs] at h
      have hn := sameKey_ok hd hs hk h1
      cases b with
      | true =>
        cases h
        refine .inr ⟨i, e.2, m.val, rfl, Nat.le_refl _, by simp, ?_, h2, e, by simp, hs⟩
        simp [Instr.findNow, hn]
      | false =>
        simp only at h
        rcases findKey_ok hd hk es ms (i + 1) res (by simpa using hl) (fun j a m' ha hm => hv (j + 1) a m' (by simpa using ha) (by simpa using hm)) h with ⟨h3, h4⟩ | ⟨j, a, v, h3, h4, h5, h6, h7, e', h8, h9⟩
        · exact .inl ⟨h3, by simp [Instr.findNow, hn, h4]⟩
        · refine .inr ⟨j, a, v, h3, by omega, by simp; omega, by simp [Instr.findNow, hn, h6], h7, e', ?_, h9⟩
          have : j - i = (j - (i + 1)) + 1 := by omega
          rw [this, List.getElem?_cons_succ]; exact h8

theorem checkKey_ok {kt : TypeId} {d : TypeDesc} {k : AVal} {vk : Value} {c : Ctx} {w : World} (hu : P.underlying kt = some d) (hd : keyOk d k = true) (hk : VR c w k vk) (b : Bool) (n : Nat) : (Instr.checkKey b (n + 1) kt vk).run P w = .ok () w := by
  unfold keyOk at hd
  split at hd
  · cases hk; simp [Instr.checkKey, run_und hu]
  · cases hk; simp [Instr.checkKey, run_und hu]
  · cases hd

theorem tup2 {c : Ctx} {w : World} {a b : AVal} {x y : Value} (h1 : VR c w a x) (h2 : VR c w b y) : VR c w (.tup [a, b]) (.tuple #[x, y]) := by
  refine .tup _ _ rfl fun j a v ha hv => ?_
  match j with
  | 0 => simp at ha hv; subst ha; subst hv; exact h1
  | 1 => simp at ha hv; subst ha; subst hv; exact h2
  | j + 2 => simp at ha

theorem run_lookup {mt kt et : TypeId} {d : TypeDesc} {vm vk : Value} {es : Array MapEntry} {w : World} {ok : Bool} {res : Option (Nat × Value)} {z : Value} (hu : P.underlying mt = some (.map kt et)) (hk : P.underlying kt = some d)
    (hck : (Instr.checkKey es.isEmpty 10000 kt vk).run P w = .ok () w) (hm : (vm = .map none ∧ es = #[]) ∨ (∃ b clk, vm = .map (some b) ∧ w.heap[b]? = some (.map es clk)))
    (hf : Instr.findNow d vk es.toList 0 = some res) (hz : res = none → (zeroValue et).run P w = .ok z w) :
    (Instr.lookup mt vm vk ok).run P w = .ok (let v := match res with | some (_, v) => v | none => z; if ok then .tuple #[v, .bool res.isSome] else v) w := by
  have hfk : (Instr.findKey kt vk es.toList).run P w = .ok res w := by simp [Instr.findKey, run_und hk, hf]
  rcases hm with ⟨rfl, rfl⟩ | ⟨b, clk, rfl, hb⟩
  · cases res with
    | none => simp only [Instr.lookup, Sem.run_bind, run_und hu, Result.andThen_ok, Sem.run_pure, hck, hfk, hz rfl]; cases ok <;> rfl
    | some q => simp only [Instr.lookup, Sem.run_bind, run_und hu, Result.andThen_ok, Sem.run_pure, hck, hfk]; cases ok <;> rfl
  · have hg : (getObj b).run P w = .ok (.map es clk) w := by simp [getObj, Sem.run, hb]
    cases res with
    | none => simp only [Instr.lookup, Sem.run_bind, run_und hu, Result.andThen_ok, Sem.run_pure, hg, hck, hfk, hz rfl]; cases ok <;> rfl
    | some q => simp only [Instr.lookup, Sem.run_bind, run_und hu, Result.andThen_ok, Sem.run_pure, hg, hck, hfk]; cases ok <;> rfl

theorem denLookup_ok {S : Sg} (hS : SgOK P S) {c : Ctx} {w : World} {H : Heap} (r : Rel c w H) {t : TypeId} {x k v : AVal} {ok : Bool} {vx vk : Value} (h : denLookup S H t x k ok = some v) (hx : VR c w x vx) (hk : VR c w k vk) :
    Tells P c w (Instr.lookup t vx vk ok) v := by
  unfold denLookup at h
  split at h
  · rename_i kt et _ _ _ _ _ ht
    have hu := (hS.ty _ _ ht).und
    simp only at hu
    split at h
    · rename_i tk te htk hte
      have huk := (hS.ty _ _ htk).und
      split at h
      · rename_i hkey
        -- what is found
        have fin : ∀ (es : List (AVal × AVal)) (ms : Array MapEntry), ((vx = .map none ∧ ms = #[]) ∨ (∃ b clk, vx = .map (some b) ∧ w.heap[b]? = some (.map ms clk))) → ms.size = es.length →
            (∀ (j : Nat) (a : AVal × AVal) (m : MapEntry), es[j]? = some a → ms[j]? = some m → VR c w a.1 m.key ∧ VR c w a.2 m.val) → ∀ res, findKeyA k es 0 = some res →
            (match (some res : Option (Option (Nat × AVal))) with
              | none => none
              | some (some (_, v)) => some (if ok then .tup [v, .bool true] else v)
              | some none => match zeroOf te with
                | some z => some (if ok then .tup [z, .bool false] else z)
                | none => none) = some v → Tells P c w (Instr.lookup t vx vk ok) v := by
          intro es ms hm hl hv res hr hfin
          rcases findKey_ok hkey hk es ms.toList 0 res (by simpa using hl) (fun j a m ha hm => hv j a m ha (by rw [← Array.getElem?_toList]; exact hm)) hr with ⟨rfl, h4⟩ | ⟨j, a, u, rfl, _, _, h6, h7, _⟩
          · simp only at hfin
            cases hz : zeroOf te with
            | none => rw [hz] at hfin; cases hfin
            | some z =>
              rw [hz] at hfin; cases hfin
              obtain ⟨cz, hzr, hzv⟩ := zeroOf_ok (c := c) (w := w) (hS.ty _ _ hte) hz
              refine ⟨_, run_lookup hu huk (checkKey_ok (P := P) huk hkey hk _ 9999) hm h4 (fun _ => hzr), ?_⟩
              cases ok with
              | true => exact tup2 hzv (.bool false)
              | false => exact hzv
          · cases hfin
            refine ⟨_, run_lookup (z := .nilIface) hu huk (checkKey_ok (P := P) huk hkey hk _ 9999) hm h6 (fun h => by cases h), ?_⟩
            cases ok with
            | true => exact tup2 h7 (.bool true)
            | false => exact h7
        split at h
        · cases h
        · rename_i res hr
          -- found
          cases x with
          | nilm =>
            simp only at hr; cases hr
          | map id =>
            simp only at hr
            split at hr
            · rename_i es hH
              cases hx with
              | map _ b o hι =>
                obtain ⟨mes, clk, hb, hl, hv⟩ := r.obj id _ b o hH hι
                exact fin es mes (.inr ⟨b, clk, rfl, hb⟩) hl hv _ hr h
            · cases hr
          | _ => cases hr
        · rename_i hr
          cases x with
          | nilm =>
            cases hx
            exact fin [] #[] (.inl ⟨rfl, rfl⟩) rfl (fun j a m ha => by simp at ha) none rfl h
          | map id =>
            simp only at hr
            split at hr
            · rename_i es hH
              cases hx with
              | map _ b o hι =>
                obtain ⟨mes, clk, hb, hl, hv⟩ := r.obj id _ b o hH hι
                exact fin es mes (.inr ⟨b, clk, rfl, hb⟩) hl hv _ hr h
            · cases hr
          | _ => cases hr
      · cases h
    · cases h
  · cases h

theorem sameBits_of {c : Ctx} {w : World} {d : TypeDesc} {k x : AVal} {vk vx : Value} (hd : keyOk d k = true) (h : sameKey k x = some true) (hk : VR c w k vk) (hx : VR c w x vx) (n : Nat) : Instr.sameBits n vx vk = true := by
  unfold keyOk at hd
  split at hd
  · cases hk
    unfold sameKey at h
    split at h
    · rename_i heq; cases heq; cases hx
      split at h
      · rename_i hkk; subst hkk; simp at h; subst h; simp [Instr.sameBits]
      · cases h
    · rename_i heq; cases heq
    · cases h
  · cases hk with
    | str l s hs =>
      unfold sameKey at h
      split at h
      · rename_i heq; cases heq
      · rename_i heq; cases heq
        cases hx with
        | str l' s' hs' =>
          simp at h; subst hs; subst hs'
          simp only [Instr.sameBits]
          rw [beq_toListBytes, ByteArray.toList_eq, ByteArray.toList_eq, h]; simp
      · cases h
  · cases hd

theorem denMapUpdate_ok {S : Sg} (hS : SgOK P S) {c : Ctx} {w : World} {H H' : Heap} (r : Rel c w H) {t : TypeId} {x k v : AVal} {vx vk vv : Value} (h : denMapUpdate S H t x k v = some H') (hx : VR c w x vx) (hk : VR c w k vk) (hv : VR c w v vv) :
    ∃ w', (Instr.mapUpdate t vx vk vv).run P w = .ok () w' ∧ Rel c w' H' ∧ Post c w H c w' H' := by
  unfold denMapUpdate at h
  split at h
  · rename_i kt et _ _ _ _ _ id ht
    have hu := (hS.ty _ _ ht).und
    simp only at hu
    split at h
    · rename_i tk es htk hH
      have huk := (hS.ty _ _ htk).und
      split at h
      · rename_i hkey
        cases hx with
        | map _ b o hι =>
          obtain ⟨mes, clk, hb, hl, hvv⟩ := r.obj id _ b o hH hι
          have hlt : b < w.heap.size := (r.dom id b o hι).2
          have hck := checkKey_ok (P := P) huk hkey hk false 9999
          have hg : (getObj b).run P w = .ok (.map mes clk) w := by simp [getObj, Sem.run, hb]
          -- the world with the block written anew
          have wr : ∀ (mes' : Array MapEntry) (clk' : Nat) (es' : List (AVal × AVal)), mes'.size = es'.length →
              (∀ (j : Nat) (a : AVal × AVal) (m : MapEntry), es'[j]? = some a → mes'[j]? = some m → VR c w a.1 m.key ∧ VR c w a.2 m.val) →
              ∃ w', (setObj b (.map mes' clk')).run P w = .ok () w' ∧ Rel c w' (H.set id (.map es')) ∧ Post c w H c w' (H.set id (.map es')) := by
            intro mes' clk' es' hl' hv'
            refine ⟨{ w with heap := w.heap.setIfInBounds b (.map mes' clk') }, by simp [setObj, Sem.run, hb], ?_⟩
            refine upd r hH rfl hι rfl (by simp) (fun j hj => by simp [Array.getElem?_setIfInBounds, Ne.symm hj]) (fun arr e fz he => by rw [hb] at he; cases he) rfl rfl rfl fun l => ?_
            exact ⟨mes', clk', by simp [hlt], hl', fun j a m ha hm => ⟨(hv' j a m ha hm).1.mono l, (hv' j a m ha hm).2.mono l⟩⟩
          split at h
          · rename_i i old hf
            cases h
            rcases findKey_ok hkey hk es mes.toList 0 _ (by simpa using hl) (fun j a m ha hm => hvv j a m ha (by rw [← Array.getElem?_toList]; exact hm)) hf with ⟨h3, _⟩ | ⟨j, a, u, h3, _, hj, h6, h7, e', h8, h9⟩
            · cases h3
            · cases h3
              simp only [Nat.zero_add, Nat.sub_zero] at hj h8
              have hjm : i < mes.size := by omega
              have hkeep := sameBits_of hkey h9 hk (hvv i e' mes[i] h8 (Array.getElem?_eq_getElem hjm)).1 10000
              have hfk : (Instr.findKey kt vk mes.toList).run P w = .ok (some (i, u)) w := by simp [Instr.findKey, run_und huk, h6]
              obtain ⟨w', hw, r', p'⟩ := wr (mes.modify i fun e => { e with key := vk, val := vv }) clk (es.set i (k, v)) (by simp [hl]) (by
                intro j a m ha hm
                rw [Array.getElem?_modify] at hm
                by_cases hji : i = j
                · subst hji
                  rw [List.getElem?_set_self (by omega)] at ha
                  rw [if_pos rfl, Array.getElem?_eq_getElem hjm] at hm
                  cases ha; cases hm
                  exact ⟨hk, hv⟩
                · rw [List.getElem?_set_ne hji] at ha
                  rw [if_neg hji] at hm
                  exact hvv j a m ha hm)
              refine ⟨w', ?_, r', p'⟩
              simp only [Instr.mapUpdate, Sem.run_bind, run_und hu, Result.andThen_ok, hg, hck, hfk, Array.getElem?_eq_getElem hjm, Option.map_some, Option.getD_some, Instr.keyThatStays, hkeep, if_true, Sem.run_pure]
              exact hw
          · rename_i hf
            cases h
            rcases findKey_ok hkey hk es mes.toList 0 _ (by simpa using hl) (fun j a m ha hm => hvv j a m ha (by rw [← Array.getElem?_toList]; exact hm)) hf with ⟨_, h4⟩ | ⟨j, a, u, h3, _⟩
            · have hfk : (Instr.findKey kt vk mes.toList).run P w = .ok none w := by simp [Instr.findKey, run_und huk, h4]
              obtain ⟨w', hw, r', p'⟩ := wr (mes.push { key := vk, val := vv, born := clk }) (clk + 1) (es ++ [(k, v)]) (by simp [hl]) (by
                intro j a m ha hm
                rw [Array.getElem?_push] at hm
                by_cases hj : j < es.length
                · rw [List.getElem?_append_left hj] at ha
                  rw [if_neg (by omega)] at hm
                  exact hvv j a m ha hm
                · rw [List.getElem?_append_right (by omega)] at ha
                  have : j - es.length = 0 := by
                    cases hd : j - es.length with
                    | zero => rfl
                    | succ n => rw [hd] at ha; simp at ha
                  rw [this] at ha
                  rw [if_pos (by omega)] at hm
                  cases ha; cases hm
                  exact ⟨hk, hv⟩)
              refine ⟨w', ?_, r', p'⟩
              simp only [Instr.mapUpdate, Sem.run_bind, run_und hu, Result.andThen_ok, hg, hck, hfk]
              exact hw
            · cases h3
          · cases h
      · cases h
    · cases h
  · cases h

end Go.AM
