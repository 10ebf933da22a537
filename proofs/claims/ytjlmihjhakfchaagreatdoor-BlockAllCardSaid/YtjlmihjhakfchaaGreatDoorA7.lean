import Derived.Lib.Bytealg
import Derived.Test.YtjlmihjhakfchaaGreatDoorA6
set_option linter.unusedVariables false
set_option linter.unusedSimpArgs false
noncomputable section
namespace Go.AM
variable {P:Program}
def allStr:List AVal→Option (List (List UInt8))
  | []=>some []
  | .str s :: l=>match allStr l with
    | some r=>some (s :: r)
    | none=>none
  | _=>none
theorem allStr_map:∀ {l:List AVal} {r:List (List UInt8)},allStr l=some r→l=strsA r
  | [],r,h=>by cases h; rfl
  | a :: l,r,h=>by
    unfold allStr at h
    split at h
    · rename_i e; cases e
    · rename_i s l' e
      cases e
      split at h
      · rename_i r' hr
        cases h
        rw [allStr_map hr]
        rfl
      · cases h
    · cases h
theorem bytes_eq {t:ByteArray} {s:List UInt8} (h:t.data.toList=s):t=⟨s.toArray⟩:=by
  subst h
  rfl
theorem strs_at {c:Ctx} {w:World} {H:Heap} (r:Rel c w H) {x:AVal} {v:Value} (h:VR c w x v) {cells:List AVal} {k:Nat} (hc:sliceCells H 1 x=some (cells,k)) {ss:List (List UInt8)} (hs:allStr cells=some ss) (hx:∀ l,x≠.str l) :
    ss.length=k∧∃ p ca,v=.slice p k ca∧k≤ca∧(k=0∨∃ bk o,p=some ⟨bk,o,none⟩∧bk < w.heap.size∧∀ (j:Nat) (s:List UInt8),ss[j]?=some s→w.cell? ⟨bk,o + j,none⟩=some (.string ⟨s.toArray⟩)):=by
  have hm:=allStr_map hs
  subst hm
  have get:∀ (j:Nat) (s:List UInt8),ss[j]?=some s→(strsA ss)[j]?=some (.str s):=fun j s h=>by rw [strsA,List.getElem?_map,h]; rfl
  cases x with
  | nils =>
    unfold sliceCells at hc
    simp only [Option.some.injEq,Prod.mk.injEq] at hc
    obtain ⟨h1,rfl⟩:=hc
    cases h
    have:ss=[]:=by simpa [strsA] using h1.symm
    subst this
    exact ⟨rfl,none,0,rfl,Nat.le_refl _,.inl rfl⟩
  | str l=>exact absurd rfl (hx l)
  | sl id off len cap sz =>
    unfold sliceCells at hc
    simp only at hc
    split at hc
    · rename_i vs ty hH
      split at hc
      · rename_i hle
        simp only [Option.some.injEq,Prod.mk.injEq] at hc
        obtain ⟨h1,rfl⟩:=hc
        have hl:ss.length=len:=by
          have:=congrArg List.length h1
          simp [strsA] at this
          omega
        refine ⟨hl,?_⟩
        cases h with
        | sl _ _ _ _ _ b o ca hι h2 h3 h4 h5 =>
          refine ⟨_,ca,rfl,h2,.inr ⟨b,o + off,rfl,(r.dom id b o hι).2,fun j s hj=>?_⟩⟩
          obtain ⟨arr,e,g1,g2,g3⟩:=r.obj id _ b o hH hι
          have hjl:j < len:=by have:=(List.getElem?_eq_some_iff.1 hj).1; omega
          have ha:vs[off + j]?=some (.str s):=by
            have:=get j s hj
            rw [← h1,List.getElem?_take,if_pos (by omega),List.getElem?_drop] at this
            exact this
          have hlt:o + off + j < arr.size:=by omega
          have hv:=g3 (off + j) (.str s) arr[o + off + j] ha (by rw [← Nat.add_assoc]; exact Array.getElem?_eq_getElem hlt)
          have:w.cell? ⟨b,o + off + j,none⟩=some arr[o + off + j]:=by simp [World.cell?,g1,hlt]
          rw [this]
          generalize arr[o + off + j]=q at hv
          cases hv with
          | str _ t ht=>rw [bytes_eq ht]
        | sl0 _ _ _ _ b o a hι h2=>exact ⟨some a,0,rfl,Nat.le_refl _,.inl rfl⟩
      · cases hc
    · cases hc
  | isl cs off len cap cl =>
    unfold sliceCells at hc
    simp only at hc
    split at hc
    · rename_i hle
      simp only [Option.some.injEq,Prod.mk.injEq] at hc
      obtain ⟨h1,rfl⟩:=hc
      have hl:ss.length=len:=by
        have:=congrArg List.length h1
        simp [strsA] at this
        omega
      refine ⟨hl,?_⟩
      cases h with
      | isl _ _ _ _ _ b o ca g k1 k2 k3 k4 k5 k6 k7 =>
        refine ⟨_,ca,rfl,k3,.inr ⟨b,o + off,rfl,r.fr b k2,fun j s hj=>?_⟩⟩
        have hjl:j < len:=by have:=(List.getElem?_eq_some_iff.1 hj).1; omega
        have ha:cs[off + j]?=some (.str s):=by
          have:=get j s hj
          rw [← h1,List.getElem?_take,if_pos (by omega),List.getElem?_drop] at this
          exact this
        have hv:=k7 (off + j) (.str s) ha
        have hc:=k6 (off + j) (by have:=(List.getElem?_eq_some_iff.1 ha).1; exact this)
        rw [← Nat.add_assoc] at hc
        rw [hc]
        generalize g (off + j)=q at hv
        cases hv with
        | str _ t ht=>rw [bytes_eq ht]
      | isl0 _ _ _ _ a ca h1 h2=>exact ⟨a,ca,rfl,Nat.zero_le _,.inl rfl⟩
    · cases hc
  | _=>cases hc
theorem cntByte_ok {S : Sg} {f : FuncId} {fn : Func} (hf : P.funcs[f]? = some fn) (hname : (fn.name == "runtime.NumGoroutine") = false) (hb : fn.body.isNone = true) (hn : Extern.findNext fn = none) (he : Extern.find fn = some Extern.BytealgCount.count) : ExtAt P S f cntByteX := by
  refine native_ok hf hname hb hn he fun args H v H' hx c w cargs ha=>?_
  unfold cntByteX at hx
  split at hx
  · rename_i s b
    simp only [mkI_eq,Option.some.injEq,Prod.mk.injEq] at hx
    obtain ⟨rfl,rfl⟩:=hx
    obtain ⟨vx,vy,rfl,h1,h2⟩:=ha.two
    cases h2
    cases h1 with
    | str _ t ht =>
      refine ⟨rfl,_,Lib.run_countString t b w,?_⟩
      have:Lib.countByte t.data.toList b.toNat.toUInt8=cntB b.toNat.toUInt8 s:=by
        rw [ht]
        clear ht ha
        unfold Lib.countByte
        induction s with
        | nil=>rfl
        | cons x s ih =>
          rw [List.count_cons,ih,cntB]
          omega
      rw [this]
      exact .int _ _
  · cases hx
end Go.AM
