import Derived.Below
import Derived.Laws.Externs
import Derived.Test.YtjlmihjhakfchaaGreatDoorA4
set_option linter.unusedVariables false
set_option linter.unusedSimpArgs false
noncomputable section
namespace Go.AM
variable {P:Program}
abbrev Ext:=List AVal→Heap→Option (AVal×Heap)
def ExtAt (P:Program) (S:Sg) (f:FuncId) (x:Ext):Prop :=
  ∀ args H v H',x args H=some (v,H')→∀ c w cargs,Rel c w H→Glob S c w→VRs c w args cargs →
    Serves P f cargs w fun cv w'=>∃ c',Rel c' w' H'∧Post c w H c' w' H'∧VR c' w' v cv
theorem below_post {c:Ctx} {w w':World} {H:Heap} (r:Rel c w H) (b:Go.RowKit.Below w.heap.size w w'):Rel c w' H∧Post c w H c w' H:=by
  have p:Post c w H c w' H:=⟨fun _ _ h=>h,fun _ _ _ h=>.inl h,fun _ h=>h,fun _ h=>.inl h,fun k hk _=>b.block k hk,fun _ _ _=>rfl,fun _ _ h=>h,Nat.le_refl _,b.size,
    fun k arr e fz h=>⟨arr,e,fz,by rw [b.block k (lt_of_cells h),h],rfl⟩,b.os,b.tape,b.output⟩
  refine ⟨⟨fun id o k off h hi=>(r.obj id o k off h hi).mono (p.le r) (b.block k (r.dom id k off hi).2),r.inj,fun id k off h=>⟨(r.dom id k off h).1,Nat.lt_of_lt_of_le (r.dom id k off h).2 b.size⟩,r.sep,fun k h=>Nat.lt_of_lt_of_le (r.fr k h) b.size⟩,p⟩
theorem native_ok {S : Sg} {f : FuncId} {fn : Func} {e : Array Value → Sem Value} (hf : P.funcs[f]? = some fn) (hname : (fn.name == "runtime.NumGoroutine") = false) (hb : fn.body.isNone = true) (hn : Extern.findNext fn = none) (he : Extern.find fn = some e)
    {x:Ext} (h:∀ args H v H',x args H=some (v,H')→∀ c w cargs,VRs c w args cargs→H'=H∧∃ cv,(e cargs).run P w=.ok cv w∧VR c w v cv):ExtAt P S f x:=by
  intro args H v H' hx c w cargs r hg ha
  obtain ⟨rfl,cv,hr,hv⟩:=h args H v H' hx c w cargs ha
  refine .inr ⟨cv,w,?_,c,r,Post.refl _ _ _,hv⟩
  rw [run_callFunc_extern hf hname hb hn he,hr]
  rfl
theorem VRs.three {c:Ctx} {w:World} {x y z:AVal} {cargs:Array Value} (h:VRs c w [x,y,z] cargs):∃ vx vy vz,cargs=#[vx,vy,vz]∧VR c w x vx∧VR c w y vy∧VR c w z vz:=by
  obtain ⟨hs,hh⟩:=h
  match cargs,hs with
  | ⟨[vx,vy,vz]⟩,_=>exact ⟨vx,vy,vz,rfl,hh 0 x vx rfl rfl,hh 1 y vy rfl rfl,hh 2 z vz rfl rfl⟩
theorem VRs.two {c:Ctx} {w:World} {x y:AVal} {cargs:Array Value} (h:VRs c w [x,y] cargs):∃ vx vy,cargs=#[vx,vy]∧VR c w x vx∧VR c w y vy:=by
  obtain ⟨hs,hh⟩:=h
  match cargs,hs with
  | ⟨[vx,vy]⟩,_=>exact ⟨vx,vy,rfl,hh 0 x vx rfl rfl,hh 1 y vy rfl rfl⟩
theorem VRs.one {c:Ctx} {w:World} {x:AVal} {cargs:Array Value} (h:VRs c w [x] cargs):∃ vx,cargs=#[vx]∧VR c w x vx:=by
  obtain ⟨hs,hh⟩:=h
  match cargs,hs with
  | ⟨[vx]⟩,_=>exact ⟨vx,rfl,hh 0 x vx rfl rfl⟩
theorem VR.pair {c:Ctx} {w:World} {a b:AVal} {x y:Value} (h1:VR c w a x) (h2:VR c w b y):VR c w (.tup [a,b]) (.tuple #[x,y]):=by
  refine .tup _ _ rfl fun j a v ha hv=>?_
  match j with
  | 0=>simp at ha hv; subst ha; subst hv; exact h1
  | 1=>simp at ha hv; subst ha; subst hv; exact h2
  | j + 2=>simp at ha
def twoI (a b:Int) (H:Heap):Option (AVal×Heap) :=
  match mkI .u64 a,mkI .u64 b with
  | some x,some y=>some (.tup [x,y],H)
  | _,_=>none
theorem twoI_some {a b:Int} {H H':Heap} {v:AVal} (h:twoI a b H=some (v,H')):v=.tup [.int .u64 a,.int .u64 b]∧H'=H:=by
  simp only [twoI,mkI_eq,Option.some.injEq,Prod.mk.injEq] at h
  exact ⟨h.1.symm,h.2.symm⟩
def add64X:Ext:=fun args H=>match args with
  | [.int .u64 x,.int .u64 y,.int .u64 k]=>if 0≤x∧0≤y∧0≤k∧k≤1 then twoI ((x + y + k) % 18446744073709551616) ((x + y + k) / 18446744073709551616) H else none
  | _=>none
theorem add64_ok {S : Sg} {f : FuncId} {fn : Func} (hf : P.funcs[f]? = some fn) (hname : (fn.name == "runtime.NumGoroutine") = false) (hb : fn.body.isNone = true) (hn : Extern.findNext fn = none) (he : Extern.find fn = some add64Entry) : ExtAt P S f add64X := by
  refine native_ok hf hname hb hn he fun args H v H' hx c w cargs ha=>?_
  unfold add64X at hx
  split at hx
  · rename_i x y k
    split at hx
    · rename_i hc
      simp only [twoI,mkI_eq,Option.some.injEq,Prod.mk.injEq] at hx
      obtain ⟨rfl,rfl⟩:=hx
      obtain ⟨vx,vy,vz,rfl,h1,h2,h3⟩:=ha.three
      cases h1; cases h2; cases h3
      exact ⟨rfl,_,run_add64 x y k hc.1 hc.2.1 hc.2.2.1 hc.2.2.2 w,VR.pair (.int _ _) (.int _ _)⟩
    · cases hx
  · cases hx
def subEntry:Array Value→Sem Value:=fun args=>do
  let (x, y, b) ← Extern.MathBitsCarry.three "Sub64" args
  pure (Extern.MathBitsCarry.pair ((x + Extern.MathBitsCarry.m64 - y - b) % Extern.MathBitsCarry.m64) (if x < y + b then 1 else 0))
@[irreducible] def subA (x y b:Nat):Nat:=(x + Extern.MathBitsCarry.m64 - y - b) % Extern.MathBitsCarry.m64
@[irreducible] def subB (x y b:Nat):Nat:=if x < y + b then 1 else 0
theorem run_sub (x y b:Nat) (hb:b≤1) (w:World) :
    (subEntry #[.int .u64 x,.int .u64 y,.int .u64 b]).run P w=.ok (.tuple #[.int .u64 (Int.ofNat (subA x y b)),.int .u64 (Int.ofNat (subB x y b))]) w:=by
  have:b=0∨b=1:=by omega
  rcases this with rfl | rfl <;> (unfold subA subB; rfl)
def sub64X:Ext:=fun args H=>match args with
  | [.int .u64 x,.int .u64 y,.int .u64 k]=>if 0≤x∧0≤y∧0≤k∧k≤1 then twoI (Int.ofNat (subA x.toNat y.toNat k.toNat)) (Int.ofNat (subB x.toNat y.toNat k.toNat)) H else none
  | _=>none
theorem sub64_ok {S : Sg} {f : FuncId} {fn : Func} (hf : P.funcs[f]? = some fn) (hname : (fn.name == "runtime.NumGoroutine") = false) (hb : fn.body.isNone = true) (hn : Extern.findNext fn = none) (he : Extern.find fn = some subEntry) : ExtAt P S f sub64X := by
  refine native_ok hf hname hb hn he fun args H v H' hx c w cargs ha=>?_
  unfold sub64X at hx
  split at hx
  · rename_i x y k
    split at hx
    · rename_i hc
      obtain ⟨h4,h5⟩:=twoI_some hx
      obtain ⟨vx,vy,vz,rfl,h1,h2,h3⟩:=ha.three
      cases h1; cases h2; cases h3
      have hr:=run_sub (P:=P) x.toNat y.toNat k.toNat (by omega) w
      rw [Int.toNat_of_nonneg hc.1,Int.toNat_of_nonneg hc.2.1,Int.toNat_of_nonneg hc.2.2.1] at hr
      rw [h4]
      exact ⟨h5,_,hr,VR.pair (.int _ _) (.int _ _)⟩
    · cases hx
  · cases hx
def idxB (c:UInt8):Nat→List UInt8→Int
  | _,[]=>-1
  | i,x :: r=>if x == c then (i:Int) else idxB c (i + 1) r
theorem find_range (p:Nat→Bool) (q:UInt8→Bool):∀ (l:List UInt8) (i:Nat),(∀ (j:Nat) (b:UInt8),l[j]?=some b→p (i + j)=q b) →
    (match (List.range' i l.length).find? p with | some k=>(k:Int) | none=>-1)=(match l.findIdx? q with | some k=>((i + k:Nat):Int) | none=>-1)
  | [],i,_=>rfl
  | x :: l,i,h=>by
    have h0:p i=q x:=h 0 x rfl
    have ih:=find_range p q l (i + 1) fun j b hb=>by
      have:=h (j + 1) b (by simpa using hb)
      rwa [show i + (j + 1)=i + 1 + j by omega] at this
    simp only [List.length_cons,List.range'_succ,List.find?_cons,List.findIdx?_cons]
    rw [h0]
    cases hq:q x with
    | true=>simp
    | false =>
      simp only
      rw [ih]
      cases l.findIdx? q with
      | none=>simp
      | some k=>simp only [Option.map_some]; congr 1; omega
theorem idxB_eq (c:UInt8):∀ (l:List UInt8) (i:Nat),idxB c i l=(match l.findIdx? (· == c) with | some k=>((i + k:Nat):Int) | none=>-1)
  | [],i=>rfl
  | x :: l,i=>by
    unfold idxB
    rw [List.findIdx?_cons]
    cases hx:x == c with
    | true=>simp
    | false =>
      simp only [Bool.false_eq_true,if_false]
      rw [idxB_eq c l (i + 1)]
      cases l.findIdx? (· == c) with
      | none=>simp
      | some k=>simp only [Option.map_some]; congr 1; omega
theorem firstIdx_eq (s:ByteArray) (c:UInt8):firstIdx s c=idxB c 0 s.data.toList:=by
  rw [idxB_eq]
  unfold firstIdx
  have:=find_range (fun i=>s[i]! == c) (· == c) s.data.toList 0 fun j b hb=>by
    have hj:j < s.data.size:=by simpa using (List.getElem?_eq_some_iff.1 hb).1
    have:s[0 + j]! = b:=by
      rw [Nat.zero_add]
      have hs:j < s.size:=hj
      rw [getElem!_pos s j hs]
      have:=(List.getElem?_eq_some_iff.1 hb).2
      rw [Array.getElem_toList] at this
      exact this
    simp only [this]
  rw [← List.range_eq_range'] at this
  have hl:s.data.toList.length=s.size:=Array.length_toList
  rw [hl] at this
  exact this
def idxByteX:Ext:=fun args H=>match args with
  | [.str s,.int .u8 b]=>match mkI .i64 (idxB b.toNat.toUInt8 0 s) with
    | some v=>some (v,H)
    | none=>none
  | _=>none
theorem idxByte_ok {S : Sg} {f : FuncId} {fn : Func} (hf : P.funcs[f]? = some fn) (hname : (fn.name == "runtime.NumGoroutine") = false) (hb : fn.body.isNone = true) (hn : Extern.findNext fn = none) (he : Extern.find fn = some Extern.BytealgIndexByte.indexByte) : ExtAt P S f idxByteX := by
  refine native_ok hf hname hb hn he fun args H v H' hx c w cargs ha=>?_
  unfold idxByteX at hx
  split at hx
  · rename_i s b
    simp only [mkI_eq,Option.some.injEq,Prod.mk.injEq] at hx
    obtain ⟨rfl,rfl⟩:=hx
    obtain ⟨vx,vy,rfl,h1,h2⟩:=ha.two
    cases h2
    cases h1 with
    | str _ t ht =>
      refine ⟨rfl,_,run_indexByte_string t b w,?_⟩
      rw [firstIdx_eq,ht]
      exact .int _ _
  · cases hx
def cntB (c:UInt8):List UInt8→Nat
  | []=>0
  | x :: r=>(if x == c then 1 else 0) + cntB c r
theorem foldl_cnt (c:UInt8):∀ (l:List UInt8) (n:Nat),l.foldl (fun n x=>if x == c then n + 1 else n) n=n + cntB c l
  | [],n=>rfl
  | x :: l,n=>by
    rw [List.foldl_cons,foldl_cnt c l,cntB]
    cases x == c <;> simp <;> omega
def cntByteX:Ext:=fun args H=>match args with
  | [.str s,.int .u8 b]=>match mkI .i64 ((cntB b.toNat.toUInt8 s:Nat):Int) with
    | some v=>some (v,H)
    | none=>none
  | _=>none
end Go.AM
namespace Go.AM
variable {P:Program}
abbrev Fr:=Nat→AVal
def Fr.set (F:Fr) (d:Nat) (v:AVal):Fr:=fun t=>bif Nat.beq t d then v else F t
theorem Fr.set_at (F:Fr) (d:Nat) (v:AVal):F.set d v d=v:=by simp [Fr.set]
theorem Fr.set_ne (F:Fr) {d t:Nat} (v:AVal) (h:t≠d):F.set d v t=F t:=by
  have:Nat.beq t d=false:=by
    cases hb:Nat.beq t d with
    | false=>rfl
    | true=>exact absurd (Nat.eq_of_beq_eq_true hb) h
  simp only [Fr.set,this]; rfl
def opdF (S:Sg) (F:Fr):Operand→AVal
  | .tmp t=>F t
  | .const v=>ofValue v
  | .global g=>S.glob g
  | .func f=>.fn f [] []
def Tr.tab (F:Fr):Nat→Tr
  | 0=>.lf
  | m + 1=>(Tr.tab F m).set m (F m)
theorem Tr.get_tab (F:Fr):∀ (n t:Nat),(Tr.tab F n).get t=if t < n then F t else .any
  | 0,t=>by rw [if_neg (Nat.not_lt_zero _)]; rfl
  | n + 1,t=>by
    rw [Tr.tab,Tr.get_set,Tr.get_tab F n t]
    by_cases h:t=n
    · subst h; rw [if_pos rfl,if_pos (by omega)]
    · rw [if_neg h]
      by_cases h2:t < n
      · rw [if_pos h2,if_pos (by omega)]
      · rw [if_neg h2,if_neg (by omega)]
def tmpR (n:Nat):Operand→Bool
  | .tmp t=>Nat.blt t n
  | _=>true
def operR (n:Nat) (o:Oper):Bool :=
  o.op.operands.toList.all (tmpR n) && (match o.dst with | none=>true | some d=>Nat.blt d n)
def opsR (n:Nat) (ops:Array Oper):Bool:=ops.toList.all (operR n)
def codeR (n:Nat):Code→Bool
  | .region _ ops _=>opsR n ops
  | .seq a b=>codeR n a && codeR n b
  | .cond c a b=>tmpR n c && (codeR n a && codeR n b)
  | .block _ b=>codeR n b
  | .loop b=>codeR n b
  | _=>true
theorem opd_tab {S:Sg} {F:Fr} {n:Nat} {x:Operand} (h:tmpR n x=true):opd S (Tr.tab F n) x=opdF S F x:=by
  cases x with
  | tmp t =>
    have:t < n:=by simpa [tmpR,Nat.blt_eq] using h
    simp only [opd,opdF,Tr.get_tab,if_pos this]
  | const v=>rfl
  | global g=>rfl
  | func f=>rfl
structure StF (S:Sg) (n:Nat) (c:Ctx) (w:World) (F:Fr) (H:Heap) (a:Act):Prop where
  rel:Rel c w H
  glob:Glob S c w
  env:∀ t,t < n→VR c w (F t) (a.tmps.getD t undef)
  size:a.tmps.size=n
  defers:a.defers=[]
theorem StF.st {S:Sg} {n:Nat} {c:Ctx} {w:World} {F:Fr} {H:Heap} {a:Act} (s:StF S n c w F H a):St S n c w (Tr.tab F n) H a :=
  ⟨s.rel,s.glob,fun t=>by
    rw [Tr.get_tab]
    split
    · rename_i h; exact s.env t h
    · exact .any _,s.size,s.defers⟩
theorem St.stF {S:Sg} {n:Nat} {c:Ctx} {w:World} {e:Tr} {F:Fr} {H:Heap} {a:Act} (s:St S n c w e H a) (h:∀ t,t < n→e.get t=F t):StF S n c w F H a :=
  ⟨s.rel,s.glob,fun t ht=>by rw [← h t ht]; exact s.env t,s.size,s.defers⟩
theorem StF.later {S:Sg} {n:Nat} {c c':Ctx} {w w':World} {F:Fr} {H H':Heap} {a:Act} (st:StF S n c w F H a) (r':Rel c' w' H') (p:Post c w H c' w' H'):StF S n c' w' F H' a :=
  ⟨r',st.glob.mono (p.le st.rel),fun t ht=>(st.env t ht).mono (p.le st.rel),st.size,st.defers⟩
def putF (F:Fr) (dst:Option Tmp) (v:AVal):Fr:=match dst with
  | none=>F
  | some d=>F.set d v
theorem StF.put {S:Sg} {n:Nat} {c:Ctx} {w:World} {F:Fr} {H:Heap} {a:Act} {dst:Option Tmp} {v:AVal} {cv:Value} (st:StF S n c w F H a) (hd:∀ d,dst=some d→d < n) (hv:VR c w v cv):StF S n c w (putF F dst v) H (a.put dst cv):=by
  have hp:putA n (Tr.tab F n) dst v=some (match dst with | none=>Tr.tab F n | some d=>(Tr.tab F n).set d v):=by
    cases dst with
    | none=>rfl
    | some d=>simp [putA,hd d rfl]
  refine (put_ok st.st hp hv).stF fun t ht=>?_
  cases dst with
  | none=>simp only [putF,Tr.get_tab,if_pos ht]
  | some d =>
    simp only [putF,Tr.get_set,Tr.get_tab,if_pos ht]
    by_cases h:t=d
    · subst h; rw [if_pos rfl,Fr.set_at]
    · rw [if_neg h,Fr.set_ne _ _ h]
def Fits (F' F:Fr):Prop:=∀ t,F' t=.any∨F' t=F t
theorem StF.fits {S:Sg} {n:Nat} {c:Ctx} {w:World} {F F':Fr} {H:Heap} {a:Act} (st:StF S n c w F H a) (h:Fits F' F):StF S n c w F' H a :=
  ⟨st.rel,st.glob,fun t ht=>by
    rcases h t with h | h
    · rw [h]; exact .any _
    · rw [h]; exact st.env t ht,st.size,st.defers⟩
def fr:List (Nat×AVal)→Fr
  | [],_=>.any
  | (d,v) :: l,t=>bif Nat.beq t d then v else fr l t
def AllF (F:Fr):List (Nat×AVal)→Prop
  | []=>True
  | (d,v) :: l=>F d=v∧AllF F l
theorem fits_fr {F:Fr}:∀ {l:List (Nat×AVal)},AllF F l→Fits (fr l) F
  | [],_=>fun t=>.inl rfl
  | (d,v) :: l,h=>fun t=>by
    unfold fr
    cases hb:Nat.beq t d with
    | true =>
      have:=Nat.eq_of_beq_eq_true hb
      subst this
      exact .inr h.1.symm
    | false=>exact fits_fr h.2 t
def callS (S:Sg):Calling:=fun f args H=>match S.ext f with
  | some x=>x args H
  | none=>none
structure Sound (P:Program) (S:Sg):Prop where
  sg:SgOK P S
  ext:ExtOK P S
  quiet:QuietOK S
  glob:∀ g,(S.glob g).closed=true∨S.glob g=.any
theorem Sound.call {S:Sg} (s:Sound P S):CallOK P S (callS S):=by
  intro f args H v H' h c w cargs r hg ha
  unfold callS at h
  split at h
  · rename_i x hx; exact s.ext f x hx args H v H' h c w cargs r hg ha
  · cases h
theorem Sound.callQ {S:Sg} (s:Sound P S):CallQ S (callS S):=by
  intro f args H v H' hf h
  unfold callS at h
  split at h
  · rename_i x hx; exact s.quiet f hf x hx args H v H' h
  · cases h
def denG (S:Sg) (call:Calling) (draw:Bool) (g:Operand→AVal) (H:Heap) (op:Op):Option (AVal×Heap) :=
  match op with
  | .move x | .assign x=>some (g x,H)
  | .pick c a b=>match g c with
    | .bool b'=>some (bif b' then g a else g b,H)
    | _=>none
  | .alloc t=>match S.ty t with
    | some ti=>some (.ptr H.length 0,H ++ [.cells ti.zero t])
    | none=>none
  | .box t x=>match cellsOf (g x) with
    | some cs=>some (newRowA (S.mutT t) H cs t)
    | none=>none
  | .build t parts=>match S.ty t with
    | some ti=>match ti.desc with
      | .struct _=>match fillA (fun i=>(ti.flds[i]?).map fun f=>(f.1,f.2.1)) ti.zero (parts.toList.map fun p=>(p.1,g p.2)) with
        | some cs=>some (.agg cs,H)
        | none=>none
      | .array _ el=>match S.ty el with
        | some te=>match fillA (fun i=>some (i * te.size,te.size)) ti.zero (parts.toList.map fun p=>(p.1,g p.2)) with
          | some cs=>some (.agg cs,H)
          | none=>none
        | none=>none
      | _=>none
    | none=>none
  | .buildSlice t n parts=>match S.ty t with
    | some { desc:=.slice el,.. }=>match S.ty el with
      | some te=>if n * te.size≤16777216∧n≤4611686018427387904 then
          (match fillA (fun i=>some (i * te.size,te.size)) ((List.replicate n te.zero).flatten) (parts.toList.map fun p=>(p.1,g p.2)) with
          | some cs=>if draw then some (.isl cs 0 n (some n) (cs.all AVal.closed1),H) else some (.sl H.length 0 n (some n) te.size,H ++ [.cells cs el])
          | none=>none) else none
      | none=>none
    | _=>none
  | .load t a=>match S.ty t,rowAt H (g a) with
    | some ti,some (row,off)=>withH H (getVar ti row off)
    | _,_=>none
  | .store t a x=>match S.ty t,g a,cellsOf (g x) with
    | some ti,.ptr id off,some cs=>match H[id]? with
      | some (.cells vs ty)=>if cs.length=ti.size∧off + ti.size≤vs.length∧cs.all AVal.cell then some (undefA,H.set id (.cells (setRange vs off cs) ty)) else none
      | _=>none
    | _,_,_=>none
  | .nilCheck x=>match g x with
    | .ptr id off=>some (.ptr id off,H)
    | .ip cs off cl=>some (.ip cs off cl,H)
    | .obj o=>some (.obj o,H)
    | .iface t v=>some (.iface t v,H)
    | .fn f a b=>some (.fn f a b,H)
    | _=>none
  | .binOp op t x y _=>withH H (denBin S op t (g x) (g y) (isConstOp x || isConstOp y))
  | .unOp op _ x=>withH H (denUn op (g x))
  | .convert s d x=>withH H (denConvert S H s d (g x))
  | .makeInterface t x=>match S.ty t with
    | some ti=>match ti.desc with
      | .interface _=>none
      | _=>some (.iface t (g x),H)
    | none=>none
  | .makeFunc (.func f) first captured=>some (.fn f (first.toList.map g) (captured.toList.map g),H)
  | .makeMap t r=>match r with
    | none=>some (.map H.length,H ++ [.map []])
    | some r=>match S.ty t,g r with
      | some { desc:=.map _ _,.. },.int _ _=>some (.map H.length,H ++ [.map []])
      | _,_=>none
  | .makeSlice t l c=>denMakeSlice S H t (g l) (g c)
  | .slice t x lo hi mx=>withH H (denSlice S H t (g x) (lo.map g) (hi.map g) (mx.map g))
  | .fieldAddr t x i=>match S.ty t with
    | some ti=>match ti.desc,ti.flds[i]? with
      | .struct _,some (off,size,_)=>match size with
        | 0=>none
        | _ + 1=>withH H (ptrAdd (g x) off)
      | _,_=>none
    | none=>none
  | .field t x i=>match S.ty t with
    | some ti=>match ti.desc,ti.flds[i]?,g x with
      | .struct _,some (off,size,agg),.agg cs=>if agg then (if off + size≤cs.length then some (.agg ((cs.drop off).take size),H) else none) else withH H cs[off]?
      | _,_,_=>none
    | none=>none
  | .indexAddr t x i=>match g i with
    | .int _ n=>withH H (elemAddr S t (g x) n)
    | _=>none
  | .index t x i=>match g i with
    | .int _ n=>withH H (denIndex S t (g x) n)
    | _=>none
  | .lookup t x k ok=>withH H (denLookup S H t (g x) (g k) ok)
  | .mapUpdate t m k v | .insert t m k v=>match denMapUpdate S H t (g m) (g k) (g v) with
    | some H'=>some (undefA,H')
    | none=>none
  | .mapEntry t m k=>denMapEntry S H t (g m) (g k)
  | .entryStore _ m s v=>match denEntryStore H (g m) (g s) (g v) with
    | some H'=>some (undefA,H')
    | none=>none
  | .range t x=>denRange S H t (g x)
  | .next it true=>match g it with
    | .ptr id 0=>match H[id]? with
      | some (.siter s pos)=>match s[pos]? with
        | none=>some (.tup [.bool false],H)
        | some b=>if b.toNat < 128 then fNat b.toNat fun n=>fNat (pos + 1) fun p=>some (.tup [.bool true,.int .i64 pos,.int .i32 n],H.set id (.siter s p)) else none
      | _=>none
    | _=>none
  | .typeAssert x _ t ok=>withH H (denAssert S (g x) t ok)
  | .extract x i=>match g x with
    | .tup vs=>withH H vs[i]?
    | _=>none
  | .call c=>match c.callee with
    | .value f=>match g f with
      | .fn k first cap=>call k (first ++ c.args.toList.map g ++ cap) H
      | _=>none
    | .invoke r m=>match g r with
      | .iface t v=>match S.meth t m with
        | some k=>call k (v :: c.args.toList.map g) H
        | none=>none
      | _=>none
    | .builtin b=>match b,c.args.toList.map g,c.argTypes.toList with
      | .append,[s,x],[t,t2]=>denAppend S H t t2 s x
      | .copy,[d,x],t :: _=>denCopy S H t d x
      | .len,[x],t :: _=>withH H (denLen H S t x)
      | .min,xs,_=>withH H (denMinMax true xs)
      | .max,xs,_=>withH H (denMinMax false xs)
      | _,_,_=>none
  | _=>none
theorem denOp_G (S:Sg) (call:Calling) (draw:Bool) (e:Tr) (H:Heap) (op:Op):denOp S call draw e H op=denG S call draw (opd S e) H op:=by
  cases op <;> try rfl
  case pick c a b =>
    simp only [denOp,denG]
    cases opd S e c <;> try rfl
    rename_i b'
    cases b' <;> rfl
  case makeFunc fn _ _=>cases fn <;> rfl
  case next it st=>cases st <;> rfl
theorem denG_congr {S:Sg} {call:Calling} {d:Bool} {g1 g2:Operand→AVal} {H:Heap} {op:Op} (h:∀ x∈op.operands,g1 x=g2 x):denG S call d g1 H op=denG S call d g2 H op:=by
  have lst:∀ (xs:Array Operand),(∀ x∈xs,g1 x=g2 x)→xs.toList.map g1=xs.toList.map g2:=by
    intro xs hx
    exact List.map_congr_left fun x hm=>hx x (by simpa using hm)
  have prt:∀ (ps:Array (Nat×Operand)),(∀ p∈ps,g1 p.2=g2 p.2)→(ps.toList.map fun p=>(p.1,g1 p.2))=(ps.toList.map fun p=>(p.1,g2 p.2)):=by
    intro ps hx
    exact List.map_congr_left fun p hm=>by rw [hx p (by simpa using hm)]
  have opt:∀ (x:Option Operand),(∀ y∈x.toArray,g1 y=g2 y)→x.map g1=x.map g2:=by
    intro x hx
    cases x with
    | none=>rfl
    | some y=>simp only [Option.map_some]; rw [hx y (by simp)]
  cases op <;> simp only [Op.operands,Array.mem_append,List.mem_toArray,List.mem_map] at h <;> simp only [denG]
  case move x=>rw [h x (by simp)]
  case assign x=>rw [h x (by simp)]
  case pick p x y=>rw [h p (by simp),h x (by simp),h y (by simp)]
  case box t x=>rw [h x (by simp)]
  case build t ps=>rw [prt ps fun p hp=>h p.2 ⟨p,by simpa using hp,rfl⟩]
  case buildSlice t n ps=>rw [prt ps fun p hp=>h p.2 ⟨p,by simpa using hp,rfl⟩]
  case load t x=>rw [h x (by simp)]
  case store t x y=>rw [h x (by simp),h y (by simp)]
  case nilCheck x=>rw [h x (by simp)]
  case binOp op t x y yt=>rw [h x (by simp),h y (by simp)]
  case unOp op t x=>rw [h x (by simp)]
  case convert s d x=>rw [h x (by simp)]
  case makeInterface t x=>rw [h x (by simp)]
  case makeFunc fn first cap =>
    cases fn <;> simp only [denG]
    rw [lst first fun x hx=>h x (.inl hx),lst cap fun x hx=>h x (.inr hx)]
  case makeMap t r =>
    cases r with
    | none=>rfl
    | some r=>simp only; rw [h r (by simp)]
  case makeSlice t l c=>rw [h l (by simp),h c (by simp)]
  case slice t x lo hi mx =>
    rw [h x (by simp),opt lo fun y hy=>h y (by simp [hy]),opt hi fun y hy=>h y (by simp [hy]),opt mx fun y hy=>h y (by simp [hy])]
  case fieldAddr t x i=>rw [h x (by simp)]
  case field t x i=>rw [h x (by simp)]
  case indexAddr t x i=>rw [h x (by simp),h i (by simp)]
  case index t x i=>rw [h x (by simp),h i (by simp)]
  case lookup t x i ok=>rw [h x (by simp),h i (by simp)]
  case mapUpdate t m k x=>rw [h m (by simp),h k (by simp),h x (by simp)]
  case mapEntry t m k=>rw [h m (by simp),h k (by simp)]
  case entryStore t m s x=>rw [h m (by simp),h s (by simp),h x (by simp)]
  case insert t m k x=>rw [h m (by simp),h k (by simp),h x (by simp)]
  case range t x=>rw [h x (by simp)]
  case next it st=>cases st <;> simp only [denG]; rw [h it (by simp)]
  case typeAssert x xt t ok=>rw [h x (by simp)]
  case extract x i=>rw [h x (by simp)]
  case call c =>
    cases hk:c.callee with
    | value f =>
      simp only
      rw [h f (by simp [Call.operands,hk]),lst c.args fun x hx=>h x (by simp [Call.operands,hx])]
    | invoke r m =>
      simp only
      rw [h r (by simp [Call.operands,hk]),lst c.args fun x hx=>h x (by simp [Call.operands,hx])]
    | builtin b =>
      simp only
      rw [lst c.args fun x hx=>h x (by simp [Call.operands,hx])]
theorem denG_tab {S:Sg} {call:Calling} {d:Bool} {F:Fr} {n:Nat} {H:Heap} {o:Oper} (h:operR n o=true):denOp S call d (Tr.tab F n) H o.op=denG S call d (opdF S F) H o.op:=by
  rw [denOp_G]
  refine denG_congr fun x hx=>opd_tab ?_
  unfold operR at h
  rw [Bool.and_eq_true,List.all_eq_true] at h
  exact h.1 x (by simpa using hx)
theorem operR_dst {n:Nat} {o:Oper} (h:operR n o=true):∀ d,o.dst=some d→d < n:=by
  intro d hd
  unfold operR at h
  rw [Bool.and_eq_true,hd] at h
  simpa [Nat.blt_eq] using h.2
def wantedF (ops:Array Oper) (F:Fr) (o:Oper):Option Bool :=
  match o.guard with
  | none=>some true
  | some (j,want)=>match (ops[j]?).bind (·.dst) with
    | none=>some false
    | some d=>match F d with
      | .bool b=>some (b == want)
      | .tup _=>some false
      | _=>none
theorem wanted_tab {n:Nat} {ops:Array Oper} {F:Fr} {o:Oper} (hR:opsR n ops=true):wantedA ops (Tr.tab F n) o=wantedF ops F o:=by
  unfold wantedA wantedF
  cases hg:o.guard with
  | none=>rfl
  | some x =>
    obtain ⟨j,want⟩:=x
    simp only
    cases hj:ops[j]? with
    | none=>rfl
    | some p =>
      simp only [Option.bind_some]
      cases hd:p.dst with
      | none=>rfl
      | some d =>
        have:d < n:=by
          unfold opsR at hR
          rw [List.all_eq_true] at hR
          exact operR_dst (hR p (List.mem_of_getElem? (by rw [Array.getElem?_toList]; exact hj))) d hd
        simp only [Tr.get_tab,if_pos this]
        cases F d <;> rfl
def WO (P:Program) (S:Sg) (n:Nat) (draw:Bool) (ops:Array Oper) (rest:List Oper) (i:Nat) (F:Fr) (H:Heap) (K:Fr→Heap→Prop):Prop :=
  Sound P S→opsR n ops=true→rest=ops.toList.drop i→∀ (c:Ctx) (w:World) (a:Act) (Q:Exit→Act→World→Prop),StF S n c w F H a →
    (∀ F' H' c' w' a',K F' H'→StF S n c' w' F' H' a'→Post c w H c' w' H'→Q .normal a' w')→wpOps P ops Q (List.range' i rest.length) a w
theorem WO.nil {S:Sg} {n:Nat} {draw:Bool} {ops:Array Oper} {i:Nat} {F:Fr} {H:Heap} {K:Fr→Heap→Prop} (h:K F H):WO P S n draw ops [] i F H K :=
  fun _ _ _ c w a Q st hq=>hq F H c w a h st (Post.refl c w H)
theorem WO.op {S:Sg} {n:Nat} {draw:Bool} {ops:Array Oper} {o:Oper} {rest:List Oper} {i:Nat} {F:Fr} {H H1:Heap} {v:AVal} {K:Fr→Heap→Prop}
    (hop:denG S (callS S) draw (opdF S F) H o.op=some (v,H1)) (hw:wantedF ops F o=some true) (next:WO P S n draw ops rest (i + 1) (putF F o.dst v) H1 K):WO P S n draw ops (o :: rest) i F H K:=by
  intro hs hR hr c w a Q st hq
  have ho:ops[i]?=some o:=by
    have:(ops.toList.drop i)[0]?=some o:=by rw [← hr]; rfl
    rw [List.getElem?_drop,Nat.add_zero,Array.getElem?_toList] at this
    exact this
  have hoR:operR n o=true:=by
    have:=hR
    unfold opsR at this
    rw [List.all_eq_true] at this
    exact this o (List.mem_of_getElem? (by rw [Array.getElem?_toList]; exact ho))
  have hr':rest=ops.toList.drop (i + 1):=by
    have:=congrArg List.tail hr
    simpa [List.tail_drop] using this
  simp only [List.length_cons,List.range'_succ,wpOps,ho]
  rw [wanted_ok st.st.env ((wanted_tab hR).trans hw)]
  simp only [if_true]
  refine .inl (denOp_ok hs.sg hs.call ((denG_tab hoR).trans hop) st.st.env st.glob st.rel fun cv c1 w1 r1 p1 hv=>?_)
  exact next hs hR hr' c1 w1 _ Q ((st.later r1 p1).put (operR_dst hoR) hv) fun F' H' c' w' a' hk st' p'=>hq F' H' c' w' a' hk st' (p1.trans st.rel p')
theorem WO.skip {S:Sg} {n:Nat} {draw:Bool} {ops:Array Oper} {o:Oper} {rest:List Oper} {i:Nat} {F:Fr} {H:Heap} {K:Fr→Heap→Prop}
    (hw:wantedF ops F o=some false) (next:WO P S n draw ops rest (i + 1) (putF F o.dst undefA) H K):WO P S n draw ops (o :: rest) i F H K:=by
  intro hs hR hr c w a Q st hq
  have ho:ops[i]?=some o:=by
    have:(ops.toList.drop i)[0]?=some o:=by rw [← hr]; rfl
    rw [List.getElem?_drop,Nat.add_zero,Array.getElem?_toList] at this
    exact this
  have hoR:operR n o=true:=by
    have:=hR
    unfold opsR at this
    rw [List.all_eq_true] at this
    exact this o (List.mem_of_getElem? (by rw [Array.getElem?_toList]; exact ho))
  have hr':rest=ops.toList.drop (i + 1):=by
    have:=congrArg List.tail hr
    simpa [List.tail_drop] using this
  simp only [List.length_cons,List.range'_succ,wpOps,ho]
  rw [wanted_ok st.st.env ((wanted_tab hR).trans hw)]
  simp only [Bool.false_eq_true,if_false]
  exact next hs hR hr' c w _ Q (st.put (operR_dst hoR) (VR.undef c w)) hq
def W (P:Program) (S:Sg) (n:Nat) (code:Code) (F:Fr) (H:Heap) (K:Ex→Fr→Heap→Prop):Prop :=
  Sound P S→codeR n code=true→∀ (c:Ctx) (w:World) (a:Act) (Q:Exit→Act→World→Prop),StF S n c w F H a →
    (∀ x F' H' c' w' a',K x F' H'→StF S n c' w' F' H' a'→Post c w H c' w' H'→Q (exOf x) a' w')→Good P code Q a w
section rules
variable {S:Sg} {n:Nat} {F F':Fr} {H:Heap} {K K':Ex→Fr→Heap→Prop}
theorem W.mono {code:Code} (h:W P S n code F H K') (hk:∀ x F' H',K' x F' H'→K x F' H'):W P S n code F H K :=
  fun hs hR c w a Q st hq=>h hs hR c w a Q st fun x F' H' c' w' a' k=>hq x F' H' c' w' a' (hk x F' H' k)
theorem W.fits {code:Code} (hf:Fits F' F) (h:W P S n code F' H K):W P S n code F H K :=
  fun hs hR c w a Q st hq=>h hs hR c w a Q (st.fits hf) hq
theorem W.skip (h:K .normal F H):W P S n .skip F H K:=fun _ _ c w a Q st hq=>wp_skip (hq .normal F H c w a h st (Post.refl _ _ _))
theorem W.label {l:Nat} (h:K .normal F H):W P S n (.label l) F H K:=fun _ _ c w a Q st hq=>wp_label (hq .normal F H c w a h st (Post.refl _ _ _))
theorem W.exit {id:Nat} (h:K (.exit id) F H):W P S n (.exit id) F H K:=fun _ _ c w a Q st hq=>wp_exit (hq (.exit id) F H c w a h st (Post.refl _ _ _))
theorem W.ret (h:K .ret F H):W P S n .ret F H K:=fun _ _ c w a Q st hq=>wp_ret (hq .ret F H c w a h st (Post.refl _ _ _))
theorem W.region {id:Nat} {ops:Array Oper} (h:WO P S n false ops ops.toList 0 F H (fun F' H'=>K .normal F' H')):W P S n (.region id ops false) F H K:=by
  intro hs hR c w a Q st hq
  refine wp_region ?_
  have:=h hs hR (by simp) c w a Q st fun F' H' c' w' a' k=>hq .normal F' H' c' w' a' k
  rwa [Array.length_toList,← List.range_eq_range'] at this
def thenK (K:Ex→Fr→Heap→Prop) (N:Fr→Heap→Prop):Ex→Fr→Heap→Prop
  | .normal=>N
  | x=>K x
theorem W.seq {p q:Code} (h:W P S n p F H (thenK K fun F' H'=>W P S n q F' H' K)):W P S n (.seq p q) F H K:=by
  intro hs hR c w a Q st hq
  unfold codeR at hR
  rw [Bool.and_eq_true] at hR
  refine wp_seq (Good.wp (h hs hR.1 c w a _ st fun x F1 H1 c1 w1 a1 k st1 p1=>?_))
  cases x with
  | normal=>exact Good.wp (k hs hR.2 c1 w1 a1 Q st1 fun x F2 H2 c2 w2 a2 k2 st2 p2=>hq x F2 H2 c2 w2 a2 k2 st2 (p1.trans st.rel p2))
  | exit id=>exact hq _ F1 H1 c1 w1 a1 k st1 p1
  | ret=>exact hq _ F1 H1 c1 w1 a1 k st1 p1
theorem W.cond {p:Operand} {y z:Code} {b:Bool} (hb:opdF S F p=.bool b) (ht:b=true→W P S n y F H K) (hf:b=false→W P S n z F H K):W P S n (.cond p y z) F H K:=by
  intro hs hR c w a Q st hq
  unfold codeR at hR
  simp only [Bool.and_eq_true] at hR
  have hv:=opd_ok (S:=S) (a:=a) st.st.env st.glob p
  rw [opd_tab hR.1,hb] at hv
  have hb':a.eval p=.bool b:=by generalize a.eval p=q at hv; cases hv; rfl
  cases b with
  | true=>exact wp_cond_true hb' (Good.wp (ht rfl hs hR.2.1 c w a Q st hq))
  | false=>exact wp_cond_false hb' (Good.wp (hf rfl hs hR.2.2 c w a Q st hq))
def blockK (id:Nat) (K:Ex→Fr→Heap→Prop):Ex→Fr→Heap→Prop
  | .exit id'=>bif Nat.beq id' id then K .normal else K (.exit id')
  | x=>K x
theorem W.block {id:Nat} {body:Code} (h:W P S n body F H (blockK id K)):W P S n (.block id body) F H K:=by
  intro hs hR c w a Q st hq
  unfold codeR at hR
  refine wp_block (Good.wp (h hs hR c w a _ st fun x F1 H1 c1 w1 a1 k st1 p1=>?_))
  cases x with
  | normal=>exact hq _ F1 H1 c1 w1 a1 k st1 p1
  | ret=>exact hq _ F1 H1 c1 w1 a1 k st1 p1
  | exit id' =>
    show (if id'=id then Q .normal a1 w1 else Q (.exit id') a1 w1)
    change (bif Nat.beq id' id then K .normal else K (.exit id')) F1 H1 at k
    cases hb:Nat.beq id' id with
    | true =>
      rw [hb] at k
      rw [if_pos (Nat.eq_of_beq_eq_true hb)]
      exact hq .normal F1 H1 c1 w1 a1 k st1 p1
    | false =>
      rw [hb] at k
      rw [if_neg (Nat.ne_of_beq_eq_false hb)]
      exact hq (.exit id') F1 H1 c1 w1 a1 k st1 p1
theorem W.loop {α:Type} {body:Code} (μ:α→Nat) (FF:α→Fr) (HH:α→Heap)
    (step:∀ x,W P S n body (FF x) (HH x) (thenK K fun F' H'=>∃ y,μ y < μ x∧Fits (FF y) F'∧H'=HH y)) (x0:α):W P S n (.loop body) (FF x0) (HH x0) K:=by
  intro hs hR
  unfold codeR at hR
  have key:∀ (k:Nat) (x:α),μ x < k→∀ (c:Ctx) (w:World) (a:Act) (Q:Exit→Act→World→Prop),StF S n c w (FF x) (HH x) a →
      (∀ x' F' H' c' w' a',K x' F' H'→StF S n c' w' F' H' a'→Post c w (HH x) c' w' H'→Q (exOf x') a' w')→LoopWp P body Q a w:=by
    intro k
    induction k with
    | zero=>intro x h; omega
    | succ k ih =>
      intro x hx c w a Q st hq
      refine LoopWp.of (Good.wp (step x hs hR c w a _ st fun y F1 H1 c1 w1 a1 hk st1 p1=>?_))
      cases y with
      | normal =>
        obtain ⟨y,hy,hfit,rfl⟩:=hk
        exact ih y (by omega) c1 w1 a1 Q (st1.fits hfit) fun x' F' H' c' w' a' k' st' p'=>hq x' F' H' c' w' a' k' st' (p1.trans st.rel p')
      | exit id=>exact hq _ F1 H1 c1 w1 a1 hk st1 p1
      | ret=>exact hq _ F1 H1 c1 w1 a1 hk st1 p1
  exact fun c w a Q st hq=>key (μ x0 + 1) x0 (by omega) c w a Q st hq
theorem W.loopI {α:Type} {body:Code} (I:α→Prop) (μ:α→Nat) (FF:α→Fr) (HH:α→Heap)
    (step:∀ x,I x→W P S n body (FF x) (HH x) (thenK K fun F' H'=>∃ y,I y∧μ y < μ x∧Fits (FF y) F'∧H'=HH y)) (x0:α) (h0:I x0):W P S n (.loop body) (FF x0) (HH x0) K:=by
  refine W.loop (α:={ x:α // I x }) (fun x=>μ x.1) (fun x=>FF x.1) (fun x=>HH x.1) (fun x=>?_) ⟨x0,h0⟩
  refine (step x.1 x.2).mono fun ex F' H' h=>?_
  cases ex with
  | normal=>obtain ⟨y,hy,h1,h2,h3⟩:=h; exact ⟨⟨y,hy⟩,h1,h2,h3⟩
  | exit id=>exact h
  | ret=>exact h
theorem W.mid {p q:Code} {H1:Heap} (l:List (Nat×AVal)) (h1:W P S n p F H (fun x F' H'=>x=.normal∧AllF F' l∧H'=H1)) (h2:W P S n q (fr l) H1 K):W P S n (.seq p q) F H K:=by
  refine W.seq (h1.mono fun x F' H' h=>?_)
  obtain ⟨rfl,hl,rfl⟩:=h
  exact W.fits (fits_fr hl) h2
end rules
end Go.AM
namespace Go.AM
variable {P:Program}
def quietOp (S:Sg) (o:Oper):Bool :=
  match o.op with
  | .call c=>match c.callee with
    | .value (.func f)=>S.quiet f
    | _=>false
  | _=>false
def pairS (S:Sg) (m:List Nat) (i:Nat) (x:Oper) (j:Nat) (y:Oper):Bool :=
  !(readOp x.op && effOp S y.op && !quietOp S y && !bit m j i) && !(effOp S x.op && !quietOp S x && readOp y.op && !bit m j i)
def pairsR (S:Sg) (m:List Nat) (i:Nat) (x:Oper):Nat→List Oper→Bool
  | _,[]=>true
  | j,y :: r=>pairS S m i x j y && pairsR S m i x (j + 1) r
def pairsT (S:Sg) (m:List Nat):Nat→List Oper→Bool
  | _,[]=>true
  | i,x :: r=>pairsR S m i x (i + 1) r && pairsT S m (i + 1) r
def drawS (S:Sg) (ops:Array Oper):Bool:=okS S ops (masks ops.toList []) && pairsT S (masks ops.toList []) 0 ops.toList
theorem quietOp_E {S:Sg} {x:En} (h:quietOp S x.o=true):quietE S x=true:=by
  unfold quietOp at h
  unfold quietE
  split at h
  · rename_i c hc
    rw [hc]
    simp only
    split at h
    · rename_i f hf
      rw [hf]
      exact h
    · cases h
  · cases h
theorem pairS_ok {S:Sg} {call:Calling} {m:List Nat} {i j:Nat} {x y:En} (h:pairS S m i x.o j y.o=true):pairOK S call m i x j y=true:=by
  unfold pairS at h
  rw [Bool.and_eq_true] at h
  obtain ⟨h1,h2⟩:=h
  unfold pairOK
  rw [Bool.and_eq_true]
  constructor
  · rw [if_neg]
    intro hh
    simp only [Bool.and_eq_true,Bool.not_eq_true'] at hh
    obtain ⟨⟨⟨⟨⟨a1,a2⟩,a3⟩,a4⟩,a5⟩,a6⟩:=hh
    have:quietOp S y.o=false:=by
      cases hq:quietOp S y.o with
      | false=>rfl
      | true=>rw [quietOp_E hq] at a5; cases a5
    rw [a1,a3,this,a6] at h1
    cases h1
  · rw [if_neg]
    intro hh
    simp only [Bool.and_eq_true,Bool.not_eq_true'] at hh
    obtain ⟨⟨⟨⟨⟨a1,a2⟩,a3⟩,a4⟩,a5⟩,a6⟩:=hh
    have:quietOp S x.o=false:=by
      cases hq:quietOp S x.o with
      | false=>rfl
      | true=>rw [quietOp_E hq] at a3; cases a3
    rw [a1,this,a4,a6] at h2
    cases h2
theorem pairsR_ok {S:Sg} {call:Calling} {m:List Nat} {i:Nat} {x:En}:∀ (r:List En) (j:Nat),pairsR S m i x.o j (r.map (·.o))=true→checkR S call m i x j r=true
  | [],j,h=>rfl
  | y :: r,j,h=>by
    simp only [List.map_cons,pairsR,Bool.and_eq_true] at h
    simp only [checkR,Bool.and_eq_true]
    exact ⟨pairS_ok h.1,pairsR_ok r (j + 1) h.2⟩
theorem pairsT_ok {S:Sg} {call:Calling} {m:List Nat}:∀ (es:List En) (i:Nat),pairsT S m i (es.map (·.o))=true→checkT S call m i es=true
  | [],i,h=>rfl
  | x :: es,i,h=>by
    simp only [List.map_cons,pairsT,Bool.and_eq_true] at h
    simp only [checkT,Bool.and_eq_true]
    exact ⟨pairsR_ok es (i + 1) h.1,pairsT_ok es (i + 1) h.2⟩
def WT (S:Sg) (n:Nat) (ops:Array Oper) (rest:List Oper) (k:Nat) (F:Fr) (H:Heap) (K:Fr→Heap→Prop):Prop :=
  opsR n ops=true→(∀ o∈rest,o∈ops.toList)→∀ e:Tr,(∀ t,t < n→e.get t=F t)→∃ es e2 H2 F2,traceD S (callS S) n ops rest k e H=some (es,e2,H2)∧es.map (·.o)=rest∧(∀ t,t < n→e2.get t=F2 t)∧K F2 H2
section
variable {S:Sg} {n:Nat} {ops:Array Oper} {F:Fr} {H:Heap} {K:Fr→Heap→Prop} {k:Nat}
theorem opd_of {e:Tr} (he:∀ t,t < n→e.get t=F t) {x:Operand} (h:tmpR n x=true):opd S e x=opdF S F x:=by
  cases x with
  | tmp t=>exact he t (by simpa [tmpR,Nat.blt_eq] using h)
  | const v=>rfl
  | global g=>rfl
  | func f=>rfl
theorem denG_of {e:Tr} (he:∀ t,t < n→e.get t=F t) {d:Bool} {o:Oper} (h:operR n o=true):denOp S (callS S) d e H o.op=denG S (callS S) d (opdF S F) H o.op:=by
  rw [denOp_G]
  refine denG_congr fun x hx=>opd_of he ?_
  unfold operR at h
  rw [Bool.and_eq_true,List.all_eq_true] at h
  exact h.1 x (by simpa using hx)
theorem wanted_of {e:Tr} (he:∀ t,t < n→e.get t=F t) {o:Oper} (hR:opsR n ops=true):wantedA ops e o=wantedF ops F o:=by
  unfold wantedA wantedF
  cases hg:o.guard with
  | none=>rfl
  | some x =>
    obtain ⟨j,want⟩:=x
    simp only
    cases hj:ops[j]? with
    | none=>rfl
    | some p =>
      simp only [Option.bind_some]
      cases hd:p.dst with
      | none=>rfl
      | some d =>
        have:d < n:=by
          unfold opsR at hR
          rw [List.all_eq_true] at hR
          exact operR_dst (hR p (List.mem_of_getElem? (by rw [Array.getElem?_toList]; exact hj))) d hd
        simp only [he d this]
        cases F d <;> rfl
theorem put_of {e:Tr} (he:∀ t,t < n→e.get t=F t) {dst:Option Tmp} {v:AVal} (hd:∀ d,dst=some d→d < n):∃ e',putA n e dst v=some e'∧∀ t,t < n→e'.get t=putF F dst v t:=by
  cases dst with
  | none=>exact ⟨e,rfl,he⟩
  | some d =>
    refine ⟨e.set d v,by simp [putA,hd d rfl],fun t ht=>?_⟩
    simp only [putF,Tr.get_set]
    by_cases h:t=d
    · subst h; rw [if_pos rfl,Fr.set_at]
    · rw [if_neg h,Fr.set_ne _ _ h]; exact he t ht
theorem WT.nil (h:K F H):WT S n ops [] k F H K:=fun _ _ e he=>⟨[],e,H,F,rfl,rfl,he,h⟩
theorem WT.op {o:Oper} {rest:List Oper} {H1:Heap} {v:AVal} (hop:denG S (callS S) true (opdF S F) H o.op=some (v,H1)) (hw:wantedF ops F o=some true) (ha:isAlloc o.op=false)
    (next:WT S n ops rest k (putF F o.dst v) H1 K):WT S n ops (o :: rest) k F H K:=by
  intro hR hm e he
  have hoR:operR n o=true:=List.all_eq_true.1 hR o (hm o (by simp))
  obtain ⟨e1,hp,he1⟩:=put_of (v:=v) he (operR_dst hoR)
  obtain ⟨es,e2,H2,F2,h1,h2,h3,h4⟩:=next hR (fun o ho=>hm o (by simp [ho])) e1 he1
  refine ⟨⟨o,e,H,true,v,H1⟩ :: es,e2,H2,F2,?_,by simp [h2],h3,h4⟩
  unfold traceD
  rw [wanted_of he hR,hw]
  simp only [ha,opF_eq,(denG_of he hoR).trans hop,force_eq,hp,h1]
theorem WT.alloc {o:Oper} {rest:List Oper} {t:TypeId} (ho:o.op=.alloc t) (hw:wantedF ops F o=some true)
    (next:WT S n ops rest (k + 1) (putF F o.dst (.ptr k 0)) H K):WT S n ops (o :: rest) k F H K:=by
  intro hR hm e he
  have hoR:operR n o=true:=List.all_eq_true.1 hR o (hm o (by simp))
  obtain ⟨e1,hp,he1⟩:=put_of (v:=.ptr k 0) he (operR_dst hoR)
  obtain ⟨es,e2,H2,F2,h1,h2,h3,h4⟩:=next hR (fun o ho=>hm o (by simp [ho])) e1 he1
  refine ⟨⟨o,e,H,true,.ptr k 0,H⟩ :: es,e2,H2,F2,?_,by simp [h2],h3,h4⟩
  unfold traceD
  rw [wanted_of he hR,hw]
  have ha:isAlloc o.op=true:=by rw [ho]; rfl
  simp only [ha,hp,h1]
theorem WT.skip {o:Oper} {rest:List Oper} (hw:wantedF ops F o=some false) (ha:isAlloc o.op=false)
    (next:WT S n ops rest k (putF F o.dst undefA) H K):WT S n ops (o :: rest) k F H K:=by
  intro hR hm e he
  have hoR:operR n o=true:=List.all_eq_true.1 hR o (hm o (by simp))
  obtain ⟨e1,hp,he1⟩:=put_of (v:=undefA) he (operR_dst hoR)
  obtain ⟨es,e2,H2,F2,h1,h2,h3,h4⟩:=next hR (fun o ho=>hm o (by simp [ho])) e1 he1
  refine ⟨⟨o,e,H,false,undefA,H⟩ :: es,e2,H2,F2,?_,by simp [h2],h3,h4⟩
  unfold traceD
  rw [wanted_of he hR,hw]
  simp only [ha,hp,h1]
end
section
variable {S:Sg} {n:Nat} {F:Fr} {H:Heap} {K:Ex→Fr→Heap→Prop}
theorem W.draw {id:Nat} {ops:Array Oper} {sl:Heap} (hsl:slotsOf S ops.toList=some sl) (hst:drawS S ops=true)
    (h:WT S n ops ops.toList H.length F (H ++ sl) (fun F' H'=>K .normal F' H')):W P S n (.region id ops true) F H K:=by
  intro hs hR c w a Q st hq
  unfold codeR at hR
  obtain ⟨es,e2,H2,F2,h1,h2,h3,h4⟩:=h hR (fun o ho=>ho) (Tr.tab F n) (fun t ht=>by rw [Tr.get_tab,if_pos ht])
  have hd:denDraw S (callS S) n ops (Tr.tab F n) H=some (e2,H2):=by
    unfold denDraw
    rw [hsl]
    simp only [h1]
    unfold drawS at hst
    rw [Bool.and_eq_true] at hst
    have hc:checkT S (callS S) (masks ops.toList []) 0 es=true:=pairsT_ok es 0 (by rw [h2]; exact hst.2)
    rw [hst.1,hc]
    rfl
  exact denDraw_ok hs.sg (callS S) hs.call hs.callQ n id ops (Tr.tab F n) e2 H H2 c w a Q hd st.st fun c' w' a' st' p'=>hq .normal F2 H2 c' w' a' h4 (st'.stF h3) p'
theorem W.draw0 {id:Nat} {ops:Array Oper} (hsl:slotsOf S ops.toList=some []) (hst:drawS S ops=true)
    (h:WT S n ops ops.toList H.length F H (fun F' H'=>K .normal F' H')):W P S n (.region id ops true) F H K :=
  W.draw hsl hst (by rw [List.append_nil]; exact h)
end
def Wk (a b:AVal):Prop:=∀ (c:Ctx) (w:World) (v:Value),VR c w a v→VR c w b v
theorem Wk.refl (a:AVal):Wk a a:=fun _ _ _ h=>h
theorem Wk.trans {a b d:AVal} (h:Wk a b) (k:Wk b d):Wk a d:=fun c w v x=>k c w v (h c w v x)
theorem Wk.any (a:AVal):Wk a .any:=fun _ _ v _=>.any v
inductive Seals (H:Heap):AVal→AVal→Prop
  | same (a:AVal):a.closed=true→Seals H a a
  | ptr (id off:Nat) (vs:List AVal) (ty:TypeId) (cs:List AVal):H[id]?=some (.cells vs ty)→cs.length=vs.length→(∀ (j:Nat) (a b:AVal),vs[j]?=some a→cs[j]?=some b→Seals H a b) →
      (∀ a∈cs,a.closed1=true)→Seals H (.ptr id off) (.ip cs off true)
  | sl (id off len:Nat) (cap:Option Nat) (sz:Nat) (vs:List AVal) (ty:TypeId) (cs:List AVal):H[id]?=some (.cells vs ty)→off + len * sz≤vs.length→cs.length=len * sz →
      (∀ (j:Nat) (a b:AVal),vs[off + j]?=some a→cs[j]?=some b→Seals H a b)→(∀ a∈cs,a.closed1=true)→Seals H (.sl id off len cap sz) (.isl cs 0 len cap true)
  | ip (cells:List AVal) (off:Nat) (cl:Bool) (cs:List AVal):cs.length=cells.length→(∀ (j:Nat) (a b:AVal),cells[j]?=some a→cs[j]?=some b→Seals H a b)→(∀ a∈cs,a.closed1=true)→Seals H (.ip cells off cl) (.ip cs off true)
  | isl (cells:List AVal) (off len:Nat) (cap:Option Nat) (cl:Bool) (cs:List AVal):cs.length=cells.length→(∀ (j:Nat) (a b:AVal),cells[j]?=some a→cs[j]?=some b→Seals H a b)→(∀ a∈cs,a.closed1=true) →
      Seals H (.isl cells off len cap cl) (.isl cs off len cap true)
  | iface (t:TypeId) (a b:AVal):Seals H a b→Seals H (.iface t a) (.iface t b)
  | agg (as bs:List AVal):bs.length=as.length→(∀ (j:Nat) (a b:AVal),as[j]?=some a→bs[j]?=some b→Seals H a b)→Seals H (.agg as) (.agg bs)
  | tup (as bs:List AVal):bs.length=as.length→(∀ (j:Nat) (a b:AVal),as[j]?=some a→bs[j]?=some b→Seals H a b)→Seals H (.tup as) (.tup bs)
  | wk (a b d:AVal):Wk a b→Seals H b d→Seals H a d
  | wk' (a b d:AVal):Seals H a b→Wk b d→Seals H a d
theorem Seals.ok {c:Ctx} {w:World} {H:Heap} (r:Rel c w H) {a a':AVal} (h:Seals H a a'):∀ v,VR c w a v→VR (c.shut H) w a' v:=by
  induction h with
  | same a h=>exact fun v hv=>hv.mono (c.shut_le w H)
  | wk a b d hw _ ih=>exact fun v hv=>ih v (hw _ _ _ hv)
  | wk' a b d _ hw ih=>exact fun v hv=>hw _ _ _ (ih v hv)
  | iface t a b _ ih =>
    intro v hv
    cases hv with
    | iface _ _ u hu=>exact .iface t b u (ih u hu)
  | agg as bs hl _ ih =>
    intro v hv
    cases hv with
    | agg _ vs hs hh =>
      refine .agg bs vs (by omega) fun j x u hx hu=>?_
      have hj:j < as.length:=by rw [← hl]; exact (List.getElem?_eq_some_iff.1 hx).1
      exact ih j _ x (List.getElem?_eq_getElem hj) hx u (hh j _ u (List.getElem?_eq_getElem hj) hu)
  | tup as bs hl _ ih =>
    intro v hv
    cases hv with
    | tup _ vs hs hh =>
      refine .tup bs vs (by omega) fun j x u hx hu=>?_
      have hj:j < as.length:=by rw [← hl]; exact (List.getElem?_eq_some_iff.1 hx).1
      exact ih j _ x (List.getElem?_eq_getElem hj) hx u (hh j _ u (List.getElem?_eq_getElem hj) hu)
  | ip cells off cl cs hl _ hall ih =>
    intro v hv
    cases hv with
    | ip _ _ _ b o g h1 hF hc hh =>
      refine .ip cs off true b o g (fun _=>hall) (.inl hF) (fun j hj=>hc j (by omega)) fun j x hx=>?_
      have hj:j < cells.length:=by rw [← hl]; exact (List.getElem?_eq_some_iff.1 hx).1
      exact ih j _ x (List.getElem?_eq_getElem hj) hx _ (hh j _ (List.getElem?_eq_getElem hj))
  | isl cells off len cap cl cs hl _ hall ih =>
    intro v hv
    cases hv with
    | isl _ _ _ _ _ b o ca g h1 hF h2 h3 h4 hc hh =>
      refine .isl cs off len cap true b o ca g (fun _=>hall) (.inl hF) h2 h3 h4 (fun j hj=>hc j (by omega)) fun j x hx=>?_
      have hj:j < cells.length:=by rw [← hl]; exact (List.getElem?_eq_some_iff.1 hx).1
      exact ih j _ x (List.getElem?_eq_getElem hj) hx _ (hh j _ (List.getElem?_eq_getElem hj))
    | isl0 _ _ _ _ a ca h1 h2=>exact .isl0 _ _ _ _ a ca h1 h2
  | ptr id off vs ty cs hH hl _ hall ih =>
    intro v hv
    cases hv with
    | ptr _ _ b o hι =>
      obtain ⟨arr,e,hb,hlen,hh⟩:=r.obj id _ b o hH hι
      refine .ip cs off true b o (fun j=>arr[o + j]?.getD default) (fun _=>hall) (.inr ⟨id,o,⟨_,hH,rfl⟩,hι⟩) (fun j hj=>?_) fun j x hx=>?_
      · have:o + j < arr.size:=by omega
        simp [World.cell?,hb,this]
      · have hj:j < vs.length:=by rw [← hl]; exact (List.getElem?_eq_some_iff.1 hx).1
        have hlt:o + j < arr.size:=by omega
        simp only [Array.getElem?_eq_getElem hlt,Option.getD_some]
        exact ih j _ x (List.getElem?_eq_getElem hj) hx _ (hh j _ _ (List.getElem?_eq_getElem hj) (Array.getElem?_eq_getElem hlt))
  | sl id off len cap sz vs ty cs hH hfit hl _ hall ih =>
    intro v hv
    cases hv with
    | sl _ _ _ _ _ b o ca hι h2 h3 h4 h5 =>
      obtain ⟨arr,e,hb,hlen,hh⟩:=r.obj id _ b o hH hι
      have:=VR.isl (c:=c.shut H) (w:=w) cs 0 len cap true b (o + off) ca (fun j=>arr[o + off + j]?.getD default) (fun _=>hall) (.inr ⟨id,o,⟨_,hH,rfl⟩,hι⟩) h2 h3 h4 (fun j hj=>by
        have:o + off + j < arr.size:=by omega
        simp [World.cell?,hb,this]) fun j x hx=>by
        have hj:j < cs.length:=(List.getElem?_eq_some_iff.1 hx).1
        have hj2:off + j < vs.length:=by omega
        have hlt:o + off + j < arr.size:=by omega
        simp only [Array.getElem?_eq_getElem hlt,Option.getD_some]
        exact ih j _ x (List.getElem?_eq_getElem hj2) hx _ (hh (off + j) _ _ (List.getElem?_eq_getElem hj2) (by rw [← Nat.add_assoc]; exact Array.getElem?_eq_getElem hlt))
      exact this
    | sl0 _ _ _ _ b o a hι hc=>exact .isl0 _ _ _ _ _ _ (by omega) fun m hm=>(hc m hm).symm
def oneResF (S:Sg) (F:Fr) (H:Heap):ResultVar→Option AVal
  | .tmp t=>some (F t)
  | .cell a t=>match S.ty t,rowAt H (F a) with
    | some ti,some (row,off)=>getVar ti row off
    | _,_=>none
def allResF (S:Sg) (F:Fr) (H:Heap):List ResultVar→Option (List AVal)
  | []=>some []
  | r :: rs=>match oneResF S F H r,allResF S F H rs with
    | some v,some vs=>some (v :: vs)
    | _,_=>none
def resF (S:Sg) (rs:List ResultVar) (F:Fr) (H:Heap):Option AVal :=
  match allResF S F H rs with
  | some [v]=>some v
  | some vs=>some (.tup vs)
  | none=>none
def resR (n:Nat):ResultVar→Bool
  | .tmp t=>Nat.blt t n
  | .cell a _=>Nat.blt a n
def funcR (fn:Func) (code:Code):Bool:=codeR fn.ntmps code && fn.results.toList.all (resR fn.ntmps)
theorem res_tab {S:Sg} {F:Fr} {H:Heap} {fn:Func} (h:fn.results.toList.all (resR fn.ntmps)=true):denResults S fn (Tr.tab F fn.ntmps) H=resF S fn.results.toList F H:=by
  have one:∀ r,resR fn.ntmps r=true→oneRes S (Tr.tab F fn.ntmps) H r=oneResF S F H r:=by
    intro r hr
    cases r with
    | tmp t =>
      have:t < fn.ntmps:=by simpa [resR,Nat.blt_eq] using hr
      simp only [oneRes,oneResF,Tr.get_tab,if_pos this]
    | cell a t =>
      have:a < fn.ntmps:=by simpa [resR,Nat.blt_eq] using hr
      simp only [oneRes,oneResF,Tr.get_tab,if_pos this]; rfl
  have all:∀ rs:List ResultVar,rs.all (resR fn.ntmps)=true→allRes S (Tr.tab F fn.ntmps) H rs=allResF S F H rs:=by
    intro rs
    induction rs with
    | nil=>intro _; rfl
    | cons r rs ih =>
      intro hr
      simp only [List.all_cons,Bool.and_eq_true] at hr
      simp only [allRes,allResF,one r hr.1,ih hr.2]; rfl
  unfold denResults resF
  rw [all _ h]; rfl
def argF (args:List AVal):Fr:=fun t=>args.getD t .any
def DoesC (P:Program) (S:Sg) (f:FuncId) (args:List AVal) (H:Heap) (v:AVal) (H':Heap):Prop :=
  ∀ c w cargs,Rel c w H→Glob S c w→VRs c w args cargs→Serves P f cargs w fun cv w'=>∃ c',Rel c' w' H'∧Post c w H c' w' H'∧VR c' w' v cv
def ends:Ex→Prop
  | .exit _=>False
  | _=>True
theorem startF {S:Sg} {n:Nat} {c:Ctx} {w:World} {H:Heap} {args:List AVal} {cargs:Array Value} (r:Rel c w H) (hg:Glob S c w) (ha:VRs c w args cargs) (hn:args.length≤n) :
    StF S n c w (argF args) H { tmps:=cargs ++ Array.replicate (n - cargs.size) undef,defers:=[] }:=by
  refine (St.start (d:=0) r hg ha hn).stF fun t ht=>?_
  rw [argTr_get]
  split
  · rename_i h; simp [argF]
  · rename_i h
    have:args.length≤t:=by omega
    rw [Tr.get_full]
    simp [argF,List.getElem?_eq_none this]
theorem does_run {S:Sg} (hs:Sound P S) {f:FuncId} {fn:Func} {code:Code} (hf:S.fn f=some fn) (hb:fn.body=some code) (hR:funcR fn code=true) {args:List AVal} (hn:args.length≤fn.ntmps) {H H2:Heap} {v:AVal}
    (h:W P S fn.ntmps code (argF args) H (fun x F' H'=>ends x∧∃ u,resF S fn.results.toList F' H'=some u∧Wk u v∧H'=H2)):DoesC P S f args H v H2:=by
  intro c w cargs r hg ha
  unfold funcR at hR
  rw [Bool.and_eq_true] at hR
  refine .inl ⟨fun w=>hs.sg.call f (by rw [hf]; rfl) cargs w,?_⟩
  have st:=startF (n:=fn.ntmps) r hg ha hn
  refine calls_of_wp (hs.sg.fn f fn hf) hb (Good.wp (h hs hR.1 c w _ _ st fun x F1 H1 c1 w1 a1 hk st1 p1=>?_))
  obtain ⟨he,u,hu,hw,rfl⟩:=hk
  obtain ⟨cv,hr,hv⟩:=results_ok hs.sg st1.st ((res_tab hR.2).trans hu)
  have fin:bodyPost P fn (fun e w'=>∃ cv,e=.returned cv∧∃ c',Rel c' w' H1∧Post c w H c' w' H1∧VR c' w' v cv) (exOf x) a1 w1:=by
    cases x with
    | normal=>exact ⟨st1.defers,cv,hr,cv,rfl,_,st1.rel,p1,hw _ _ _ hv⟩
    | ret=>exact ⟨st1.defers,cv,hr,cv,rfl,_,st1.rel,p1,hw _ _ _ hv⟩
    | exit id=>exact he.elim
  exact fin
theorem does_pure {S:Sg} (hs:Sound P S) {f:FuncId} {fn:Func} {code:Code} (hf:S.fn f=some fn) (hb:fn.body=some code) (hR:funcR fn code=true) {args:List AVal} (hn:args.length≤fn.ntmps) (hcl:args.all AVal.closed=true) {H:Heap} {v:AVal} (hv2:v.closed=true)
    (h:W P S fn.ntmps code (argF args) [] (fun x F' H'=>ends x∧∃ u,resF S fn.results.toList F' H'=some u∧Seals H' u v)):DoesC P S f args H v H:=by
  intro c w cargs r hg ha
  unfold funcR at hR
  rw [Bool.and_eq_true] at hR
  refine .inl ⟨fun w=>hs.sg.call f (by rw [hf]; rfl) cargs w,?_⟩
  have r0:Rel ⟨fun _=>none,c.F⟩ w []:=⟨fun id o b off h=>(by simp at h),fun i j b o1 o2 ⟨o,ho,_⟩=>(by simp at ho),fun id b off h=>(by cases h),fun id b off ⟨o,ho,_⟩=>(by simp at ho),r.fr⟩
  have g0:Glob S ⟨fun _=>none,c.F⟩ w:=fun g=>by
    refine ⟨?_,(hg g).2⟩
    rcases hs.glob g with h | h
    · exact (hg g).1.shut h _
    · rw [h]; exact .any _
  have a0:VRs ⟨fun _=>none,c.F⟩ w args cargs:=⟨ha.1,fun j x y hx hy=>(ha.2 j x y hx hy).shut (List.all_eq_true.1 hcl x (List.mem_of_getElem? hx)) _⟩
  have st:=startF (n:=fn.ntmps) r0 g0 a0 hn
  refine calls_of_wp (hs.sg.fn f fn hf) hb (Good.wp (h hs hR.1 _ w _ _ st fun x F1 H1 c1 w1 a1 hk st1 p1=>?_))
  obtain ⟨he,u,hu,hsl⟩:=hk
  obtain ⟨cv,hr,hv⟩:=results_ok hs.sg st1.st ((res_tab hR.2).trans hu)
  have hv':=(hsl.ok st1.rel _ hv).shut hv2 c.ι
  obtain ⟨rr,pp⟩:=pure_post r st1.rel p1
  have fin:bodyPost P fn (fun e w'=>∃ cv,e=.returned cv∧∃ c',Rel c' w' H∧Post c w H c' w' H∧VR c' w' v cv) (exOf x) a1 w1:=by
    cases x with
    | normal=>exact ⟨st1.defers,cv,hr,cv,rfl,_,rr,pp,hv'⟩
    | ret=>exact ⟨st1.defers,cv,hr,cv,rfl,_,rr,pp,hv'⟩
    | exit id=>exact he.elim
  exact fin
theorem DoesC.pure {S:Sg} (hglob:∀ g,(S.glob g).closed=true∨S.glob g=.any) {f:FuncId} {args:List AVal} (hcl:args.all AVal.closed=true) {v:AVal} (hv2:v.closed=true) {H':Heap} (h:DoesC P S f args [] v H') (H:Heap):DoesC P S f args H v H:=by
  intro c w cargs r hg ha
  have r0:Rel ⟨fun _=>none,c.F⟩ w []:=⟨fun id o b off h=>(by simp at h),fun i j b o1 o2 ⟨o,ho,_⟩=>(by simp at ho),fun id b off h=>(by cases h),fun id b off ⟨o,ho,_⟩=>(by simp at ho),r.fr⟩
  have g0:Glob S ⟨fun _=>none,c.F⟩ w:=fun g=>by
    refine ⟨?_,(hg g).2⟩
    rcases hglob g with h | h
    · exact (hg g).1.shut h _
    · rw [h]; exact .any _
  have a0:VRs ⟨fun _=>none,c.F⟩ w args cargs:=⟨ha.1,fun j x y hx hy=>(ha.2 j x y hx hy).shut (List.all_eq_true.1 hcl x (List.mem_of_getElem? hx)) _⟩
  have fin:∀ (w':World) (cv:Value),(∃ c',Rel c' w' H'∧Post ⟨fun _=>none,c.F⟩ w [] c' w' H'∧VR c' w' v cv)→∃ c',Rel c' w' H∧Post c w H c' w' H∧VR c' w' v cv:=by
    rintro w' cv ⟨c1,r1,p1,hv⟩
    obtain ⟨rr,pp⟩:=pure_post r r1 p1
    exact ⟨_,rr,pp,(hv.mono (c1.shut_le w' H')).shut hv2 c.ι⟩
  rcases h _ w cargs r0 g0 a0 with ⟨h1,h2⟩ | ⟨cv,w',h1,h2⟩
  · exact .inl ⟨h1,h2.mono fun e w' ⟨cv,he,hh⟩=>⟨cv,he,fin w' cv hh⟩⟩
  · exact .inr ⟨cv,w',h1,fin w' cv h2⟩
theorem Glob.of {S S':Sg} (h:S'.glob=S.glob) (hp:S'.pin=S.pin) {c:Ctx} {w:World} (g:Glob S' c w):Glob S c w:=fun i=>⟨by rw [← h]; exact (g i).1,fun v hv=>(g i).2 v (by rw [hp]; exact hv)⟩
theorem DoesC.glob {S S':Sg} (h:S'.glob=S.glob) (hp:S'.pin=S.pin) {f:FuncId} {args:List AVal} {H H':Heap} {v:AVal} (d:DoesC P S f args H v H'):DoesC P S' f args H v H' :=
  fun c w cargs r hg ha=>d c w cargs r (hg.of h hp) ha
end Go.AM
namespace Go.AM
variable {P:Program}
structure Ent where
  f:FuncId
  x:Ext
  q:Bool
  hq:q=true→∀ args H v H',x args H=some (v,H')→H'=H
def extOf:List Ent→FuncId→Option Ext
  | [],_=>none
  | t :: l,f=>bif Nat.beq f t.f then some t.x else extOf l f
def quietOf:List Ent→FuncId→Bool
  | [],_=>false
  | t :: l,f=>bif Nat.beq f t.f then t.q else quietOf l f
def AllE (P:Program) (S:Sg):List Ent→Prop
  | []=>True
  | t :: l=>ExtAt P S t.f t.x∧AllE P S l
theorem extOf_ok {S:Sg}:∀ {l:List Ent},AllE P S l→∀ f x,extOf l f=some x→ExtAt P S f x
  | [],_,f,x,h=>by cases h
  | t :: l,ha,f,x,h=>by
    unfold extOf at h
    cases hb:Nat.beq f t.f with
    | true =>
      rw [hb] at h
      cases h
      rw [Nat.eq_of_beq_eq_true hb]
      exact ha.1
    | false =>
      rw [hb] at h
      exact extOf_ok ha.2 f x h
theorem quietOf_ok:∀ {l:List Ent} (f:FuncId),quietOf l f=true→∀ x,extOf l f=some x→∀ args H v H',x args H=some (v,H')→H'=H
  | [],f,h,_,_=>by cases h
  | t :: l,f,h,x,hx=>by
    unfold quietOf at h
    unfold extOf at hx
    cases hb:Nat.beq f t.f with
    | true =>
      rw [hb] at h hx
      cases hx
      exact t.hq h
    | false =>
      rw [hb] at h hx
      exact quietOf_ok f h x hx
theorem AllE.of {S S':Sg} (hg:S'.glob=S.glob) (hp:S'.pin=S.pin):∀ {l:List Ent},AllE P S l→AllE P S' l
  | [],_=>trivial
  | t :: l,h=>⟨fun args H v H' hx c w cargs r hgl ha=>h.1 args H v H' hx c w cargs r (hgl.of hg hp) ha,AllE.of hg hp h.2⟩
def mkS (P:Program) (ty:TypeId→Option TI) (mutT:TypeId→Bool) (glob:Nat→AVal) (pin:Nat→Option Value) (pure:FuncId→Bool) (eager:Bool) (l:List Ent):Sg :=
  { ty:=ty,fn:=fnOf P,ext:=extOf l,pure:=pure,quiet:=quietOf l,mutT:=mutT,eqT:=eqTOf P,meth:=methOf P,glob:=glob,pin:=pin,eager:=eager }
theorem mkS_sound {ty:TypeId→Option TI} {mutT:TypeId→Bool} {glob:Nat→AVal} {pin:Nat→Option Value} {pure:FuncId→Bool} {eager:Bool} {l:List Ent} (hm:P.follows .mixedOrders=true) (hty:∀ t i,ty t=some i→tiOf P t=some i)
    (hl:AllE P (mkS P ty mutT glob pin pure eager l) l) (hg:∀ g,(glob g).closed=true∨glob g=.any):Sound P (mkS P ty mutT glob pin pure eager l) :=
  ⟨⟨fun t i h=>tiOf_ok (hty t i h),fun f fn h=>(fnOf_ok h).1,fun f h args w=>by
    have h':(fnOf P f).isSome=true:=h
    cases hf:fnOf P f with
    | none=>rw [hf] at h'; cases h'
    | some fn=>exact (fnOf_ok hf).2 args w,hm,fun t ks h=>eqTOf_ok h,fun t m g h=>methOf_ok h⟩,
   fun f x h=>extOf_ok hl f x h,fun f h x hx=>quietOf_ok f h x hx,hg⟩
def tyOf:List (Nat×TI)→TypeId→Option TI
  | [],_=>none
  | (t,i) :: l,u=>bif Nat.beq u t then some i else tyOf l u
def AllT (P:Program):List (Nat×TI)→Prop
  | []=>True
  | (t,i) :: l=>tiOf P t=some i∧AllT P l
theorem tyOf_ok:∀ {l:List (Nat×TI)},AllT P l→∀ t i,tyOf l t=some i→tiOf P t=some i
  | [],_,t,i,h=>by cases h
  | (u,j) :: l,ha,t,i,h=>by
    unfold tyOf at h
    cases hb:Nat.beq t u with
    | true=>rw [hb] at h; cases h; rw [Nat.eq_of_beq_eq_true hb]; exact ha.1
    | false=>rw [hb] at h; exact tyOf_ok ha.2 t i h
def sfsOf (P:Program) (t:TypeId):Array Field:=match P.underlying t with
  | some (.struct fs)=>fs
  | _=>#[]
def imsOf (P:Program) (t:TypeId):Array (String×TypeId):=match P.underlying t with
  | some (.interface ms)=>ms
  | _=>#[]
def odsOf (P:Program) (t:TypeId):TypeDesc:=(P.underlying t).getD .invalid
def msOf (P:Program) (t:TypeId):Array Method:=match P.info? t with
  | some i=>i.methods
  | none=>#[]
end Go.AM
namespace Go.AM
variable {P:Program} {S:Sg} {n:Nat} {draw:Bool} {ops:Array Oper} {o:Oper} {rest:List Oper} {i:Nat} {F:Fr} {H H1:Heap} {K:Fr→Heap→Prop}
theorem W.heq {code:Code} {H':Heap} {K:Ex→Fr→Heap→Prop} (h:H=H') (k:W P S n code F H' K):W P S n code F H K:=by subst h; exact k
theorem WO.heq {H':Heap} (h:H=H') (k:WO P S n draw ops rest i F H' K):WO P S n draw ops rest i F H K:=by subst h; exact k
theorem WO.as {v v':AVal} (hop:denG S (callS S) draw (opdF S F) H o.op=some (v,H1)) (hw:wantedF ops F o=some true) (hv:v=v') (next:WO P S n draw ops rest (i + 1) (putF F o.dst v') H1 K):WO P S n draw ops (o :: rest) i F H K:=by
  subst hv; exact WO.op hop hw next
theorem WO.less {v:AVal} (v':AVal) (hop:denG S (callS S) draw (opdF S F) H o.op=some (v,H1)) (hw:wantedF ops F o=some true) (hv:Wk v v') (next:WO P S n draw ops rest (i + 1) (putF F o.dst v') H1 K):WO P S n draw ops (o :: rest) i F H K:=by
  intro hs hR hr c w a Q st hq
  have ho:ops[i]?=some o:=by
    have:(ops.toList.drop i)[0]?=some o:=by rw [← hr]; rfl
    rw [List.getElem?_drop,Nat.add_zero,Array.getElem?_toList] at this
    exact this
  have hoR:operR n o=true:=by
    have:=hR
    unfold opsR at this
    rw [List.all_eq_true] at this
    exact this o (List.mem_of_getElem? (by rw [Array.getElem?_toList]; exact ho))
  have hr':rest=ops.toList.drop (i + 1):=by
    have:=congrArg List.tail hr
    simpa [List.tail_drop] using this
  simp only [List.length_cons,List.range'_succ,wpOps,ho]
  rw [wanted_ok st.st.env ((wanted_tab hR).trans hw)]
  simp only [if_true]
  refine .inl (denOp_ok hs.sg hs.call ((denG_tab hoR).trans hop) st.st.env st.glob st.rel fun cv c1 w1 r1 p1 hvv=>?_)
  exact next hs hR hr' c1 w1 _ Q ((st.later r1 p1).put (operR_dst hoR) (hv _ _ _ hvv)) fun F' H' c' w' a' hk st' p'=>hq F' H' c' w' a' hk st' (p1.trans st.rel p')
def callOf (S:Sg) (g:Operand→AVal) (op:Op):Option (FuncId×List AVal) :=
  match op with
  | .call c=>match c.callee with
    | .value f=>match g f with
      | .fn k first cap=>some (k,first ++ c.args.toList.map g ++ cap)
      | _=>none
    | .invoke r m=>match g r with
      | .iface t v=>match S.meth t m with
        | some k=>some (k,v :: c.args.toList.map g)
        | none=>none
      | _=>none
    | .builtin _=>none
  | _=>none
theorem denG_call {call:Calling} {d:Bool} {g:Operand→AVal} {op:Op} {f:FuncId} {args:List AVal} (h:callOf S g op=some (f,args)):denG S call d g H op=call f args H:=by
  unfold callOf at h
  split at h
  · rename_i c
    simp only [denG]
    split at h
    · rename_i fo hc
      try rw [hc]
      try simp only
      split at h
      · rename_i k first cap hk
        cases h
        first | rw [hk] | rfl
      · cases h
    · rename_i r m hc
      try rw [hc]
      try simp only
      split at h
      · rename_i t v hk
        try rw [hk]
        try simp only
        split at h
        · rename_i k hm
          cases h
          first | rw [hm] | rfl
        · cases h
      · cases h
    · cases h
  · cases h
theorem WO.call {f:FuncId} {args:List AVal} {v:AVal} (hc:callOf S (opdF S F) o.op=some (f,args)) (hd:DoesC P S f args H v H1) (hw:wantedF ops F o=some true) (next:WO P S n draw ops rest (i + 1) (putF F o.dst v) H1 K):WO P S n draw ops (o :: rest) i F H K:=by
  intro hs hR hr c w a Q st hq
  have ho:ops[i]?=some o:=by
    have:(ops.toList.drop i)[0]?=some o:=by rw [← hr]; rfl
    rw [List.getElem?_drop,Nat.add_zero,Array.getElem?_toList] at this
    exact this
  have hoR:operR n o=true:=by
    have:=hR
    unfold opsR at this
    rw [List.all_eq_true] at this
    exact this o (List.mem_of_getElem? (by rw [Array.getElem?_toList]; exact ho))
  have hr':rest=ops.toList.drop (i + 1):=by
    have:=congrArg List.tail hr
    simpa [List.tail_drop] using this
  simp only [List.length_cons,List.range'_succ,wpOps,ho]
  rw [wanted_ok st.st.env ((wanted_tab hR).trans hw)]
  simp only [if_true]
  classical
  let one:Calling:=fun f' args' H'=>if f'=f∧args'=args∧H'=H then some (v,H1) else none
  have hone:CallOK P S one:=by
    intro f' args' H' v' H1' h c w cargs r hg ha
    simp only [one] at h
    split at h
    · rename_i hh
      obtain ⟨rfl,rfl,rfl⟩:=hh
      cases h
      exact hd c w cargs r hg ha
    · cases h
  have hop:denG S one draw (opdF S F) H o.op=some (v,H1):=by rw [denG_call hc]; simp [one]
  have htab:denOp S one draw (Tr.tab F n) H o.op=some (v,H1):=by
    rw [denOp_G]
    rw [← hop]
    refine denG_congr fun x hx=>opd_tab ?_
    unfold operR at hoR
    rw [Bool.and_eq_true,List.all_eq_true] at hoR
    exact hoR.1 x (by simpa using hx)
  refine .inl (denOp_ok hs.sg hone htab st.st.env st.glob st.rel fun cv c1 w1 r1 p1 hvv=>?_)
  exact next hs hR hr' c1 w1 _ Q ((st.later r1 p1).put (operR_dst hoR) hvv) fun F' H' c' w' a' hk st' p'=>hq F' H' c' w' a' hk st' (p1.trans st.rel p')
theorem DoesC.of_ext {f:FuncId} {x:Ext} (h:ExtAt P S f x) {args:List AVal} {H H':Heap} {v:AVal} (hx:x args H=some (v,H')):DoesC P S f args H v H' :=
  fun c w cargs r hg ha=>h args H v H' hx c w cargs r hg ha
theorem DoesC.wk {f:FuncId} {args:List AVal} {H H':Heap} {v v':AVal} (h:DoesC P S f args H v H') (hw:Wk v v'):DoesC P S f args H v' H' :=
  fun c w cargs r hg ha=>by
    rcases h c w cargs r hg ha with ⟨h1,h2⟩ | ⟨cv,w',h1,c',r',p',hv⟩
    · exact .inl ⟨h1,h2.mono fun e w' ⟨cv,he,c',r',p',hv⟩=>⟨cv,he,c',r',p',hw _ _ _ hv⟩⟩
    · exact .inr ⟨cv,w',h1,c',r',p',hw _ _ _ hv⟩
section
variable {call:Calling} {d:Bool} {g:Operand→AVal} {x y:Operand} {t e:TypeId} {ti te:TI}
theorem G.idx_isl {cells:List AVal} {off len:Nat} {cap:Option Nat} {cl:Bool} {k:IntKind} {j:Int} (hx:g x=.isl cells off len cap cl) (hj:g y=.int k j) (ht:S.ty t=some ti) (hd:ti.desc=.slice e) (he:S.ty e=some te) (h0:0≤j) (h1:j < len) :
    denG S call d g H (.indexAddr t x y)=some (.ip cells (off + j.toNat * te.size) cl,H):=by
  have hc:0≤j∧j < (len:Int):=⟨h0,h1⟩
  obtain ⟨d1,d2,d3,d4,d5,d6,d7,d8⟩:=ti
  simp only at hd
  subst hd
  simp only [denG,hj,elemAddr,ht,he,hx]
  rw [if_pos hc,fNat_eq]
  rfl
theorem G.idx_sl {id off len:Nat} {cap:Option Nat} {sz:Nat} {k:IntKind} {j:Int} (hx:g x=.sl id off len cap sz) (hj:g y=.int k j) (ht:S.ty t=some ti) (hd:ti.desc=.slice e) (he:S.ty e=some te) (hs:te.size=sz) (h0:0≤j) (h1:j < len) :
    denG S call d g H (.indexAddr t x y)=some (.ptr id (off + j.toNat * sz),H):=by
  have hc:te.size=sz∧0≤j∧j < (len:Int):=⟨hs,h0,h1⟩
  obtain ⟨d1,d2,d3,d4,d5,d6,d7,d8⟩:=ti
  simp only at hd
  subst hd
  simp only [denG,hj,elemAddr,ht,he,hx]
  rw [if_pos hc,fNat_eq]
  rfl
theorem G.load_ip {cells:List AVal} {off:Nat} {cl:Bool} {v:AVal} (hx:g x=.ip cells off cl) (ht:S.ty t=some ti) (ha:ti.agg=false) (hc:cells[off]?=some v):denG S call d g H (.load t x)=some (v,H):=by
  simp only [denG,ht,hx,rowAt,getVar,ha,Bool.false_eq_true,if_false,hc]
  rfl
theorem G.load_ptr {id off:Nat} {vs:List AVal} {ty:TypeId} {v:AVal} (hx:g x=.ptr id off) (ht:S.ty t=some ti) (ha:ti.agg=false) (hi:H[id]?=some (.cells vs ty)) (hc:vs[off]?=some v):denG S call d g H (.load t x)=some (v,H):=by
  simp only [denG,ht,hx,rowAt,hi,getVar,ha,Bool.false_eq_true,if_false,hc]
  rfl
theorem setRange_one (vs:List AVal) (off:Nat) (v:AVal) (h:off < vs.length):setRange vs off [v]=vs.set off v:=by
  apply List.ext_getElem?
  intro j
  rw [setRange_get vs off [v] (by simp; omega) j,List.getElem?_set]
  simp only [List.length_singleton]
  by_cases hj:j=off
  · subst hj
    simp [h]
  · have h1:¬ (off≤j∧j < off + 1):=by omega
    have h2:¬ off=j:=fun e=>hj e.symm
    rw [if_neg h1,if_neg h2]
theorem G.store_ptr {id off:Nat} {vs:List AVal} {ty:TypeId} {v:AVal} (hx:g x=.ptr id off) (hy:g y=v) (hv:v.cell=true) (ht:S.ty t=some ti) (hs:ti.size=1) (hi:H[id]?=some (.cells vs ty)) (ho:off < vs.length) :
    denG S call d g H (.store t x y)=some (undefA,H.set id (.cells (vs.set off v) ty)):=by
  have hc:cellsOf v=some [v]:=by cases v <;> first | rfl | (simp [AVal.cell] at hv)
  simp only [denG,ht,hx,hy,hc,hi]
  rw [if_pos ⟨by simp [hs],by omega,by simp [hv]⟩,setRange_one vs off v ho]
theorem flatten_one (n:Nat) (z:AVal):(List.replicate n [z]).flatten=List.replicate n z:=by
  induction n with
  | zero=>rfl
  | succ n ih=>simp [List.replicate_succ,ih]
theorem G.make {k k':IntKind} {l c:Nat} {z:AVal} (hx:g x=.int k l) (hy:g y=.int k' c) (ht:S.ty t=some ti) (hd:ti.desc=.slice e) (he:S.ty e=some te) (hz:te.zero=[z]) (h1:l≤c) (h2:c * te.bytes≤140737488355328) (h3:c≤4611686018427387904) :
    denG S call d g H (.makeSlice t x y)=some (.sl H.length 0 l (some c) te.size,H ++ [.cells (List.replicate c z) e]):=by
  simp only [denG,denMakeSlice,ht,hx,hy]
  obtain ⟨d1,d2,d3,d4,d5,d6,d7,d8⟩:=ti
  simp only at hd
  subst hd
  simp only [he]
  have hb:(c:Int) * te.bytes≤140737488355328:=by
    have h4:((c * te.bytes:Nat):Int)≤140737488355328:=by omega
    rwa [Int.natCast_mul] at h4
  rw [if_pos ⟨by omega,by omega,hb,by omega⟩]
  simp only [Int.toNat_natCast,hz,flatten_one]
theorem bound_ok' {k:IntKind} {m most:Nat} (h:m≤most):bound (.int k (m:Int)) most=some m:=by
  show (if 0≤(m:Int)∧(m:Int)≤most then some (m:Int).toNat else none)=some m
  rw [if_pos ⟨by omega,by omega⟩,Int.toNat_natCast]
theorem G.slice_sl {id off len:Nat} {cap:Option Nat} {sz:Nat} {lo hi:Option Operand} {l h:Nat} (hx:g x=.sl id off len cap sz) (ht:S.ty t=some ti) (hd:ti.desc=.slice e) (he:S.ty e=some te) (hs:te.size=sz)
    (hlo:match lo with | none=>l=0 | some a=>∃ k,g a=.int k l) (hhi:match hi with | none=>h=len | some a=>∃ k,g a=.int k h) (hlh:l≤h) (hh:h≤cap.getD len) (hl:len≤cap.getD len) :
    denG S call d g H (.slice t x lo hi none)=some (.sl id (off + l * sz) (h - l) (cap.map (· - l)) sz,H):=by
  obtain ⟨d1,d2,d3,d4,d5,d6,d7,d8⟩:=ti
  simp only at hd
  subst hd
  have hb:bounds len (cap.getD len) (lo.map g) (hi.map g)=some (l,h):=by
    unfold bounds
    cases hi with
    | none =>
      simp only at hhi
      subst hhi
      cases lo with
      | none=>simp only at hlo; subst hlo; simp [fNat_eq]
      | some a=>obtain ⟨k,hk⟩:=hlo; simp [hk,bound_ok' hlh,fNat_eq]
    | some b =>
      obtain ⟨k',hk'⟩:=hhi
      cases lo with
      | none=>simp only at hlo; subst hlo; simp [hk',bound_ok' hh,fNat_eq]
      | some a=>obtain ⟨k,hk⟩:=hlo; simp [hk,hk',bound_ok' hlh,bound_ok' hh,fNat_eq]
  simp only [denG,denSlice,ht,hx,he,hs,if_true,Option.map_none]
  rw [hb]
  rfl
theorem G.slice_isl {cells:List AVal} {off len:Nat} {cap:Option Nat} {cl:Bool} {lo hi:Option Operand} {l h:Nat} (hx:g x=.isl cells off len cap cl) (ht:S.ty t=some ti) (hd:ti.desc=.slice e) (he:S.ty e=some te)
    (hlo:match lo with | none=>l=0 | some a=>∃ k,g a=.int k l) (hhi:match hi with | none=>h=len | some a=>∃ k,g a=.int k h) (hlh:l≤h) (hh:h≤len) :
    denG S call d g H (.slice t x lo hi none)=some (.isl cells (off + l * te.size) (h - l) (cap.map (· - l)) cl,H):=by
  obtain ⟨d1,d2,d3,d4,d5,d6,d7,d8⟩:=ti
  simp only at hd
  subst hd
  have hb:bounds len len (lo.map g) (hi.map g)=some (l,h):=by
    unfold bounds
    cases hi with
    | none =>
      simp only at hhi
      subst hhi
      cases lo with
      | none=>simp only at hlo; subst hlo; simp [fNat_eq]
      | some a=>obtain ⟨k,hk⟩:=hlo; simp [hk,bound_ok' hlh,fNat_eq]
    | some b =>
      obtain ⟨k',hk'⟩:=hhi
      cases lo with
      | none=>simp only at hlo; subst hlo; simp [hk',bound_ok' hh,fNat_eq]
      | some a=>obtain ⟨k,hk⟩:=hlo; simp [hk,hk',bound_ok' hlh,bound_ok' hh,fNat_eq]
  simp only [denG,denSlice,ht,hx,he,Option.map_none]
  rw [hb]
  rfl
theorem G.slice_str {s:List UInt8} {lo hi:Option Operand} {l h:Nat} (hx:g x=.str s) (ht:S.ty t=some ti) (hd:ti.desc=.string)
    (hlo:match lo with | none=>l=0 | some a=>∃ k,g a=.int k l) (hhi:match hi with | none=>h=s.length | some a=>∃ k,g a=.int k h) (hlh:l≤h) (hh:h≤s.length) :
    denG S call d g H (.slice t x lo hi none)=some (.str ((s.drop l).take (h - l)),H):=by
  obtain ⟨d1,d2,d3,d4,d5,d6,d7,d8⟩:=ti
  simp only at hd
  subst hd
  have hb:bounds s.length s.length (lo.map g) (hi.map g)=some (l,h):=by
    unfold bounds
    cases hi with
    | none =>
      simp only at hhi
      subst hhi
      cases lo with
      | none=>simp only at hlo; subst hlo; simp [fNat_eq]
      | some a=>obtain ⟨k,hk⟩:=hlo; simp [hk,bound_ok' hlh,fNat_eq]
    | some b =>
      obtain ⟨k',hk'⟩:=hhi
      cases lo with
      | none=>simp only at hlo; subst hlo; simp [hk',bound_ok' hh,fNat_eq]
      | some a=>obtain ⟨k,hk⟩:=hlo; simp [hk,hk',bound_ok' hlh,bound_ok' hh,fNat_eq]
  simp only [denG,denSlice,ht,hx,Option.map_none]
  rw [hb]
  rfl
theorem G.index_str {s:List UInt8} {k:IntKind} {j:Nat} {b:UInt8} (hx:g x=.str s) (hj:g y=.int k (j:Int)) (ht:S.ty t=some ti) (hd:ti.desc=.string) (hb:s[j]?=some b):denG S call d g H (.index t x y)=some (.int .u8 (b.toNat:Int),H):=by
  obtain ⟨d1,d2,d3,d4,d5,d6,d7,d8⟩:=ti
  simp only at hd
  subst hd
  simp only [denG,hj,denIndex,ht,hx]
  rw [if_pos (by omega)]
  simp only [Int.toNat_natCast,hb,fNat_eq]
  rfl
end
theorem wrap_i64 {x:Int} (h:-9223372036854775808≤x∧x < 9223372036854775808):wrapI .i64 x=x:=by unfold wrapI; simp only; split <;> omega
theorem wrap_u64 {x:Int} (h:0≤x∧x < 18446744073709551616):wrapI .u64 x=x:=by unfold wrapI; simp only; omega
theorem int_i64 {x y:Int} (h:-9223372036854775808≤x∧x < 9223372036854775808) (e:x=y):AVal.int .i64 (wrapI .i64 x)=.int .i64 y:=by rw [wrap_i64 h,e]
theorem int_u64 {x y:Int} (h:0≤x∧x < 18446744073709551616) (e:x=y):AVal.int .u64 (wrapI .u64 x)=.int .u64 y:=by rw [wrap_u64 h,e]
theorem int_eq {k:IntKind} {x y:Int} (e:x=y):AVal.int k x=.int k y:=by rw [e]
def u64s (l:List Nat):List AVal:=l.map fun (x:Nat)=>.int .u64 (x:Int)
theorem u64s_len (l:List Nat):(u64s l).length=l.length:=by simp [u64s]
theorem u64s_get {l:List Nat} {j x:Nat} (h:l[j]?=some x):(u64s l)[j]?=some (.int .u64 (x:Int)):=by simp [u64s,h]
theorem u64s_set (l:List Nat) (j x:Nat):(u64s l).set j (.int .u64 (x:Int))=u64s (l.set j x):=by simp [u64s,List.map_set]
theorem u64s_replicate (n x:Nat):List.replicate n (AVal.int .u64 (x:Int))=u64s (List.replicate n x):=by simp [u64s]
theorem u64s_append (l r:List Nat):u64s (l ++ r)=u64s l ++ u64s r:=by simp [u64s]
theorem u64s_take (l:List Nat) (n:Nat):(u64s l).take n=u64s (l.take n):=by simp [u64s,List.map_take]
theorem u64s_drop (l:List Nat) (n:Nat):(u64s l).drop n=u64s (l.drop n):=by simp [u64s,List.map_drop]
theorem u64s_closed (l:List Nat):∀ a∈u64s l,a.closed1=true:=by
  intro a h
  simp only [u64s,List.mem_map] at h
  obtain ⟨x,_,rfl⟩:=h
  rfl
end Go.AM
namespace Go.AM
abbrev B64:Nat:=18446744073709551616
def limsF:Nat→Nat→List Nat
  | 0,_=>[]
  | f + 1,n=>match n with
    | 0=>[]
    | m + 1=>((m + 1) % 18446744073709551616) :: limsF f ((m + 1) / 18446744073709551616)
def lims (n:Nat):List Nat:=limsF (n.log2 / 64 + 1) n
theorem limbsF_lims:∀ (f n:Nat),limbsF f n=u64s (limsF f n)
  | 0,_=>rfl
  | f + 1,0=>rfl
  | f + 1,m + 1=>by
    simp only [limbsF,limsF]
    rw [limbsF_lims f]
    rfl
theorem limbs_lims (n:Nat):limbs n=u64s (lims n):=limbsF_lims _ _
def val:List Nat→Nat
  | []=>0
  | d :: l=>d + B64 * val l
theorem val_limsF:∀ (f n:Nat),n < B64 ^ f→val (limsF f n)=n
  | 0,n,h=>by simp at h; subst h; rfl
  | f + 1,0,_=>rfl
  | f + 1,m + 1,h=>by
    simp only [limsF,val]
    rw [val_limsF f]
    · exact Nat.mod_add_div _ _
    · rw [Nat.pow_succ] at h
      exact Nat.div_lt_of_lt_mul (by rw [Nat.mul_comm]; exact h)
theorem log_bound (n:Nat):n < B64 ^ (n.log2 / 64 + 1):=by
  have h1:n < 2 ^ (n.log2 + 1):=Nat.lt_log2_self
  have h2:B64 ^ (n.log2 / 64 + 1)=2 ^ (64 * (n.log2 / 64 + 1)):=by rw [Nat.pow_mul]
  rw [h2]
  exact Nat.lt_of_lt_of_le h1 (Nat.pow_le_pow_right (by omega) (by omega))
theorem val_lims (n:Nat):val (lims n)=n:=val_limsF _ _ (log_bound n)
def Dig (l:List Nat):Prop:=∀ d∈l,d < B64
theorem Dig.cons {d:Nat} {l:List Nat} (h:Dig (d :: l)):d < B64∧Dig l:=⟨h d (by simp),fun x hx=>h x (by simp [hx])⟩
theorem Dig.mk {d:Nat} {l:List Nat} (h:d < B64) (k:Dig l):Dig (d :: l):=fun x hx=>by
  rcases List.mem_cons.1 hx with rfl | hx
  · exact h
  · exact k x hx
theorem Dig.nil:Dig []:=fun x hx=>by simp at hx
theorem Dig.take {l:List Nat} (h:Dig l) (k:Nat):Dig (l.take k):=fun x hx=>h x (List.mem_of_mem_take hx)
theorem Dig.drop {l:List Nat} (h:Dig l) (k:Nat):Dig (l.drop k):=fun x hx=>h x (List.mem_of_mem_drop hx)
theorem Dig.getD {l:List Nat} (h:Dig l) (j:Nat):l.getD j 0 < B64:=by
  rw [List.getD_eq_getElem?_getD]
  cases hj:l[j]? with
  | none=>simp
  | some x=>exact h x (List.mem_of_getElem? hj)
theorem Dig.set {l:List Nat} (h:Dig l) (j:Nat) {x:Nat} (hx:x < B64):Dig (l.set j x):=fun y hy=>by
  rcases List.mem_or_eq_of_mem_set hy with h1 | rfl
  · exact h y h1
  · exact hx
theorem Dig.replicate (n:Nat) {x:Nat} (hx:x < B64):Dig (List.replicate n x):=fun y hy=>by
  rw [(List.mem_replicate.1 hy).2]; exact hx
theorem Dig.append {l r:List Nat} (h:Dig l) (k:Dig r):Dig (l ++ r):=fun x hx=>by
  rcases List.mem_append.1 hx with hx | hx
  · exact h x hx
  · exact k x hx
theorem dig_limsF:∀ (f n:Nat),Dig (limsF f n)
  | 0,_=>.nil
  | f + 1,0=>.nil
  | f + 1,m + 1=>.mk (Nat.mod_lt _ (by decide)) (dig_limsF f _)
theorem dig_lims (n:Nat):Dig (lims n):=dig_limsF _ _
theorem val_append:∀ (l r:List Nat),val (l ++ r)=val l + B64 ^ l.length * val r
  | [],r=>by simp [val]
  | d :: l,r=>by
    simp only [List.cons_append,val,List.length_cons]
    rw [val_append l r,Nat.pow_succ,Nat.mul_add]
    have:B64 * (B64 ^ l.length * val r)=B64 ^ l.length * B64 * val r:=by rw [Nat.mul_comm (B64 ^ l.length) B64,Nat.mul_assoc]
    rw [this]; omega
theorem val_lt:∀ {l:List Nat},Dig l→val l < B64 ^ l.length
  | [],_=>by simp [val]
  | d :: l,h=>by
    have h1:=h.cons.1
    have h2:=val_lt h.cons.2
    simp only [val,List.length_cons,Nat.pow_succ]
    have h3:B64 * (val l + 1)≤B64 * B64 ^ l.length:=Nat.mul_le_mul_left _ h2
    rw [Nat.mul_comm (B64 ^ l.length) B64]
    rw [Nat.mul_add,Nat.mul_one] at h3
    omega
def NoZ (l:List Nat):Prop:=∀ k,l.length=k + 1→l.getD k 0≠0
theorem noZ_tail {d:Nat} {l:List Nat} (h:NoZ (d :: l)):NoZ l:=fun k hk=>by
  have:=h (k + 1) (by simp [hk])
  simpa using this
theorem val_pos {l:List Nat} (h:NoZ l) (hl:l≠[]):val l≠0:=by
  induction l with
  | nil=>exact absurd rfl hl
  | cons d l ih =>
    cases l with
    | nil =>
      have:=h 0 rfl
      simp at this
      simp [val]; exact this
    | cons e l =>
      have:=ih (noZ_tail h) (by simp)
      simp only [val] at this ⊢
      intro h0
      have:B64 * (e + B64 * val l)=0:=by omega
      rcases Nat.mul_eq_zero.1 this with h1 | h1
      · exact absurd h1 (by decide)
      · omega
theorem val_ge {l:List Nat} (h:NoZ l) {k:Nat} (hl:l.length=k + 1):B64 ^ k≤val l:=by
  induction l generalizing k with
  | nil=>simp at hl
  | cons d l ih =>
    cases k with
    | zero =>
      have:l=[]:=by simpa using hl
      subst this
      have:=val_pos h (by simp)
      simp; omega
    | succ k =>
      have:=ih (noZ_tail h) (k:=k) (by simpa using hl)
      simp only [val,Nat.pow_succ]
      have h3:=Nat.mul_le_mul_left B64 this
      rw [Nat.mul_comm (B64 ^ k) B64]
      omega
theorem lims_unique:∀ {l r:List Nat},Dig l→Dig r→NoZ l→NoZ r→val l=val r→l=r
  | [],[],_,_,_,_,_=>rfl
  | [],d :: r,_,_,_,h,e=>absurd e.symm (val_pos h (by simp))
  | d :: l,[],_,_,h,_,e=>absurd e (val_pos h (by simp))
  | d :: l,d' :: r,h1,h2,h3,h4,e=>by
    simp only [val] at e
    have a:=h1.cons.1
    have b:=h2.cons.1
    have e1:d=d':=by
      have:=congrArg (· % B64) e
      simp only [Nat.add_mul_mod_self_left] at this
      rwa [Nat.mod_eq_of_lt a,Nat.mod_eq_of_lt b] at this
    subst e1
    have e2:val l=val r:=by
      have:B64 * val l=B64 * val r:=by omega
      exact Nat.eq_of_mul_eq_mul_left (by decide) this
    rw [lims_unique h1.cons.2 h2.cons.2 (noZ_tail h3) (noZ_tail h4) e2]
theorem noZ_limsF:∀ (f n:Nat),n < B64 ^ f→NoZ (limsF f n)
  | 0,n,_=>fun k h=>by simp [limsF] at h
  | f + 1,0,_=>fun k h=>by simp [limsF] at h
  | f + 1,m + 1,hm=>by
    have hlt:(m + 1) / B64 < B64 ^ f:=by
      rw [Nat.pow_succ] at hm
      exact Nat.div_lt_of_lt_mul (by rw [Nat.mul_comm]; exact hm)
    have ih:=noZ_limsF f ((m + 1) / B64) hlt
    intro k hk
    simp only [limsF] at hk ⊢
    cases k with
    | zero =>
      simp only [List.length_cons] at hk
      have hz:limsF f ((m + 1) / B64)=[]:=List.length_eq_zero_iff.1 (Nat.succ.inj hk)
      have hv:=val_limsF f _ hlt
      rw [hz] at hv
      simp only [val] at hv
      simp only [List.getD_cons_zero]
      have:=Nat.mod_add_div (m + 1) B64
      rw [← hv] at this
      show (m + 1) % B64≠0
      omega
    | succ k =>
      simp only [List.getD_cons_succ]
      exact ih k (by simpa using hk)
theorem noZ_lims (n:Nat):NoZ (lims n):=noZ_limsF _ _ (log_bound n)
theorem lims_of {l:List Nat} (h1:Dig l) (h2:NoZ l):lims (val l)=l :=
  lims_unique (dig_lims _) h1 (noZ_lims _) h2 (val_lims _)
def trimN (l:List Nat):Nat→Nat
  | 0=>0
  | k + 1=>if l.getD k 0=0 then trimN l k else k + 1
theorem trimN_le (l:List Nat):∀ k,trimN l k≤k
  | 0=>Nat.le_refl _
  | k + 1=>by unfold trimN; split; exact Nat.le_succ_of_le (trimN_le l k); exact Nat.le_refl _
theorem take_succ_getD {l:List Nat} {k:Nat} (h:k < l.length):l.take (k + 1)=l.take k ++ [l.getD k 0]:=by
  rw [List.take_succ_eq_append_getElem h]
  simp [h]
theorem trim_val (l:List Nat):∀ k,k≤l.length→val (l.take (trimN l k))=val (l.take k)
  | 0,_=>rfl
  | k + 1,h=>by
    unfold trimN
    split
    · rename_i h0
      rw [trim_val l k (by omega),take_succ_getD (by omega),h0,val_append]
      simp [val]
    · rfl
theorem trim_noZ (l:List Nat):∀ k,k≤l.length→NoZ (l.take (trimN l k))
  | 0,_=>fun k h=>by simp [trimN] at h
  | k + 1,h=>by
    unfold trimN
    split
    · exact trim_noZ l k (by omega)
    · rename_i h0
      intro j hj
      rw [List.length_take,Nat.min_eq_left h] at hj
      have:j=k:=by omega
      subst this
      rw [List.getD_eq_getElem?_getD,List.getElem?_take,if_pos (by omega),← List.getD_eq_getElem?_getD]
      exact h0
theorem trim_lims {l:List Nat} (h:Dig l) {k:Nat} (hk:k≤l.length):l.take (trimN l k)=lims (val (l.take k)):=by
  rw [← trim_val l k hk]
  exact (lims_of (h.take _) (trim_noZ l k hk)).symm
theorem lims_len_lt {n m:Nat} (h:(lims n).length < (lims m).length):n < m:=by
  obtain ⟨k,hk⟩:∃ k,(lims m).length=k + 1:=⟨(lims m).length - 1,by omega⟩
  have h1:=val_ge (noZ_lims m) hk
  have h2:=val_lt (dig_lims n)
  rw [val_lims] at h1 h2
  have:B64 ^ (lims n).length≤B64 ^ k:=Nat.pow_le_pow_right (by decide) (by omega)
  omega
theorem lims_zero:lims 0=[]:=rfl
theorem lims_eq_nil {n:Nat} (h:lims n=[]):n=0:=by have:=val_lims n; rw [h] at this; exact this.symm
theorem lims_len_zero {n:Nat}:(lims n).length=0↔n=0 :=
  ⟨fun h=>lims_eq_nil (List.length_eq_zero_iff.1 h),fun h=>by subst h; rfl⟩
theorem lims_small {n:Nat} (h:n < B64) (h0:n≠0):lims n=[n]:=by
  have:lims (val [n])=[n]:=lims_of (.mk h .nil) fun k hk=>by
    have:k=0:=by simpa using hk.symm
    subst this; simpa using h0
  simpa [val] using this
theorem lims_len_le {n k:Nat} (h:n < B64 ^ k):(lims n).length≤k:=by
  by_cases hk:(lims n).length≤k
  · exact hk
  · obtain ⟨j,hj⟩:∃ j,(lims n).length=j + 1:=⟨(lims n).length - 1,by omega⟩
    have h1:=val_ge (noZ_lims n) hj
    rw [val_lims] at h1
    have:B64 ^ k≤B64 ^ j:=Nat.pow_le_pow_right (by decide) (by omega)
    omega
theorem getD_some {l:List Nat} {j:Nat} (h:j < l.length):l[j]?=some (l.getD j 0):=by simp [h]
theorem idx0 (j:Nat):0 + (j:Int).toNat * 1=j:=by simp
theorem u64s_at {l:List Nat} {j:Nat} (h:j < l.length):(u64s l)[0 + (j:Int).toNat * 1]?=some (.int .u64 ((l.getD j 0:Nat):Int)):=by rw [idx0]; exact u64s_get (getD_some h)
theorem G.store_u64 {S:Sg} {call:Calling} {d:Bool} {g:Operand→AVal} {H:Heap} {a y:Operand} {t:TypeId} {ti:TI} {id j x:Nat} {l:List Nat} {ty:TypeId} (hx:g a=.ptr id (0 + (j:Int).toNat * 1)) (hy:g y=.int .u64 (x:Int)) (ht:S.ty t=some ti) (hs:ti.size=1) (hi:H[id]?=some (.cells (u64s l) ty)) (ho:j < l.length) :
    denG S call d g H (.store t a y)=some (undefA,H.set id (.cells (u64s (l.set j x)) ty)):=by
  rw [idx0] at hx
  rw [← u64s_set]
  exact G.store_ptr hx hy rfl ht hs hi (by rw [u64s_len]; exact ho)
def Fit (n:Nat):Prop:=(lims n).length≤1073741824
theorem lims_len_log {n k:Nat} (h:n.log2 < 64 * k):(lims n).length≤k:=by
  refine lims_len_le ?_
  have h1:n < 2 ^ (n.log2 + 1):=Nat.lt_log2_self
  have h2:B64 ^ k=2 ^ (64 * k):=by rw [Nat.pow_mul]
  rw [h2]
  exact Nat.lt_of_lt_of_le h1 (Nat.pow_le_pow_right (by omega) (by omega))
theorem fit_of_log {n:Nat} (h:n.log2 < 68719476736):Fit n:=lims_len_log (k:=1073741824) (by omega)
end Go.AM
namespace Go.AM
theorem bdT {p:Prop} [inst:Decidable p] (h:p):AVal.bool (decide p)=.bool true:=by rw [decide_eq_true h]
theorem bdF {p:Prop} [inst:Decidable p] (h:¬ p):AVal.bool (decide p)=.bool false:=by rw [decide_eq_false h]
theorem bdE {p q:Prop} [i1:Decidable p] [i2:Decidable q] (h:p↔q):AVal.bool (decide p)=.bool (decide q):=congrArg AVal.bool (decide_eq_decide.2 h)
theorem bnT {p:Prop} [inst:Decidable p] (h:p):AVal.bool (!decide p)=.bool false:=by rw [decide_eq_true h]; rfl
theorem bnF {p:Prop} [inst:Decidable p] (h:¬ p):AVal.bool (!decide p)=.bool true:=by rw [decide_eq_false h]; rfl
theorem Wk.ip {cells cells':List AVal} {off:Nat} {cl cl':Bool} (hl:cells'.length=cells.length) (hw:∀ (j:Nat) (a b:AVal),cells[j]?=some a→cells'[j]?=some b→Wk a b) (hc:cl'=true→∀ a∈cells',a.closed1=true):Wk (.ip cells off cl) (.ip cells' off cl'):=by
  intro c w v hv
  cases hv with
  | ip _ _ _ b o g h1 hF hcell hh =>
    refine .ip cells' off cl' b o g hc hF (fun j hj=>hcell j (by omega)) fun j x hx=>?_
    have hj:j < cells.length:=by rw [← hl]; exact (List.getElem?_eq_some_iff.1 hx).1
    exact hw j _ x (List.getElem?_eq_getElem hj) hx _ _ _ (hh j _ (List.getElem?_eq_getElem hj))
theorem Wk.ip1 {a b:AVal} {off:Nat} {cl cl':Bool} (h:Wk a b) (hc:cl'=true→b.closed1=true):Wk (.ip [a] off cl) (.ip [b] off cl') :=
  Wk.ip rfl (fun j x y hx hy=>by
    cases j with
    | zero=>cases hx; cases hy; exact h
    | succ j=>simp at hx) (fun h' x hx=>by cases List.mem_singleton.1 hx; exact hc h')
theorem Wk.isl_cap {cells:List AVal} {off len:Nat} {cap:Option Nat} {cl:Bool}:Wk (.isl cells off len cap cl) (.isl cells off len none cl):=by
  intro c w v hv
  cases hv with
  | isl _ _ _ _ _ b o ca g h1 hF h2 h3 h4 hc hh=>exact .isl cells off len none cl b o ca g h1 hF h2 h3 (fun n hn=>by cases hn) hc hh
  | isl0 _ _ _ _ a ca h h'=>exact .isl0 _ _ _ _ a ca h (fun n hn=>by cases hn)
theorem Wk.isl_sub {cells:List AVal} {off len n:Nat} {cap:Option Nat} {cl:Bool}:Wk (.isl cells off len cap cl) (.isl ((cells.drop off).take n) 0 len cap cl):=by
  intro c w v hv
  have get:∀ (j:Nat) (a:AVal),((cells.drop off).take n)[j]?=some a→cells[off + j]?=some a:=by
    intro j a h
    rw [List.getElem?_take] at h
    split at h
    · rwa [List.getElem?_drop] at h
    · cases h
  cases hv with
  | isl _ _ _ _ _ b o ca g h1 hF h2 h3 h4 hc hh =>
    have:=VR.isl (c:=c) (w:=w) ((cells.drop off).take n) 0 len cap cl b (o + off) ca (fun j=>g (off + j)) (fun hcl a ha=>by
        obtain ⟨j,hj,hja⟩:=List.getElem_of_mem ha
        exact h1 hcl a (List.mem_of_getElem? (get j a (by rw [List.getElem?_eq_getElem hj,hja])))) hF h2 h3 h4
      (fun j hj=>by
        have hj2:off + j < cells.length:=by simp at hj; omega
        have:=hc (off + j) hj2
        rw [← Nat.add_assoc] at this
        exact this) (fun j a ha=>hh (off + j) a (get j a ha))
    exact this
  | isl0 _ _ _ _ a ca h h'=>exact .isl0 _ _ _ _ a ca h h'
theorem Wk.isl_eq {cells cells':List AVal} {off len len':Nat} {cap:Option Nat} {cl:Bool} (h:cells=cells') (hl:len=len'):Wk (.isl cells off len cap cl) (.isl cells' off len' cap cl):=by subst h; subst hl; exact Wk.refl _
theorem Wk.iface {t:TypeId} {a b:AVal} (h:Wk a b):Wk (.iface t a) (.iface t b):=by
  intro c w v hv
  cases hv with
  | iface _ _ u hu=>exact .iface t b u (h _ _ _ hu)
theorem Wk.tup {as bs:List AVal} (hl:bs.length=as.length) (hw:∀ (j:Nat) (a b:AVal),as[j]?=some a→bs[j]?=some b→Wk a b):Wk (.tup as) (.tup bs):=by
  intro c w v hv
  cases hv with
  | tup _ vs hs hh =>
    refine .tup bs vs (by omega) fun j x u hx hu=>?_
    have hj:j < as.length:=by rw [← hl]; exact (List.getElem?_eq_some_iff.1 hx).1
    exact hw j _ x (List.getElem?_eq_getElem hj) hx _ _ _ (hh j _ u (List.getElem?_eq_getElem hj) hu)
theorem Wk.tup2 {a a' b b':AVal} (h1:Wk a a') (h2:Wk b b'):Wk (.tup [a,b]) (.tup [a',b']) :=
  Wk.tup rfl fun j x y hx hy=>by
    match j with
    | 0=>cases hx; cases hy; exact h1
    | 1=>cases hx; cases hy; exact h2
    | j + 2=>simp at hx
theorem Wk.of_obj (o:Ob):Wk (.obj o) (expand o):=by
  intro c w v hv
  cases hv with
  | obj _ _ h=>exact h
theorem Wk.to_obj (o:Ob):Wk (expand o) (.obj o):=fun c w v hv=>.obj o v hv
theorem Wk.np {m:Nat} {cap:Option Nat}:Wk (.ip [.isl (u64s (lims m)) 0 (lims m).length cap true] 0 true) (.obj (.np m)):=by
  refine Wk.trans ?_ (Wk.to_obj (.np m))
  show Wk _ (.ip [.isl (limbs m) 0 (limbs m).length none true] 0 true)
  rw [limbs_lims,u64s_len]
  exact Wk.ip1 Wk.isl_cap (fun _=>rfl)
theorem seals_sl {H:Heap} {id off k:Nat} {cap:Option Nat} {vs:List AVal} {ty:TypeId} {l:List Nat} (hH:H[id]?=some (.cells vs ty)) (hv:(vs.drop off).take k=u64s l) (hk:off + k≤vs.length):Seals H (.sl id off k cap 1) (.isl (u64s l) 0 k cap true):=by
  have hlen:l.length=k:=by have:=congrArg List.length hv; rw [u64s_len] at this; simp at this; omega
  refine Seals.sl id off k cap 1 vs ty (u64s l) hH (by omega) (by rw [u64s_len]; omega) (fun j a b ha hb=>?_) (u64s_closed l)
  have:((vs.drop off).take k)[j]?=some b:=by rw [hv]; exact hb
  rw [List.getElem?_take] at this
  split at this
  · rw [List.getElem?_drop,ha] at this
    cases this
    refine .same _ ?_
    exact closed1_ (u64s_closed l a (List.mem_of_getElem? hb))
  · cases this
theorem seals_np {H:Heap} {id k:Nat} {cap:Option Nat} {cl:Bool} {l:List Nat} {ty:TypeId} {m:Nat} (hH:H[id]?=some (.cells (u64s l) ty)) (hk:k≤l.length) (hm:l.take k=lims m):Seals H (.ip [.sl id 0 k cap 1] 0 cl) (.obj (.np m)):=by
  have hlen:(lims m).length=k:=by rw [← hm]; simp; omega
  have hs:=seals_sl (cap:=cap) (off:=0) (k:=k) (l:=lims m) hH (by rw [List.drop_zero,u64s_take,hm]) (by rw [u64s_len]; omega)
  refine Seals.wk' _ (.ip [.isl (u64s (lims m)) 0 k cap true] 0 true) _ (Seals.ip _ _ _ _ rfl (fun j a b ha hb=>?_) (fun a ha=>by cases List.mem_singleton.1 ha; rfl)) (by rw [← hlen]; exact Wk.np)
  cases j with
  | zero=>cases ha; cases hb; exact hs
  | succ j=>simp at ha
theorem seals_np_isl {H:Heap} {cap:Option Nat} {cl:Bool} (m:Nat):Seals H (.ip [.isl (limbs m) 0 (limbs m).length cap true] 0 cl) (.obj (.np m)):=by
  refine Seals.wk _ (.obj (.np m)) _ ?_ (.same _ rfl)
  rw [limbs_lims,u64s_len]
  exact Wk.trans (Wk.ip1 (Wk.refl _) (fun _=>rfl)) (Wk.np (cap:=cap))
theorem seals_tup2 {H:Heap} {a a' b b':AVal} (h1:Seals H a a') (h2:Seals H b b'):Seals H (.tup [a,b]) (.tup [a',b']) :=
  Seals.tup _ _ rfl fun j x y hx hy=>by
    match j with
    | 0=>cases hx; cases hy; exact h1
    | 1=>cases hx; cases hy; exact h2
    | j + 2=>simp at hx
theorem seals_tup3 {H:Heap} {a a' b b' d d':AVal} (h1:Seals H a a') (h2:Seals H b b') (h3:Seals H d d'):Seals H (.tup [a,b,d]) (.tup [a',b',d']) :=
  Seals.tup _ _ rfl fun j x y hx hy=>by
    match j with
    | 0=>cases hx; cases hy; exact h1
    | 1=>cases hx; cases hy; exact h2
    | 2=>cases hx; cases hy; exact h3
    | j + 3=>simp at hx
structure SlU (S:Sg) (t:TypeId) (H:Heap) (v:AVal) (l:List Nat):Prop where
  len:denLen H S t v=some (.int .i64 (l.length:Int))
  at_:∀ j:Nat,j < l.length→∃ p row off,elemAddr S t v (j:Int)=some p∧rowAt H p=some (row,off)∧row[off]?=some (.int .u64 ((l.getD j 0:Nat):Int))
theorem SlU.isl {S:Sg} {t e:TypeId} {ti te:TI} {H:Heap} {l:List Nat} {cap:Option Nat} {cl:Bool} (ht:S.ty t=some ti) (hd:ti.desc=.slice e) (he:S.ty e=some te) (hs:te.size=1):SlU S t H (.isl (u64s l) 0 l.length cap cl) l:=by
  obtain ⟨d1,d2,d3,d4,d5,d6,d7,d8⟩:=ti
  simp only at hd
  subst hd
  refine ⟨by simp only [denLen,ht],fun j hj=>⟨.ip (u64s l) j cl,u64s l,j,?_,rfl,u64s_get (getD_some hj)⟩⟩
  simp only [elemAddr,ht,he]
  rw [if_pos ⟨by omega,by omega⟩,fNat_eq,hs,idx0]
theorem SlU.sl {S:Sg} {t e:TypeId} {ti te:TI} {H:Heap} {l:List Nat} {id k:Nat} {cap:Option Nat} {ty:TypeId} (ht:S.ty t=some ti) (hd:ti.desc=.slice e) (he:S.ty e=some te) (hs:te.size=1) (hH:H[id]?=some (.cells (u64s l) ty)) (hk:k≤l.length):SlU S t H (.sl id 0 k cap 1) (l.take k):=by
  obtain ⟨d1,d2,d3,d4,d5,d6,d7,d8⟩:=ti
  simp only at hd
  subst hd
  have hl:(l.take k).length=k:=by simp; omega
  refine ⟨by simp only [denLen,ht,hl],fun j hj=>⟨.ptr id j,u64s l,j,?_,?_,?_⟩⟩
  · simp only [elemAddr,ht,he]
    rw [if_pos ⟨hs,by omega,by omega⟩,fNat_eq,idx0]
  · simp only [rowAt,hH]
  · have:(l.take k).getD j 0=l.getD j 0:=by rw [List.getD_eq_getElem?_getD,List.getElem?_take,if_pos (by omega),← List.getD_eq_getElem?_getD]
    rw [this]
    exact u64s_get (getD_some (by omega))
section
variable {S:Sg} {call:Calling} {d:Bool} {g:Operand→AVal} {H:Heap} {x y:Operand} {t:TypeId} {te:TI} {v:AVal} {l:List Nat}
theorem SlU.lenG (h:SlU S t H v l) {c:Call} (hc:c.callee=.builtin .len) (ha:c.args.toList.map g=[v]) (hta:c.argTypes.toList=[t]):denG S call d g H (.call c)=some (.int .i64 (l.length:Int),H):=by
  simp only [denG,hc,ha,hta,h.len]
  rfl
theorem SlU.idxG {p:AVal} {k:IntKind} {j:Nat} (hx:g x=v) (hj:g y=.int k (j:Int)) (h:elemAddr S t v (j:Int)=some p):denG S call d g H (.indexAddr t x y)=some (p,H):=by
  simp only [denG,hj,hx,h]
  rfl
theorem SlU.loadG {p:AVal} {row:List AVal} {off:Nat} {u:AVal} (hx:g x=p) (ht:S.ty t=some te) (ha:te.agg=false) (h:rowAt H p=some (row,off)) (hr:row[off]?=some u):denG S call d g H (.load t x)=some (u,H):=by
  simp only [denG,ht,hx,h,getVar,ha,Bool.false_eq_true,if_false,hr]
  rfl
end
end Go.AM
namespace Go.AM
def cmpN (n m:Nat):Int:=if n < m then -1 else if m < n then 1 else 0
def cmpTop (a b:List Nat):Nat→Int
  | 0=>0
  | k + 1=>if a.getD k 0 < b.getD k 0 then -1 else if b.getD k 0 < a.getD k 0 then 1 else cmpTop a b k
def cmpL (a b:List Nat):Int:=if a.length < b.length then -1 else if b.length < a.length then 1 else cmpTop a b a.length
theorem val_take_succ {l:List Nat} {k:Nat} (h:k < l.length):val (l.take (k + 1))=val (l.take k) + B64 ^ k * l.getD k 0:=by
  rw [take_succ_getD h,val_append]
  have:(l.take k).length=k:=by simp; omega
  rw [this]
  simp [val]
theorem cmpTop_val {a b:List Nat} (ha:Dig a) (hb:Dig b):∀ k,k≤a.length→k≤b.length→cmpTop a b k=cmpN (val (a.take k)) (val (b.take k))
  | 0,_,_=>rfl
  | k + 1,h1,h2=>by
    have ih:=cmpTop_val ha hb k (by omega) (by omega)
    rw [cmpTop,val_take_succ h1,val_take_succ h2,ih]
    have la:(a.take k).length=k:=by simp; omega
    have lb:(b.take k).length=k:=by simp; omega
    have va:=val_lt (ha.take k)
    have vb:=val_lt (hb.take k)
    rw [la] at va
    rw [lb] at vb
    generalize val (a.take k)=x at *
    generalize val (b.take k)=y at *
    generalize a.getD k 0=p
    generalize b.getD k 0=q
    generalize B64 ^ k=B at *
    unfold cmpN
    by_cases h:p < q
    · rw [if_pos h,if_pos]
      have:=Nat.mul_le_mul_left B (show p + 1≤q from h)
      rw [Nat.mul_add,Nat.mul_one] at this
      omega
    · rw [if_neg h]
      by_cases h':q < p
      · have:=Nat.mul_le_mul_left B (show q + 1≤p from h')
        rw [Nat.mul_add,Nat.mul_one] at this
        rw [if_pos h',if_neg (by omega),if_pos (by omega)]
      · have:p=q:=by omega
        subst this
        rw [if_neg h']
        by_cases hxy:x < y
        · have h3:x + B * p < y + B * p:=by omega
          rw [if_pos hxy,if_pos h3]
        · have h3:¬ x + B * p < y + B * p:=by omega
          rw [if_neg hxy,if_neg h3]
          by_cases hyx:y < x
          · have h4:y + B * p < x + B * p:=by omega
            rw [if_pos hyx,if_pos h4]
          · have h4:¬ y + B * p < x + B * p:=by omega
            rw [if_neg hyx,if_neg h4]
theorem cmpL_lims (n m:Nat):cmpL (lims n) (lims m)=cmpN n m:=by
  unfold cmpL
  by_cases h:(lims n).length < (lims m).length
  · rw [if_pos h]
    have:=lims_len_lt h
    unfold cmpN
    rw [if_pos this]
  · rw [if_neg h]
    by_cases h':(lims m).length < (lims n).length
    · rw [if_pos h']
      have:=lims_len_lt h'
      unfold cmpN
      rw [if_neg (by omega),if_pos this]
    · rw [if_neg h',cmpTop_val (dig_lims n) (dig_lims m) _ (by omega) (by omega),List.take_of_length_le (Nat.le_refl _),List.take_of_length_le (by omega),val_lims,val_lims]
theorem getD_eq_zero {l:List Nat} {k:Nat} (h:l.length≤k):l.getD k 0=0:=by simp [h]
def valK (l:List Nat):Nat→Nat
  | 0=>0
  | k + 1=>valK l k + B64 ^ k * l.getD k 0
theorem valK_take (l:List Nat):∀ k,valK l k=val (l.take k)
  | 0=>rfl
  | k + 1=>by
    rw [valK,valK_take l k]
    by_cases h:k < l.length
    · rw [val_take_succ h]
    · rw [getD_eq_zero (by omega),List.take_of_length_le (by omega),List.take_of_length_le (by omega)]; simp
theorem valK_all {l:List Nat} {k:Nat} (h:l.length≤k):valK l k=val l:=by rw [valK_take,List.take_of_length_le h]
end Go.AM
namespace Go.AM
theorem val_set_take (l:List Nat) (i x:Nat):val ((l.set i x).take i)=val (l.take i):=by
  rw [List.take_set_of_le (Nat.le_refl _)]
theorem getD_set_at {l:List Nat} {i x:Nat} (h:i < l.length):(l.set i x).getD i 0=x:=by simp [h]
theorem add_step {out:List Nat} {i c V x y:Nat} (hi:i < out.length) (h:val (out.take i) + B64 ^ i * c=V) :
    val ((out.set i ((x + y + c) % B64)).take (i + 1)) + B64 ^ (i + 1) * ((x + y + c) / B64)=V + B64 ^ i * x + B64 ^ i * y:=by
  rw [val_take_succ (by simpa using hi),val_set_take,getD_set_at hi]
  have hd:=Nat.mod_add_div (x + y + c) B64
  have e1:B64 ^ (i + 1) * ((x + y + c) / B64)=B64 ^ i * (B64 * ((x + y + c) / B64)):=by rw [Nat.pow_succ,Nat.mul_assoc]
  rw [e1,Nat.add_assoc,← Nat.mul_add,hd,Nat.mul_add,Nat.mul_add]
  omega
theorem sub_step {out:List Nat} {i b x y:Nat} (hi:i < out.length) (hx:x < B64) (hy:y < B64) (hb:b≤1) (X Y:Nat) (h:val (out.take i) + Y=X + B64 ^ i * b) :
    val ((out.set i ((x + B64 - y - b) % B64)).take (i + 1)) + (Y + B64 ^ i * y)=X + B64 ^ i * x + B64 ^ (i + 1) * (if x < y + b then 1 else 0):=by
  rw [val_take_succ (by simpa using hi),val_set_take,getD_set_at hi,Nat.pow_succ]
  have key:(x + B64 - y - b) % B64 + y + b=x + B64 * (if x < y + b then 1 else 0):=by
    split
    · rw [Nat.mod_eq_of_lt (by omega)]; omega
    · have:x + B64 - y - b=(x - y - b) + B64:=by omega
      rw [this,Nat.add_mod_right,Nat.mod_eq_of_lt (by omega)]; omega
  generalize (x + B64 - y - b) % B64=z at *
  have e:=congrArg (B64 ^ i * ·) key
  simp only [Nat.mul_add] at e
  rw [← Nat.mul_assoc] at e
  omega
theorem trim_of {l:List Nat} (h:Dig l) {k n:Nat} (hk:k=l.length) (hv:val l=n):l.take (trimN l k)=lims n:=by
  rw [trim_lims h (by omega),List.take_of_length_le (by omega),hv]
end Go.AM
