import Derived.Calls
import Derived.LoopN
import Derived.Laws.Sem
import Derived.Laws.World
set_option linter.unusedVariables false
set_option linter.unusedSimpArgs false
noncomputable section
namespace Go.AM
inductive Ob where
  | np (n:Nat)
  | zp (z:Int)
  | qp (n:Int) (d:Nat)
  deriving DecidableEq
inductive AVal where
  | any
  | bool (b:Bool)
  | int (k:IntKind) (n:Int)
  | str (s:List UInt8)
  | nilp
  | ptr (id off:Nat)
  | ip (cells:List AVal) (off:Nat) (cl:Bool)
  | nils
  | sl (id off len:Nat) (cap:Option Nat) (sz:Nat)
  | isl (cells:List AVal) (off len:Nat) (cap:Option Nat) (cl:Bool)
  | nilm
  | map (id:Nat)
  | imap (ks vs:List AVal) (cl:Bool)
  | fn (f:FuncId) (first cap:List AVal)
  | nilfn
  | iface (t:TypeId) (v:AVal)
  | nili
  | agg (cs:List AVal)
  | tup (vs:List AVal)
  | obj (o:Ob)
  deriving Inhabited
def limbsF:Nat→Nat→List AVal
  | 0,_=>[]
  | f + 1,n=>match n with
    | 0=>[]
    | m + 1=>.int .u64 (((m + 1) % 18446744073709551616:Nat):Int) :: limbsF f ((m + 1) / 18446744073709551616)
def limbs (n:Nat):List AVal:=limbsF (n.log2 / 64 + 1) n
def expand:Ob→AVal
  | .np n=>.ip [.isl (limbs n) 0 (limbs n).length none true] 0 true
  | .zp z=>.ip [.bool (decide (z < 0)),.obj (.np z.natAbs)] 0 true
  | .qp n d=>.ip [.obj (.zp n),.obj (.zp (d:Int))] 0 true
def AVal.closed0:AVal→Bool
  | .any | .bool _ | .int _ _ | .str _ | .nilp | .nils | .nilm | .nilfn | .nili | .obj _=>true
  | .ip _ _ cl=>cl
  | .imap _ _ cl=>cl
  | .isl _ _ _ _ cl=>cl
  | _=>false
def AVal.closed1:AVal→Bool
  | .iface _ v=>v.closed0
  | v=>v.closed0
def AVal.closed2:AVal→Bool
  | .agg cs=>cs.all AVal.closed1
  | v=>v.closed1
def AVal.closed:AVal→Bool
  | .tup cs=>cs.all AVal.closed2
  | .fn _ a b=>a.all AVal.closed1 && b.all AVal.closed1
  | v=>v.closed2
def AVal.cell:AVal→Bool
  | .any | .agg _ | .tup _=>false
  | _=>true
def AVal.cells:AVal→List AVal
  | .agg cs=>cs
  | v=>[v]
inductive AObj where
  | cells (vs:List AVal) (ty:TypeId)
  | map (es:List (AVal×AVal))
  | siter (s:List UInt8) (pos:Nat)
  | miter (id n:Nat) (seen:List Nat)
  | iiter (ks vs:List AVal) (n:Nat) (seen:List Nat)
  | niter
  | dead
  deriving Inhabited
def AObj.live:AObj→Bool
  | .dead=>false
  | _=>true
abbrev Heap:=List AObj
structure Stamps (mes:Array MapEntry) (clk:Nat):Prop where
  clk:clk=mes.size
  born:∀ (j:Nat) (m:MapEntry),mes[j]?=some m→m.born=j
theorem Stamps.push {mes:Array MapEntry} {clk:Nat} (h:Stamps mes clk) (k v:Value):Stamps (mes.push { key:=k,val:=v,born:=clk }) (clk + 1) :=
  ⟨by simp [h.clk],fun j m hm=>by
    rw [Array.getElem?_push] at hm
    split at hm
    · rename_i hj; cases hm; rw [h.clk,hj]
    · exact h.born j m hm⟩
theorem Stamps.modify {mes:Array MapEntry} {clk:Nat} (h:Stamps mes clk) (i:Nat) (f:MapEntry→MapEntry) (hf:∀ e,(f e).born=e.born):Stamps (mes.modify i f) clk :=
  ⟨by simp [h.clk],fun j m hm=>by
    rw [Array.getElem?_modify] at hm
    split at hm
    · rename_i hj
      subst hj
      cases hq:mes[i]? with
      | none=>rw [hq] at hm; cases hm
      | some q=>rw [hq] at hm; cases hm; rw [hf,h.born i q hq]
    · exact h.born j m hm⟩
structure Ctx where
  ι:Nat→Option (Nat×Nat)
  F:Nat→Prop
inductive VR (c:Ctx) (w:World):AVal→Value→Prop where
  | any (v:Value):VR c w .any v
  | bool (b:Bool):VR c w (.bool b) (.bool b)
  | int (k:IntKind) (n:Int):VR c w (.int k n) (.int k n)
  | str (l:List UInt8) (s:ByteArray):s.data.toList=l→VR c w (.str l) (.string s)
  | nilp:VR c w .nilp (.pointer none)
  | ptr (id off b o:Nat):c.ι id=some (b,o)→VR c w (.ptr id off) (.pointer (some ⟨b,o + off,none⟩))
  | ip (cells:List AVal) (off:Nat) (cl:Bool) (b o:Nat) (g:Nat→Value):(cl=true→∀ a∈cells,a.closed1=true)→c.F b →
      (∀ (j:Nat),j < cells.length→w.cell? ⟨b,o + j,none⟩=some (g j)) →
      (∀ (j:Nat) (a:AVal),cells[j]?=some a→VR c w a (g j))→VR c w (.ip cells off cl) (.pointer (some ⟨b,o + off,none⟩))
  | nils:VR c w .nils (.slice none 0 0)
  | sl (id off len:Nat) (cap:Option Nat) (sz b o ca:Nat):c.ι id=some (b,o)→len≤ca→ca≤9223372036854775807→(∀ n,cap=some n→ca=n) →
      (∃ (arr:Array Value) (e:TypeId) (fz:Nat×Nat),w.heap[b]?=some (Obj.cells arr e fz)∧o + off + ca * sz≤arr.size) →
      VR c w (.sl id off len cap sz) (.slice (some ⟨b,o + off,none⟩) len ca)
  | sl0 (id off:Nat) (cap:Option Nat) (sz b o:Nat) (a:Addr):c.ι id=some (b,o)→(∀ n,cap=some n→n=0)→VR c w (.sl id off 0 cap sz) (.slice (some a) 0 0)
  | isl (cells:List AVal) (off len:Nat) (cap:Option Nat) (cl:Bool) (b o ca:Nat) (g:Nat→Value):(cl=true→∀ a∈cells,a.closed1=true)→c.F b→len≤ca→ca≤9223372036854775807→(∀ n,cap=some n→ca=n) →
      (∀ (j:Nat),j < cells.length→w.cell? ⟨b,o + j,none⟩=some (g j)) →
      (∀ (j:Nat) (a:AVal),cells[j]?=some a→VR c w a (g j))→VR c w (.isl cells off len cap cl) (.slice (some ⟨b,o + off,none⟩) len ca)
  | isl0 (cells:List AVal) (off:Nat) (cap:Option Nat) (cl:Bool) (a:Option Addr) (ca:Nat):ca≤9223372036854775807→(∀ n,cap=some n→ca=n) →
      VR c w (.isl cells off 0 cap cl) (.slice a 0 ca)
  | nilm:VR c w .nilm (.map none)
  | map (id b o:Nat):c.ι id=some (b,o)→VR c w (.map id) (.map (some b))
  | imap (ks vs:List AVal) (cl:Bool) (ks' vs':List AVal) (b:Nat) (mes:Array MapEntry) (clk:Nat):(cl=true→(∀ a∈ks',a.closed1=true)∧∀ a∈vs',a.closed1=true)→Stamps mes clk→c.F b→w.heap[b]?=some (.map mes clk) →
      mes.size=ks'.length→vs'.length=ks'.length→(ks'.zip vs').Perm (ks.zip vs) →
      (∀ (j:Nat) (a:AVal) (m:MapEntry),ks'[j]?=some a→mes[j]?=some m→VR c w a m.key)→(∀ (j:Nat) (a:AVal) (m:MapEntry),vs'[j]?=some a→mes[j]?=some m→VR c w a m.val)→VR c w (.imap ks vs cl) (.map (some b))
  | fn (f:FuncId) (first cap:List AVal) (vf vc:Array Value):vf.size=first.length→vc.size=cap.length →
      (∀ (j:Nat) (a:AVal) (v:Value),first[j]?=some a→vf[j]?=some v→VR c w a v)→(∀ (j:Nat) (a:AVal) (v:Value),cap[j]?=some a→vc[j]?=some v→VR c w a v) →
      VR c w (.fn f first cap) (.func (.func f) vf vc)
  | nilfn:VR c w .nilfn .nilFunc
  | iface (t:TypeId) (a:AVal) (v:Value):VR c w a v→VR c w (.iface t a) (.iface t v)
  | nili:VR c w .nili .nilIface
  | agg (cs:List AVal) (vs:Array Value):vs.size=cs.length→(∀ (j:Nat) (a:AVal) (v:Value),cs[j]?=some a→vs[j]?=some v→VR c w a v)→VR c w (.agg cs) (.agg vs)
  | tup (cs:List AVal) (vs:Array Value):vs.size=cs.length→(∀ (j:Nat) (a:AVal) (v:Value),cs[j]?=some a→vs[j]?=some v→VR c w a v)→VR c w (.tup cs) (.tuple vs)
  | obj (o:Ob) (v:Value):VR c w (expand o) v→VR c w (.obj o) v
def VRs (c:Ctx) (w:World) (as:List AVal) (vs:Array Value):Prop :=
  vs.size=as.length∧∀ (j:Nat) (a:AVal) (v:Value),as[j]?=some a→vs[j]?=some v→VR c w a v
def ObjR (c:Ctx) (w:World) (b off:Nat):AObj→Prop
  | .cells vs _=>∃ (arr:Array Value) (e:TypeId),w.heap[b]?=some (Obj.cells arr e (0,0))∧off + vs.length≤arr.size ∧
      ∀ (j:Nat) (a:AVal) (v:Value),vs[j]?=some a→arr[off + j]?=some v→VR c w a v
  | .map es=>∃ (mes:Array MapEntry) (clk:Nat),Stamps mes clk∧w.heap[b]?=some (Obj.map mes clk)∧mes.size=es.length ∧
      ∀ (j:Nat) (a:AVal×AVal) (m:MapEntry),es[j]?=some a→mes[j]?=some m→VR c w a.1 m.key∧VR c w a.2 m.val
  | .siter s pos=>off=0∧∃ bs:ByteArray,bs.data.toList=s∧w.heap[b]?=some (.stringIter bs pos)
  | .miter id n seen=>off=0∧∃ (bm om:Nat) (sn:Array Nat),c.ι id=some (bm,om)∧sn.toList=seen∧w.heap[b]?=some (.mapIter (some bm) n sn n)
  | .iiter ks vs n seen=>off=0∧∃ (bm:Nat) (sn:Array Nat) (mes:Array MapEntry),c.F bm∧Stamps mes n∧w.heap[bm]?=some (.map mes n)∧mes.size=ks.length∧vs.length=ks.length ∧
      (∀ (j:Nat) (a:AVal) (m:MapEntry),ks[j]?=some a→mes[j]?=some m→VR c w a m.key)∧(∀ (j:Nat) (a:AVal) (m:MapEntry),vs[j]?=some a→mes[j]?=some m→VR c w a m.val)∧sn.toList=seen∧w.heap[b]?=some (.mapIter (some bm) n sn n)
  | .niter=>off=0∧w.heap[b]?=some (.mapIter none 0 #[] 0)
  | .dead=>True
def Live (H:Heap) (id:Nat):Prop:=∃ o,H[id]?=some o∧o.live=true
structure Rel (c:Ctx) (w:World) (H:Heap):Prop where
  obj:∀ id o b off,H[id]?=some o→c.ι id=some (b,off)→ObjR c w b off o
  inj:∀ i j b o1 o2,Live H i→Live H j→c.ι i=some (b,o1)→c.ι j=some (b,o2)→i=j
  dom:∀ id b off,c.ι id=some (b,off)→id < H.length∧b < w.heap.size
  sep:∀ id b off,Live H id→c.ι id=some (b,off)→¬ c.F b
  fr:∀ b,c.F b→b < w.heap.size
structure Le (c:Ctx) (w:World) (c':Ctx) (w':World):Prop where
  ι:∀ id p,c.ι id=some p→c'.ι id=some p
  F:∀ b,c.F b→c'.F b
  blk:∀ b,c.F b→w'.heap[b]?=w.heap[b]?
  siz:∀ (b:Nat) (arr:Array Value) (e:TypeId) (fz:Nat×Nat),w.heap[b]?=some (.cells arr e fz)→∃ (arr':Array Value) (e':TypeId) (fz':Nat×Nat),w'.heap[b]?=some (Obj.cells arr' e' fz')∧arr'.size=arr.size
theorem Le.refl (c:Ctx) (w:World):Le c w c w:=⟨fun _ _ h=>h,fun _ h=>h,fun _ _=>rfl,fun _ arr e fz h=>⟨arr,e,fz,h,rfl⟩⟩
theorem Le.trans {c1 c2 c3:Ctx} {w1 w2 w3:World} (h:Le c1 w1 c2 w2) (k:Le c2 w2 c3 w3):Le c1 w1 c3 w3 :=
  ⟨fun id p e=>k.ι id p (h.ι id p e),fun b e=>k.F b (h.F b e),fun b e=>(k.blk b (h.F b e)).trans (h.blk b e),
   fun b arr e fz q=>by
    obtain ⟨a2,e2,f2,q2,s2⟩:=h.siz b arr e fz q
    obtain ⟨a3,e3,f3,q3,s3⟩:=k.siz b a2 e2 f2 q2
    exact ⟨a3,e3,f3,q3,s3.trans s2⟩⟩
theorem cell_of_block {w w':World} {b o:Nat} (h:w'.heap[b]?=w.heap[b]?):w'.cell? ⟨b,o,none⟩=w.cell? ⟨b,o,none⟩:=by
  simp [World.cell?,h]
theorem VR.mono {c c':Ctx} {w w':World} (l:Le c w c' w') {a:AVal} {v:Value} (h:VR c w a v):VR c' w' a v:=by
  induction h with
  | any v=>exact .any v
  | bool b=>exact .bool b
  | int k n=>exact .int k n
  | str l s h=>exact .str l s h
  | nilp=>exact .nilp
  | ptr id off b o h=>exact .ptr id off b o (l.ι _ _ h)
  | ip cells off cl b o g hcl hF hc _ ih=>exact .ip cells off cl b o g hcl (l.F _ hF) (fun j hj=>(cell_of_block (l.blk b hF)).trans (hc j hj)) ih
  | nils=>exact .nils
  | sl id off len cap sz b o ca h1 h2 h3 h4 h5 =>
    obtain ⟨arr,e,fz,q,s⟩:=h5
    obtain ⟨arr',e',fz',q',s'⟩:=l.siz b arr e fz q
    exact .sl id off len cap sz b o ca (l.ι _ _ h1) h2 h3 h4 ⟨arr',e',fz',q',by omega⟩
  | sl0 id off cap sz b o a h1 h=>exact .sl0 id off cap sz b o a (l.ι _ _ h1) h
  | isl cells off len cap cl b o ca g hcl hF h2 h3 h4 hc _ ih =>
    exact .isl cells off len cap cl b o ca g hcl (l.F _ hF) h2 h3 h4 (fun j hj=>(cell_of_block (l.blk b hF)).trans (hc j hj)) ih
  | isl0 cells off cap cl a ca h h'=>exact .isl0 cells off cap cl a ca h h'
  | nilm=>exact .nilm
  | map id b o h=>exact .map id b o (l.ι _ _ h)
  | imap ks vs cl ks' vs' b mes clk hcl hst hF hb h1 h2 hp _ _ ih1 ih2=>exact .imap ks vs cl ks' vs' b mes clk hcl hst (l.F _ hF) ((l.blk b hF).trans hb) h1 h2 hp ih1 ih2
  | fn f first cap vf vc h1 h2 _ _ ih1 ih2=>exact .fn f first cap vf vc h1 h2 ih1 ih2
  | nilfn=>exact .nilfn
  | iface t a v _ ih=>exact .iface t a v ih
  | nili=>exact .nili
  | agg cs vs h _ ih=>exact .agg cs vs h ih
  | tup cs vs h _ ih=>exact .tup cs vs h ih
  | obj o v _ ih=>exact .obj o v ih
theorem closed0_1 {a:AVal} (h:a.closed0=true):a.closed1=true:=by
  cases a <;> first | exact h | (simp [AVal.closed0] at h)
theorem closed1_2 {a:AVal} (h:a.closed1=true):a.closed2=true:=by
  cases a <;> first | exact h | (simp [AVal.closed1,AVal.closed0] at h)
theorem closed2_ {a:AVal} (h:a.closed2=true):a.closed=true:=by
  cases a <;> first | exact h | (simp [AVal.closed2,AVal.closed1,AVal.closed0] at h)
theorem closed1_ {a:AVal} (h:a.closed1=true):a.closed=true:=closed2_ (closed1_2 h)
theorem limbsF_closed (f n:Nat):∀ a∈limbsF f n,a.closed1=true:=by
  induction f generalizing n with
  | zero=>intro a h; simp [limbsF] at h
  | succ f ih =>
    intro a h
    cases n with
    | zero=>simp [limbsF] at h
    | succ m =>
      simp only [limbsF,List.mem_cons] at h
      rcases h with rfl | h
      · rfl
      · exact ih _ a h
theorem expand_closed (o:Ob):(expand o).closed1=true:=by cases o <;> rfl
theorem VR.shut {c:Ctx} {w:World} {a:AVal} {v:Value} (h:VR c w a v):a.closed=true→∀ ι,VR ⟨ι,c.F⟩ w a v:=by
  induction h with
  | any v=>exact fun _ _=>.any v
  | bool b=>exact fun _ _=>.bool b
  | int k n=>exact fun _ _=>.int k n
  | str l s h=>exact fun _ _=>.str l s h
  | nilp=>exact fun _ _=>.nilp
  | ptr id off b o h=>intro h; simp [AVal.closed,AVal.closed2,AVal.closed1,AVal.closed0] at h
  | ip cells off cl b o g hcl hF hc _ ih =>
    intro h ι
    have hcl':cl=true:=by simpa [AVal.closed,AVal.closed2,AVal.closed1,AVal.closed0] using h
    exact .ip cells off cl b o g hcl hF hc fun j a ha=>ih j a ha (closed1_ (hcl hcl' a (List.mem_of_getElem? ha))) ι
  | nils=>exact fun _ _=>.nils
  | sl id off len cap sz b o ca h1 h2 h3 h4 h5=>intro h; simp [AVal.closed,AVal.closed2,AVal.closed1,AVal.closed0] at h
  | sl0 id off cap sz b o a h1 h=>intro h; simp [AVal.closed,AVal.closed2,AVal.closed1,AVal.closed0] at h
  | isl cells off len cap cl b o ca g hcl hF h2 h3 h4 hc _ ih =>
    intro h ι
    have hcl':cl=true:=by simpa [AVal.closed,AVal.closed2,AVal.closed1,AVal.closed0] using h
    exact .isl cells off len cap cl b o ca g hcl hF h2 h3 h4 hc fun j a ha=>ih j a ha (closed1_ (hcl hcl' a (List.mem_of_getElem? ha))) ι
  | isl0 cells off cap cl a ca h h'=>exact fun _ _=>.isl0 cells off cap cl a ca h h'
  | nilm=>exact fun _ _=>.nilm
  | map id b o h=>intro h; simp [AVal.closed,AVal.closed2,AVal.closed1,AVal.closed0] at h
  | imap ks vs cl ks' vs' b mes clk hcl hst hF hb h1 h2 hp _ _ ih1 ih2 =>
    intro h ι
    have hcl':cl=true:=by simpa [AVal.closed,AVal.closed2,AVal.closed1,AVal.closed0] using h
    exact .imap ks vs cl ks' vs' b mes clk hcl hst hF hb h1 h2 hp (fun j a m ha hm=>ih1 j a m ha hm (closed1_ ((hcl hcl').1 a (List.mem_of_getElem? ha))) ι) (fun j a m ha hm=>ih2 j a m ha hm (closed1_ ((hcl hcl').2 a (List.mem_of_getElem? ha))) ι)
  | fn f first cap vf vc h1 h2 _ _ ih1 ih2 =>
    intro h ι
    simp only [AVal.closed,Bool.and_eq_true,List.all_eq_true] at h
    exact .fn f first cap vf vc h1 h2 (fun j a v ha hv=>ih1 j a v ha hv (closed1_ (h.1 a (List.mem_of_getElem? ha))) ι)
      (fun j a v ha hv=>ih2 j a v ha hv (closed1_ (h.2 a (List.mem_of_getElem? ha))) ι)
  | nilfn=>exact fun _ _=>.nilfn
  | iface t a v _ ih =>
    intro h ι
    exact .iface t a v (ih (closed1_ (closed0_1 (by simpa [AVal.closed,AVal.closed2,AVal.closed1] using h))) ι)
  | nili=>exact fun _ _=>.nili
  | agg cs vs h _ ih =>
    intro h' ι
    have h2:cs.all AVal.closed1=true:=by simpa [AVal.closed,AVal.closed2] using h'
    exact .agg cs vs h fun j a v ha hv=>ih j a v ha hv (closed1_ (List.all_eq_true.1 h2 a (List.mem_of_getElem? ha))) ι
  | tup cs vs h _ ih =>
    intro h' ι
    have h2:cs.all AVal.closed2=true:=by simpa [AVal.closed] using h'
    exact .tup cs vs h fun j a v ha hv=>ih j a v ha hv (closed2_ (List.all_eq_true.1 h2 a (List.mem_of_getElem? ha))) ι
  | obj o v _ ih=>exact fun _ ι=>.obj o v (ih (closed1_ (expand_closed o)) ι)
theorem VRs.mono {c c':Ctx} {w w':World} (l:Le c w c' w') {as:List AVal} {vs:Array Value} (h:VRs c w as vs):VRs c' w' as vs :=
  ⟨h.1,fun j a v ha hv=>(h.2 j a v ha hv).mono l⟩
structure Post (c:Ctx) (w:World) (H:Heap) (c':Ctx) (w':World) (H':Heap):Prop where
  ι:∀ id p,c.ι id=some p→c'.ι id=some p
  new:∀ id b off,c'.ι id=some (b,off)→c.ι id=some (b,off) ∨
    (H.length≤id∧(w.heap.size≤b∨∃ i o,Live H i∧c.ι i=some (b,o)))
  F:∀ b,c.F b→c'.F b
  Fnew:∀ b,c'.F b→c.F b∨w.heap.size≤b∨∃ i o,Live H i∧c.ι i=some (b,o)
  frame:∀ b,b < w.heap.size→(∀ i o,Live H i→c.ι i≠some (b,o))→w'.heap[b]?=w.heap[b]?
  unm:∀ id,id < H.length→c.ι id=none→H'[id]?=H[id]?
  dead:∀ id,id < H.length→¬ Live H id→¬ Live H' id
  len:H.length≤H'.length
  size:w.heap.size≤w'.heap.size
  siz:∀ (b:Nat) (arr:Array Value) (e:TypeId) (fz:Nat×Nat),w.heap[b]?=some (.cells arr e fz)→∃ (arr':Array Value) (e':TypeId) (fz':Nat×Nat),w'.heap[b]?=some (Obj.cells arr' e' fz')∧arr'.size=arr.size
  os:w'.os=w.os
  tape:w'.tape=w.tape
  output:w'.output=w.output
theorem Post.le {c c':Ctx} {w w':World} {H H':Heap} (r:Rel c w H) (p:Post c w H c' w' H'):Le c w c' w' :=
  ⟨p.ι,p.F,fun b hb=>p.frame b (r.fr b hb) (fun i o hl hi=>r.sep i b o hl hi hb),p.siz⟩
theorem Post.refl (c:Ctx) (w:World) (H:Heap):Post c w H c w H :=
  ⟨fun _ _ h=>h,fun _ _ _ h=>.inl h,fun _ h=>h,fun _ h=>.inl h,fun _ _ _=>rfl,fun _ _ _=>rfl,fun _ _ h=>h,Nat.le_refl _,Nat.le_refl _,
   fun _ arr e fz h=>⟨arr,e,fz,h,rfl⟩,rfl,rfl,rfl⟩
theorem Live.lt {H:Heap} {i:Nat} (h:Live H i):i < H.length:=by
  obtain ⟨o,h,_⟩:=h
  exact (List.getElem?_eq_some_iff.1 h).1
theorem Post.trans {c1 c2 c3:Ctx} {w1 w2 w3:World} {H1 H2 H3:Heap} (r:Rel c1 w1 H1) (p:Post c1 w1 H1 c2 w2 H2) (q:Post c2 w2 H2 c3 w3 H3) :
    Post c1 w1 H1 c3 w3 H3:=by
  have back:∀ b i o,Live H2 i→c2.ι i=some (b,o)→w1.heap.size≤b∨∃ i o,Live H1 i∧c1.ι i=some (b,o):=by
    intro b i o hl hi
    rcases p.new i b o hi with h | ⟨_,h⟩
    · by_cases hl1:Live H1 i
      · exact .inr ⟨i,o,hl1,h⟩
      · exact absurd hl (p.dead i (r.dom i b o h).1 hl1)
    · exact h
  refine ⟨fun id x e=>q.ι id x (p.ι id x e),?_,fun b e=>q.F b (p.F b e),?_,?_,?_,?_,Nat.le_trans p.len q.len,Nat.le_trans p.size q.size,?_,
    q.os.trans p.os,q.tape.trans p.tape,q.output.trans p.output⟩
  · intro id b off h
    rcases q.new id b off h with h | ⟨hl,h⟩
    · exact p.new id b off h
    · refine .inr ⟨Nat.le_trans p.len hl,?_⟩
      rcases h with h | ⟨i,o,hi,hb⟩
      · exact .inl (Nat.le_trans p.size h)
      · exact back b i o hi hb
  · intro b h
    rcases q.Fnew b h with h | h | ⟨i,o,hi,hb⟩
    · exact p.Fnew b h
    · exact .inr (.inl (Nat.le_trans p.size h))
    · exact .inr (back b i o hi hb)
  · intro b hb hn
    refine (q.frame b (Nat.lt_of_lt_of_le hb p.size) ?_).trans (p.frame b hb hn)
    intro i o hi hh
    rcases back b i o hi hh with h | ⟨i,o,hi,hh⟩
    · omega
    · exact hn i o hi hh
  · intro id hid hn
    refine (q.unm id (Nat.lt_of_lt_of_le hid p.len) ?_).trans (p.unm id hid hn)
    cases e:c2.ι id with
    | none=>rfl
    | some x =>
      rcases p.new id x.1 x.2 e with h | ⟨h,_⟩
      · rw [hn] at h; cases h
      · omega
  · intro id hid hn
    exact q.dead id (Nat.lt_of_lt_of_le hid p.len) (p.dead id hid hn)
  · intro b arr e fz h
    obtain ⟨a2,e2,f2,h2,s2⟩:=p.siz b arr e fz h
    obtain ⟨a3,e3,f3,h3,s3⟩:=q.siz b a2 e2 f2 h2
    exact ⟨a3,e3,f3,h3,s3.trans s2⟩
end Go.AM
noncomputable section
namespace Go.AM
inductive Tr where
  | lf
  | nd (l:Tr) (v:AVal) (r:Tr)
def Tr.getC:Tr→Nat→AVal
  | .lf,_=>.any
  | .nd l v r,n=>match n with
    | 0=>v
    | m + 1=>match m % 2 with
      | 0=>l.getC (m / 2)
      | _ + 1=>r.getC (m / 2)
def Tr.oneC (v:AVal):Nat→Nat→Tr
  | 0,_=>.lf
  | f + 1,n=>match n with
    | 0=>.nd .lf v .lf
    | m + 1=>match m % 2 with
      | 0=>.nd (Tr.oneC v f (m / 2)) .any .lf
      | _ + 1=>.nd .lf .any (Tr.oneC v f (m / 2))
def Tr.setC:Tr→Nat→AVal→Tr
  | .lf,n,v=>Tr.oneC v (n + 1) n
  | .nd l w r,n,v=>match n with
    | 0=>.nd l v r
    | m + 1=>match m % 2 with
      | 0=>.nd (l.setC (m / 2) v) w r
      | _ + 1=>.nd l w (r.setC (m / 2) v)
def Tr.getS (l:AVal) (gl gr:Nat→AVal):Nat→AVal :=
  Nat.rec l (fun m _=>Nat.rec (gl (Nat.div m 2)) (fun _ _=>gr (Nat.div m 2)) (Nat.mod m 2))
def Tr.get:Tr→Nat→AVal :=
  Tr.rec (fun _=>.any) (fun _ v _ gl gr=>Tr.getS v gl gr)
def Tr.oneS (ih:Nat→Tr) (v:AVal) (n:Nat):Tr :=
  Nat.rec (.nd .lf v .lf) (fun m _=>Nat.rec (.nd (ih (Nat.div m 2)) .any .lf) (fun _ _=>.nd .lf .any (ih (Nat.div m 2))) (Nat.mod m 2)) n
def Tr.one (v:AVal):Nat→Nat→Tr :=
  Nat.rec (fun _=>.lf) (fun _ ih n=>Tr.oneS ih v n)
def Tr.setS (l:Tr) (w:AVal) (r:Tr) (sl sr:Nat→AVal→Tr) (n:Nat) (v:AVal):Tr :=
  Nat.rec (.nd l v r) (fun m _=>Nat.rec (.nd (sl (Nat.div m 2) v) w r) (fun _ _=>.nd l w (sr (Nat.div m 2) v)) (Nat.mod m 2)) n
def Tr.set:Tr→Nat→AVal→Tr :=
  Tr.rec (fun n v=>Tr.one v (Nat.succ n) n) (fun l w r sl sr=>Tr.setS l w r sl sr)
theorem Tr.get_lf0 (n:Nat):Tr.lf.get n=.any:=rfl
theorem Tr.get_nd (l r:Tr) (v:AVal) (n:Nat):(Tr.nd l v r).get n=(match n with
    | 0=>v
    | m + 1=>match m % 2 with
      | 0=>l.get (m / 2)
      | _ + 1=>r.get (m / 2)):=by
  cases n with
  | zero=>rfl
  | succ m =>
    show (Nat.rec (l.get (m / 2)) (fun _ _=>r.get (m / 2)) (m % 2):AVal)=_
    simp only
    cases m % 2 <;> rfl
theorem Tr.one_zero (v:AVal) (n:Nat):Tr.one v 0 n=.lf:=rfl
theorem Tr.one_succ (v:AVal) (f n:Nat):Tr.one v (f + 1) n=(match n with
    | 0=>.nd .lf v .lf
    | m + 1=>match m % 2 with
      | 0=>.nd (Tr.one v f (m / 2)) .any .lf
      | _ + 1=>.nd .lf .any (Tr.one v f (m / 2))):=by
  cases n with
  | zero=>rfl
  | succ m =>
    show (Nat.rec (Tr.nd (Tr.one v f (m / 2)) .any .lf) (fun _ _=>Tr.nd .lf .any (Tr.one v f (m / 2))) (m % 2):Tr)=_
    simp only
    cases m % 2 <;> rfl
theorem Tr.set_lf (n:Nat) (v:AVal):Tr.lf.set n v=Tr.one v (n + 1) n:=rfl
theorem Tr.set_nd (l r:Tr) (w:AVal) (n:Nat) (v:AVal):(Tr.nd l w r).set n v=(match n with
    | 0=>.nd l v r
    | m + 1=>match m % 2 with
      | 0=>.nd (l.set (m / 2) v) w r
      | _ + 1=>.nd l w (r.set (m / 2) v)):=by
  cases n with
  | zero=>rfl
  | succ m =>
    show (Nat.rec (Tr.nd (l.set (m / 2) v) w r) (fun _ _=>Tr.nd l w (r.set (m / 2) v)) (m % 2):Tr)=_
    simp only
    cases m % 2 <;> rfl
theorem Tr.get_lf (n:Nat):Tr.lf.get n=.any:=rfl
theorem Tr.get_one (v:AVal):∀ (f n m:Nat),n < f→(Tr.one v f n).get m=if m=n then v else .any:=by
  intro f
  induction f with
  | zero=>intro n m h; omega
  | succ f ih =>
    intro n m h
    cases n with
    | zero =>
      cases m with
      | zero=>simp [Tr.one_succ,Tr.get_nd]
      | succ m=>simp only [Tr.one_succ,Tr.get_nd]; split <;> simp [Tr.get_lf]
    | succ n =>
      cases m with
      | zero=>simp only [Tr.one_succ]; split <;> simp [Tr.get_nd]
      | succ m =>
        have hd:n / 2 < f:=by omega
        simp only [Tr.one_succ]
        split <;> rename_i h1 <;> simp only [Tr.get_nd] <;> split <;> rename_i h2
        · rw [ih _ _ hd]; split <;> split <;> first | rfl | omega
        · rw [if_neg (by omega)]; rfl
        · rw [if_neg (by omega)]; rfl
        · rw [ih _ _ hd]; split <;> split <;> first | rfl | omega
theorem Tr.get_set (t:Tr):∀ (n m:Nat) (v:AVal),(t.set n v).get m=if m=n then v else t.get m:=by
  induction t with
  | lf=>intro n m v; rw [Tr.set_lf,Tr.get_one v _ _ _ (by omega),Tr.get_lf]
  | nd l w r ihl ihr =>
    intro n m v
    cases n with
    | zero =>
      cases m with
      | zero=>simp [Tr.set_nd,Tr.get_nd]
      | succ m=>simp [Tr.set_nd,Tr.get_nd]
    | succ n =>
      cases m with
      | zero=>simp only [Tr.set_nd]; split <;> simp [Tr.get_nd]
      | succ m =>
        simp only [Tr.set_nd]
        split <;> rename_i h1 <;> simp only [Tr.get_nd] <;> split <;> rename_i h2
        · rw [ihl]; split <;> split <;> first | rfl | omega
        · rw [if_neg (by omega)]
        · rw [if_neg (by omega)]
        · rw [ihr]; split <;> split <;> first | rfl | omega
def fNat {α:Type} (n:Nat) (k:Nat→α):α:=match n with | 0=>k 0 | m + 1=>k (Nat.succ m)
def fInt {α:Type} (n:Int) (k:Int→α):α:=match n with | .ofNat m=>fNat m fun m=>k (.ofNat m) | .negSucc m=>fNat m fun m=>k (.negSucc m)
def fBool {α:Type} (b:Bool) (k:Bool→α):α:=match b with | true=>k true | false=>k false
theorem fNat_eq {α:Type} (n:Nat) (k:Nat→α):fNat n k=k n:=by cases n <;> rfl
theorem fInt_eq {α:Type} (n:Int) (k:Int→α):fInt n k=k n:=by cases n <;> simp [fInt,fNat_eq]
theorem fBool_eq {α:Type} (b:Bool) (k:Bool→α):fBool b k=k b:=by cases b <;> rfl
def mkI (k:IntKind) (n:Int):Option AVal:=some (.int k n)
def mkB (b:Bool):Option AVal:=some (.bool b)
theorem mkI_eq (k:IntKind) (n:Int):mkI k n=some (.int k n):=rfl
theorem mkB_eq (b:Bool):mkB b=some (.bool b):=rfl
def asI (x:AVal):Option (IntKind×Int):=match x with
  | .int k n=>some (k,n)
  | _=>none
theorem asI_some {x:AVal} {k:IntKind} {a:Int} (h:asI x=some (k,a)):x=.int k a:=by
  unfold asI at h
  split at h
  · cases h; rfl
  · cases h
def asB (x:AVal):Option Bool:=match x with
  | .bool b=>some b
  | _=>none
theorem asB_some {x:AVal} {b:Bool} (h:asB x=some b):x=.bool b:=by
  unfold asB at h
  split at h
  · cases h; rfl
  · cases h
def force {α:Type} (eager:Bool) (v:AVal) (k:AVal→α):α:=match eager with
  | false=>k v
  | true=>match asI v with
    | some (kd,n)=>fInt n fun n=>k (.int kd n)
    | none=>match asB v with
      | some b=>fBool b fun b=>k (.bool b)
      | none=>k v
theorem force_eq {α:Type} (eager:Bool) (v:AVal) (k:AVal→α):force eager v k=k v:=by
  unfold force
  split
  · rfl
  · split
    · rename_i kd n h; rw [fInt_eq,asI_some h]
    · split
      · rename_i b h; rw [fBool_eq,asB_some h]
      · rfl
def wrapI (k:IntKind) (n:Int):Int:=match k with
  | .i64=>let m:=n % 18446744073709551616; if m < 9223372036854775808 then m else m - 18446744073709551616
  | .u64=>n % 18446744073709551616
  | .i32=>let m:=n % 4294967296; if m < 2147483648 then m else m - 4294967296
  | .u32=>n % 4294967296
  | .i16=>let m:=n % 65536; if m < 32768 then m else m - 65536
  | .u16=>n % 65536
  | .i8=>let m:=n % 256; if m < 128 then m else m - 256
  | .u8=>n % 256
theorem wrapI_eq (k:IntKind) (n:Int):k.wrap n=wrapI k n:=by
  cases k <;> simp only [IntKind.wrap,IntKind.signed,IntKind.bits,wrapI] <;> simp <;> (try split) <;> (try split) <;> omega
structure TI where
  desc:TypeDesc
  size:Nat
  bytes:Nat
  zero:List AVal
  agg:Bool
  flds:List (Nat×Nat×Bool)
  cmp:Bool
  meths:Array Method
inductive CK where
  | i
  | s
  | b
structure Sg where
  ty:TypeId→Option TI
  fn:FuncId→Option Func
  ext:FuncId→Option (List AVal→Heap→Option (AVal×Heap))
  pure:FuncId→Bool
  quiet:FuncId→Bool
  mutT:TypeId→Bool
  eqT:TypeId→Option (List CK)
  meth:TypeId→String→Option FuncId
  glob:Nat→AVal
  pin:Nat→Option Value
  eager:Bool
def ofV1:Value→AVal
  | .bool b=>.bool b
  | .int k n=>.int k n
  | .string s=>.str s.data.toList
  | .pointer none=>.nilp
  | .slice none 0 0=>.nils
  | .map none=>.nilm
  | .nilFunc=>.nilfn
  | .nilIface=>.nili
  | _=>.any
def ofValue:Value→AVal
  | .agg cs=>.agg (cs.toList.map ofV1)
  | .tuple cs=>.tup (cs.toList.map ofV1)
  | v=>ofV1 v
def opd (S:Sg) (e:Tr):Operand→AVal
  | .tmp t=>e.get t
  | .const v=>ofValue v
  | .global g=>S.glob g
  | .func f=>.fn f [] []
def cellsOf:AVal→Option (List AVal)
  | .any | .tup _=>none
  | .agg cs=>some cs
  | v=>some [v]
def rowAt (H:Heap):AVal→Option (List AVal×Nat)
  | .ptr id off=>match H[id]? with
    | some (.cells vs _)=>some (vs,off)
    | _=>none
  | .ip cells off _=>some (cells,off)
  | .obj o=>match expand o with
    | .ip cells off _=>some (cells,off)
    | _=>none
  | _=>none
def getVar (t:TI) (row:List AVal) (off:Nat):Option AVal :=
  if t.agg then (if off + t.size≤row.length then some (.agg ((row.drop off).take t.size)) else none) else row[off]?
def setRange (vs:List AVal) (off:Nat) (news:List AVal):List AVal:=vs.take off ++ news ++ vs.drop (off + news.length)
def ptrAdd:AVal→Nat→Option AVal
  | .ptr id off,n=>some (.ptr id (off + n))
  | .ip cells off cl,n=>some (.ip cells (off + n) cl)
  | .obj o,n=>match expand o with
    | .ip cells off cl=>some (.ip cells (off + n) cl)
    | _=>none
  | _,_=>none
def fillA (place:Nat→Option (Nat×Nat)) (cells:List AVal):List (Nat×AVal)→Option (List AVal)
  | []=>some cells
  | (i,v) :: rest =>
    match place i,cellsOf v with
    | some (off,size),some vc=>if vc.length=size∧off + size≤cells.length then fillA place (setRange cells off vc) rest else none
    | _,_=>none
def newRowA (mu:Bool) (H:Heap) (cells:List AVal) (ty:TypeId):AVal×Heap :=
  if mu then (.ptr H.length 0,H ++ [.cells cells ty]) else (.ip cells 0 (cells.all AVal.closed1),H)
def intBin (op:BinOp) (k:IntKind) (a b:Int):Option AVal :=
  match op with
  | .add=>mkI k (wrapI k (a + b))
  | .sub=>mkI k (wrapI k (a - b))
  | .mul=>mkI k (wrapI k (a * b))
  | .quo=>if b=0 then none else mkI k (wrapI k (a.tdiv b))
  | .rem=>if b=0 then none else mkI k (a.tmod b)
  | .and=>mkI k (wrapI k (BitVec.ofInt k.bits a &&& BitVec.ofInt k.bits b).toNat)
  | .or=>mkI k (wrapI k (BitVec.ofInt k.bits a ||| BitVec.ofInt k.bits b).toNat)
  | .xor=>mkI k (wrapI k (BitVec.ofInt k.bits a ^^^ BitVec.ofInt k.bits b).toNat)
  | .andNot=>mkI k (wrapI k (BitVec.ofInt k.bits a &&& ~~~BitVec.ofInt k.bits b).toNat)
  | .eql=>mkB (decide (a=b))
  | .neq=>mkB (!decide (a=b))
  | .lss=>mkB (decide (a < b))
  | .leq=>mkB (decide (a≤b))
  | .gtr=>mkB (decide (b < a))
  | .geq=>mkB (decide (b≤a))
  | _=>none
def shiftBin (op:BinOp) (k:IntKind) (a b:Int):Option AVal :=
  if b < 0 then none else
  match op with
  | .shl=>mkI k (wrapI k (a * 2 ^ (min b.toNat k.bits)))
  | .shr=>mkI k (a.fdiv (2 ^ (min b.toNat k.bits)))
  | _=>none
def strBin (op:BinOp) (a b:List UInt8):Option AVal :=
  match op with
  | .add=>if a.length + b.length≤4611686018427387904 then some (.str (a ++ b)) else none
  | .eql=>mkB (decide (a=b))
  | .neq=>mkB (!decide (a=b))
  | .lss=>mkB (Op.bytesLess a b)
  | .leq=>mkB (Op.bytesLess a b || decide (a=b))
  | .gtr=>mkB (!(Op.bytesLess a b || decide (a=b)))
  | .geq=>mkB (!Op.bytesLess a b)
  | _=>none
def eqCell:CK→AVal→AVal→Option Bool
  | .i,.int k a,.int k' b=>if k=k' then some (a == b) else none
  | .s,.str a,.str b=>some (decide (a=b))
  | .b,.bool a,.bool b=>some (a == b)
  | _,_,_=>none
def eqCells:List CK→List AVal→List AVal→Option Bool
  | [],[],[]=>some true
  | ck :: cks,a :: as,b :: bs=>match eqCell ck a b with
    | some true=>eqCells cks as bs
    | some false=>some false
    | none=>none
  | _,_,_=>none
def isPtr:AVal→Bool
  | .ptr _ _ | .ip _ _ _ | .obj _=>true
  | _=>false
def isSl:AVal→Bool
  | .sl _ _ _ _ _=>true
  | .isl _ _ (_ + 1) _ _=>true
  | _=>false
def eqA (S:Sg) (t:TypeId) (x y:AVal) (isC:Bool):Option Bool :=
  match x,y with
  | .bool a,.bool b=>match S.ty t with
    | some { desc:=.bool,.. }=>some (a == b)
    | _=>none
  | .nilp,y=>match S.ty t with
    | some { desc:=.pointer _,.. }=>match y with
      | .nilp=>some true
      | y=>if isPtr y then some false else none
    | _=>none
  | .nili,.nili=>if isC then (match S.ty t with
    | some { desc:=.interface _,.. }=>some true
    | _=>none) else none
  | .nili,.iface _ _ | .iface _ _,.nili=>match S.ty t with
    | some { desc:=.interface _,.. }=>some false
    | _=>none
  | .agg xs,.agg ys=>match S.eqT t with
    | some ks=>eqCells ks xs ys
    | none=>none
  | x,.nilp=>match S.ty t with
    | some { desc:=.pointer _,.. }=>if isPtr x then some false else none
    | _=>none
  | x,.nils=>match S.ty t with
    | some { desc:=.slice _,.. }=>match x with
      | .nils=>some true
      | x=>if isSl x then some false else none
    | _=>none
  | .iface u x,.iface u' y=>match S.ty t with
    | some { desc:=.interface _,.. }=>if u≠u' then some false else match S.ty u with
      | some ti=>if ti.cmp then (match ti.desc,x,y with
        | .int _,.int k a,.int k' b=>if k=k' then some (a == b) else none
        | _,_,_=>none) else none
      | none=>none
    | _=>none
  | _,_=>none
def denBin (S:Sg) (op:BinOp) (t:TypeId) (x y:AVal) (isC:Bool):Option AVal :=
  match x,y with
  | .int k a,.int k' b =>
    match op with
    | .shl | .shr=>shiftBin op k a b
    | op=>if k=k' then intBin op k a b else none
  | .str a,.str b=>strBin op a b
  | x,y =>
    match op with
    | .eql=>match eqA S t x y isC with
      | some b=>mkB b
      | none=>none
    | .neq=>match eqA S t x y isC with
      | some b=>mkB (!b)
      | none=>none
    | _=>none
def natK (k:IntKind):Nat:=IntKind.casesOn (motive:=fun _=>Nat) k 127 32767 2147483647 9223372036854775807 255 65535 4294967295 18446744073709551615
def kindN (k:IntKind):Nat:=IntKind.casesOn (motive:=fun _=>Nat) k 0 1 2 3 4 5 6 7
noncomputable def iteB (b:Bool) (x y:Option AVal):Option AVal:=Bool.rec y x b
noncomputable def tellN (k:IntKind) (s:Nat):Option AVal:=some (.int k (.ofNat s))
noncomputable def fitN (k:IntKind) (s:Nat) (g:Option AVal):Option AVal:=iteB (Nat.ble s (natK k)) (tellN k s) g
noncomputable def tellB (b:Bool):Option AVal:=some (.bool b)
noncomputable def bothN (a b:Int) (f:Nat→Nat→Option AVal) (g:Option AVal):Option AVal:=Int.rec (fun m=>Int.rec (fun n=>f m n) (fun _=>g) b) (fun _=>g) a
abbrev FastI:=IntKind→Nat→Nat→Option AVal→Option AVal
noncomputable def fAdd:FastI:=fun k m n g=>fitN k (Nat.add m n) g
noncomputable def fSub:FastI:=fun k m n g=>iteB (Nat.ble n m) (fitN k (Nat.sub m n) g) g
noncomputable def fMul:FastI:=fun k m n g=>fitN k (Nat.mul m n) g
noncomputable def fQuo:FastI:=fun k m n g=>iteB (Nat.ble 1 n) (fitN k (Nat.div m n) g) g
noncomputable def fRem:FastI:=fun k m n g=>iteB (Nat.ble 1 n) (tellN k (Nat.mod m n)) g
noncomputable def fEql:FastI:=fun _ m n _=>tellB (Nat.beq m n)
noncomputable def fNeq:FastI:=fun _ m n _=>tellB (!Nat.beq m n)
noncomputable def fLss:FastI:=fun _ m n _=>tellB (Nat.blt m n)
noncomputable def fLeq:FastI:=fun _ m n _=>tellB (Nat.ble m n)
noncomputable def fGtr:FastI:=fun _ m n _=>tellB (Nat.blt n m)
noncomputable def fGeq:FastI:=fun _ m n _=>tellB (Nat.ble n m)
noncomputable def fNo:FastI:=fun _ _ _ g=>g
noncomputable def fastI (op:BinOp):FastI:=BinOp.casesOn (motive:=fun _=>FastI) op fAdd fSub fMul fQuo fRem fNo fNo fNo fNo fNo fNo fEql fNeq fLss fLeq fGtr fGeq
def denBinF (S:Sg) (op:BinOp) (t:TypeId) (x y:AVal) (isC:Bool):Option AVal :=
  match asI x with
  | none=>denBin S op t x y isC
  | some (k,a)=>match asI y with
    | none=>denBin S op t x y isC
    | some (k',b)=>iteB (Nat.beq (kindN k) (kindN k')) (bothN a b (fun m n=>fastI op k m n (denBin S op t x y isC)) (denBin S op t x y isC)) (denBin S op t x y isC)
theorem tellN_eq (k:IntKind) (s:Nat):tellN k s=some (.int k s):=rfl
theorem tellB_eq (b:Bool):tellB b=some (.bool b):=rfl
theorem iteB_eq (b:Bool) (x y:Option AVal):iteB b x y=if b then x else y:=by cases b <;> rfl
theorem kindN_inj {k k':IntKind} (h:kindN k=kindN k'):k=k':=by cases k <;> cases k' <;> first | rfl | (simp [kindN] at h)
theorem wrapI_fit (k:IntKind) (s:Nat) (h:s≤natK k):wrapI k (s:Int)=s:=by
  cases k <;> simp only [natK,wrapI] at h ⊢ <;> (try split) <;> omega
theorem fitN_eq {k:IntKind} {s:Nat} {z:Int} {g:Option AVal} (hz:z=s) (hg:g=mkI k (wrapI k z)):fitN k s g=g:=by
  unfold fitN
  rw [iteB_eq]
  split
  · rename_i h
    rw [tellN_eq,hg,mkI_eq,hz,wrapI_fit k s (Nat.le_of_ble_eq_true h)]
  · rfl
theorem fastI_eq (op:BinOp) (k:IntKind) (m n:Nat):fastI op k m n (intBin op k m n)=intBin op k m n:=by
  cases op <;> try rfl
  case add=>exact fitN_eq (z:=(m:Int) + n) rfl rfl
  case sub =>
    show iteB _ _ _=_
    rw [iteB_eq]
    split
    · rename_i h
      have:=Nat.le_of_ble_eq_true h
      refine fitN_eq (z:=(m:Int) - n) ?_ rfl
      show (m:Int) - n=((m - n:Nat):Int)
      omega
    · rfl
  case mul=>exact fitN_eq (z:=(m:Int) * n) rfl rfl
  case quo =>
    show iteB _ _ _=_
    rw [iteB_eq]
    split
    · rename_i h
      have h1:=Nat.le_of_ble_eq_true h
      have hn:((n:Int)=0)=False:=by simp; omega
      have hi:intBin .quo k m n=mkI k (wrapI k ((m:Int).tdiv n)):=by simp only [intBin,hn,if_false]
      rw [hi]
      refine fitN_eq (z:=(m:Int).tdiv n) ?_ rfl
      exact Int.ofNat_tdiv m n
    · rfl
  case rem =>
    show iteB _ _ _=_
    rw [iteB_eq]
    split
    · rename_i h
      have h1:=Nat.le_of_ble_eq_true h
      have hn:((n:Int)=0)=False:=by simp; omega
      rw [tellN_eq]
      simp only [intBin,hn,if_false,mkI_eq]
      rw [← Int.ofNat_tmod]; rfl
    · rfl
  case eql =>
    show tellB _=_
    rw [tellB_eq]
    simp only [intBin,mkB_eq]
    cases h:Nat.beq m n with
    | true=>rw [Nat.eq_of_beq_eq_true h]; simp
    | false=>have:=Nat.ne_of_beq_eq_false h; simp; omega
  case neq =>
    show tellB _=_
    rw [tellB_eq]
    simp only [intBin,mkB_eq]
    cases h:Nat.beq m n with
    | true=>rw [Nat.eq_of_beq_eq_true h]; simp
    | false=>have:=Nat.ne_of_beq_eq_false h; simp; omega
  case lss=>show tellB _=_; rw [tellB_eq]; simp only [intBin,mkB_eq]; congr 2; rw [Bool.eq_iff_iff]; simp [Nat.blt_eq]
  case leq=>show tellB _=_; rw [tellB_eq]; simp only [intBin,mkB_eq]; congr 2; rw [Bool.eq_iff_iff]; simp [Nat.ble_eq]
  case gtr=>show tellB _=_; rw [tellB_eq]; simp only [intBin,mkB_eq]; congr 2; rw [Bool.eq_iff_iff]; simp [Nat.blt_eq]
  case geq=>show tellB _=_; rw [tellB_eq]; simp only [intBin,mkB_eq]; congr 2; rw [Bool.eq_iff_iff]; simp [Nat.ble_eq]
theorem denBinF_eq (S:Sg) (op:BinOp) (t:TypeId) (x y:AVal) (isC:Bool):denBinF S op t x y isC=denBin S op t x y isC:=by
  unfold denBinF
  split
  · rfl
  · rename_i k a hx
    split
    · rfl
    · rename_i k' b hy
      rw [asI_some hx,asI_some hy]
      rw [iteB_eq]
      split
      · rename_i hk
        have hkk:=kindN_inj (Nat.eq_of_beq_eq_true hk)
        subst hkk
        cases a with
        | negSucc m=>rfl
        | ofNat m=>cases b with
          | negSucc n=>rfl
          | ofNat n =>
            show fastI op k m n (denBin S op t (.int k (m:Int)) (.int k (n:Int)) isC)=denBin S op t (.int k (m:Int)) (.int k (n:Int)) isC
            have h:∀ op,op≠.shl→op≠.shr→denBin S op t (.int k (m:Int)) (.int k (n:Int)) isC=intBin op k m n:=by
              intro op h1 h2
              cases op <;> first | (exact absurd rfl h1) | (exact absurd rfl h2) | simp [denBin]
            by_cases h1:op=.shl
            · subst h1; rfl
            · by_cases h2:op=.shr
              · subst h2; rfl
              · rw [h op h1 h2]; exact fastI_eq op k m n
      · rfl
def denUn (op:UnOp) (x:AVal):Option AVal :=
  match op,x with
  | .neg,.int k n=>mkI k (wrapI k (0 - n))
  | .not,.bool b=>mkB (!b)
  | .xor,.int k n=>mkI k (wrapI k (BitVec.ofInt k.bits (if k.signed then -1 else k.max) ^^^ BitVec.ofInt k.bits n).toNat)
  | _,_=>none
def bytesOf:List AVal→Option (List UInt8)
  | []=>some []
  | .int .u8 n :: rest=>match bytesOf rest with
    | some l=>some (UInt8.ofNat n.toNat :: l)
    | none=>none
  | _=>none
def toBytes (l:List UInt8):List AVal:=l.map fun b=>.int .u8 b.toNat
def sliceCells (H:Heap) (sz:Nat):AVal→Option (List AVal×Nat)
  | .nils=>some ([],0)
  | .str l=>if sz=1 then some (toBytes l,l.length) else none
  | .sl id off len _ _=>match H[id]? with
    | some (.cells vs _)=>if off + len * sz≤vs.length then some ((vs.drop off).take (len * sz),len) else none
    | _=>none
  | .isl cells off len _ _=>if off + len * sz≤cells.length then some ((cells.drop off).take (len * sz),len) else none
  | _=>none
def denConvert (S:Sg) (H:Heap) (src dst:TypeId) (x:AVal):Option AVal :=
  match S.ty src,S.ty dst,x with
  | some _,some { desc:=.int k,.. },.int _ n=>mkI k (wrapI k n)
  | some _,some { desc:=.string,.. },.str l=>some (.str l)
  | some _,some { desc:=.slice e,.. },.str l=>match S.ty e with
    | some { desc:=.int .u8,.. }=>if l.length≤4611686018427387904 then some (.isl (toBytes l) 0 l.length none true) else none
    | _=>none
  | some { desc:=.slice e,.. },some { desc:=.string,.. },x=>match S.ty e with
    | some { desc:=.int .u8,.. }=>match x with
      | .str _=>none
      | x=>match sliceCells H 1 x with
        | some (cs,_)=>match bytesOf cs with
          | some l=>some (.str l)
          | none=>none
        | none=>none
    | _=>none
  | _,_,_=>none
def bound (v:AVal) (most:Nat):Option Nat :=
  match v with
  | .int _ n=>if 0≤n∧n≤most then some n.toNat else none
  | _=>none
def bounds (len most:Nat) (low high:Option AVal):Option (Nat×Nat) :=
  match (match high with | some v=>bound v most | none=>some len) with
  | some h=>match (match low with | some v=>bound v h | none=>some 0) with
    | some l=>fNat l fun l=>fNat h fun h=>some (l,h)
    | none=>none
  | none=>none
def denSlice (S:Sg) (H:Heap) (t:TypeId) (x:AVal) (low high max:Option AVal):Option AVal :=
  match max with
  | some _=>none
  | none =>
    match S.ty t,x with
    | some { desc:=.string,.. },.str s=>match bounds s.length s.length low high with
      | some (l,h)=>some (.str ((s.drop l).take (h - l)))
      | none=>none
    | some { desc:=.slice e,.. },.nils=>match S.ty e with
      | some _=>(match bounds 0 0 low high with
        | some _=>some .nils
        | none=>none)
      | none=>none
    | some { desc:=.slice e,.. },.sl id off len cap sz=>match S.ty e with
      | some te=>if te.size=sz then (match bounds len (cap.getD len) low high with
        | some (l,h)=>some (.sl id (off + l * sz) (h - l) (cap.map (· - l)) sz)
        | none=>none) else none
      | none=>none
    | some { desc:=.slice e,.. },.isl cells off len cap cl=>match S.ty e with
      | some te=>match bounds len len low high with
        | some (l,h)=>some (.isl cells (off + l * te.size) (h - l) (cap.map (· - l)) cl)
        | none=>none
      | none=>none
    | some { desc:=.array n e,.. },x=>match S.ty e,bounds n n low high with
      | some te,some (l,h)=>match x with
        | .ptr id off=>(match H[id]? with
          | some (.cells vs _)=>if off + n * te.size≤vs.length∧n≤4611686018427387904 then some (.sl id (off + l * te.size) (h - l) (some (n - l)) te.size) else none
          | _=>none)
        | .ip cells off cl=>if n≤4611686018427387904 then some (.isl cells (off + l * te.size) (h - l) (some (n - l)) cl) else none
        | _=>none
      | _,_=>none
    | _,_=>none
def denMakeSlice (S:Sg) (H:Heap) (t:TypeId) (l c:AVal):Option (AVal×Heap) :=
  match S.ty t,l,c with
  | some { desc:=.slice e,.. },.int _ l,.int _ c=>match S.ty e with
    | some te=>if 0≤l∧l≤c∧c * te.bytes≤140737488355328∧c≤4611686018427387904 then
        some (.sl H.length 0 l.toNat (some c.toNat) te.size,H ++ [.cells ((List.replicate c.toNat te.zero).flatten) e]) else none
    | none=>none
  | _,_,_=>none
def denAppend (S:Sg) (H:Heap) (t t2:TypeId) (s x:AVal):Option (AVal×Heap) :=
  match S.ty t,S.ty t2 with
  | some { desc:=.slice e,.. },some t2=>match t2.desc with
    | .int _=>none
    | _=>match S.ty e with
      | none=>none
      | some te=>match sliceCells H te.size x with
        | none=>none
        | some (news,n) =>
          if news.all AVal.cell=false then none else
          match n with
          | 0=>match s with
            | .nils | .sl .. | .isl ..=>some (s,H)
            | _=>none
          | m + 1 =>
            match s with
            | .nils=>if (m + 1) * te.bytes≤140737488355328∧m + 1≤4611686018427387904 then
                some (.sl H.length 0 (m + 1) none te.size,H ++ [.cells news e]) else none
            | .sl id off len cap sz =>
              if te.size=sz∧0 < sz∧(len + (m + 1)) * te.bytes≤140737488355328∧len + (m + 1)≤4611686018427387904 then
                match sliceCells H te.size s with
                | none=>none
                | some (olds,_) =>
                  match cap with
                  | none=>some (.sl H.length 0 (len + (m + 1)) none te.size,H.set id .dead ++ [.cells (olds ++ news) e])
                  | some c=>if len + (m + 1)≤c then
                      (match H[id]? with
                      | some (.cells vs ty)=>if off + (len + (m + 1)) * sz≤vs.length then
                          some (.sl id off (len + (m + 1)) cap sz,H.set id (.cells (setRange vs (off + len * sz) news) ty)) else none
                      | _=>none)
                    else some (.sl H.length 0 (len + (m + 1)) none te.size,H ++ [.cells (olds ++ news) e])
              else none
            | .isl cells off len cap cl =>
              match cap with
              | none=>none
              | some c=>if c < len + (m + 1)∧(len + (m + 1)) * te.bytes≤140737488355328∧len + (m + 1)≤4611686018427387904 then
                  (match sliceCells H te.size s with
                  | none=>none
                  | some (olds,_)=>some (.sl H.length 0 (len + (m + 1)) none te.size,H ++ [.cells (olds ++ news) e])) else none
            | _=>none
  | _,_=>none
def denCopy (S:Sg) (H:Heap) (t:TypeId) (d x:AVal):Option (AVal×Heap) :=
  match S.ty t with
  | some { desc:=.slice e,.. }=>match S.ty e with
    | none=>none
    | some te=>match sliceCells H te.size x with
      | none=>none
      | some (news,n)=>if news.all AVal.cell=false then none else match d with
        | .nils=>some (.int .i64 0,H)
        | .sl id off len _ sz=>if te.size=sz∧0 < sz then
            (match H[id]? with
            | some (.cells vs ty)=>fNat (min n len) fun k=>if off + k * sz≤vs.length then
                some (.int .i64 k,H.set id (.cells (setRange vs off (news.take (k * sz))) ty)) else none
            | _=>none) else none
        | _=>none
  | _=>none
def sameKey:AVal→AVal→Option Bool
  | .int k a,.int k' b=>if k=k' then some (decide (a=b)) else none
  | .str a,.str b=>some (decide (a=b))
  | _,_=>none
def findKeyA (k:AVal):List (AVal×AVal)→Nat→Option (Option (Nat×AVal))
  | [],_=>some none
  | e :: es,i=>match sameKey k e.1 with
    | some true=>some (some (i,e.2))
    | some false=>findKeyA k es (i + 1)
    | none=>none
def keyOk (d:TypeDesc) (k:AVal):Bool :=
  match d,k with
  | .int _,.int _ _=>true
  | .string,.str _=>true
  | _,_=>false
def zeroOf (t:TI):Option AVal:=if t.agg then some (.agg t.zero) else t.zero[0]?
def lookI (k:AVal) (es:List (AVal×AVal)):Option (Option (Nat×AVal)) :=
  if es.all fun e=>(sameKey k e.1).isSome then
    match es.filter fun e=>(sameKey k e.1).getD false with
    | []=>some none
    | [e]=>some (some (0,e.2))
    | _=>none
  else none
def denLookup (S:Sg) (H:Heap) (t:TypeId) (x k:AVal) (ok:Bool):Option AVal :=
  match S.ty t with
  | some { desc:=.map kt et,.. }=>match S.ty kt,S.ty et with
    | some tk,some te=>if keyOk tk.desc k then
        (match (match x with
          | .nilm=>some none
          | .map id=>(match H[id]? with
            | some (.map es)=>findKeyA k es 0
            | _=>none)
          | .imap ks vs _=>lookI k (ks.zip vs)
          | _=>none) with
        | none=>none
        | some (some (_,v))=>some (if ok then .tup [v,.bool true] else v)
        | some none=>match zeroOf te with
          | some z=>some (if ok then .tup [z,.bool false] else z)
          | none=>none) else none
    | _,_=>none
  | _=>none
def denMapUpdate (S:Sg) (H:Heap) (t:TypeId) (x k v:AVal):Option Heap :=
  match S.ty t,x with
  | some { desc:=.map kt _,.. },.map id=>match S.ty kt,H[id]? with
    | some tk,some (.map es)=>if keyOk tk.desc k then
        (match findKeyA k es 0 with
        | some (some (i,_))=>some (H.set id (.map (es.set i (k,v))))
        | some none=>some (H.set id (.map (es ++ [(k,v)])))
        | none=>none) else none
    | _,_=>none
  | _,_=>none
def denMapEntry (S:Sg) (H:Heap) (t:TypeId) (x k:AVal):Option (AVal×Heap) :=
  match S.ty t,x with
  | some { desc:=.map kt et,.. },.map id=>match S.ty kt,S.ty et,H[id]? with
    | some tk,some te,some (.map es)=>if keyOk tk.desc k then
        (match findKeyA k es 0 with
        | some (some (i,v))=>some (.tup [v,.int .i64 i],H.set id (.map (es.set i (k,v))))
        | some none=>match zeroOf te with
          | some z=>some (.tup [z,.int .i64 es.length],H.set id (.map (es ++ [(k,z)])))
          | none=>none
        | none=>none) else none
    | _,_,_=>none
  | _,_=>none
def denEntryStore (H:Heap) (x s v:AVal):Option Heap :=
  match x,s with
  | .map id,.int _ n=>match H[id]? with
    | some (.map es)=>if 0≤n then (match es[n.toNat]? with
      | some e=>some (H.set id (.map (es.set n.toNat (e.1,v))))
      | none=>none) else none
    | _=>none
  | _,_=>none
def denRange (S:Sg) (H:Heap) (t:TypeId) (x:AVal):Option (AVal×Heap) :=
  match S.ty t,x with
  | some { desc:=.string,.. },.str s=>some (.ptr H.length 0,H ++ [.siter s 0])
  | some { desc:=.map _ _,.. },.nilm=>some (.ptr H.length 0,H ++ [.niter])
  | some { desc:=.map _ _,.. },.map id=>match H[id]? with
    | some (.map es)=>some (.ptr H.length 0,H ++ [.miter id es.length []])
    | _=>none
  | _,_=>none
def denLen (H:Heap) (S:Sg) (t:TypeId) (x:AVal):Option AVal :=
  match S.ty t,x with
  | some { desc:=.string,.. },.str l=>fNat l.length fun n=>some (.int .i64 n)
  | some { desc:=.slice _,.. },.nils=>some (.int .i64 0)
  | some { desc:=.slice _,.. },.sl _ _ n _ _=>some (.int .i64 n)
  | some { desc:=.slice _,.. },.isl _ _ n _ _=>some (.int .i64 n)
  | some { desc:=.array n _,.. },_=>some (.int .i64 n)
  | some { desc:=.map _ _,.. },.nilm=>some (.int .i64 0)
  | some { desc:=.map _ _,.. },.map id=>match H[id]? with
    | some (.map es)=>fNat es.length fun n=>some (.int .i64 n)
    | _=>none
  | _,_=>none
def denMinMax (mn:Bool):List AVal→Option AVal
  | [.int k a,.int k' b]=>if k=k' then mkI k (if mn then (if b < a then b else a) else (if a < b then b else a)) else none
  | _=>none
def elemAddr (S:Sg) (t:TypeId) (x:AVal) (i:Int):Option AVal :=
  match S.ty t with
  | some { desc:=.array n e,.. }=>match S.ty e with
    | some te=>if 0≤i∧i < n then ptrAdd x (i.toNat * te.size) else none
    | none=>none
  | some { desc:=.slice e,.. }=>match S.ty e with
    | some te=>match x with
      | .sl id off len _ sz=>if te.size=sz∧0≤i∧i < len then fNat (off + i.toNat * sz) fun o=>some (.ptr id o) else none
      | .isl cells off len _ cl=>if 0≤i∧i < len then fNat (off + i.toNat * te.size) fun o=>some (.ip cells o cl) else none
      | _=>none
    | none=>none
  | _=>none
def denIndex (S:Sg) (t:TypeId) (x:AVal) (i:Int):Option AVal :=
  match S.ty t,x with
  | some { desc:=.string,.. },.str l=>if 0≤i then (match l[i.toNat]? with
    | some b=>fNat b.toNat fun n=>some (.int .u8 n)
    | none=>none) else none
  | some { desc:=.array n e,.. },.agg cs=>match S.ty e with
    | some te=>if 0≤i∧i < n then getVar te cs (i.toNat * te.size) else none
    | none=>none
  | _,_=>none
def hasAll (want:Array (String×TypeId)) (got:Array Method):Bool :=
  want.toList.all fun x=>got.any fun m=>m.name == x.1 && m.sig == x.2
def denAssert (S:Sg) (x:AVal) (asserted:TypeId) (ok:Bool):Option AVal :=
  match S.ty asserted with
  | none=>none
  | some ta=>match ta.desc with
    | .interface want=>match x with
      | .iface t v=>match S.ty t with
        | none=>none
        | some ti=>if hasAll want ti.meths then some (if ok then .tup [.iface t v,.bool true] else .iface t v) else
          (if ok then (match zeroOf ta with
            | some z=>some (.tup [z,.bool false])
            | none=>none) else none)
      | .nili => if ok then (match zeroOf ta with
            | some z=>some (.tup [z,.bool false])
            | none=>none) else none
      | _=>none
    | _=>match x with
      | .iface t v=>if t=asserted then some (if ok then .tup [v,.bool true] else v) else
          (if ok then (match zeroOf ta with
            | some z=>some (.tup [z,.bool false])
            | none=>none) else none)
      | .nili => if ok then (match zeroOf ta with
            | some z=>some (.tup [z,.bool false])
            | none=>none) else none
      | _=>none
abbrev Calling:=FuncId→List AVal→Heap→Option (AVal×Heap)
def undefA:AVal:=.tup []
def withH (H:Heap) (v:Option AVal):Option (AVal×Heap):=match v with
  | some v=>some (v,H)
  | none=>none
def isConstOp:Operand→Bool
  | .const _=>true
  | _=>false
def denOp (S:Sg) (call:Calling) (draw:Bool) (e:Tr) (H:Heap) (op:Op):Option (AVal×Heap) :=
  match op with
  | .move x | .assign x=>some (opd S e x,H)
  | .pick c a b=>match opd S e c with
    | .bool true=>some (opd S e a,H)
    | .bool false=>some (opd S e b,H)
    | _=>none
  | .alloc t=>match S.ty t with
    | some ti=>some (.ptr H.length 0,H ++ [.cells ti.zero t])
    | none=>none
  | .box t x=>match cellsOf (opd S e x) with
    | some cs=>some (newRowA (S.mutT t) H cs t)
    | none=>none
  | .build t parts=>match S.ty t with
    | some ti=>match ti.desc with
      | .struct _=>match fillA (fun i=>(ti.flds[i]?).map fun f=>(f.1,f.2.1)) ti.zero (parts.toList.map fun p=>(p.1,opd S e p.2)) with
        | some cs=>some (.agg cs,H)
        | none=>none
      | .array _ el=>match S.ty el with
        | some te=>match fillA (fun i=>some (i * te.size,te.size)) ti.zero (parts.toList.map fun p=>(p.1,opd S e p.2)) with
          | some cs=>some (.agg cs,H)
          | none=>none
        | none=>none
      | _=>none
    | none=>none
  | .buildSlice t n parts=>match S.ty t with
    | some { desc:=.slice el,.. }=>match S.ty el with
      | some te=>if n * te.size≤16777216∧n≤4611686018427387904 then
          (match fillA (fun i=>some (i * te.size,te.size)) ((List.replicate n te.zero).flatten) (parts.toList.map fun p=>(p.1,opd S e p.2)) with
          | some cs=>if draw then some (.isl cs 0 n (some n) (cs.all AVal.closed1),H) else some (.sl H.length 0 n (some n) te.size,H ++ [.cells cs el])
          | none=>none) else none
      | none=>none
    | _=>none
  | .load t a=>match S.ty t,rowAt H (opd S e a) with
    | some ti,some (row,off)=>withH H (getVar ti row off)
    | _,_=>none
  | .store t a x=>match S.ty t,opd S e a,cellsOf (opd S e x) with
    | some ti,.ptr id off,some cs=>match H[id]? with
      | some (.cells vs ty)=>if cs.length=ti.size∧off + ti.size≤vs.length∧cs.all AVal.cell then some (undefA,H.set id (.cells (setRange vs off cs) ty)) else none
      | _=>none
    | _,_,_=>none
  | .nilCheck x=>match opd S e x with
    | .ptr id off=>some (.ptr id off,H)
    | .ip cs off cl=>some (.ip cs off cl,H)
    | .obj o=>some (.obj o,H)
    | .iface t v=>some (.iface t v,H)
    | .fn f a b=>some (.fn f a b,H)
    | _=>none
  | .binOp op t x y _=>withH H (denBin S op t (opd S e x) (opd S e y) (isConstOp x || isConstOp y))
  | .unOp op _ x=>withH H (denUn op (opd S e x))
  | .convert s d x=>withH H (denConvert S H s d (opd S e x))
  | .makeInterface t x=>match S.ty t with
    | some ti=>match ti.desc with
      | .interface _=>none
      | _=>some (.iface t (opd S e x),H)
    | none=>none
  | .makeFunc (.func f) first captured=>some (.fn f (first.toList.map (opd S e)) (captured.toList.map (opd S e)),H)
  | .makeMap t r=>match r with
    | none=>some (.map H.length,H ++ [.map []])
    | some r=>match S.ty t,opd S e r with
      | some { desc:=.map _ _,.. },.int _ _=>some (.map H.length,H ++ [.map []])
      | _,_=>none
  | .makeSlice t l c=>denMakeSlice S H t (opd S e l) (opd S e c)
  | .slice t x lo hi mx=>withH H (denSlice S H t (opd S e x) (lo.map (opd S e)) (hi.map (opd S e)) (mx.map (opd S e)))
  | .fieldAddr t x i=>match S.ty t with
    | some ti=>match ti.desc,ti.flds[i]? with
      | .struct _,some (off,size,_)=>match size with
        | 0=>none
        | _ + 1=>withH H (ptrAdd (opd S e x) off)
      | _,_=>none
    | none=>none
  | .field t x i=>match S.ty t with
    | some ti=>match ti.desc,ti.flds[i]?,opd S e x with
      | .struct _,some (off,size,agg),.agg cs=>if agg then (if off + size≤cs.length then some (.agg ((cs.drop off).take size),H) else none) else withH H cs[off]?
      | _,_,_=>none
    | none=>none
  | .indexAddr t x i=>match opd S e i with
    | .int _ n=>withH H (elemAddr S t (opd S e x) n)
    | _=>none
  | .index t x i=>match opd S e i with
    | .int _ n=>withH H (denIndex S t (opd S e x) n)
    | _=>none
  | .lookup t x k ok=>withH H (denLookup S H t (opd S e x) (opd S e k) ok)
  | .mapUpdate t m k v | .insert t m k v=>match denMapUpdate S H t (opd S e m) (opd S e k) (opd S e v) with
    | some H'=>some (undefA,H')
    | none=>none
  | .mapEntry t m k=>denMapEntry S H t (opd S e m) (opd S e k)
  | .entryStore _ m s v=>match denEntryStore H (opd S e m) (opd S e s) (opd S e v) with
    | some H'=>some (undefA,H')
    | none=>none
  | .range t x=>denRange S H t (opd S e x)
  | .next it true=>match opd S e it with
    | .ptr id 0=>match H[id]? with
      | some (.siter s pos)=>match s[pos]? with
        | none=>some (.tup [.bool false],H)
        | some b=>if b.toNat < 128 then fNat b.toNat fun n=>fNat (pos + 1) fun p=>some (.tup [.bool true,.int .i64 pos,.int .i32 n],H.set id (.siter s p)) else none
      | _=>none
    | _=>none
  | .typeAssert x _ t ok=>withH H (denAssert S (opd S e x) t ok)
  | .extract x i=>match opd S e x with
    | .tup vs=>withH H vs[i]?
    | _=>none
  | .call c=>match c.callee with
    | .value f=>match opd S e f with
      | .fn g first cap=>call g (first ++ c.args.toList.map (opd S e) ++ cap) H
      | _=>none
    | .invoke r m=>match opd S e r with
      | .iface t v=>match S.meth t m with
        | some g=>call g (v :: c.args.toList.map (opd S e)) H
        | none=>none
      | _=>none
    | .builtin b=>match b,c.args.toList.map (opd S e),c.argTypes.toList with
      | .append,[s,x],[t,t2]=>denAppend S H t t2 s x
      | .copy,[d,x],t :: _=>denCopy S H t d x
      | .len,[x],t :: _=>withH H (denLen H S t x)
      | .min,xs,_=>withH H (denMinMax true xs)
      | .max,xs,_=>withH H (denMinMax false xs)
      | _,_,_=>none
  | _=>none
abbrev Does:=Sg→Calling→Bool→Tr→Heap→Option (AVal×Heap)
def oNone:Does:=fun _ _ _ _ _=>none
def oMove (x:Operand):Does:=fun S call draw e H =>
  some (opd S e x,H)
def oAssign (x:Operand):Does:=fun S call draw e H =>
  some (opd S e x,H)
def oPick (c:Operand) (a:Operand) (b:Operand):Does:=fun S call draw e H =>
  match opd S e c with
    | .bool true=>some (opd S e a,H)
    | .bool false=>some (opd S e b,H)
    | _=>none
def oAlloc (t:TypeId):Does:=fun S call draw e H =>
  match S.ty t with
    | some ti=>some (.ptr H.length 0,H ++ [.cells ti.zero t])
    | none=>none
def oBox (t:TypeId) (x:Operand):Does:=fun S call draw e H =>
  match cellsOf (opd S e x) with
    | some cs=>some (newRowA (S.mutT t) H cs t)
    | none=>none
def oBuild (t:TypeId) (parts:Array (Nat×Operand)):Does:=fun S call draw e H =>
  match S.ty t with
    | some ti=>match ti.desc with
      | .struct _=>match fillA (fun i=>(ti.flds[i]?).map fun f=>(f.1,f.2.1)) ti.zero (parts.toList.map fun p=>(p.1,opd S e p.2)) with
        | some cs=>some (.agg cs,H)
        | none=>none
      | .array _ el=>match S.ty el with
        | some te=>match fillA (fun i=>some (i * te.size,te.size)) ti.zero (parts.toList.map fun p=>(p.1,opd S e p.2)) with
          | some cs=>some (.agg cs,H)
          | none=>none
        | none=>none
      | _=>none
    | none=>none
def oBuildSlice (t:TypeId) (n:Nat) (parts:Array (Nat×Operand)):Does:=fun S call draw e H =>
  match S.ty t with
    | some { desc:=.slice el,.. }=>match S.ty el with
      | some te=>if n * te.size≤16777216∧n≤4611686018427387904 then
          (match fillA (fun i=>some (i * te.size,te.size)) ((List.replicate n te.zero).flatten) (parts.toList.map fun p=>(p.1,opd S e p.2)) with
          | some cs=>if draw then some (.isl cs 0 n (some n) (cs.all AVal.closed1),H) else some (.sl H.length 0 n (some n) te.size,H ++ [.cells cs el])
          | none=>none) else none
      | none=>none
    | _=>none
def oInsert (t:TypeId) (m:Operand) (k:Operand) (v:Operand):Does:=fun S call draw e H =>
  match denMapUpdate S H t (opd S e m) (opd S e k) (opd S e v) with
    | some H'=>some (undefA,H')
    | none=>none
def oLoad (t:TypeId) (a:Operand):Does:=fun S call draw e H =>
  match S.ty t,rowAt H (opd S e a) with
    | some ti,some (row,off)=>withH H (getVar ti row off)
    | _,_=>none
def oStore (t:TypeId) (a:Operand) (x:Operand):Does:=fun S call draw e H =>
  match S.ty t,opd S e a,cellsOf (opd S e x) with
    | some ti,.ptr id off,some cs=>match H[id]? with
      | some (.cells vs ty)=>if cs.length=ti.size∧off + ti.size≤vs.length∧cs.all AVal.cell then some (undefA,H.set id (.cells (setRange vs off cs) ty)) else none
      | _=>none
    | _,_,_=>none
def oNilCheck (x:Operand):Does:=fun S call draw e H =>
  match opd S e x with
    | .ptr id off=>some (.ptr id off,H)
    | .ip cs off cl=>some (.ip cs off cl,H)
    | .obj o=>some (.obj o,H)
    | .iface t v=>some (.iface t v,H)
    | .fn f a b=>some (.fn f a b,H)
    | _=>none
def oBinOp (op:BinOp) (t:TypeId) (x:Operand) (y:Operand) (yt:TypeId):Does:=fun S call draw e H =>
  withH H (denBinF S op t (opd S e x) (opd S e y) (isConstOp x || isConstOp y))
def oUnOp (op:UnOp) (t:TypeId) (x:Operand):Does:=fun S call draw e H =>
  withH H (denUn op (opd S e x))
def oConvert (s:TypeId) (d:TypeId) (x:Operand):Does:=fun S call draw e H =>
  withH H (denConvert S H s d (opd S e x))
def oMakeInterface (t:TypeId) (x:Operand):Does:=fun S call draw e H =>
  match S.ty t with
    | some ti=>match ti.desc with
      | .interface _=>none
      | _=>some (.iface t (opd S e x),H)
    | none=>none
def oMakeFunc (fn:Fn) (first:Array Operand) (captured:Array Operand):Does:=fun S call draw e H =>
  match fn with
    | .func f=>some (.fn f (first.toList.map (opd S e)) (captured.toList.map (opd S e)),H)
    | _=>none
def oMakeMap (t:TypeId) (r:Option Operand):Does:=fun S call draw e H =>
  match r with
    | none=>some (.map H.length,H ++ [.map []])
    | some r=>match S.ty t,opd S e r with
      | some { desc:=.map _ _,.. },.int _ _=>some (.map H.length,H ++ [.map []])
      | _,_=>none
def oMakeSlice (t:TypeId) (l:Operand) (c:Operand):Does:=fun S call draw e H =>
  denMakeSlice S H t (opd S e l) (opd S e c)
def oSlice (t:TypeId) (x:Operand) (lo:Option Operand) (hi:Option Operand) (mx:Option Operand):Does:=fun S call draw e H =>
  withH H (denSlice S H t (opd S e x) (lo.map (opd S e)) (hi.map (opd S e)) (mx.map (opd S e)))
def oFieldAddr (t:TypeId) (x:Operand) (i:Nat):Does:=fun S call draw e H =>
  match S.ty t with
    | some ti=>match ti.desc,ti.flds[i]? with
      | .struct _,some (off,size,_)=>match size with
        | 0=>none
        | _ + 1=>withH H (ptrAdd (opd S e x) off)
      | _,_=>none
    | none=>none
def oField (t:TypeId) (x:Operand) (i:Nat):Does:=fun S call draw e H =>
  match S.ty t with
    | some ti=>match ti.desc,ti.flds[i]?,opd S e x with
      | .struct _,some (off,size,agg),.agg cs=>if agg then (if off + size≤cs.length then some (.agg ((cs.drop off).take size),H) else none) else withH H cs[off]?
      | _,_,_=>none
    | none=>none
def oIndexAddr (t:TypeId) (x:Operand) (i:Operand):Does:=fun S call draw e H =>
  match opd S e i with
    | .int _ n=>withH H (elemAddr S t (opd S e x) n)
    | _=>none
def oIndex (t:TypeId) (x:Operand) (i:Operand):Does:=fun S call draw e H =>
  match opd S e i with
    | .int _ n=>withH H (denIndex S t (opd S e x) n)
    | _=>none
def oLookup (t:TypeId) (x:Operand) (k:Operand) (ok:Bool):Does:=fun S call draw e H =>
  withH H (denLookup S H t (opd S e x) (opd S e k) ok)
def oMapUpdate (t:TypeId) (m:Operand) (k:Operand) (v:Operand):Does:=fun S call draw e H =>
  match denMapUpdate S H t (opd S e m) (opd S e k) (opd S e v) with
    | some H'=>some (undefA,H')
    | none=>none
def oMapEntry (t:TypeId) (m k:Operand):Does:=fun S call draw e H=>denMapEntry S H t (opd S e m) (opd S e k)
def oEntryStore (t:TypeId) (m s v:Operand):Does:=fun S call draw e H =>
  match denEntryStore H (opd S e m) (opd S e s) (opd S e v) with
    | some H'=>some (undefA,H')
    | none=>none
def oRange (t:TypeId) (x:Operand):Does:=fun S call draw e H=>denRange S H t (opd S e x)
def oNext (it:Operand) (st:Bool):Does:=fun S call draw e H =>
  match st with
    | true=>(match opd S e it with
    | .ptr id 0=>match H[id]? with
      | some (.siter s pos)=>match s[pos]? with
        | none=>some (.tup [.bool false],H)
        | some b=>if b.toNat < 128 then fNat b.toNat fun n=>fNat (pos + 1) fun p=>some (.tup [.bool true,.int .i64 pos,.int .i32 n],H.set id (.siter s p)) else none
      | _=>none
    | _=>none)
    | false=>none
def oTypeAssert (x:Operand) (xt:TypeId) (t:TypeId) (ok:Bool):Does:=fun S call draw e H =>
  withH H (denAssert S (opd S e x) t ok)
def oExtract (x:Operand) (i:Nat):Does:=fun S call draw e H =>
  match opd S e x with
    | .tup vs=>withH H vs[i]?
    | _=>none
def oCall (c:Call):Does:=fun S call draw e H =>
  match c.callee with
    | .value f=>match opd S e f with
      | .fn g first cap=>call g (first ++ c.args.toList.map (opd S e) ++ cap) H
      | _=>none
    | .invoke r m=>match opd S e r with
      | .iface t v=>match S.meth t m with
        | some g=>call g (v :: c.args.toList.map (opd S e)) H
        | none=>none
      | _=>none
    | .builtin b=>match b,c.args.toList.map (opd S e),c.argTypes.toList with
      | .append,[s,x],[t,t2]=>denAppend S H t t2 s x
      | .copy,[d,x],t :: _=>denCopy S H t d x
      | .len,[x],t :: _=>withH H (denLen H S t x)
      | .min,xs,_=>withH H (denMinMax true xs)
      | .max,xs,_=>withH H (denMinMax false xs)
      | _,_,_=>none
def opF (op:Op):Does :=
  Op.casesOn (motive:=fun _=>Does) op oMove oAssign oPick oAlloc oBox oBuild oBuildSlice oInsert oLoad oStore (fun _=>oNone) (fun _=>oNone) oNilCheck oBinOp oUnOp oConvert (fun _ _=>oNone) oMakeInterface oMakeFunc oMakeMap (fun _ _=>oNone) oMakeSlice oSlice oFieldAddr oField oIndexAddr oIndex oLookup oMapUpdate oMapEntry oEntryStore oRange oNext (fun _=>oNone) oTypeAssert oExtract oCall (fun _=>oNone) (fun _=>oNone) (fun _=>oNone) (fun _ _=>oNone) (fun _ _ _=>oNone) (fun _ _=>oNone)
theorem opF_eq (op:Op) (S:Sg) (call:Calling) (draw:Bool) (e:Tr) (H:Heap):opF op S call draw e H=denOp S call draw e H op:=by
  cases op <;> try rfl
  case binOp op t x y yt=>show withH H (denBinF S op t _ _ _)=_; rw [denBinF_eq]; rfl
  case makeFunc fn _ _=>cases fn <;> rfl
  case next it st=>cases st <;> rfl
def wantedA (ops:Array Oper) (e:Tr) (o:Oper):Option Bool :=
  match o.guard with
  | none=>some true
  | some (j,want)=>match (ops[j]?).bind (·.dst) with
    | none=>some false
    | some d=>match e.get d with
      | .bool b=>some (b == want)
      | .tup _=>some false
      | _=>none
def putA (n:Nat) (e:Tr) (dst:Option Tmp) (v:AVal):Option Tr :=
  match dst with
  | none=>some e
  | some d=>if d < n then some (e.set d v) else none
def denOpsC (S:Sg) (call:Calling) (n:Nat) (draw:Bool) (ops:Array Oper):List Oper→Tr→Heap→Option (Tr×Heap)
  | [],e,H=>some (e,H)
  | o :: rest,e,H =>
    match wantedA ops e o with
    | none=>none
    | some false=>match putA n e o.dst undefA with
      | some e'=>denOpsC S call n draw ops rest e' H
      | none=>none
    | some true=>match opF o.op S call draw e H with
      | none=>none
      | some (v,H')=>force S.eager v fun v=>match putA n e o.dst v with
        | some e'=>denOpsC S call n draw ops rest e' H'
        | none=>none
def denOpsS (S:Sg) (call:Calling) (n:Nat) (draw:Bool) (ops:Array Oper) (o:Oper) (ih:Tr→Heap→Option (Tr×Heap)) (e:Tr) (H:Heap):Option (Tr×Heap) :=
  match wantedA ops e o with
  | none=>none
  | some false=>match putA n e o.dst undefA with
    | some e'=>ih e' H
    | none=>none
  | some true=>match opF o.op S call draw e H with
    | none=>none
    | some (v,H')=>force S.eager v fun v=>match putA n e o.dst v with
      | some e'=>ih e' H'
      | none=>none
def denOps (S:Sg) (call:Calling) (n:Nat) (draw:Bool) (ops:Array Oper):List Oper→Tr→Heap→Option (Tr×Heap) :=
  List.rec (fun e H=>some (e,H)) (fun o _ ih=>denOpsS S call n draw ops o ih)
theorem denOps_nil (S:Sg) (call:Calling) (n:Nat) (draw:Bool) (ops:Array Oper) (e:Tr) (H:Heap):denOps S call n draw ops [] e H=some (e,H):=rfl
theorem denOps_cons (S:Sg) (call:Calling) (n:Nat) (draw:Bool) (ops:Array Oper) (o:Oper) (rest:List Oper) (e:Tr) (H:Heap):denOps S call n draw ops (o :: rest) e H=denOpsS S call n draw ops o (denOps S call n draw ops rest) e H:=rfl
inductive Ex where
  | normal
  | exit (id:Nat)
  | ret
abbrev Drawing:=Calling→Nat→Array Oper→Tr→Heap→Option (Tr×Heap)
abbrev Run:=Code→Tr→Heap→Option (Ex×Tr×Heap)
def stepCode (S:Sg) (dr:Drawing) (call:Calling) (n:Nat) (rec:Run):Run
  | .skip,e,H=>some (.normal,e,H)
  | .label _,e,H=>some (.normal,e,H)
  | .region _ ops false,e,H=>match denOps S call n false ops ops.toList e H with
    | some (e',H')=>some (.normal,e',H')
    | none=>none
  | .region _ ops true,e,H=>match dr call n ops e H with
    | some (e',H')=>some (.normal,e',H')
    | none=>none
  | .seq a b,e,H=>match rec a e H with
    | some (.normal,e',H')=>rec b e' H'
    | r=>r
  | .cond c a b,e,H=>match opd S e c with
    | .bool true=>rec a e H
    | .bool false=>rec b e H
    | _=>none
  | .block id body,e,H=>match rec body e H with
    | some (.exit id',e',H')=>if id'=id then some (.normal,e',H') else some (.exit id',e',H')
    | r=>r
  | .loop body,e,H=>match rec body e H with
    | some (.normal,e',H')=>rec (.loop body) e' H'
    | r=>r
  | .exit id,e,H=>some (.exit id,e,H)
  | .ret,e,H=>some (.ret,e,H)
  | _,_,_=>none
abbrev Steps:=Sg→Drawing→Calling→Nat→Run→Tr→Heap→Option (Ex×Tr×Heap)
def sSkip:Steps:=fun _ _ _ _ _ e H=>some (.normal,e,H)
def sLabel (_:Nat):Steps:=fun _ _ _ _ _ e H=>some (.normal,e,H)
def sRegion (_:Nat) (ops:Array Oper) (draw:Bool):Steps:=fun S dr call n _ e H=>match draw with
  | false=>match denOps S call n false ops ops.toList e H with
    | some (e',H')=>some (.normal,e',H')
    | none=>none
  | true=>match dr call n ops e H with
    | some (e',H')=>some (.normal,e',H')
    | none=>none
def sSeq (a b:Code):Steps:=fun _ _ _ _ rec e H=>match rec a e H with
  | some (.normal,e',H')=>rec b e' H'
  | r=>r
def sCond (c:Operand) (a b:Code):Steps:=fun S _ _ _ rec e H=>match opd S e c with
  | .bool true=>rec a e H
  | .bool false=>rec b e H
  | _=>none
def sBlock (id:Nat) (body:Code):Steps:=fun _ _ _ _ rec e H=>match rec body e H with
  | some (.exit id',e',H')=>if id'=id then some (.normal,e',H') else some (.exit id',e',H')
  | r=>r
def sLoop (body:Code):Steps:=fun _ _ _ _ rec e H=>match rec body e H with
  | some (.normal,e',H')=>rec (.loop body) e' H'
  | r=>r
def sExit (id:Nat):Steps:=fun _ _ _ _ _ e H=>some (.exit id,e,H)
def sRet:Steps:=fun _ _ _ _ _ e H=>some (.ret,e,H)
def sNone:Steps:=fun _ _ _ _ _ _ _=>none
def stepF (c:Code):Steps :=
  Code.casesOn (motive:=fun _=>Steps) c sSkip sRegion sSeq sCond sBlock sLoop (fun _ _ _ _=>sNone) sExit (fun _=>sNone) sLabel (fun _=>sNone) sRet (fun _=>sNone)
theorem stepF_eq (S:Sg) (dr:Drawing) (call:Calling) (n:Nat) (rec:Run) (c:Code) (e:Tr) (H:Heap):stepF c S dr call n rec e H=stepCode S dr call n rec c e H:=by
  cases c <;> try rfl
  case region id ops draw=>cases draw <;> rfl
def Tr.full:Nat→Tr
  | 0=>.lf
  | d + 1=>.nd (Tr.full d) .any (Tr.full d)
theorem Tr.get_full:∀ (d n:Nat),(Tr.full d).get n=.any
  | 0,n=>rfl
  | d + 1,n=>by
    show (Tr.nd (Tr.full d) .any (Tr.full d)).get n=_
    rw [Tr.get_nd]
    split
    · rfl
    · split
      · exact Tr.get_full d _
      · exact Tr.get_full d _
def argTr:List AVal→Nat→Tr→Tr
  | [],_,e=>e
  | a :: as,i,e=>argTr as (i + 1) (e.set i a)
def oneRes (S:Sg) (e:Tr) (H:Heap):ResultVar→Option AVal
  | .tmp t=>some (e.get t)
  | .cell a t=>match S.ty t,rowAt H (e.get a) with
    | some ti,some (row,off)=>getVar ti row off
    | _,_=>none
def allRes (S:Sg) (e:Tr) (H:Heap):List ResultVar→Option (List AVal)
  | []=>some []
  | r :: rs=>match oneRes S e H r,allRes S e H rs with
    | some v,some vs=>some (v :: vs)
    | _,_=>none
def denResults (S:Sg) (fn:Func) (e:Tr) (H:Heap):Option AVal :=
  match allRes S e H fn.results.toList with
  | some [v]=>some v
  | some vs=>some (.tup vs)
  | none=>none
def sealL (f:AVal→Option AVal):List AVal→Option (List AVal)
  | []=>some []
  | a :: as=>match f a,sealL f as with
    | some b,some bs=>some (b :: bs)
    | _,_=>none
def sealV (H:Heap):Nat→AVal→Option AVal
  | 0,_=>none
  | n + 1,a=>if a.closed then some a else match a with
    | .ptr id off=>match H[id]? with
      | some (.cells vs _)=>match sealL (sealV H n) vs with
        | some cs=>if cs.all AVal.closed1 then some (.ip cs off true) else none
        | none=>none
      | _=>none
    | .sl id off len cap sz=>match H[id]? with
      | some (.cells vs _)=>if off + len * sz≤vs.length then (match sealL (sealV H n) ((vs.drop off).take (len * sz)) with
        | some cs=>if cs.all AVal.closed1 then some (.isl cs 0 len cap true) else none
        | none=>none) else none
      | _=>none
    | .map id=>match H[id]? with
      | some (.map es)=>match sealL (sealV H n) (es.map (·.1)),sealL (sealV H n) (es.map (·.2)) with
        | some ks,some vs=>if ks.all AVal.closed1 && vs.all AVal.closed1 then some (.imap ks vs true) else none
        | _,_=>none
      | _=>none
    | .ip cells off _=>match sealL (sealV H n) cells with
      | some cs=>if cs.all AVal.closed1 then some (.ip cs off true) else none
      | none=>none
    | .isl cells off len cap _=>match sealL (sealV H n) cells with
      | some cs=>if cs.all AVal.closed1 then some (.isl cs off len cap true) else none
      | none=>none
    | .iface t v=>match sealV H n v with
      | some v'=>some (.iface t v')
      | none=>none
    | .agg cs=>match sealL (sealV H n) cs with
      | some cs'=>some (.agg cs')
      | none=>none
    | .tup cs=>match sealL (sealV H n) cs with
      | some cs'=>some (.tup cs')
      | none=>none
    | _=>none
def extRun (S:Sg) (f:FuncId) (args:List AVal) (H:Heap):Option (AVal×Heap):=match S.ext f with
  | some x=>x args H
  | none=>none
def stepCall (S:Sg) (rec:FuncId→Func→Code→Tr→Heap→Option (Ex×Tr×Heap)):Calling:=fun f args H =>
  match extRun S f args H with
  | some r=>some r
  | none=>match S.fn f with
    | none=>none
    | some fn=>match fn.body with
      | none=>none
      | some code =>
        if args.length≤fn.ntmps then
          if S.pure f && args.all AVal.closed then
            match rec f fn code (argTr args 0 (Tr.full (Nat.succ (Nat.log2 fn.ntmps)))) [] with
            | some (.exit _,_,_)=>none
            | some (_,e,H1)=>match denResults S fn e H1 with
              | some v=>match sealV H1 12 v with
                | some v'=>if v'.closed then some (v',H) else none
                | none=>none
              | none=>none
            | none=>none
          else if S.quiet f then none else
            match rec f fn code (argTr args 0 (Tr.full (Nat.succ (Nat.log2 fn.ntmps)))) H with
            | some (.exit _,_,_)=>none
            | some (_,e,H1)=>withH H1 (denResults S fn e H1)
            | none=>none
        else none
def denR (S:Sg) (dr:Drawing):Nat→FuncId→Func→Code→Tr→Heap→Option (Ex×Tr×Heap) :=
  Nat.rec (fun _ _ _ _ _=>none) (fun _ rec f fn c=>stepF c S dr (stepCall S rec) fn.ntmps (rec f fn))
def denC (S:Sg) (dr:Drawing) (n:Nat):Calling:=stepCall S (denR S dr n)
end Go.AM
namespace Go.AM
variable {P:Program}
theorem add_none (b o n:Nat):(⟨b,o,none⟩:Addr).add n=⟨b,o + n,none⟩:=by
  unfold Addr.add; split <;> simp_all
theorem VR.ofV1 (c:Ctx) (w:World) (v:Value):VR c w (AM.ofV1 v) v:=by
  unfold AM.ofV1
  split <;> first | exact .any _ | constructor
  rfl
theorem VR.ofValue (c:Ctx) (w:World) (v:Value):VR c w (AM.ofValue v) v:=by
  unfold AM.ofValue
  split
  · rename_i cs
    refine .agg _ _ (by simp) fun j a v ha hv=>?_
    rw [List.getElem?_map] at ha
    rw [Array.getElem?_toList,hv] at ha
    cases ha
    exact .ofV1 _ _ _
  · rename_i cs
    refine .tup _ _ (by simp) fun j a v ha hv=>?_
    rw [List.getElem?_map] at ha
    rw [Array.getElem?_toList,hv] at ha
    cases ha
    exact .ofV1 _ _ _
  · exact .ofV1 _ _ _
theorem cellsOf_ok {c:Ctx} {w:World} {a:AVal} {v:Value} {cs:List AVal} (h:cellsOf a=some cs) (hv:VR c w a v) :
    v.cells.size=cs.length∧∀ (j:Nat) (x:AVal) (y:Value),cs[j]?=some x→v.cells[j]?=some y→VR c w x y:=by
  have one:∀ (a:AVal) (v:Value),VR c w a v→v.cells=#[v]→v.cells.size=[a].length∧∀ (j:Nat) (x:AVal) (y:Value),[a][j]?=some x→v.cells[j]?=some y→VR c w x y:=by
    intro a v hv hc
    rw [hc]
    refine ⟨rfl,fun j x y hx hy=>?_⟩
    cases j with
    | zero=>simp at hx hy; subst hx; subst hy; exact hv
    | succ j=>simp at hx
  cases hv with
  | any=>simp [cellsOf] at h
  | tup=>simp [cellsOf] at h
  | agg cs' vs hs hh=>simp [cellsOf] at h; subst h; exact ⟨hs,hh⟩
  | obj o v hv' =>
    simp [cellsOf] at h; subst h
    have hc:v.cells=#[v]:=by cases o <;> (simp only [expand] at hv'; cases hv'; rfl)
    exact one _ _ (.obj o v hv') hc
  | _=>first | (simp [cellsOf] at h; subst h; exact one _ _ (by constructor <;> assumption) rfl)
theorem oneCell_of {c:Ctx} {w:World} {a:AVal} {v:Value} (h:a.cell=true) (hv:VR c w a v):v.oneCell'=true:=by
  cases hv with
  | any=>simp [AVal.cell] at h
  | tup=>simp [AVal.cell] at h
  | agg=>simp [AVal.cell] at h
  | obj o v hv'=>cases o <;> (simp only [expand] at hv'; cases hv'; rfl)
  | _=>rfl
theorem rowAt_ok {c:Ctx} {w:World} {H:Heap} {x:AVal} {v:Value} {row:List AVal} {off:Nat} (h:rowAt H x=some (row,off)) (hv:VR c w x v) (r:Rel c w H) :
    ∃ b o,v=.pointer (some ⟨b,o + off,none⟩)∧∀ (j:Nat) (a:AVal),row[j]?=some a→∃ u,w.cell? ⟨b,o + j,none⟩=some u∧VR c w a u:=by
  have imm:∀ {cells:List AVal} {off:Nat} {cl:Bool} {v:Value},VR c w (.ip cells off cl) v →
      ∃ b o,v=.pointer (some ⟨b,o + off,none⟩)∧∀ (j:Nat) (a:AVal),cells[j]?=some a→∃ u,w.cell? ⟨b,o + j,none⟩=some u∧VR c w a u:=by
    intro cells off cl v hv
    cases hv with
    | ip _ _ _ b o g hcl hF hc hh=>exact ⟨b,o,rfl,fun j a ha=>⟨g j,hc j (List.getElem?_eq_some_iff.1 ha).1,hh j a ha⟩⟩
  cases x with
  | ptr id off' =>
    simp only [rowAt] at h
    split at h
    · rename_i vs ty hH
      simp at h; obtain ⟨rfl,rfl⟩:=h
      cases hv with
      | ptr _ _ b o hι =>
        refine ⟨b,o,rfl,fun j a ha=>?_⟩
        obtain ⟨arr,e,hb,hl,hh⟩:=r.obj id _ b o hH hι
        have hj:j < vs.length:=(List.getElem?_eq_some_iff.1 ha).1
        have hlt:o + j < arr.size:=by omega
        refine ⟨arr[o + j],?_,hh j a _ ha (Array.getElem?_eq_getElem hlt)⟩
        simp [World.cell?,hb,hlt]
    · cases h
  | ip cells off' cl=>simp only [rowAt,Option.some.injEq,Prod.mk.injEq] at h; obtain ⟨rfl,rfl⟩:=h; exact imm hv
  | obj o =>
    cases hv with
    | obj _ _ hv'=>cases o <;> (simp only [rowAt,expand,Option.some.injEq,Prod.mk.injEq] at h; obtain ⟨rfl,rfl⟩:=h; exact imm hv')
  | _=>simp [rowAt] at h
theorem ptrAdd_ok {c:Ctx} {w:World} {x y:AVal} {v:Value} {n:Nat} (h:ptrAdd x n=some y) (hv:VR c w x v) :
    ∃ b o,v=.pointer (some ⟨b,o,none⟩)∧VR c w y (.pointer (some ⟨b,o + n,none⟩)):=by
  have imm:∀ {cells:List AVal} {off:Nat} {cl:Bool} {v:Value},VR c w (.ip cells off cl) v →
      ∃ b o,v=.pointer (some ⟨b,o,none⟩)∧VR c w (.ip cells (off + n) cl) (.pointer (some ⟨b,o + n,none⟩)):=by
    intro cells off cl v hv
    cases hv with
    | ip _ _ _ b o g hcl hF hc hh=>exact ⟨b,o + off,rfl,by rw [Nat.add_assoc]; exact .ip cells (off + n) cl b o g hcl hF hc hh⟩
  cases x with
  | ptr id off =>
    simp only [ptrAdd,Option.some.injEq] at h; subst h
    cases hv with
    | ptr _ _ b o hι=>exact ⟨b,o + off,rfl,by rw [Nat.add_assoc]; exact .ptr id (off + n) b o hι⟩
  | ip cells off cl=>simp only [ptrAdd,Option.some.injEq] at h; subst h; exact imm hv
  | obj o =>
    cases hv with
    | obj _ _ hv'=>cases o <;> (simp only [ptrAdd,expand,Option.some.injEq] at h; subst h; exact imm hv')
  | _=>simp [ptrAdd] at h
theorem run_loadCellsFrom (w:World) (b o:Nat) (g:Nat→Value):∀ (n i:Nat) (acc:Array Value),(∀ k,i≤k→k < i + n→w.cell? ⟨b,o + k,none⟩=some (g k)) →
    (loadCellsFrom ⟨b,o,none⟩ i n acc).run P w=.ok (acc ++ ((List.range' i n).map g).toArray) w:=by
  intro n
  induction n with
  | zero=>intro i acc _; simp [loadCellsFrom]
  | succ n ih =>
    intro i acc h
    have h0:=h i (Nat.le_refl _) (by omega)
    simp only [loadCellsFrom,Sem.run_bind,run_load,add_none,h0,Result.andThen_ok]
    rw [ih (i + 1) (acc.push (g i)) (fun k hk hk'=>h k (by omega) (by omega))]
    simp [List.range'_succ]
theorem run_loadCells (w:World) (b o:Nat) (g:Nat→Value) (n:Nat) (h:∀ k,k < n→w.cell? ⟨b,o + k,none⟩=some (g k)) :
    (loadCells ⟨b,o,none⟩ n).run P w=.ok ((List.range' 0 n).map g).toArray w:=by
  unfold loadCells
  rw [run_loadCellsFrom (P:=P) w b o g n 0 #[] (fun k _ hk=>h k (by omega))]
  simp
def aggD:TypeDesc→Bool
  | .struct _ | .array _ _=>true
  | _=>false
structure TyOK (P:Program) (t:TypeId) (i:TI):Prop where
  und:P.underlying t=some i.desc
  info:∃ inf,P.info? t=some inf∧inf.size=i.size∧inf.bytes=i.bytes∧∃ z,inf.zero=some z∧i.zero=z.cells.toList.map ofV1∧i.zero.length=i.size ∧
    (i.agg=true→∃ cs,z=.agg cs)∧(i.agg=false→z.cells=#[z])
  more:∀ inf,P.info? t=some inf→inf.comparable=i.cmp∧inf.methods=i.meths
  agg:i.agg=aggD i.desc
  flds:∀ fs,i.desc=.struct fs→fs.size=i.flds.length∧∀ (j:Nat) (f:Field) (g:Nat×Nat×Bool),fs[j]?=some f→i.flds[j]?=some g →
    f.offset=g.1∧∃ ti,P.info? f.type=some ti∧ti.size=g.2.1∧(∃ d,P.underlying f.type=some d∧g.2.2=aggD d)
theorem run_sizeOf {t:TypeId} {inf:TypeInfo} (h:P.info? t=some inf) (w:World):(sizeOf t).run P w=.ok inf.size w:=by
  simp [sizeOf,typeInfo,h]
theorem run_und {t:TypeId} {d:TypeDesc} (h:P.underlying t=some d) (w:World):(underlying t).run P w=.ok d w:=by
  simp [underlying,h]
theorem run_isAgg {t:TypeId} {d:TypeDesc} (h:P.underlying t=some d) (w:World):(isAgg t).run P w=.ok (aggD d) w:=by
  simp only [isAgg,Sem.run_bind,run_und h,Result.andThen_ok]
  cases d <;> rfl
theorem TyOK.sizeOf {t:TypeId} {i:TI} (h:TyOK P t i) (w:World):(Go.sizeOf t).run P w=.ok i.size w:=by
  obtain ⟨inf,hi,hs,_⟩:=h.info
  rw [run_sizeOf hi,hs]
theorem TyOK.isAgg {t:TypeId} {i:TI} (h:TyOK P t i) (w:World):(Go.isAgg t).run P w=.ok i.agg w:=by
  rw [run_isAgg h.und,h.agg]
theorem TyOK.run_und {t:TypeId} {i:TI} (h:TyOK P t i) (w:World):(underlying t).run P w=.ok i.desc w:=AM.run_und h.und w
theorem loadVar_ok {c:Ctx} {w:World} {t:TypeId} {ti:TI} (ht:TyOK P t ti) {row:List AVal} {off b o:Nat} {v:AVal} (h:getVar ti row off=some v)
    (hr:∀ (j:Nat) (a:AVal),row[j]?=some a→∃ u,w.cell? ⟨b,o + j,none⟩=some u∧VR c w a u) :
    ∃ cv,(loadVar t ⟨b,o + off,none⟩).run P w=.ok cv w∧VR c w v cv:=by
  unfold getVar at h
  cases ha:ti.agg with
  | false =>
    rw [ha] at h
    simp only [Bool.false_eq_true,if_false] at h
    obtain ⟨u,hu,hv⟩:=hr off v h
    exact ⟨u,by simp [loadVar,ht.isAgg,ha,hu],hv⟩
  | true =>
    rw [ha] at h
    simp only [if_true] at h
    split at h
    · rename_i hle
      cases h
      let g:Nat→Value:=fun k=>(w.cell? ⟨b,o + off + k,none⟩).getD default
      have hg:∀ k,k < ti.size→w.cell? ⟨b,o + off + k,none⟩=some (g k):=by
        intro k hk
        have hlt:off + k < row.length:=by omega
        obtain ⟨u,hu,_⟩:=hr (off + k) row[off + k] (List.getElem?_eq_getElem hlt)
        rw [← Nat.add_assoc] at hu
        show _=some ((w.cell? ⟨b,o + off + k,none⟩).getD default)
        rw [hu]; rfl
      refine ⟨.agg ((List.range' 0 ti.size).map g).toArray,?_,?_⟩
      · simp only [loadVar,Sem.run_bind,ht.isAgg,ha,Result.andThen_ok,if_true,ht.sizeOf,run_loadCells (P:=P) w b (o + off) g ti.size hg]
        rfl
      · refine .agg _ _ (by simp; omega) fun j a u hja hju=>?_
        rw [List.getElem?_take] at hja
        split at hja
        · rename_i hj
          rw [List.getElem?_drop] at hja
          obtain ⟨u',hu',hv⟩:=hr (off + j) a hja
          rw [← Nat.add_assoc,hg j hj] at hu'
          cases hu'
          simp [hj] at hju
          rw [← hju]; exact hv
        · cases hja
    · cases h
def Ctx.bind (c:Ctx) (id:Nat) (p:Nat×Nat):Ctx:=⟨fun i=>if i=id then some p else c.ι i,c.F⟩
def Ctx.freeze (c:Ctx) (b:Nat):Ctx:=⟨c.ι,fun x=>c.F x∨x=b⟩
theorem ObjR.mono {c c':Ctx} {w w':World} (l:Le c w c' w') {b off:Nat} {o:AObj} (h:ObjR c w b off o) (hb:w'.heap[b]?=w.heap[b]?):ObjR c' w' b off o:=by
  cases o with
  | cells vs ty=>obtain ⟨arr,e,h1,h2,h3⟩:=h; exact ⟨arr,e,by rw [hb,h1],h2,fun j a v ha hv=>(h3 j a v ha hv).mono l⟩
  | map es=>obtain ⟨mes,clk,h0,h1,h2,h3⟩:=h; exact ⟨mes,clk,h0,by rw [hb,h1],h2,fun j a m ha hm=>⟨(h3 j a m ha hm).1.mono l,(h3 j a m ha hm).2.mono l⟩⟩
  | siter s pos=>obtain ⟨h0,bs,h1,h2⟩:=h; exact ⟨h0,bs,h1,by rw [hb,h2]⟩
  | miter id n seen=>obtain ⟨h0,bm,om,sn,h1,h2,h3⟩:=h; exact ⟨h0,bm,om,sn,l.ι _ _ h1,h2,by rw [hb,h3]⟩
  | iiter ks vs n seen =>
    obtain ⟨h0,bm,sn,mes,hF,hst,h4,h5,h6,h7,h8,h2,h3⟩:=h
    exact ⟨h0,bm,sn,mes,l.F _ hF,hst,by rw [l.blk bm hF]; exact h4,h5,h6,fun j a m ha hm=>(h7 j a m ha hm).mono l,fun j a m ha hm=>(h8 j a m ha hm).mono l,h2,by rw [hb,h3]⟩
  | niter=>obtain ⟨h0,h1⟩:=h; exact ⟨h0,by rw [hb,h1]⟩
  | dead=>trivial
theorem heap_alloc_lt (w:World) (o:Obj) {b:Nat} (h:b < w.heap.size):(w.alloc o).heap[b]?=w.heap[b]?:=by
  show (w.heap.push o)[b]?=_
  rw [Array.getElem?_push,if_neg (by omega)]
theorem heap_alloc_at (w:World) (o:Obj):(w.alloc o).heap[w.heap.size]?=some o:=by
  show (w.heap.push o)[w.heap.size]?=_
  simp
theorem lt_of_cells {w:World} {b:Nat} {o:Obj} (h:w.heap[b]?=some o):b < w.heap.size:=(Array.getElem?_eq_some_iff.1 h).1
theorem Post.alloc (c:Ctx) (w:World) (H:Heap) (o:Obj):Post c w H c (w.alloc o) H :=
  ⟨fun _ _ h=>h,fun _ _ _ h=>.inl h,fun _ h=>h,fun _ h=>.inl h,fun b hb _=>heap_alloc_lt w o hb,fun _ _ _=>rfl,fun _ _ h=>h,Nat.le_refl _,
   by simp,fun b arr e fz h=>⟨arr,e,fz,by rw [heap_alloc_lt w o (lt_of_cells h),h],rfl⟩,rfl,rfl,rfl⟩
theorem Rel.alloc {c:Ctx} {w:World} {H:Heap} (r:Rel c w H) (o:Obj):Rel c (w.alloc o) H :=
  ⟨fun id x b off h hi=>(r.obj id x b off h hi).mono ((Post.alloc c w H o).le r) (heap_alloc_lt w o (r.dom id b off hi).2),r.inj,
   fun id b off h=>⟨(r.dom id b off h).1,Nat.lt_of_lt_of_le (r.dom id b off h).2 (by simp)⟩,r.sep,fun b h=>Nat.lt_of_lt_of_le (r.fr b h) (by simp)⟩
theorem Post.drew (c:Ctx) (w:World) (H:Heap):Post c w H c w.drew H :=
  ⟨fun _ _ h=>h,fun _ _ _ h=>.inl h,fun _ h=>h,fun _ h=>.inl h,fun _ _ _=>rfl,fun _ _ _=>rfl,fun _ _ h=>h,Nat.le_refl _,Nat.le_refl _,
   fun _ arr e fz h=>⟨arr,e,fz,h,rfl⟩,rfl,rfl,rfl⟩
theorem Rel.drew {c:Ctx} {w:World} {H:Heap} (r:Rel c w H):Rel c w.drew H :=
  ⟨fun id x b off h hi=>(r.obj id x b off h hi).mono ((Post.drew c w H).le r) rfl,r.inj,r.dom,r.sep,r.fr⟩
theorem freeze_new {c:Ctx} {w:World} {H:Heap} (r:Rel c w H) {b:Nat} (hb:b < w.heap.size) (hn:∀ i o,c.ι i≠some (b,o)) :
    Rel (c.freeze b) w H∧Le c w (c.freeze b) w:=by
  have l:Le c w (c.freeze b) w:=⟨fun _ _ h=>h,fun _ h=>.inl h,fun _ _=>rfl,fun _ arr e fz h=>⟨arr,e,fz,h,rfl⟩⟩
  refine ⟨⟨fun id x b off h hi=>(r.obj id x b off h hi).mono l rfl,r.inj,r.dom,fun id b' off hl hi=>?_,fun b' h=>?_⟩,l⟩
  · rintro (h | h)
    · exact r.sep id b' off hl hi h
    · subst h; exact hn id off hi
  · rcases h with h | h
    · exact r.fr b' h
    · subst h; exact hb
theorem new_imm {c:Ctx} {w:World} {H:Heap} (r:Rel c w H) (arr:Array Value) (e:TypeId) (fz:Nat×Nat) (cs:List AVal)
    (hs:cs.length≤arr.size) (hv:∀ (j:Nat) (a:AVal) (v:Value),cs[j]?=some a→arr[j]?=some v→VR c w a v) :
    ∃ c',Rel c' (w.alloc (.cells arr e fz)) H∧Post c w H c' (w.alloc (.cells arr e fz)) H∧c'.F w.heap.size∧∃ g:Nat→Value,
      (∀ (j:Nat),j < cs.length→(w.alloc (.cells arr e fz)).cell? ⟨w.heap.size,0 + j,none⟩=some (g j))∧(∀ (j:Nat) (a:AVal),cs[j]?=some a→VR c' (w.alloc (.cells arr e fz)) a (g j)):=by
  have r1:=r.alloc (.cells arr e fz)
  have p1:=Post.alloc c w H (.cells arr e fz)
  obtain ⟨r2,l2⟩:=freeze_new r1 (b:=w.heap.size) (by simp) (fun i o h=>Nat.lt_irrefl _ (r.dom i _ o h).2)
  refine ⟨c.freeze w.heap.size,r2,?_,.inr rfl,fun j=>arr[j]?.getD default,fun j hj=>?_,fun j a ha=>?_⟩
  · refine ⟨fun _ _ h=>h,fun _ _ _ h=>.inl h,fun _ h=>.inl h,?_,p1.frame,p1.unm,p1.dead,p1.len,p1.size,p1.siz,rfl,rfl,rfl⟩
    rintro b (h | h)
    · exact .inl h
    · exact .inr (.inl (by omega))
  · have:j < arr.size:=by omega
    rw [Nat.zero_add]
    have hc:(w.alloc (.cells arr e fz)).cell? ⟨w.heap.size,j,none⟩=arr[j]?:=by unfold World.cell?; rw [heap_alloc_at]; rfl
    rw [hc]; simp [this]
  · have hj:j < arr.size:=by have:=(List.getElem?_eq_some_iff.1 ha).1; omega
    have:=hv j a arr[j] ha (Array.getElem?_eq_getElem hj)
    simp only [Array.getElem?_eq_getElem hj,Option.getD_some]
    exact (this.mono (p1.le r)).mono l2
theorem new_mut {c:Ctx} {w:World} {H:Heap} (r:Rel c w H) (x:Obj) (o:AObj)
    (ho:∀ c' w',Le c w c' w'→w'.heap[w.heap.size]?=some x→ObjR c' w' w.heap.size 0 o) :
    ∃ c',Rel c' (w.alloc x) (H ++ [o])∧Post c w H c' (w.alloc x) (H ++ [o])∧c'.ι H.length=some (w.heap.size,0):=by
  have p1:=Post.alloc c w H x
  have fresh:∀ id p,c.ι id=some p→id≠H.length:=fun id p h e=>by have:=(r.dom id p.1 p.2 h).1; omega
  have l:Le c w (c.bind H.length (w.heap.size,0)) (w.alloc x):=by
    refine ⟨fun id p h=>?_,fun _ h=>h,fun b h=>heap_alloc_lt w x (r.fr b h),p1.siz⟩
    simp [Ctx.bind,fresh id p h,h]
  have old:∀ id,id < H.length→(H ++ [o])[id]?=H[id]?:=fun id h=>List.getElem?_append_left h
  have bnd:∀ id b off,(c.bind H.length (w.heap.size,0)).ι id=some (b,off)→(id=H.length∧b=w.heap.size∧off=0)∨(id < H.length∧c.ι id=some (b,off)):=by
    intro id b off h
    simp only [Ctx.bind] at h
    split at h
    · rename_i hid; cases h; exact .inl ⟨hid,rfl,rfl⟩
    · exact .inr ⟨(r.dom id b off h).1,h⟩
  have liv:∀ id,id < H.length→(Live (H ++ [o]) id↔Live H id):=fun id h=>by unfold Live; rw [old id h]
  refine ⟨c.bind H.length (w.heap.size,0),⟨?_,?_,?_,?_,?_⟩,⟨l.ι,?_,fun _ h=>h,fun _ h=>.inl h,p1.frame,?_,?_,by simp,p1.size,p1.siz,rfl,rfl,rfl⟩,by simp [Ctx.bind]⟩
  · intro id y b off h hi
    rcases bnd id b off hi with ⟨rfl,rfl,rfl⟩ | ⟨hlt,hi⟩
    · simp at h; subst h; exact ho _ _ l (heap_alloc_at w x)
    · rw [old id hlt] at h
      exact (r.obj id y b off h hi).mono l (heap_alloc_lt w x (r.dom id b off hi).2)
  · intro i j b o1 o2 hi hj h1 h2
    rcases bnd i b o1 h1 with ⟨rfl,rfl,rfl⟩ | ⟨hlt,h1⟩ <;> rcases bnd j _ o2 h2 with ⟨rfl,hb,rfl⟩ | ⟨hlt',h2⟩
    · rfl
    · exact absurd (r.dom j _ o2 h2).2 (by omega)
    · subst hb; exact absurd (r.dom i _ o1 h1).2 (by omega)
    · exact r.inj i j b o1 o2 ((liv i hlt).1 hi) ((liv j hlt').1 hj) h1 h2
  · intro id b off h
    rcases bnd id b off h with ⟨rfl,rfl,rfl⟩ | ⟨hlt,h⟩
    · simp
    · have:=(r.dom id b off h).2; simp; omega
  · intro id b off hl h hF
    rcases bnd id b off h with ⟨rfl,rfl,rfl⟩ | ⟨hlt,h⟩
    · exact absurd (r.fr _ hF) (by omega)
    · exact r.sep id b off ((liv id hlt).1 hl) h hF
  · intro b h; exact Nat.lt_of_lt_of_le (r.fr b h) (by simp)
  · intro id b off h
    rcases bnd id b off h with ⟨rfl,rfl,rfl⟩ | ⟨hlt,h⟩
    · exact .inr ⟨Nat.le_refl _,.inl (Nat.le_refl _)⟩
    · exact .inl h
  · intro id hid hn; exact old id hid
  · intro id hid hn h; exact hn ((liv id hid).1 h)
theorem new_row {c:Ctx} {w:World} {H:Heap} (r:Rel c w H) (arr:Array Value) (e:TypeId) (cs:List AVal) (ty:TypeId)
    (hs:cs.length≤arr.size) (hv:∀ (j:Nat) (a:AVal) (v:Value),cs[j]?=some a→arr[j]?=some v→VR c w a v) :
    ∃ c',Rel c' (w.alloc (.cells arr e)) (H ++ [.cells cs ty])∧Post c w H c' (w.alloc (.cells arr e)) (H ++ [.cells cs ty])∧c'.ι H.length=some (w.heap.size,0) :=
  new_mut r (.cells arr e) (.cells cs ty) fun c' w' l hb=>⟨arr,e,hb,by omega,fun j a v ha hv'=>(hv j a v ha (by simpa using hv')).mono l⟩
theorem upd {c:Ctx} {w w':World} {H:Heap} (r:Rel c w H) {id b off:Nat} {x o:AObj} (hid:H[id]?=some x) (hx:x.live=true) (hι:c.ι id=some (b,off)) (ho:o.live=true)
    (hsz:w'.heap.size=w.heap.size) (hoth:∀ k,k≠b→w'.heap[k]?=w.heap[k]?)
    (hs:∀ (arr:Array Value) (e:TypeId) (fz:Nat×Nat),w.heap[b]?=some (Obj.cells arr e fz)→∃ (arr':Array Value) (e':TypeId) (fz':Nat×Nat),w'.heap[b]?=some (Obj.cells arr' e' fz')∧arr'.size=arr.size)
    (h1:w'.os=w.os) (h2:w'.tape=w.tape) (h3:w'.output=w.output)
    (hR:Le c w c w'→ObjR c w' b off o) :
    Rel c w' (H.set id o)∧Post c w H c w' (H.set id o):=by
  have hF:¬ c.F b:=r.sep id b off ⟨x,hid,hx⟩ hι
  have hlt:id < H.length:=(List.getElem?_eq_some_iff.1 hid).1
  have l:Le c w c w':=by
    refine ⟨fun _ _ h=>h,fun _ h=>h,fun k hk=>hoth k (fun e=>hF (e ▸ hk)),fun k arr e fz hk=>?_⟩
    by_cases hkb:k=b
    · subst hkb; exact hs arr e fz hk
    · exact ⟨arr,e,fz,by rw [hoth k hkb,hk],rfl⟩
  have liv:∀ i,Live (H.set id o) i↔Live H i:=by
    intro i
    unfold Live
    by_cases hi:id=i
    · subst hi
      refine ⟨fun _=>⟨x,hid,hx⟩,fun _=>⟨o,by simp [hlt],ho⟩⟩
    · rw [List.getElem?_set_ne hi]
  refine ⟨⟨?_,?_,?_,?_,?_⟩,⟨fun _ _ h=>h,fun _ _ _ h=>.inl h,fun _ h=>h,fun _ h=>.inl h,?_,?_,?_,by simp,by omega,l.siz,h1,h2,h3⟩⟩
  · intro i y b' off' h hi
    by_cases hii:id=i
    · subst hii
      rw [hι] at hi; cases hi
      simp [hlt] at h; subst h
      exact hR l
    · rw [List.getElem?_set_ne hii] at h
      cases hy:y.live with
      | false=>cases y <;> simp [AObj.live] at hy <;> trivial
      | true =>
        have hne:b'≠b:=fun e=>hii (r.inj id i b off off' ⟨x,hid,hx⟩ ⟨y,h,hy⟩ hι (e ▸ hi))
        exact (r.obj i y b' off' h hi).mono l (hoth b' hne)
  · intro i j b' o1 o2 hi hj; exact r.inj i j b' o1 o2 ((liv i).1 hi) ((liv j).1 hj)
  · intro i b' off' h; have:=r.dom i b' off' h; simp; omega
  · intro i b' off' hl h; exact r.sep i b' off' ((liv i).1 hl) h
  · intro b' h; have:=r.fr b' h; omega
  · intro k hk hn; exact hoth k (fun e=>hn id off ⟨x,hid,hx⟩ (e ▸ hι))
  · intro i hi hn
    have:id≠i:=fun e=>by subst e; rw [hι] at hn; cases hn
    exact List.getElem?_set_ne this
  · intro i hi hn h; exact hn ((liv i).1 h)
end Go.AM
