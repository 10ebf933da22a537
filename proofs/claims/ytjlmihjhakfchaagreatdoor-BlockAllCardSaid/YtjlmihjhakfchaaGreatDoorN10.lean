import Derived.Sort.Walk0
import Derived.Test.YtjlmihjhakfchaaGreatDoorN0
import Derived.Test.YtjlmihjhakfchaaGreatDoorA8
import Derived.Test.YtjlmihjhakfchaaGreatDoorN4
import Derived.Test.YtjlmihjhakfchaaGreatDoorN9
set_option linter.unusedVariables false
set_option linter.unusedSimpArgs false
noncomputable section
namespace Go.AM.C
open Go.Proofs
noncomputable section
end
end Go.AM.C
namespace Go.AM.C
open Go.Proofs
noncomputable section
end
end Go.AM.C
namespace Go.AM.C
def names (l:Posts):List (List UInt8):=l.map (·.1)
theorem take_names {l:Posts} {i:Nat} {p:List UInt8×Int} (hp:l[i]?=some p):names (l.take (i + 1))=names (l.take i) ++ [p.1]:=by
  unfold names
  rw [List.take_add_one,hp,List.map_append]; rfl
structure RefI (undo:Bool) (m l N:Posts) (i:Nat):Prop where
  ss:SS N
  get:∀ k,getE N k=if k∈names (l.take i) then some (look 0 m k + amt undo l k) else getE m k
  ok:∀ k∈names (l.take i),i64 (look 0 m k + amt undo l k)
theorem RefI.old {undo:Bool} {m l N:Posts} {i:Nat} {p:List UInt8×Int} (h:RefI undo m l N i) (hp:l[i]?=some p) (ho:p.1∈names (l.take i)):RefI undo m l N (i + 1):=by
  have e:∀ k,k∈names (l.take (i + 1))↔k∈names (l.take i):=fun k=>by
    rw [take_names hp,List.mem_append,List.mem_singleton]
    exact ⟨fun x=>x.elim id (fun y=>by rw [y]; exact ho),.inl⟩
  refine ⟨h.ss,fun k=>?_,fun k hk=>h.ok k ((e k).1 hk)⟩
  rw [h.get]
  by_cases hk:k∈names (l.take i)
  · rw [if_pos hk,if_pos ((e k).2 hk)]
  · rw [if_neg hk,if_neg fun x=>hk ((e k).1 x)]
end Go.AM.C
namespace Go.AM.C
open Go.Proofs
noncomputable section
theorem relX_ok {R:List AVal→Heap→AVal→Heap→Prop} {f:FuncId} (hh:∀ args H v H',R args H v H'→Has f args H v H') (S:Sg) (hg:S.glob=S0.glob) (hp:S.pin=S0.pin):ExtAt Tryz.prog S f (relX R) :=
  fun args H v H' hx=>DoesC.glob hg hp (hh _ _ _ _ (relX_is hx))
theorem relX_quiet {R:List AVal→Heap→AVal→Heap→Prop} (hq:∀ args H v H',R args H v H'→H'=H):true=true→∀ args H v H',relX R args H=some (v,H')→H'=H :=
  fun _ args H v H' hx=>hq _ _ _ _ (relX_is hx)
abbrev oneE (f:FuncId) (args:List AVal) (v:AVal):Ent:=⟨f,relX (listR [(args,v)]),true,relX_quiet fun _ _ _ _ h=>h.2⟩
theorem oneE_ok {f:FuncId} {args:List AVal} {v:AVal} (h:∀ H,Has f args H v H) (S:Sg) (hg:S.glob=S0.glob) (hp:S.pin=S0.pin):ExtAt Tryz.prog S f (relX (listR [(args,v)])) :=
  relX_ok (fun args' H v' H' ⟨hm,hh⟩=>by
    rw [List.mem_singleton] at hm
    cases hm
    subst hh
    exact h _) S hg hp
theorem oneE_eq {args:List AVal} {v:AVal} {H:Heap}:relX (listR [(args,v)]) args H=some (v,H) :=
  relX_eq (listR_fun fun p hp q hq _=>by rw [List.mem_singleton] at hp hq; rw [hp,hq]) ⟨List.mem_singleton.2 rfl,rfl⟩
end
end Go.AM.C
namespace Go.AM
section
variable {S:Sg} {call:Calling} {d:Bool} {g:Operand→AVal} {H:Heap}
theorem G.store_agg {x y:Operand} {t:TypeId} {ti:TI} {vs cs:List AVal} {ty:TypeId} {id:Nat} (hi:H[id]?=some (.cells vs ty)) (hx:g x=.ptr id 0) (hy:g y=.agg cs) (ht:S.ty t=some ti) (hs:ti.size=cs.length) (hl:vs.length=cs.length) (hc:cs.all AVal.cell=true) :
    denG S call d g H (.store t x y)=some (undefA,H.set id (.cells cs ty)):=by
  have hco:cellsOf (.agg cs)=some cs:=rfl
  simp only [denG,ht,hx,hy,hco,hi]
  rw [if_pos ⟨hs.symm,by omega,hc⟩]
  have:setRange vs 0 cs=cs:=by
    unfold setRange
    rw [List.take_zero,List.nil_append,List.drop_eq_nil_of_le (by omega),List.append_nil]
  rw [this]
end
end Go.AM
namespace Go.AM.C
open Go.Proofs
noncomputable section
theorem rI_inj {x y:Int} (h:rI x=rI y):x=y:=by
  unfold rI at h
  injection h with h
  injection h with h1 h2
  injection h2 with h2
  injection h1 with h1
  have h3:=rD_inj h2
  have h4:decide (x < 0)=decide (y < 0):=h1
  by_cases hx:x < 0
  · rw [decide_eq_true hx] at h4
    have:=of_decide_eq_true h4.symm
    omega
  · rw [decide_eq_false hx] at h4
    have:=of_decide_eq_false h4.symm
    omega
def rI0:AVal:=.agg [.bool false,.nils]
def IsI (v:AVal) (z:Int):Prop:=v=rI z∨v=rI0∧z=0
theorem wk_agg2 {a b a' b':AVal} (h1:Wk a a') (h2:Wk b b'):Wk (.agg [a,b]) (.agg [a',b']):=fun c w v h=>by
  cases h with
  | agg _ vs hs hh =>
    refine .agg _ vs hs fun j x y hx hy=>?_
    match j,hx with
    | 0,hx=>cases hx; exact h1 _ _ _ (hh 0 _ _ rfl hy)
    | 1,hx=>cases hx; exact h2 _ _ _ (hh 1 _ _ rfl hy)
theorem IsI.wk {v:AVal} {z:Int} (h:IsI v z):Wk v (rI z):=by
  rcases h with rfl | ⟨rfl,rfl⟩
  · exact Wk.refl _
  · exact wk_agg2 (Wk.refl _) wk_nilsD
theorem isI_inj {v:AVal} {x y:Int} (h:IsI v x) (k:IsI v y):x=y:=by
  have hne:∀ z,rI z≠rI0:=fun z e=>by
    unfold rI rI0 rD at e
    injection e with e
    injection e with _ e
    injection e with e
    cases e
  rcases h with rfl | ⟨rfl,rfl⟩
  · rcases k with k | ⟨k,_⟩
    · exact rI_inj k
    · exact absurd k (hne _)
  · rcases k with k | ⟨_,k⟩
    · exact absurd k.symm (hne _)
    · exact k.symm
def rofR (args:List AVal) (H:Heap) (v:AVal) (H':Heap):Prop:=∃ x,i64 x∧args=[iA x]∧v=rI x∧H'=H
def rplusR (args:List AVal) (H:Heap) (v:AVal) (H':Heap):Prop:=∃ u1 u2 x y,Sm x.natAbs∧Sm y.natAbs∧Sm (x.natAbs + y.natAbs)∧IsI u1 x∧IsI u2 y∧args=[u1,u2]∧v=rI (x + y)∧H'=H
theorem rplus_is {u1 u2:AVal} {x y:Int} (h1:IsI u1 x) (h2:IsI u2 y) (hx:Sm x.natAbs) (hy:Sm y.natAbs) (hxy:Sm (x.natAbs + y.natAbs)) (H:Heap):Has 14 [u1,u2] H (rI (x + y)) H:=by
  refine Has.wk (rplus_has x y hx hy hxy H) rfl fun j a' a ha' ha=>?_
  match j,ha',ha with
  | 0,ha',ha=>cases ha'; cases ha; exact h1.wk
  | 1,ha',ha=>cases ha'; cases ha; exact h2.wk
abbrev rofE:Ent:=⟨15,relX rofR,true,relX_quiet fun _ _ _ _ ⟨_,_,_,_,h⟩=>h⟩
abbrev rplusE:Ent:=⟨14,relX rplusR,true,relX_quiet fun _ _ _ _ ⟨_,_,_,_,_,_,_,_,_,_,_,h⟩=>h⟩
abbrev SP:Sg:=mk [rofE,rplusE]
end
end Go.AM.C
namespace Go.AM.C.BK
open Go.Proofs
noncomputable section
noncomputable def ti97:TI:=⟨.slice 90,1,24,[.nils],false,[],false,msOf Tryz.prog 97⟩
theorem ti97_ok:tiOf Tryz.prog 97=some ti97:=by kernel_rfl
noncomputable def ti105:TI:=⟨odsOf Tryz.prog 105,1,8,[.nilfn],false,[],false,msOf Tryz.prog 105⟩
theorem ti105_ok:tiOf Tryz.prog 105=some ti105:=by kernel_rfl
noncomputable def ti99:TI:=⟨odsOf Tryz.prog 99,1,0,[.any],false,[],false,msOf Tryz.prog 99⟩
theorem ti99_ok:tiOf Tryz.prog 99=some ti99:=by kernel_rfl
noncomputable def tys:List (Nat×TI):=[(97,ti97),(105,ti105),(99,ti99)]
theorem tys_ok:AllT Tryz.prog tys:=⟨ti97_ok,ti105_ok,ti99_ok,trivial⟩
abbrev mkB (l:List Ent):Sg:=mkS Tryz.prog (tyOf (BK.tys ++ Go.AM.C.tys)) (fun _=>false) globF pinF (fun _=>false) false l
theorem mkB_sound {l:List Ent} (h:AllE Tryz.prog (mkB l) l):Sound Tryz.prog (mkB l):=mkS_sound mixed (fun t i h=>tyOf_ok (DV.allT_app BK.tys_ok Go.AM.C.tys_ok) t i h) h globF_ok
theorem unB {l:List Ent} {f:FuncId} {args:List AVal} {H H':Heap} {v:AVal} (h:DoesC Tryz.prog (mkB l) f args H v H'):Has f args H v H':=DoesC.glob rfl rfl h
theorem inB {l:List Ent} {f:FuncId} {args:List AVal} {H H':Heap} {v:AVal} (h:Has f args H v H'):DoesC Tryz.prog (mkB l) f args H v H':=DoesC.glob rfl rfl h
theorem bN:(mkB []).ty 97=some ti97:=rfl
theorem bn:(mkB []).ty 90=some ti90:=rfl
theorem bI:(mkB []).ty 98=some ti98:=rfl
theorem bi:(mkB []).ty 3=some ti3:=rfl
def nps (l:List Nat):List AVal:=l.map fun (n:Nat)=>.obj (.np n)
def ints (l:List Nat):List AVal:=l.map fun (n:Nat)=>iA (n:Int)
theorem nps_at {l:List Nat} {j:Nat} (h:j < l.length):(nps l)[j]?=some (.obj (.np (l.getD j 0))):=by
  unfold nps
  rw [List.getElem?_map,List.getD_eq_getElem?_getD,List.getElem?_eq_getElem h]
  rfl
theorem ints_at {l:List Nat} {j:Nat} (h:j < l.length):(ints l)[j]?=some (iA (l.getD j 0:Nat)):=by
  unfold ints
  rw [List.getElem?_map,List.getD_eq_getElem?_getD,List.getElem?_eq_getElem h]
  rfl
theorem ints_set (l:List Nat) (j x:Nat):(ints l).set j (iA (x:Int))=ints (l.set j x):=by unfold ints; rw [List.map_set]
theorem ints_len (l:List Nat):(ints l).length=l.length:=by unfold ints; simp
theorem nps_len (l:List Nat):(nps l).length=l.length:=by unfold nps; simp
def ncmpR (args:List AVal) (H:Heap) (v:AVal) (H':Heap):Prop:=∃ n m:Nat,Fit n∧Fit m∧args=[.obj (.np n),.obj (.np m)]∧v=iA (cmpN n m)∧H'=H
theorem ncmpR_has:∀ args H v H',ncmpR args H v H'→Has 56 args H v H':=by
  rintro _ H _ _ ⟨n,m,hn,hm,rfl,rfl,rfl⟩
  exact cmp_np n m hn hm _
theorem ncmpR_fun:∀ args H v H1 u H2,ncmpR args H v H1→ncmpR args H u H2→v=u∧H1=H2:=by
  rintro _ H _ _ _ _ ⟨n,m,hn,hm,rfl,rfl,rfl⟩ ⟨n',m',hn',hm',h,rfl,rfl⟩
  injection h with h1 h2
  injection h2 with h2
  injection h1 with h1
  injection h2 with h2
  injection h1 with h1
  injection h2 with h2
  subst h1; subst h2
  exact ⟨rfl,rfl⟩
abbrev ncmpE:Ent:=⟨56,relX ncmpR,true,relX_quiet fun _ _ _ _ ⟨_,_,_,_,_,_,h⟩=>h⟩
abbrev SK:Sg:=mkB [ncmpE]
theorem sK:Sound Tryz.prog SK:=mkB_sound ⟨relX_ok ncmpR_has _ rfl rfl,trivial⟩
theorem ncmpK {n m:Nat} (hn:Fit n) (hm:Fit m) (H:Heap):callS SK 56 [.obj (.np n),.obj (.np m)] H=some (iA (cmpN n m),H) :=
  (show callS SK 56 [.obj (.np n),.obj (.np m)] H=relX ncmpR [.obj (.np n),.obj (.np m)] H from rfl).trans (relX_eq ncmpR_fun ⟨n,m,hn,hm,rfl,rfl,rfl⟩)
structure RestsAt (H:Heap) (P R:Nat) (rs:List Nat):Prop where
  p:H[P]?=some (.cells [.sl R 0 rs.length none 1] 97)
  r:H[R]?=some (.cells (nps rs) 90)
  fit:∀ x∈rs,Fit x
theorem RestsAt.set {H:Heap} {P R:Nat} {rs:List Nat} (h:RestsAt H P R rs) {O:Nat} (h1:O≠P) (h2:O≠R) (x:AObj):RestsAt (H.set O x) P R rs :=
  ⟨by rw [List.getElem?_set_ne h1]; exact h.p,by rw [List.getElem?_set_ne h2]; exact h.r,h.fit⟩
theorem getD_mem {l:List Nat} {j:Nat} (h:j < l.length):l.getD j 0∈l:=by
  rw [List.getD_eq_getElem?_getD,List.getElem?_eq_getElem h]
  exact List.getElem_mem h
set_option maxRecDepth 100000 in
theorem clos_has {H:Heap} {P R:Nat} {rs:List Nat} (h:RestsAt H P R rs) {a b:Nat} (ha:a < rs.length) (hb:b < rs.length) :
    Has 55 [iA (a:Int),iA (b:Int),.ptr P 0] H (iA (cmpN (rs.getD b 0) (rs.getD a 0))) H:=by
  refine unB (l:=[ncmpE]) ?_
  refine does_run sK (show SK.fn 55=some Tryz.f55 by kernel_rfl) rfl (by kernel_rfl) (Nat.le_of_ble_eq_true rfl) ?_
  refine W.seq (W.region ?_)
  refine WO.op rfl rfl (WO.nil (W.seq (W.draw0 rfl (by kernel_rfl) ?_)))
  refine WT.op (G.load_ptr rfl bN rfl h.p rfl) rfl rfl ?_
  refine WT.op rfl rfl rfl ?_
  refine WT.op (G.idx_sl rfl rfl bN rfl bn rfl (by omega) (by omega)) rfl rfl ?_
  refine WT.op (G.load_ptr (v:=.obj (.np (rs.getD b 0))) rfl bn rfl h.r (by rw [idx0]; exact nps_at hb)) rfl rfl ?_
  refine WT.op (G.load_ptr rfl bN rfl h.p rfl) rfl rfl ?_
  refine WT.op rfl rfl rfl ?_
  refine WT.op (G.idx_sl rfl rfl bN rfl bn rfl (by omega) (by omega)) rfl rfl ?_
  refine WT.op (G.load_ptr (v:=.obj (.np (rs.getD a 0))) rfl bn rfl h.r (by rw [idx0]; exact nps_at ha)) rfl rfl ?_
  refine WT.op (ncmpK (h.fit _ (getD_mem hb)) (h.fit _ (getD_mem ha)) _) rfl rfl ?_
  exact WT.op rfl rfl rfl (WT.nil (W.ret ⟨trivial,_,rfl,Wk.refl _,rfl⟩))
def ltR (rs:List Nat) (a b:Nat):Bool:=decide (cmpN (rs.getD b 0) (rs.getD a 0) < 0)
def swp (l:List Nat) (j:Nat):List Nat:=(l.set (j + 1) (l.getD j 0)).set j (l.getD (j + 1) 0)
def sink (lt:Nat→Nat→Bool):Nat→List Nat→List Nat
  | 0,l=>l
  | j + 1,l=>if lt (l.getD (j + 1) 0) (l.getD j 0)=true then sink lt j (swp l j) else l
def isortK (lt:Nat→Nat→Bool):Nat→List Nat→List Nat
  | 0,l=>l
  | i + 1,l=>sink lt (i + 1) (isortK lt i l)
theorem swp_len (l:List Nat) (j:Nat):(swp l j).length=l.length:=by simp [swp]
theorem swp_mem {l:List Nat} {j:Nat} (h:j + 1 < l.length):∀ x∈swp l j,x∈l:=fun x hx=>by
  rcases List.mem_or_eq_of_mem_set hx with hx | rfl
  · rcases List.mem_or_eq_of_mem_set hx with hx | rfl
    · exact hx
    · exact getD_mem (by omega)
  · exact getD_mem h
theorem sink_len (lt:Nat→Nat→Bool):∀ (j:Nat) (l:List Nat),(sink lt j l).length=l.length
  | 0,l=>rfl
  | j + 1,l=>by
    unfold sink
    split
    · rw [sink_len lt j,swp_len]
    · rfl
theorem sink_mem (lt:Nat→Nat→Bool):∀ (j:Nat) (l:List Nat),j < l.length→∀ x∈sink lt j l,x∈l
  | 0,l,_,x,h=>h
  | j + 1,l,hj,x,h=>by
    unfold sink at h
    split at h
    · exact swp_mem hj x (sink_mem lt j _ (by rw [swp_len]; omega) x h)
    · exact h
theorem isort_len (lt:Nat→Nat→Bool):∀ (i:Nat) (l:List Nat),(isortK lt i l).length=l.length
  | 0,l=>rfl
  | i + 1,l=>by
    show (sink lt (i + 1) (isortK lt i l)).length=_
    rw [sink_len,isort_len lt i]
theorem isort_mem (lt:Nat→Nat→Bool):∀ (i:Nat) (l:List Nat),i < l.length→∀ x∈isortK lt i l,x∈l
  | 0,l,_,x,h=>h
  | i + 1,l,hi,x,h=>isort_mem lt i l (by omega) x (sink_mem lt (i + 1) _ (by rw [isort_len]; exact hi) x h)
end
end Go.AM.C.BK
namespace Go.AM.C.BK
open Go.Proofs
noncomputable section
theorem nps_inj:∀ {a b:List Nat},nps a=nps b→a=b
  | [],[],_=>rfl
  | [],_ :: _,h=>by cases h
  | _ :: _,[],h=>by cases h
  | x :: a,y :: b,h=>by
    have h':AVal.obj (.np x) :: nps a=AVal.obj (.np y) :: nps b:=h
    injection h' with h1 h2
    injection h1 with h1
    injection h1 with h1
    rw [h1,nps_inj h2]
def cloR (args:List AVal) (H:Heap) (v:AVal) (H':Heap):Prop:=∃ P R rs,∃ a b:Nat,RestsAt H P R rs∧a < rs.length∧b < rs.length∧args=[iA (a:Int),iA (b:Int),.ptr P 0]∧v=iA (cmpN (rs.getD b 0) (rs.getD a 0))∧H'=H
theorem cloR_has:∀ args H v H',cloR args H v H'→Has 55 args H v H':=by
  rintro _ H _ _ ⟨P,R,rs,a,b,h,ha,hb,rfl,rfl,rfl⟩
  exact clos_has h ha hb
theorem cloR_fun:∀ args H v H1 u H2,cloR args H v H1→cloR args H u H2→v=u∧H1=H2:=by
  rintro _ H _ _ _ _ ⟨P,R,rs,a,b,h,ha,hb,rfl,rfl,rfl⟩ ⟨P',R',rs',a',b',h',ha',hb',e,rfl,rfl⟩
  injection e with e1 e2
  injection e2 with e2 e3
  injection e3 with e3
  injection e3 with e3
  injection e1 with _ e1
  injection e2 with _ e2
  subst e3
  have h1:=Option.some.inj (h.p.symm.trans h'.p)
  injection h1 with h1
  injection h1 with h1
  injection h1 with h1
  subst h1
  have h2:=Option.some.inj (h.r.symm.trans h'.r)
  injection h2 with h2
  have h3:=nps_inj h2
  subst h3
  have e4:a=a':=by omega
  have e5:b=b':=by omega
  subst e4; subst e5
  exact ⟨rfl,rfl⟩
abbrev cloE:Ent:=⟨55,relX cloR,true,relX_quiet fun _ _ _ _ ⟨_,_,_,_,_,_,_,_,_,_,h⟩=>h⟩
abbrev SO:Sg:=mkB [cloE]
theorem sO:Sound Tryz.prog SO:=mkB_sound ⟨relX_ok cloR_has _ rfl rfl,trivial⟩
theorem cloO {H:Heap} {P R:Nat} {rs:List Nat} (h:RestsAt H P R rs) {a b:Nat} (ha:a < rs.length) (hb:b < rs.length):callS SO 55 [iA (a:Int),iA (b:Int),.ptr P 0] H=some (iA (cmpN (rs.getD b 0) (rs.getD a 0)),H) :=
  (show callS SO 55 [iA (a:Int),iA (b:Int),.ptr P 0] H=relX cloR [iA (a:Int),iA (b:Int),.ptr P 0] H from rfl).trans (relX_eq cloR_fun ⟨P,R,rs,a,b,h,ha,hb,rfl,rfl,rfl⟩)
abbrev fnC (P:Nat):AVal:=.fn 55 [] [.ptr P 0]
abbrev oC (l:List Nat):AObj:=.cells (ints l) 3
set_option maxRecDepth 100000 in
set_option maxHeartbeats 2000000 in
theorem isort_has {H:Heap} {O P R:Nat} {rs l:List Nat} {cap:Option Nat} (hO:H[O]?=some (oC l)) (h:RestsAt H P R rs) (h1:O≠P) (h2:O≠R) (hl:∀ x∈l,x < rs.length) (hn:0 < l.length) (hn2:l.length < 1048576) :
    Has 203 [.sl O 0 l.length cap 1,iA ((0:Nat):Int),iA (l.length:Int),fnC P] H (.tup []) (H.set O (oC (isortK (ltR rs) (l.length - 1) l))):=by
  have hOl:O < H.length:=(List.getElem?_eq_some_iff.1 hO).1
  have hat:∀ c,(H.set O (oC c))[O]?=some (oC c):=fun c=>List.getElem?_set_self hOl
  have hra:∀ c,RestsAt (H.set O (oC c)) P R rs:=fun c=>h.set h1 h2 _
  have hlt:∀ a b,ltR rs a b=decide (cmpN (rs.getD b 0) (rs.getD a 0) < 0):=fun a b=>rfl
  generalize hlT:ltR rs=lt at hlt ⊢
  refine unB (l:=[cloE]) ?_
  refine does_run sO (show SO.fn 203=some Tryz.f203 by kernel_rfl) rfl (by kernel_rfl) (Nat.le_of_ble_eq_true rfl) ?_
  refine W.seq (W.region ?_)
  refine WO.op rfl rfl ?_
  refine WO.op rfl rfl ?_
  refine WO.op rfl rfl (WO.nil (W.block ?_))
  refine W.heq (H':=H.set O (oC (isortK lt 0 l))) (set_same hO).symm ?_
  refine W.fits (F':=fr [(0,.sl O 0 l.length cap 1),(1,iA ((0:Nat):Int)),(2,iA (l.length:Int)),(3,fnC P),(8,iA ((0 + 1:Nat):Int))]) (fits_fr ⟨rfl,rfl,rfl,rfl,rfl,trivial⟩) ?_
  refine W.loopI (fun k:Nat=>k < l.length) (fun k=>l.length - k) (fun k=>fr [(0,.sl O 0 l.length cap 1),(1,iA ((0:Nat):Int)),(2,iA (l.length:Int)),(3,fnC P),(8,iA ((k + 1:Nat):Int))]) (fun k=>H.set O (oC (isortK lt k l))) ?_ 0 hn
  intro k hk
  refine W.seq (W.seq (W.region ?_))
  refine WO.op rfl rfl ?_
  refine WO.op rfl rfl ?_
  by_cases hkl:k + 1 < l.length
  · refine WO.as (v':=.bool true) rfl rfl (bdT (by omega)) (WO.nil (W.cond (b:=true) rfl (fun _=>W.skip ?_) (fun h=>by cases h)))
    refine W.seq (W.block (W.seq (W.region ?_)))
    refine WO.op rfl rfl ?_
    refine WO.op rfl rfl (WO.nil (W.block ?_))
    refine W.fits (F':=fr [(0,.sl O 0 l.length cap 1),(1,iA ((0:Nat):Int)),(2,iA (l.length:Int)),(3,fnC P),(8,iA ((k + 1:Nat):Int)),(9,iA ((k + 1:Nat):Int))]) (fits_fr ⟨rfl,rfl,rfl,rfl,rfl,rfl,trivial⟩) ?_
    refine W.loopI (α:=Nat×List Nat) (fun x=>sink lt x.1 x.2=isortK lt (k + 1) l∧x.1 < l.length∧x.2.length=l.length∧∀ y∈x.2,y < rs.length) (fun x=>x.1)
      (fun x=>fr [(0,.sl O 0 l.length cap 1),(1,iA ((0:Nat):Int)),(2,iA (l.length:Int)),(3,fnC P),(8,iA ((k + 1:Nat):Int)),(9,iA (x.1:Int))]) (fun x=>H.set O (oC x.2)) ?_ (k + 1,isortK lt k l) ⟨rfl,hkl,isort_len _ _ _,fun y hy=>hl y (isort_mem _ _ _ hk y hy)⟩
    rintro ⟨j,c⟩ ⟨hs,hj,hc,hm⟩
    simp only at hs hj hc hm
    change W _ _ _ _ (fr [(0,.sl O 0 l.length cap 1),(1,iA ((0:Nat):Int)),(2,iA (l.length:Int)),(3,fnC P),(8,iA ((k + 1:Nat):Int)),(9,iA (j:Int))]) (H.set O (oC c)) _
    have hcO:=hat c
    refine W.seq (W.seq (W.draw0 rfl (by kernel_rfl) ?_))
    refine WT.op rfl rfl rfl ?_
    refine WT.op rfl rfl rfl ?_
    cases j with
    | zero =>
      have hce:c=isortK lt (k + 1) l:=hs
      refine WT.as (v':=.bool false) rfl rfl rfl (bdF (by omega)) ?_
      refine WT.op rfl rfl rfl ?_
      repeat refine WT.skip rfl rfl ?_
      refine WT.op rfl rfl rfl (WT.nil (W.cond (b:=false) rfl (fun h=>by cases h) (fun _=>W.exit ?_)))
      refine W.region ?_
      refine WO.op rfl rfl ?_
      refine WO.as (v':=iA ((k + 1 + 1:Nat):Int)) rfl rfl (int_i64 (by omega) (by omega)) ?_
      refine WO.op rfl rfl (WO.nil ⟨k + 1,hkl,by omega,fits_fr ⟨rfl,rfl,rfl,rfl,rfl,trivial⟩,?_⟩)
      rw [hce]
    | succ j =>
      have hcl1:(ints c)[0 + ((j + 1:Nat):Int).toNat * 1]?=some (iA (c.getD (j + 1) 0:Nat)):=by rw [idx0]; exact ints_at (by omega)
      have hcl0:(ints c)[0 + ((j:Nat):Int).toNat * 1]?=some (iA (c.getD j 0:Nat)):=by rw [idx0]; exact ints_at (by omega)
      have ha:=hm _ (getD_mem (l:=c) (j:=j + 1) (by omega))
      have hb:=hm _ (getD_mem (l:=c) (j:=j) (by omega))
      have hcall:=cloO (hra c) ha hb
      refine WT.as (v':=.bool true) rfl rfl rfl (bdT (by omega)) ?_
      iterate 4 refine WT.op rfl rfl rfl ?_
      refine WT.op (G.idx_sl rfl rfl bI rfl bi rfl (by omega) (by omega)) rfl rfl ?_
      refine WT.op (G.load_ptr rfl bi rfl hcO hcl1) rfl rfl ?_
      refine WT.op rfl rfl rfl ?_
      refine WT.op rfl rfl rfl ?_
      refine WT.as (v':=iA (j:Int)) rfl rfl rfl (int_i64 (by omega) (by omega)) ?_
      refine WT.op (G.idx_sl rfl rfl bI rfl bi rfl (by omega) (by omega)) rfl rfl ?_
      refine WT.op (G.load_ptr rfl bi rfl hcO hcl0) rfl rfl ?_
      refine WT.op hcall rfl rfl ?_
      by_cases hg:lt (c.getD (j + 1) 0) (c.getD j 0)=true
      · have hs':sink lt j (swp c j)=isortK lt (k + 1) l:=by
          have e:sink lt (j + 1) c=sink lt j (swp c j):=by
            show (if lt (c.getD (j + 1) 0) (c.getD j 0)=true then sink lt j (swp c j) else c)=_
            rw [if_pos hg]
          rw [← e]; exact hs
        have hg':=hg
        rw [hlt,decide_eq_true_eq] at hg'
        refine WT.as (v':=.bool true) rfl rfl rfl (bdT hg') ?_
        refine WT.op rfl rfl rfl (WT.nil (W.cond (b:=true) rfl (fun _=>W.skip ?_) (fun h=>by cases h)))
        refine W.seq (W.block (W.draw0 rfl (by kernel_rfl) ?_))
        iterate 4 refine WT.op rfl rfl rfl ?_
        refine WT.as (v':=iA (j:Int)) rfl rfl rfl (int_i64 (by omega) (by omega)) ?_
        refine WT.op rfl rfl rfl ?_
        refine WT.op rfl rfl rfl ?_
        refine WT.as (v':=iA (j:Int)) rfl rfl rfl (int_i64 (by omega) (by omega)) ?_
        refine WT.op (G.idx_sl rfl rfl bI rfl bi rfl (by omega) (by omega)) rfl rfl ?_
        refine WT.op (G.load_ptr rfl bi rfl hcO hcl0) rfl rfl ?_
        refine WT.op rfl rfl rfl ?_
        refine WT.op rfl rfl rfl ?_
        refine WT.op (G.idx_sl rfl rfl bI rfl bi rfl (by omega) (by omega)) rfl rfl ?_
        refine WT.op (G.load_ptr rfl bi rfl hcO hcl1) rfl rfl ?_
        refine WT.op (G.idx_sl rfl rfl bI rfl bi rfl (by omega) (by omega)) rfl rfl ?_
        refine WT.op (G.store_ptr (v:=iA (c.getD j 0:Nat)) rfl rfl rfl bi rfl hcO (by rw [idx0,ints_len]; omega)) rfl rfl ?_
        refine WT.op (G.idx_sl rfl rfl bI rfl bi rfl (by omega) (by omega)) rfl rfl ?_
        refine WT.op (G.store_ptr (v:=iA (c.getD (j + 1) 0:Nat)) rfl rfl rfl bi rfl (List.getElem?_set_self (by rw [List.length_set]; exact hOl)) (by rw [idx0,List.length_set,ints_len]; omega)) rfl rfl (WT.nil (W.region ?_))
        refine WO.op rfl rfl ?_
        refine WO.as (v':=iA (j:Int)) rfl rfl (int_i64 (by omega) (by omega)) ?_
        refine WO.op rfl rfl (WO.nil ⟨(j,swp c j),⟨hs',by simp only; omega,by rw [swp_len]; exact hc,fun y hy=>hm y (swp_mem (by omega) y hy)⟩,by simp only; omega,fits_fr ⟨rfl,rfl,rfl,rfl,rfl,rfl,trivial⟩,?_⟩)
        simp only [idx0,ints_set,List.set_set]
        rfl
      · have hce:c=isortK lt (k + 1) l:=by
          have e:sink lt (j + 1) c=c:=by
            show (if lt (c.getD (j + 1) 0) (c.getD j 0)=true then sink lt j (swp c j) else c)=_
            rw [if_neg hg]
          rw [← e]; exact hs
        have hg':=hg
        rw [hlt,decide_eq_true_eq] at hg'
        refine WT.as (v':=.bool false) rfl rfl rfl (bdF hg') ?_
        refine WT.op rfl rfl rfl (WT.nil (W.cond (b:=false) rfl (fun h=>by cases h) (fun _=>W.exit ?_)))
        refine W.region ?_
        refine WO.op rfl rfl ?_
        refine WO.as (v':=iA ((k + 1 + 1:Nat):Int)) rfl rfl (int_i64 (by omega) (by omega)) ?_
        refine WO.op rfl rfl (WO.nil ⟨k + 1,hkl,by omega,fits_fr ⟨rfl,rfl,rfl,rfl,rfl,trivial⟩,?_⟩)
        rw [hce]
  · have hke:l.length - 1=k:=by omega
    rw [hke]
    refine WO.as (v':=.bool false) rfl rfl (bdF (by omega)) (WO.nil (W.cond (b:=false) rfl (fun h=>by cases h) (fun _=>W.exit ?_)))
    exact ⟨trivial,_,rfl,Wk.refl _,rfl⟩
end
end Go.AM.C.BK
namespace Go.AM.C.BK
open Go.Proofs
noncomputable section
abbrev S1:Sg:=mkB []
theorem s1:Sound Tryz.prog S1:=mkB_sound trivial
theorem isort_end {H:Heap} {v fnv:AVal} (n:Nat) (hn:n < 1048576):Has 203 [v,iA (n:Int),iA (n:Int),fnv] H (.tup []) H:=by
  refine unB (l:=[]) ?_
  refine does_run s1 (show S1.fn 203=some Tryz.f203 by kernel_rfl) rfl (by kernel_rfl) (Nat.le_of_ble_eq_true rfl) ?_
  refine W.seq (W.region ?_)
  refine WO.op rfl rfl ?_
  refine WO.as (v':=iA ((n + 1:Nat):Int)) rfl rfl (int_i64 (by omega) (by omega)) ?_
  refine WO.op rfl rfl (WO.nil (W.block ?_))
  refine W.fits (F':=fr [(2,iA (n:Int)),(8,iA ((n + 1:Nat):Int))]) (fits_fr ⟨rfl,rfl,trivial⟩) ?_
  refine W.loopI (fun _:Unit=>True) (fun _=>0) (fun _=>fr [(2,iA (n:Int)),(8,iA ((n + 1:Nat):Int))]) (fun _=>H) ?_ () trivial
  intro _ _
  refine W.seq (W.seq (W.region ?_))
  refine WO.op rfl rfl ?_
  refine WO.op rfl rfl ?_
  refine WO.as (v':=.bool false) rfl rfl (bdF (by omega)) (WO.nil (W.cond (b:=false) rfl (fun h=>by cases h) (fun _=>W.exit ?_)))
  exact ⟨trivial,_,rfl,Wk.refl _,rfl⟩
set_option maxRecDepth 100000 in
theorem stable_has {H:Heap} {O P R:Nat} {rs l:List Nat} {cap:Option Nat} (hO:H[O]?=some (oC l)) (h:RestsAt H P R rs) (h1:O≠P) (h2:O≠R) (hl:∀ x∈l,x < rs.length) (hn:0 < l.length) (hn2:l.length≤20) :
    Has 115 [.sl O 0 l.length cap 1,iA (l.length:Int),fnC P] H (.tup []) (H.set O (oC (isortK (ltR rs) (l.length - 1) l))):=by
  have hs:=isort_has (cap:=cap) hO h h1 h2 hl hn (by omega)
  generalize isortK (ltR rs) (l.length - 1) l=T at hs ⊢
  generalize hL:l.length=n at hs hn hn2 ⊢
  refine unB (l:=[]) ?_
  refine does_run s1 (show S1.fn 115=some Tryz.f115 by kernel_rfl) rfl (by kernel_rfl) (Nat.le_of_ble_eq_true rfl) ?_
  refine W.seq (W.region ?_)
  refine WO.op rfl rfl (WO.nil (W.seq (W.region ?_)))
  refine WO.op rfl rfl ?_
  refine WO.op rfl rfl ?_
  refine WO.op rfl rfl (WO.nil ?_)
  by_cases h20:n=20
  · subst h20
    refine W.midE (α:=Unit) (fun _=>True) (fun _=>[(0,.sl O 0 20 cap 1),(1,iA ((20:Nat):Int)),(2,fnC P),(6,iA ((20:Nat):Int)),(7,iA ((20:Nat):Int))]) (fun _=>H.set O (oC T)) ?_ ?_
    · refine W.block ?_
      refine W.fits (F':=fr [(0,.sl O 0 20 cap 1),(1,iA ((20:Nat):Int)),(2,fnC P),(6,iA ((20:Nat):Int)),(7,iA ((0:Nat):Int)),(8,iA ((20:Nat):Int))]) (fits_fr ⟨rfl,rfl,rfl,rfl,rfl,rfl,trivial⟩) ?_
      refine W.loopI (α:=Bool) (fun _=>True) (fun b=>if b then 0 else 1) (fun b=>fr [(0,.sl O 0 20 cap 1),(1,iA ((20:Nat):Int)),(2,fnC P),(6,iA ((20:Nat):Int)),(7,iA (((if b then 20 else 0):Nat):Int)),(8,iA (((if b then 40 else 20):Nat):Int))]) (fun b=>if b then H.set O (oC T) else H) ?_ false trivial
      intro b _
      cases b with
      | false =>
        refine W.heq (H':=H) rfl ?_
        refine W.seq (W.seq (W.region ?_))
        refine WO.op rfl rfl ?_
        refine WO.op rfl rfl ?_
        refine WO.as (v':=.bool true) rfl rfl rfl (WO.nil (W.cond (b:=true) rfl (fun _=>W.skip ?_) (fun h=>by cases h)))
        refine W.block (W.seq (W.region ?_))
        iterate 4 refine WO.op rfl rfl ?_
        refine WO.call rfl (inB hs) rfl (WO.nil (W.seq (W.region ?_)))
        refine WO.op rfl rfl ?_
        refine WO.op rfl rfl (WO.nil (W.region ?_))
        iterate 3 refine WO.op rfl rfl ?_
        exact WO.op rfl rfl (WO.nil ⟨true,trivial,by decide,fits_fr ⟨rfl,rfl,rfl,rfl,rfl,rfl,trivial⟩,rfl⟩)
      | true =>
        refine W.heq (H':=H.set O (oC T)) rfl ?_
        refine W.seq (W.seq (W.region ?_))
        refine WO.op rfl rfl ?_
        refine WO.op rfl rfl ?_
        refine WO.as (v':=.bool false) rfl rfl rfl (WO.nil (W.cond (b:=false) rfl (fun h=>by cases h) (fun _=>W.exit ?_)))
        exact ⟨rfl,(),trivial,⟨rfl,rfl,rfl,rfl,rfl,trivial⟩,rfl⟩
    intro _ _
    change W _ _ _ _ (fr [(0,.sl O 0 20 cap 1),(1,iA ((20:Nat):Int)),(2,fnC P),(6,iA ((20:Nat):Int)),(7,iA ((20:Nat):Int))]) (H.set O (oC T)) _
    refine W.seq (W.region ?_)
    iterate 4 refine WO.op rfl rfl ?_
    refine WO.call rfl (inB (isort_end 20 (by decide))) rfl (WO.nil (W.block ?_))
    refine W.fits (F':=fr [(1,iA ((20:Nat):Int)),(6,iA ((20:Nat):Int))]) (fits_fr ⟨rfl,rfl,trivial⟩) ?_
    refine W.loopI (fun _:Unit=>True) (fun _=>0) (fun _=>fr [(1,iA ((20:Nat):Int)),(6,iA ((20:Nat):Int))]) (fun _=>H.set O (oC T)) ?_ () trivial
    intro _ _
    refine W.seq (W.seq (W.region ?_))
    refine WO.op rfl rfl ?_
    refine WO.op rfl rfl ?_
    refine WO.as (v':=.bool false) rfl rfl rfl (WO.nil (W.cond (b:=false) rfl (fun h=>by cases h) (fun _=>W.exit ?_)))
    exact ⟨trivial,_,rfl,Wk.refl _,rfl⟩
  · refine W.midE (α:=Unit) (fun _=>True) (fun _=>[(0,.sl O 0 n cap 1),(1,iA (n:Int)),(2,fnC P),(6,iA ((20:Nat):Int)),(7,iA ((0:Nat):Int))]) (fun _=>H) ?_ ?_
    · refine W.block ?_
      refine W.fits (F':=fr [(0,.sl O 0 n cap 1),(1,iA (n:Int)),(2,fnC P),(6,iA ((20:Nat):Int)),(7,iA ((0:Nat):Int)),(8,iA ((20:Nat):Int))]) (fits_fr ⟨rfl,rfl,rfl,rfl,rfl,rfl,trivial⟩) ?_
      refine W.loopI (fun _:Unit=>True) (fun _=>0) (fun _=>fr [(0,.sl O 0 n cap 1),(1,iA (n:Int)),(2,fnC P),(6,iA ((20:Nat):Int)),(7,iA ((0:Nat):Int)),(8,iA ((20:Nat):Int))]) (fun _=>H) ?_ () trivial
      intro _ _
      refine W.seq (W.seq (W.region ?_))
      refine WO.op rfl rfl ?_
      refine WO.op rfl rfl ?_
      refine WO.as (v':=.bool false) rfl rfl (bdF (by omega)) (WO.nil (W.cond (b:=false) rfl (fun h=>by cases h) (fun _=>W.exit ?_)))
      exact ⟨rfl,(),trivial,⟨rfl,rfl,rfl,rfl,rfl,trivial⟩,rfl⟩
    intro _ _
    change W _ _ _ _ (fr [(0,.sl O 0 n cap 1),(1,iA (n:Int)),(2,fnC P),(6,iA ((20:Nat):Int)),(7,iA ((0:Nat):Int))]) H _
    refine W.seq (W.region ?_)
    iterate 4 refine WO.op rfl rfl ?_
    refine WO.call rfl (inB hs) rfl (WO.nil (W.block ?_))
    refine W.fits (F':=fr [(1,iA (n:Int)),(6,iA ((20:Nat):Int))]) (fits_fr ⟨rfl,rfl,trivial⟩) ?_
    refine W.loopI (fun _:Unit=>True) (fun _=>0) (fun _=>fr [(1,iA (n:Int)),(6,iA ((20:Nat):Int))]) (fun _=>H.set O (oC T)) ?_ () trivial
    intro _ _
    refine W.seq (W.seq (W.region ?_))
    refine WO.op rfl rfl ?_
    refine WO.op rfl rfl ?_
    refine WO.as (v':=.bool false) rfl rfl (bdF (by omega)) (WO.nil (W.cond (b:=false) rfl (fun h=>by cases h) (fun _=>W.exit ?_)))
    exact ⟨trivial,_,rfl,Wk.refl _,rfl⟩
theorem sort_has {H:Heap} {O P R:Nat} {rs l:List Nat} {cap:Option Nat} (hO:H[O]?=some (oC l)) (h:RestsAt H P R rs) (h1:O≠P) (h2:O≠R) (hl:∀ x∈l,x < rs.length) (hn:0 < l.length) (hn2:l.length≤20) :
    Has 54 [.sl O 0 l.length cap 1,fnC P] H (.tup []) (H.set O (oC (isortK (ltR rs) (l.length - 1) l))):=by
  have hs:=stable_has (cap:=cap) hO h h1 h2 hl hn hn2
  generalize isortK (ltR rs) (l.length - 1) l=T at hs ⊢
  generalize l.length=n at hs ⊢
  refine unB (l:=[]) ?_
  refine does_run s1 (show S1.fn 54=some Tryz.f54 by kernel_rfl) rfl (by kernel_rfl) (Nat.le_of_ble_eq_true rfl) ?_
  refine W.region ?_
  iterate 4 refine WO.op rfl rfl ?_
  refine WO.call rfl (inB hs) rfl (WO.nil ?_)
  exact ⟨trivial,_,rfl,Wk.refl _,rfl⟩
end
end Go.AM.C.BK
namespace Go.AM
def RowK (H:Heap) (v:AVal) (cs:List AVal) (ty:TypeId):Prop:=cs=[]∧v=.nils∨∃ id,v=.sl id 0 cs.length none 1∧H[id]?=some (.cells cs ty)
def idK:AVal→Option Nat
  | .sl id _ _ _ _=>some id
  | _=>none
theorem RowK.cons {H:Heap} {v:AVal} {cs:List AVal} {ty:TypeId} (h:RowK H v cs ty) (h0:cs≠[]):∃ id,v=.sl id 0 cs.length none 1∧idK v=some id∧H[id]?=some (.cells cs ty):=by
  rcases h with ⟨h,_⟩ | ⟨id,rfl,h⟩
  · exact absurd h h0
  · exact ⟨id,rfl,rfl,h⟩
theorem RowK.lt {H:Heap} {v:AVal} {cs:List AVal} {ty:TypeId} (h:RowK H v cs ty) {j:Nat} (hj:idK v=some j):j < H.length:=by
  rcases h with ⟨_,rfl⟩ | ⟨id,rfl,h⟩
  · cases hj
  · cases hj; exact (List.getElem?_eq_some_iff.1 h).1
theorem RowK.mono {H H':Heap} {v:AVal} {cs:List AVal} {ty:TypeId} (h:RowK H v cs ty) (hh:∀ j,idK v=some j→H'[j]?=H[j]?):RowK H' v cs ty:=by
  rcases h with h | ⟨id,rfl,h⟩
  · exact .inl h
  · exact .inr ⟨id,rfl,by rw [hh id rfl]; exact h⟩
theorem RowK.beq {H:Heap} {v:AVal} {cs:List AVal} {ty:TypeId} (h:RowK H v cs ty):beqA 9 v v=true:=by
  rcases h with ⟨_,rfl⟩ | ⟨id,rfl,h⟩
  · rfl
  · simp [beqA]
theorem RowK.cell {H:Heap} {v:AVal} {cs:List AVal} {ty:TypeId} (h:RowK H v cs ty):v.cell=true:=by
  rcases h with ⟨_,rfl⟩ | ⟨id,rfl,h⟩ <;> rfl
theorem RowK.app {H:Heap} {v:AVal} {cs:List AVal} {ty:TypeId} (h:RowK H v cs ty) (e:TypeId) (x:AVal) (hx:x.cell=true) (hl:cs.length < 1073741824) :
    ∃ H',(∀ {S:Sg} {call:Calling} {d:Bool} {g:Operand→AVal} {c:Call} {t:TypeId} {ti te:TI} {cap2:Option Nat} {cl:Bool},c.callee=.builtin .append→c.args.toList.map g=[v,.isl [x] 0 1 cap2 cl]→c.argTypes.toList=[t,t]→S.ty t=some ti→ti.desc=.slice e→S.ty e=some te→te.size=1→te.bytes≤1024 →
        denG S call d g H (.call c)=some (.sl H.length 0 (cs ++ [x]).length none 1,H'))∧H'.length=H.length + 1∧RowK H' (.sl H.length 0 (cs ++ [x]).length none 1) (cs ++ [x]) e∧∀ j,j < H.length→idK v≠some j→H'[j]?=H[j]?:=by
  rcases h with ⟨rfl,rfl⟩ | ⟨id,rfl,h⟩
  · refine ⟨H ++ [.cells [x] e],?_,by simp,.inr ⟨H.length,rfl,app_at rfl⟩,fun j hj _=>app_lt hj⟩
    intro S call d g c t ti te cap2 cl hc ha hta ht hd he hs hb
    have:=G.append_nils_isl (news:=[x]) hc ha hta ht hd he hs.symm (by simp [hx]) hb (d:=d) (call:=call) (H:=H)
    rw [hs] at this
    exact this
  · have hid:=(List.getElem?_eq_some_iff.1 h).1
    refine ⟨H.set id .dead ++ [.cells (cs ++ [x]) e],?_,by simp,.inr ⟨H.length,rfl,?_⟩,fun j hj hn=>?_⟩
    · intro S call d g c t ti te cap2 cl hc ha hta ht hd he hs hb
      have:=G.append_sl_isl (news:=[x]) (id:=id) (len:=cs.length) (vs:=cs) (ty:=ty) hc (by rw [hs]; exact ha) hta ht hd he hs.symm (by simp [hx]) hb (by omega) h (by rw [hs]; omega) hl (d:=d) (call:=call)
      rw [hs] at this
      rw [this,List.length_append]
      rfl
    · have e1:H.length=(H.set id .dead).length:=by simp
      rw [e1]
      exact app_at rfl
    · rw [app_lt (by simpa using hj),List.getElem?_set_ne]
      rintro rfl
      exact hn rfl
theorem RowK.app2 {H:Heap} {v:AVal} {cs:List AVal} {ty:TypeId} (h:RowK H v cs ty) (e:TypeId) (x:AVal) (hx:x.cell=true) (hl:cs.length < 1073741824) {id2:Nat} {ty2:TypeId} (h2:H[id2]?=some (.cells [x] ty2)) :
    ∃ H',(∀ {S:Sg} {call:Calling} {d:Bool} {g:Operand→AVal} {c:Call} {t:TypeId} {ti te:TI} {cap2:Option Nat},c.callee=.builtin .append→c.args.toList.map g=[v,.sl id2 0 1 cap2 1]→c.argTypes.toList=[t,t]→S.ty t=some ti→ti.desc=.slice e→S.ty e=some te→te.size=1→te.bytes≤1024 →
        denG S call d g H (.call c)=some (.sl H.length 0 (cs ++ [x]).length none 1,H'))∧H'.length=H.length + 1∧RowK H' (.sl H.length 0 (cs ++ [x]).length none 1) (cs ++ [x]) e∧∀ j,j < H.length→idK v≠some j→H'[j]?=H[j]?:=by
  rcases h with ⟨rfl,rfl⟩ | ⟨id,rfl,h⟩
  · refine ⟨H ++ [.cells [x] e],?_,by simp,.inr ⟨H.length,rfl,app_at rfl⟩,fun j hj _=>app_lt hj⟩
    intro S call d g c t ti te cap2 hc ha hta ht hd he hs hb
    have:=G.append_nils (news:=[x]) (id2:=id2) (cap2:=cap2) (ty2:=ty2) hc (by rw [hs]; exact ha) hta ht hd he h2 hs.symm (by simp [hx]) hb (d:=d) (call:=call)
    rw [hs] at this
    exact this
  · have hid:=(List.getElem?_eq_some_iff.1 h).1
    refine ⟨H.set id .dead ++ [.cells (cs ++ [x]) e],?_,by simp,.inr ⟨H.length,rfl,?_⟩,fun j hj hn=>?_⟩
    · intro S call d g c t ti te cap2 hc ha hta ht hd he hs hb
      have:=G.append_sl (news:=[x]) (id:=id) (len:=cs.length) (vs:=cs) (ty:=ty) (id2:=id2) (cap2:=cap2) (ty2:=ty2) hc (by rw [hs]; exact ha) hta ht hd he h2 hs.symm (by simp [hx]) hb (by omega) h (by rw [hs]; omega) hl (d:=d) (call:=call)
      rw [hs] at this
      rw [this,List.length_append]
      rfl
    · have e1:H.length=(H.set id .dead).length:=by simp
      rw [e1]
      exact app_at rfl
    · rw [app_lt (by simpa using hj),List.getElem?_set_ne]
      rintro rfl
      exact hn rfl
end Go.AM
namespace Go.AM.C.BK
open Go.Proofs
noncomputable section
theorem below_has (s:Nat) (hs:s < 9223372036854775808) (H:Heap):Has 44 [iA (s:Int)] H (.bool false) H:=by
  refine unB (l:=[]) ?_
  refine does_run s1 (show S1.fn 44=some Tryz.f44 by kernel_rfl) rfl (by kernel_rfl) (Nat.le_of_ble_eq_true rfl) ?_
  refine W.seq (W.region ?_)
  refine WO.op rfl rfl (WO.nil (W.seq (W.region ?_)))
  refine WO.op rfl rfl ?_
  refine WO.as (v':=.bool false) rfl rfl (bdF (by omega)) ?_
  exact WO.op rfl rfl (WO.nil (W.ret ⟨trivial,_,rfl,Wk.refl _,rfl⟩))
theorem bL:(mkB []).ty 23=some ti23:=rfl
theorem bl:(mkB []).ty 2=some ti2:=rfl
theorem index_has (sh:List Nat) (hs:∀ s∈sh,s < 9223372036854775808) (hn:sh.length < 1048576) (H:Heap) :
    Has 106 [.isl (ints sh) 0 sh.length none true,.fn 44 [] []] H (iA (-1)) H:=by
  refine unB (l:=[]) ?_
  refine does_run s1 (show S1.fn 106=some Tryz.f106 by kernel_rfl) rfl (by kernel_rfl) (Nat.le_of_ble_eq_true rfl) ?_
  refine W.seq (W.region ?_)
  refine WO.op rfl rfl (WO.nil (W.seq (W.seq (W.region ?_))))
  refine WO.op rfl rfl ?_
  refine WO.op rfl rfl ?_
  refine WO.op rfl rfl (WO.nil (W.block ?_))
  refine W.fits (F':=fr [(0,.isl (ints sh) 0 sh.length none true),(1,.fn 44 [] []),(7,iA (sh.length:Int)),(8,iA ((0:Nat):Int))]) (fits_fr ⟨rfl,rfl,rfl,rfl,trivial⟩) ?_
  refine W.loopI (fun k:Nat=>k≤sh.length) (fun k=>sh.length - k) (fun k=>fr [(0,.isl (ints sh) 0 sh.length none true),(1,.fn 44 [] []),(7,iA (sh.length:Int)),(8,iA (k:Int))]) (fun _=>H) ?_ 0 (Nat.zero_le _)
  intro k hk
  refine W.seq (W.region ?_)
  by_cases hlt:k < sh.length
  · refine WO.as (v':=.bool true) rfl rfl (bdT (by omega)) (WO.nil (W.seq (W.cond (b:=true) rfl (fun _=>W.skip ?_) (fun h=>by cases h))))
    refine W.seq (W.block (W.seq (W.region ?_)))
    refine WO.op rfl rfl ?_
    refine WO.op rfl rfl (WO.nil (W.seq (W.region ?_)))
    iterate 3 refine WO.op rfl rfl ?_
    refine WO.op (G.idx_isl rfl rfl bL rfl bl (by omega) (by omega)) rfl ?_
    refine WO.op (G.load_ip rfl bl rfl (show (ints sh)[0 + ((k:Nat):Int).toNat * 1]?=some (iA (sh.getD k 0:Nat)) by rw [idx0]; exact ints_at hlt)) rfl ?_
    refine WO.call rfl (inB (below_has (sh.getD k 0) (hs _ (getD_mem hlt)) _)) rfl (WO.nil ?_)
    refine W.cond (b:=false) rfl (fun h=>by cases h) (fun _=>W.skip (W.region ?_))
    refine WO.as (v':=iA ((k + 1:Nat):Int)) rfl rfl (int_i64 (by omega) (by omega)) ?_
    exact WO.op rfl rfl (WO.nil ⟨k + 1,by omega,by omega,fits_fr ⟨rfl,rfl,rfl,rfl,trivial⟩,rfl⟩)
  · refine WO.as (v':=.bool false) rfl rfl (bdF (by omega)) (WO.nil (W.seq (W.cond (b:=false) rfl (fun h=>by cases h) (fun _=>W.exit ?_))))
    refine W.seq (W.region ?_)
    exact WO.op rfl rfl (WO.nil (W.ret ⟨trivial,_,rfl,Wk.refl _,rfl⟩))
theorem contains_has (sh:List Nat) (hs:∀ s∈sh,s < 9223372036854775808) (hn:sh.length < 1048576) (H:Heap) :
    Has 43 [.isl (ints sh) 0 sh.length none true,.fn 44 [] []] H (.bool false) H:=by
  have hi:=index_has sh hs hn
  refine unB (l:=[]) ?_
  refine does_run s1 (show S1.fn 43=some Tryz.f43 by kernel_rfl) rfl (by kernel_rfl) (Nat.le_of_ble_eq_true rfl) ?_
  refine W.seq (W.region ?_)
  refine WO.op rfl rfl (WO.nil (W.seq (W.region ?_)))
  refine WO.op rfl rfl ?_
  refine WO.op rfl rfl ?_
  refine WO.call rfl (inB (hi _)) rfl ?_
  refine WO.op rfl rfl ?_
  exact WO.op rfl rfl (WO.nil (W.ret ⟨trivial,_,rfl,Wk.refl _,rfl⟩))
def qsN (A S:Nat) (sh:List Nat):List Nat:=sh.map fun s=>A * s / S
def rsN (A S:Nat) (sh:List Nat):List Nat:=sh.map fun s=>A * s % S
def bumpN:List Nat→List Nat→List Nat
  | [],l=>l
  | i :: r,l=>bumpN r (l.set i (l.getD i 0 + 1))
def ordN (A:Nat) (sh:List Nat):List Nat:=isortK (ltR (rsN A sh.sum sh)) (sh.length - 1) (List.range sh.length)
def missN (A:Nat) (sh:List Nat):Nat:=A - (qsN A sh.sum sh).sum
def partsN (A:Nat) (sh:List Nat):List Nat:=bumpN ((ordN A sh).take (missN A sh)) (qsN A sh.sum sh)
theorem bump_len:∀ (o l:List Nat),(bumpN o l).length=l.length
  | [],l=>rfl
  | i :: r,l=>by show (bumpN r _).length=_; rw [bump_len r,List.length_set]
theorem qs_len (A S:Nat) (sh:List Nat):(qsN A S sh).length=sh.length:=by unfold qsN; simp
theorem rs_len (A S:Nat) (sh:List Nat):(rsN A S sh).length=sh.length:=by unfold rsN; simp
theorem ord_len (A:Nat) (sh:List Nat):(ordN A sh).length=sh.length:=by unfold ordN; rw [isort_len,List.length_range]
theorem takeD {l:List Nat} {k:Nat} (h:k < l.length):l.take (k + 1)=l.take k ++ [l.getD k 0]:=by
  rw [List.take_add_one,List.getD_eq_getElem?_getD,List.getElem?_eq_getElem h]
  rfl
theorem qs_getD {A S:Nat} {sh:List Nat} {k:Nat} (h:k < sh.length):(qsN A S sh).getD k 0=A * sh.getD k 0 / S:=by
  unfold qsN
  rw [List.getD_eq_getElem?_getD,List.getD_eq_getElem?_getD,List.getElem?_map,List.getElem?_eq_getElem h]
  rfl
theorem rs_getD {A S:Nat} {sh:List Nat} {k:Nat} (h:k < sh.length):(rsN A S sh).getD k 0=A * sh.getD k 0 % S:=by
  unfold rsN
  rw [List.getD_eq_getElem?_getD,List.getD_eq_getElem?_getD,List.getElem?_map,List.getElem?_eq_getElem h]
  rfl
theorem qr_sum (A S:Nat):∀ sh:List Nat,S * (qsN A S sh).sum + (rsN A S sh).sum=A * sh.sum
  | []=>rfl
  | s :: sh=>by
    have ih:=qr_sum A S sh
    have h1:=Nat.div_add_mod (A * s) S
    show S * (A * s / S + (qsN A S sh).sum) + (A * s % S + (rsN A S sh).sum)=A * (s + sh.sum)
    rw [Nat.mul_add,Nat.mul_add]
    omega
theorem rs_le {A S:Nat} (hS:0 < S):∀ sh:List Nat,(rsN A S sh).sum + sh.length≤S * sh.length
  | []=>by simp [rsN]
  | s :: sh=>by
    have ih:=rs_le hS (A:=A) sh
    have h1:=Nat.mod_lt (A * s) hS
    show A * s % S + (rsN A S sh).sum + (sh.length + 1)≤S * (sh.length + 1)
    rw [Nat.mul_add]
    omega
theorem sum_take_le:∀ (l:List Nat) (k:Nat),(l.take k).sum≤l.sum
  | [],k=>by simp
  | x :: l,0=>by simp
  | x :: l,k + 1=>by
    rw [List.take_succ_cons,List.sum_cons,List.sum_cons]
    have:=sum_take_le l k
    omega
theorem sum_takeD {l:List Nat} {k:Nat} (h:k < l.length):(l.take (k + 1)).sum=(l.take k).sum + l.getD k 0:=by
  rw [takeD h,List.sum_append]
  simp
theorem getD_le_sum {l:List Nat} {k:Nat} (h:k < l.length):l.getD k 0≤l.sum:=by
  have h1:=sum_takeD h
  have h2:=sum_take_le l (k + 1)
  omega
theorem qs_sum_le {A:Nat} {sh:List Nat} (h0:0 < sh.sum):(qsN A sh.sum sh).sum≤A:=by
  have h:=qr_sum A sh.sum sh
  refine Nat.le_of_mul_le_mul_left (c:=sh.sum) ?_ h0
  rw [Nat.mul_comm sh.sum A]
  omega
theorem miss_lt {A:Nat} {sh:List Nat} (h0:0 < sh.sum):missN A sh < sh.length:=by
  have h:=qr_sum A sh.sum sh
  have hl:0 < sh.length:=by
    cases sh with
    | nil=>simp at h0
    | cons=>simp
  have h2:=rs_le (A:=A) h0 sh
  have h3:A < (qsN A sh.sum sh).sum + sh.length:=by
    refine Nat.lt_of_mul_lt_mul_left (a:=sh.sum) ?_
    rw [Nat.mul_add,Nat.mul_comm sh.sum A]
    omega
  unfold missN
  omega
theorem ord_lt (A:Nat) (sh:List Nat) (h:0 < sh.length):∀ x∈ordN A sh,x < sh.length:=fun x hx=>by
  have:=isort_mem _ _ _ (by rw [List.length_range]; omega) x hx
  exact List.mem_range.1 this
end
end Go.AM.C.BK
namespace Go.AM.C.BK
open Go.Proofs
noncomputable section
def nofR (args:List AVal) (H:Heap) (v:AVal) (H':Heap):Prop:=∃ n:Nat,n < B64∧args=[.int .u64 (n:Int)]∧v=.obj (.np n)∧H'=H
theorem nofR_has:∀ args H v H',nofR args H v H'→Has 46 args H v H':=by
  rintro _ H _ _ ⟨n,hn,rfl,rfl,rfl⟩
  exact of_np n hn _
theorem nofR_fun:∀ args H v H1 u H2,nofR args H v H1→nofR args H u H2→v=u∧H1=H2:=by
  rintro _ H _ _ _ _ ⟨n,hn,rfl,rfl,rfl⟩ ⟨n',hn',h,rfl,rfl⟩
  injection h with h1
  injection h1 with _ h1
  have e:n=n':=by omega
  subst e
  exact ⟨rfl,rfl⟩
def naddR (args:List AVal) (H:Heap) (v:AVal) (H':Heap):Prop:=∃ n m:Nat,Fit n∧Fit m∧args=[.obj (.np n),.obj (.np m)]∧v=.obj (.np (n + m))∧H'=H
theorem naddR_has:∀ args H v H',naddR args H v H'→Has 47 args H v H':=by
  rintro _ H _ _ ⟨n,m,hn,hm,rfl,rfl,rfl⟩
  exact add_np n m hn hm _
theorem naddR_fun:∀ args H v H1 u H2,naddR args H v H1→naddR args H u H2→v=u∧H1=H2:=by
  rintro _ H _ _ _ _ ⟨n,m,hn,hm,rfl,rfl,rfl⟩ ⟨n',m',hn',hm',h,rfl,rfl⟩
  injection h with h1 h2
  injection h2 with h2
  injection h1 with h1
  injection h2 with h2
  injection h1 with h1
  injection h2 with h2
  subst h1; subst h2
  exact ⟨rfl,rfl⟩
abbrev nofE:Ent:=⟨46,relX nofR,true,relX_quiet fun _ _ _ _ ⟨_,_,_,_,h⟩=>h⟩
abbrev naddE:Ent:=⟨47,relX naddR,true,relX_quiet fun _ _ _ _ ⟨_,_,_,_,_,_,h⟩=>h⟩
abbrev SB:Sg:=mkB [nofE,naddE]
theorem sB:Sound Tryz.prog SB:=mkB_sound ⟨relX_ok nofR_has _ rfl rfl,relX_ok naddR_has _ rfl rfl,trivial⟩
theorem nofB {n:Nat} (hn:n < B64) (H:Heap):callS SB 46 [.int .u64 (n:Int)] H=some (.obj (.np n),H) :=
  (show callS SB 46 [.int .u64 (n:Int)] H=relX nofR [.int .u64 (n:Int)] H from rfl).trans (relX_eq nofR_fun ⟨n,hn,rfl,rfl,rfl⟩)
theorem naddB {n m:Nat} (hn:Fit n) (hm:Fit m) (H:Heap):callS SB 47 [.obj (.np n),.obj (.np m)] H=some (.obj (.np (n + m)),H) :=
  (show callS SB 47 [.obj (.np n),.obj (.np m)] H=relX naddR [.obj (.np n),.obj (.np m)] H from rfl).trans (relX_eq naddR_fun ⟨n,m,hn,hm,rfl,rfl,rfl⟩)
structure St (A S:Nat) (sh:List Nat) (k:Nat) (G:Heap) (vp vr vo:AVal):Prop where
  hk:k≤sh.length
  p:RowK G vp (nps ((qsN A S sh).take k)) 90
  r:RowK G vr (nps ((rsN A S sh).take k)) 90
  o:RowK G vo (ints (List.range k)) 3
  c:G[0]?=some (.cells [vr] 97)
  p0:idK vp≠some 0
  r0:idK vr≠some 0
  o0:idK vo≠some 0
  pr:∀ j,idK vp=some j→idK vr≠some j
  po:∀ j,idK vp=some j→idK vo≠some j
  ro:∀ j,idK vr=some j→idK vo≠some j
theorem nps_snoc (l:List Nat) (x:Nat):nps (l ++ [x])=nps l ++ [.obj (.np x)]:=by unfold nps; rw [List.map_append]; rfl
theorem ints_snoc (l:List Nat) (x:Nat):ints (l ++ [x])=ints l ++ [iA (x:Int)]:=by unfold ints; rw [List.map_append]; rfl
def AppD (G:Heap) (v x v':AVal) (e:TypeId) (G':Heap):Prop :=
  ∀ {S:Sg} {call:Calling} {d:Bool} {g:Operand→AVal} {c:Call} {t:TypeId} {ti te:TI} {cap2:Option Nat} {cl:Bool},c.callee=.builtin .append→c.args.toList.map g=[v,.isl [x] 0 1 cap2 cl]→c.argTypes.toList=[t,t]→S.ty t=some ti→ti.desc=.slice e→S.ty e=some te→te.size=1→te.bytes≤1024 →
    denG S call d g G (.call c)=some (v',G')
set_option maxHeartbeats 2000000 in
theorem St.step {A S:Nat} {sh:List Nat} {k:Nat} {G:Heap} {vp vr vo:AVal} (h:St A S sh k G vp vr vo) (hk:k < sh.length) (hb:sh.length < 1048576) :
    ∃ G1 G2 G3 vp' vr' vo',AppD G vp (.obj (.np (A * sh.getD k 0 / S))) vp' 90 G1∧AppD G1 vr (.obj (.np (A * sh.getD k 0 % S))) vr' 90 G2∧AppD G2 vo (iA (k:Int)) vo' 3 G3 ∧
      G1[0]?=some (.cells [vr] 97)∧G2[0]?=some (.cells [vr] 97)∧G3[0]?=some (.cells [vr] 97)∧vr'.cell=true ∧
      St A S sh (k + 1) (G3.set 0 (.cells [vr'] 97)) vp' vr' vo':=by
  have hql:(nps ((qsN A S sh).take k)).length < 1073741824:=by rw [nps_len,List.length_take]; omega
  have hrl:(nps ((rsN A S sh).take k)).length < 1073741824:=by rw [nps_len,List.length_take]; omega
  have hol:(ints (List.range k)).length < 1073741824:=by rw [ints_len,List.length_range]; omega
  have h0:0 < G.length:=(List.getElem?_eq_some_iff.1 h.c).1
  obtain ⟨G1,a1,l1,r1,k1⟩:=h.p.app 90 (.obj (.np (A * sh.getD k 0 / S))) rfl hql
  have hr1:=h.r.mono (H':=G1) fun j hj=>k1 j (h.r.lt hj) (fun e=>h.pr j e hj)
  have ho1:=h.o.mono (H':=G1) fun j hj=>k1 j (h.o.lt hj) (fun e=>h.po j e hj)
  have hc1:G1[0]?=some (.cells [vr] 97):=by rw [k1 0 h0 h.p0]; exact h.c
  obtain ⟨G2,a2,l2,r2,k2⟩:=hr1.app 90 (.obj (.np (A * sh.getD k 0 % S))) rfl hrl
  have ho2:=ho1.mono (H':=G2) fun j hj=>k2 j (by have:=h.o.lt hj; omega) (fun e=>h.ro j e hj)
  have hc2:G2[0]?=some (.cells [vr] 97):=by rw [k2 0 (by omega) h.r0]; exact hc1
  obtain ⟨G3,a3,l3,r3,k3⟩:=ho2.app 3 (iA (k:Int)) rfl hol
  have hc3:G3[0]?=some (.cells [vr] 97):=by rw [k3 0 (by omega) h.o0]; exact hc2
  refine ⟨G1,G2,G3,_,_,_,a1,a2,a3,hc1,hc2,hc3,rfl,?_⟩
  have kp:∀ j,j < G.length→idK vr≠some j→idK vo≠some j→idK vp≠some j→G3[j]?=G[j]?:=fun j hj e1 e2 e3=>by rw [k3 j (by omega) e2,k2 j (by omega) e1,k1 j hj e3]
  have eP:nps ((qsN A S sh).take k) ++ [.obj (.np (A * sh.getD k 0 / S))]=nps ((qsN A S sh).take (k + 1)):=by rw [takeD (by rw [qs_len]; exact hk),nps_snoc,qs_getD hk]
  have eR:nps ((rsN A S sh).take k) ++ [.obj (.np (A * sh.getD k 0 % S))]=nps ((rsN A S sh).take (k + 1)):=by rw [takeD (by rw [rs_len]; exact hk),nps_snoc,rs_getD hk]
  have eO:ints (List.range k) ++ [iA (k:Int)]=ints (List.range (k + 1)):=by rw [List.range_succ,ints_snoc]
  refine ⟨hk,?_,?_,?_,List.getElem?_set_self (by omega),?_,?_,?_,?_,?_,?_⟩
  · rw [← eP]
    refine r1.mono fun j hj=>?_
    cases hj
    rw [List.getElem?_set_ne (by omega),k3 _ (by omega) (fun e=>by have:=h.o.lt e; omega),k2 _ (by omega) (fun e=>by have:=h.r.lt e; omega)]
  · rw [← eR]
    refine r2.mono fun j hj=>?_
    cases hj
    rw [List.getElem?_set_ne (by omega),k3 _ (by omega) (fun e=>by have:=h.o.lt e; omega)]
  · rw [← eO]
    refine r3.mono fun j hj=>?_
    cases hj
    rw [List.getElem?_set_ne (by omega)]
  · intro e; injection e with e; omega
  · intro e; injection e with e; omega
  · intro e; injection e with e; omega
  · intro j hj e
    injection hj with hj
    injection e with e
    omega
  · intro j hj e
    injection hj with hj
    injection e with e
    omega
  · intro j hj e
    injection hj with hj
    injection e with e
    omega
end
end Go.AM.C.BK
namespace Go.AM.C
def dg:Nat→Nat→List Nat
  | 0,_=>[]
  | k + 1,x=>x % B64 :: dg k (x / B64)
theorem dg_len:∀ k x,(dg k x).length=k
  | 0,_=>rfl
  | k + 1,x=>by rw [dg,List.length_cons,dg_len k]
theorem dg_dig:∀ k x,Dig (dg k x)
  | 0,_=>Dig.nil
  | k + 1,x=>Dig.mk (Nat.mod_lt _ (by decide)) (dg_dig k _)
theorem dg_val:∀ {k x:Nat},x < B64 ^ k→val (dg k x)=x
  | 0,x,h=>by simp at h; subst h; rfl
  | k + 1,x,h=>by
    rw [dg,val,dg_val (k:=k)]
    · exact Nat.mod_add_div x B64
    · rw [Nat.pow_succ] at h
      exact Nat.div_lt_of_lt_mul (by rw [Nat.mul_comm]; exact h)
theorem dg_of:∀ {l:List Nat} {k x:Nat},Dig l→l.length=k→val l=x→l=dg k x
  | [],0,x,_,_,_=>rfl
  | [],k + 1,x,_,h,_=>by simp at h
  | d :: l,0,x,_,h,_=>by simp at h
  | d :: l,k + 1,x,hd,hl,hv=>by
    obtain ⟨h1,h2⟩:=hd.cons
    simp only [val] at hv
    have e1:x % B64=d:=by rw [← hv,Nat.add_mul_mod_self_left,Nat.mod_eq_of_lt h1]
    have e2:x / B64=val l:=by rw [← hv,Nat.add_mul_div_left _ _ (by decide),Nat.div_eq_of_lt h1,Nat.zero_add]
    rw [dg,e1,e2,← dg_of h2 (by simpa using hl) rfl]
theorem dg_getD:∀ {k x i:Nat},i < k→(dg k x).getD i 0=x / B64 ^ i % B64
  | 0,x,i,h=>by omega
  | k + 1,x,0,h=>by simp [dg]
  | k + 1,x,i + 1,h=>by
    rw [dg,List.getD_cons_succ,dg_getD (by omega),Nat.div_div_eq_div_mul,Nat.pow_succ,Nat.mul_comm (B64 ^ i)]
theorem dg_take:∀ {k x i:Nat},i≤k→(dg k x).take i=dg i x
  | k,x,0,h=>by rw [List.take_zero]; rfl
  | 0,x,i + 1,h=>by omega
  | k + 1,x,i + 1,h=>by rw [dg,List.take_succ_cons,dg_take (by omega),dg]
theorem getD_mul_le {l:List Nat} {j:Nat} (h:j < l.length):B64 ^ j * l.getD j 0≤val l:=by
  have h1:=val_take_succ h
  have h2:val l=val (l.take (j + 1)) + B64 ^ (l.take (j + 1)).length * val (l.drop (j + 1)):=by rw [← val_append,List.take_append_drop]
  omega
theorem pow_pos64 (k:Nat):0 < B64 ^ k:=Nat.pow_pos (by decide)
theorem val_top {l:List Nat} {k:Nat} (hl:l.length=k + 1) (hd:Dig l):∃ low,low < B64 ^ k∧val l=low + B64 ^ k * l.getD k 0:=by
  refine ⟨val (l.take k),?_,?_⟩
  · have:=val_lt (hd.take k)
    rwa [List.length_take,Nat.min_eq_left (by omega)] at this
  · have:=val_take_succ (l:=l) (k:=k) (by omega)
    rwa [List.take_of_length_le (by omega)] at this
theorem val_top2 {l:List Nat} {k:Nat} (hl:l.length=k + 2) (hd:Dig l):∃ low,low < B64 ^ k∧val l=low + B64 ^ k * (l.getD (k + 1) 0 * B64 + l.getD k 0):=by
  obtain ⟨low,h1,h2⟩:=val_top (l:=l.take (k + 1)) (k:=k) (by simp; omega) (hd.take _)
  refine ⟨low,h1,?_⟩
  have h3:=val_take_succ (l:=l) (k:=k + 1) (by omega)
  rw [List.take_of_length_le (by omega)] at h3
  have h4:(l.take (k + 1)).getD k 0=l.getD k 0:=by rw [List.getD_eq_getElem?_getD,List.getElem?_take,if_pos (by omega),← List.getD_eq_getElem?_getD]
  rw [h4] at h2
  rw [h3,h2,Nat.pow_succ,Nat.mul_add,Nat.mul_assoc,Nat.mul_comm B64]
  omega
theorem val_top3 {l:List Nat} {k:Nat} (hl:l.length=k + 3) (hd:Dig l):∃ low,low < B64 ^ k∧val l=low + B64 ^ k * ((l.getD (k + 2) 0 * B64 + l.getD (k + 1) 0) * B64 + l.getD k 0):=by
  obtain ⟨low,h1,h2⟩:=val_top2 (l:=l.take (k + 2)) (k:=k) (by simp; omega) (hd.take _)
  refine ⟨low,h1,?_⟩
  have h3:=val_take_succ (l:=l) (k:=k + 2) (by omega)
  rw [List.take_of_length_le (by omega)] at h3
  have g:∀ j,j < k + 2→(l.take (k + 2)).getD j 0=l.getD j 0:=fun j hj=>by rw [List.getD_eq_getElem?_getD,List.getElem?_take,if_pos hj,← List.getD_eq_getElem?_getD]
  rw [g _ (by omega),g _ (by omega)] at h2
  rw [h3,h2]
  generalize l.getD (k + 2) 0=x
  generalize l.getD (k + 1) 0=y
  generalize l.getD k 0=z
  have e:B64 ^ (k + 2) * x=B64 ^ k * (x * B64 * B64):=by
    rw [show k + 2=k + 1 + 1 from rfl,Nat.pow_succ,Nat.pow_succ,Nat.mul_comm x B64,Nat.mul_assoc,Nat.mul_assoc,Nat.mul_comm (B64 * x) B64]
  rw [e,Nat.add_mul,Nat.mul_add,Nat.mul_add,Nat.mul_add]
  omega
def gsF (top next X2 u2:Nat):Nat→Nat
  | 0=>0
  | q + 1=>if (q + 1) * next≤(X2 - (q + 1) * top) * B64 + u2 then q + 1 else if B64≤X2 - q * top then q else gsF top next X2 u2 q
theorem gsF_le (top next X2 u2:Nat):∀ q,gsF top next X2 u2 q≤q
  | 0=>Nat.le_refl _
  | q + 1=>by
    unfold gsF
    split
    · exact Nat.le_refl _
    · split
      · exact Nat.le_succ _
      · exact Nat.le_succ_of_le (gsF_le top next X2 u2 q)
theorem lin1 {low M z1 z3 z4:Nat} (h1:low < M) (h2:z3 + M≤z1):low + z3 < z4 + z1:=by omega
theorem guess_init {top next X2 u2 U V M low lv:Nat} (ht:0 < top) (hU:U=low + M * (X2 * B64 + u2)) (hl:low < M) (hu:u2 < B64) (hV:V=lv + M * (top * B64 + next)):U / V≤X2 / top:=by
  have hM:0 < M:=Nat.lt_of_le_of_lt (Nat.zero_le _) hl
  have hVp:0 < V:=by
    have:0 < M * (top * B64 + next):=Nat.mul_pos hM (Nat.lt_of_lt_of_le (Nat.mul_pos ht (by decide)) (Nat.le_add_right _ _))
    omega
  apply Nat.le_of_lt_succ
  show U / V < X2 / top + 1
  rw [Nat.div_lt_iff_lt_mul hVp]
  have h1:X2 < (X2 / top + 1) * top:=by rw [Nat.mul_comm]; exact Nat.lt_mul_div_succ X2 ht
  generalize X2 / top + 1=Q at h1 ⊢
  have h2:(X2 + 1) * B64≤Q * (top * B64):=by rw [← Nat.mul_assoc]; exact Nat.mul_le_mul_right _ h1
  have h3:M * ((X2 + 1) * B64)≤M * (Q * (top * B64 + next)):=Nat.mul_le_mul_left _ (Nat.le_trans h2 (Nat.mul_le_mul_left _ (Nat.le_add_right _ _)))
  have h4:M * (X2 * B64 + u2 + 1)≤M * ((X2 + 1) * B64):=Nat.mul_le_mul_left _ (by rw [Nat.add_mul,Nat.one_mul]; omega)
  have h5:M * (Q * (top * B64 + next))=Q * (M * (top * B64 + next)):=Nat.mul_left_comm _ _ _
  have h6:Q * V=Q * lv + Q * (M * (top * B64 + next)):=by rw [hV,Nat.mul_add]
  rw [Nat.mul_add,Nat.mul_one] at h4
  rw [h6,hU,← h5]
  exact lin1 hl (Nat.le_trans h4 h3)
theorem guess_less {top next X2 u2 U V M low lv q:Nat} (ht:0 < top) (hU:U=low + M * (X2 * B64 + u2)) (hl:low < M) (hV:V=lv + M * (top * B64 + next)) (hq:q * top≤X2) (h:(X2 - q * top) * B64 + u2 < q * next):U / V < q:=by
  have hM:0 < M:=Nat.lt_of_le_of_lt (Nat.zero_le _) hl
  have hVp:0 < V:=by
    have:0 < M * (top * B64 + next):=Nat.mul_pos hM (Nat.lt_of_lt_of_le (Nat.mul_pos ht (by decide)) (Nat.le_add_right _ _))
    omega
  rw [Nat.div_lt_iff_lt_mul hVp]
  have h1:X2 * B64 + u2 + 1≤q * (top * B64 + next):=by
    rw [Nat.mul_add,← Nat.mul_assoc]
    obtain ⟨r,hr⟩:=Nat.le.dest hq
    rw [← hr,Nat.add_sub_cancel_left] at h
    rw [← hr,Nat.add_mul]
    omega
  have h2:M * (X2 * B64 + u2 + 1)≤M * (q * (top * B64 + next)):=Nat.mul_le_mul_left _ h1
  have h5:M * (q * (top * B64 + next))=q * (M * (top * B64 + next)):=Nat.mul_left_comm _ _ _
  have h6:q * V=q * lv + q * (M * (top * B64 + next)):=by rw [hV,Nat.mul_add]
  rw [Nat.mul_add,Nat.mul_one] at h2
  rw [h6,hU,← h5]
  exact lin1 hl h2
theorem gsF_ge {top next X2 u2 U V M low lv:Nat} (ht:0 < top) (hU:U=low + M * (X2 * B64 + u2)) (hl:low < M) (hV:V=lv + M * (top * B64 + next)):∀ q,q * top≤X2→U / V≤q→U / V≤gsF top next X2 u2 q
  | 0,_,h=>h
  | q + 1,hq,h=>by
    unfold gsF
    split
    · exact h
    · rename_i hn
      have hlt:=guess_less ht hU hl hV hq (by omega)
      have hq':q * top≤X2:=by rw [Nat.add_mul] at hq; omega
      split
      · omega
      · exact gsF_ge ht hU hl hV q hq' (by omega)
theorem tk_step {Bi A q C P c b x d lo cc b' y:Nat} (h:A + q * C=P + Bi * (c + b)) (h1:q * x + c=B64 * cc + lo) (h2:d + lo + b=y + B64 * b'):A + Bi * d + q * (C + Bi * x)=P + Bi * y + Bi * B64 * (cc + b'):=by
  have e1:q * (C + Bi * x)=q * C + Bi * (q * x):=by rw [Nat.mul_add,Nat.mul_left_comm]
  have e2:Bi * (d + q * x + c + b)=Bi * (y + B64 * b' + B64 * cc):=by congr 1; omega
  have e3:Bi * B64 * (cc + b')=Bi * (B64 * cc) + Bi * (B64 * b'):=by rw [Nat.mul_assoc,Nat.mul_add,Nat.mul_add]
  simp only [Nat.mul_add] at e2 e3 h ⊢
  have e4:q * (Bi * x)=Bi * (q * x):=Nat.mul_left_comm _ _ _
  omega
theorem tk_end {Bi A Q P c b d b' y:Nat} (h:A + Q=P + Bi * (c + b)) (h2:d + c + b=y + B64 * b'):A + Bi * d + Q=P + Bi * y + Bi * B64 * b':=by
  have e2:Bi * (d + c + b)=Bi * (y + B64 * b'):=by congr 1
  have e3:Bi * B64 * b'=Bi * (B64 * b'):=Nat.mul_assoc _ _ _
  simp only [Nat.mul_add] at e2 e3 h ⊢
  omega
theorem gv_step {Bi A C P c x d c' y:Nat} (h:A + Bi * c=P + C) (h2:d + B64 * c'=y + x + c):A + Bi * d + Bi * B64 * c'=P + Bi * y + (C + Bi * x):=by
  have e2:Bi * (d + B64 * c')=Bi * (y + x + c):=by congr 1
  have e3:Bi * B64 * c'=Bi * (B64 * c'):=Nat.mul_assoc _ _ _
  simp only [Nat.mul_add] at e2 e3 h ⊢
  omega
structure QI (n P V c vp:Nat) (over:Bool):Prop where
  cb:c < B64
  lt:vp < B64 ^ (n + 1)
  no:over=false→c=P / V∧vp + c * V=P
  yes:over=true→vp + c * V=P + B64 ^ (n + 1)
theorem qi_init {n P V q vp o:Nat} (hV:0 < V) (hq:q < B64) (hge:P / V≤q) (hlt:vp < B64 ^ (n + 1)) (ho:o≤1) (h:vp + q * V=P + B64 ^ (n + 1) * o):QI n P V q vp (decide (o≠0)):=by
  refine ⟨hq,hlt,fun e=>?_,fun e=>?_⟩
  · have ho:o=0:=by simpa using e
    subst ho
    rw [Nat.mul_zero,Nat.add_zero] at h
    refine ⟨Nat.le_antisymm ?_ hge,h⟩
    rw [Nat.le_div_iff_mul_le hV]
    omega
  · have:o≠0:=by simpa using e
    have ho:o=1:=by omega
    subst ho
    rw [Nat.mul_one] at h
    exact h
theorem QI.pos {n P V c vp:Nat} (h:QI n P V c vp true):0 < c:=by
  have:=h.yes rfl
  have:=h.lt
  rcases Nat.eq_zero_or_pos c with rfl | hc
  · omega
  · exact hc
theorem qi_next {n P V c vp vp' o' top:Nat} (h:QI n P V (c + 1) vp true) (hV:0 < V) (hVn:V < B64 ^ n) (hlt:vp' < B64 ^ (n + 1)) (h':vp' + B64 ^ (n + 1) * o'=vp + V) (htop:∃ low,low < B64 ^ n∧vp'=low + B64 ^ n * top) (hP:P < V * B64):QI n P V c vp' (decide (top≠0)):=by
  obtain ⟨low,hl,ht⟩:=htop
  have hy:=h.yes rfl
  have hc:=h.cb
  have h0:=h.lt
  rw [Nat.add_mul,Nat.one_mul] at hy
  have hB:B64 ^ (n + 1)=B64 ^ n * B64:=Nat.pow_succ _ _
  have hpn:=pow_pos64 n
  have ho:o'=0∨o'=1:=by
    rcases Nat.lt_or_ge o' 2 with h2 | h2
    · omega
    · have:B64 ^ (n + 1) * 2≤B64 ^ (n + 1) * o':=Nat.mul_le_mul_left _ h2
      have:B64 ^ n≤B64 ^ (n + 1):=by rw [hB]; exact Nat.le_mul_of_pos_right _ (by decide)
      omega
  rcases ho with rfl | rfl
  · -- too great still
    rw [Nat.mul_zero,Nat.add_zero] at h'
    have hcV:c * V≤(B64 - 1) * (B64 ^ n - 1):=Nat.mul_le_mul (by omega) (by omega)
    have hz:(B64 - 1) * (B64 ^ n - 1) + B64 ^ n≤B64 ^ (n + 1):=by
      obtain ⟨m,hm⟩:∃ m,B64 ^ n=m + 1:=⟨B64 ^ n - 1,by omega⟩
      rw [hB,hm,Nat.add_sub_cancel,Nat.mul_comm (m + 1)]
      have:B64 * (m + 1)=(B64 - 1) * m + m + B64:=by unfold B64; omega
      unfold B64 at *; omega
    have htp:top≠0:=by
      intro e
      subst e
      rw [Nat.mul_zero,Nat.add_zero] at ht
      omega
    rw [decide_eq_true htp]
    exact ⟨by omega,hlt,(fun e=>by cases e),fun _=>by omega⟩
  · rw [Nat.mul_one] at h'
    have hlo:c * V≤P:=by omega
    have hhi:P < (c + 1) * V:=by rw [Nat.add_mul,Nat.one_mul]; omega
    have hcd:c=P / V:=by
      refine Nat.le_antisymm ?_ ?_
      · rw [Nat.le_div_iff_mul_le hV]; exact hlo
      · exact Nat.le_of_lt_succ ((Nat.div_lt_iff_lt_mul hV).2 hhi)
    have htp:top=0:=by
      rcases Nat.eq_zero_or_pos top with e | e
      · exact e
      · have:B64 ^ n * 1≤B64 ^ n * top:=Nat.mul_le_mul_left _ e
        rw [Nat.add_mul,Nat.one_mul] at hhi
        omega
    subst htp
    refine ⟨by omega,hlt,fun _=>⟨hcd,by omega⟩,fun e=>by simp at e⟩
end Go.AM.C
namespace Go.AM.C
open Go.Proofs
noncomputable section
theorem pow64 {s:Nat} (hs:s < 64):B64=2 ^ (64 - s) * 2 ^ s:=by
  rw [← Nat.pow_add,show 64 - s + s=64 by omega]
theorem shl_mod {x s:Nat} (hs:s < 64):x * 2 ^ s % B64=x % 2 ^ (64 - s) * 2 ^ s:=by rw [pow64 hs,Nat.mul_mod_mul_right]
theorem shl_div {x s:Nat} (hs:s < 64):x * 2 ^ s / B64=x / 2 ^ (64 - s):=by rw [pow64 hs,Nat.mul_div_mul_right _ _ (Nat.pow_pos (by decide))]
theorem left_plan {la l:List Nat} {i s:Nat} (hs:s < 64) (hd:Dig la) (hi:i < la.length) (hl:l.length=la.length + 1) (hv:val l=val (la.take i) * 2 ^ s) (hz:∀ j,i < j→l.getD j 0=0) :
    l.getD i 0 < 2 ^ s∧∃ u,la.getD i 0 * 2 ^ s % B64=u * 2 ^ s∧u * 2 ^ s + l.getD i 0 < B64∧val ((l.set i (u * 2 ^ s + l.getD i 0)).set (i + 1) (la.getD i 0 / 2 ^ (64 - s)))=val (la.take (i + 1)) * 2 ^ s:=by
  have hp:0 < 2 ^ s:=Nat.pow_pos (by decide)
  have ho:l.getD i 0 < 2 ^ s:=by
    have h1:=getD_mul_le (l:=l) (j:=i) (by omega)
    have h2:val (la.take i) < B64 ^ i:=by
      have:=val_lt (hd.take i)
      rwa [List.length_take,Nat.min_eq_left (by omega)] at this
    have h3:val (la.take i) * 2 ^ s < B64 ^ i * 2 ^ s:=Nat.mul_lt_mul_of_pos_right h2 hp
    rw [hv] at h1
    exact Nat.lt_of_mul_lt_mul_left (Nat.lt_of_le_of_lt h1 h3)
  refine ⟨ho,la.getD i 0 % 2 ^ (64 - s),shl_mod hs,?_,?_⟩
  · have h1:la.getD i 0 % 2 ^ (64 - s) < 2 ^ (64 - s):=Nat.mod_lt _ (Nat.pow_pos (by decide))
    have h2:(la.getD i 0 % 2 ^ (64 - s) + 1) * 2 ^ s≤2 ^ (64 - s) * 2 ^ s:=Nat.mul_le_mul_right _ h1
    rw [← pow64 hs,Nat.add_mul,Nat.one_mul] at h2
    omega
  · have e1:=val_set l i (la.getD i 0 % 2 ^ (64 - s) * 2 ^ s + l.getD i 0) (by omega)
    have e2:=val_set (l.set i (la.getD i 0 % 2 ^ (64 - s) * 2 ^ s + l.getD i 0)) (i + 1) (la.getD i 0 / 2 ^ (64 - s)) (by rw [List.length_set]; omega)
    have e3:(l.set i (la.getD i 0 % 2 ^ (64 - s) * 2 ^ s + l.getD i 0)).getD (i + 1) 0=0:=by
      rw [List.getD_eq_getElem?_getD,List.getElem?_set_ne (by omega),← List.getD_eq_getElem?_getD]
      exact hz _ (by omega)
    rw [e3,Nat.mul_zero,Nat.add_zero] at e2
    rw [Nat.mul_add] at e1
    have e4:=Nat.mod_add_div (la.getD i 0 * 2 ^ s) B64
    rw [shl_mod hs,shl_div hs] at e4
    have e5:=congrArg (B64 ^ i * ·) e4
    simp only [Nat.mul_add] at e5
    rw [← Nat.mul_assoc (B64 ^ i) B64,← Nat.pow_succ,Nat.succ_eq_add_one] at e5
    rw [val_take_succ hi,Nat.add_mul,e2,← hv,Nat.mul_assoc]
    omega
theorem shl_i {S:Sg} {call:Calling} {d:Bool} {g:Operand→AVal} {H:Heap} {x y:Operand} {t yt:TypeId} {m k:Nat} (hx:g x=uA m) (hy:g y=iA (k:Int)) (hk:k≤64) :
    denG S call d g H (.binOp .shl t x y yt)=some (uA (m * 2 ^ k % B64),H):=by
  simp only [denG,hx,hy]
  show withH H (shiftBin .shl .u64 (m:Int) (k:Int))=_
  unfold shiftBin
  rw [if_neg (by omega)]
  have e1:min (k:Int).toNat IntKind.u64.bits=k:=by show min (k:Int).toNat 64=k; simp; omega
  have e2:wrapI .u64 ((m:Int) * 2 ^ (min (k:Int).toNat IntKind.u64.bits))=((m * 2 ^ k % B64:Nat):Int):=by
    rw [e1,show (2:Int) ^ k=((2 ^ k:Nat):Int) by rw [Int.natCast_pow]; rfl,← Int.natCast_mul,Int.natCast_emod]
    rfl
  show withH H (mkI .u64 (wrapI .u64 ((m:Int) * 2 ^ (min (k:Int).toNat IntKind.u64.bits))))=_
  rw [e2]
  rfl
theorem shr_i {S:Sg} {call:Calling} {d:Bool} {g:Operand→AVal} {H:Heap} {x y:Operand} {t yt:TypeId} {m k:Nat} (hx:g x=uA m) (hy:g y=iA (k:Int)) (hk:k < 64) :
    denG S call d g H (.binOp .shr t x y yt)=some (uA (m / 2 ^ k),H):=by
  simp only [denG,hx,hy]
  show withH H (shiftBin .shr .u64 (m:Int) (k:Int))=_
  unfold shiftBin
  rw [if_neg (by omega)]
  have e1:min (k:Int).toNat IntKind.u64.bits=k:=by show min (k:Int).toNat 64=k; simp; omega
  show withH H (mkI .u64 (Int.fdiv (m:Int) (2 ^ (min (k:Int).toNat IntKind.u64.bits))))=_
  rw [e1,show (2:Int) ^ k=((2 ^ k:Nat):Int) by rw [Int.natCast_pow]; rfl,← Int.ofNat_fdiv]
  rfl
theorem or_add' {u v s:Nat} (hv:v < 2 ^ s) (h:u * 2 ^ s + v < 18446744073709551616):wrapI .u64 ((BitVec.ofInt 64 (v:Int) ||| BitVec.ofInt 64 ((u * 2 ^ s:Nat):Int)).toNat:Int)=((u * 2 ^ s + v:Nat):Int):=by
  rw [BitVec.or_comm]
  exact or_add hv h
theorem half_pow {x s:Nat} (hs:s < 64):x / 2 ^ 1 / 2 ^ (63 - s)=x / 2 ^ (64 - s):=by
  rw [Nat.div_div_eq_div_mul,← Nat.pow_add,show 1 + (63 - s)=64 - s by omega]
set_option maxRecDepth 100000 in
theorem left_has {H:Heap} {va:AVal} {la:List Nat} (hs:∀ X,SlU S0 35 (H ++ [.cells (u64s X) 92]) va la) (hs0:SlU S0 35 H va la) (hl:la.length < 1048576) (hdig:Dig la) {s:Nat} (hsb:s < 64) :
    Has 199 [va,iA (s:Int)] H (.sl H.length 0 (la.length + 1) (some (la.length + 1)) 1) (H ++ [.cells (u64s (dg (la.length + 1) (val la * 2 ^ s))) 92]):=by
  refine does_run s0 (show S0.fn 199=some Tryz.f199 by kernel_rfl) rfl (by kernel_rfl) (Nat.le_of_ble_eq_true rfl) ?_
  refine W.seq (W.region ?_)
  refine WO.op rfl rfl (WO.nil (W.seq (W.region ?_)))
  refine WO.op rfl rfl ?_
  refine WO.op (hs0.lenG rfl rfl rfl) rfl ?_
  refine WO.as (v':=iA ((la.length + 1:Nat):Int)) rfl rfl (int_i64 (by omega) (by omega)) ?_
  refine WO.op (G.make (l:=la.length + 1) (c:=la.length + 1) rfl rfl tU rfl tu rfl (Nat.le_refl _) (by show (la.length + 1) * 8≤_; omega) (by omega)) rfl ?_
  refine WO.op rfl rfl (WO.nil (W.seq (W.seq (W.region ?_))))
  refine WO.heq (H':=H ++ [.cells (u64s (List.replicate (la.length + 1) 0)) 92]) (by simp [u64s]) ?_
  refine WO.op rfl rfl ?_
  refine WO.op ((hs _).lenG rfl rfl rfl) rfl ?_
  refine WO.op rfl rfl (WO.nil (W.block ?_))
  refine W.fits (F':=fr [(0,va),(1,iA (s:Int)),(5,.sl H.length 0 (la.length + 1) (some (la.length + 1)) 1),(12,va),(13,iA (la.length:Int)),(14,iA ((0:Nat):Int))]) (fits_fr ⟨rfl,rfl,rfl,rfl,rfl,rfl,trivial⟩) ?_
  refine W.loopI (α:=Nat×List Nat) (fun x=>x.1≤la.length∧x.2.length=la.length + 1∧Dig x.2∧val x.2=val (la.take x.1) * 2 ^ s∧∀ j,x.1 < j→x.2.getD j 0=0) (fun x=>la.length - x.1)
    (fun x=>fr [(0,va),(1,iA (s:Int)),(5,.sl H.length 0 (la.length + 1) (some (la.length + 1)) 1),(12,va),(13,iA (la.length:Int)),(14,iA (x.1:Int))]) (fun x=>H ++ [.cells (u64s x.2) 92]) ?_ (0,List.replicate (la.length + 1) 0)
    ⟨Nat.zero_le _,by simp,Dig.replicate _ (by decide),?_,?_⟩
  · rintro ⟨i,l⟩ ⟨hi,hll,hdl,hv,hz⟩
    simp only at hi hll hdl hv hz ⊢
    change W _ _ _ _ (fr [(0,va),(1,iA (s:Int)),(5,.sl H.length 0 (la.length + 1) (some (la.length + 1)) 1),(12,va),(13,iA (la.length:Int)),(14,iA (i:Int))]) (H ++ [.cells (u64s l) 92]) _
    refine W.seq (W.region ?_)
    by_cases hlt:i < la.length
    · obtain ⟨ho,u,hy,hub,hvn⟩:=left_plan hsb hdig hlt hll hv hz
      obtain ⟨a1,a2,a3,ha1,ha2,ha3⟩:=(hs l).at_ i hlt
      have hx:=hdig.getD i
      have hz2:la.getD i 0 / 2 ^ (64 - s) < B64:=Nat.lt_of_le_of_lt (Nat.div_le_self _ _) hx
      generalize la.getD i 0=x at *
      have hol:(u64s l)[0 + (i:Int).toNat * 1]?=some (uA (l.getD i 0)):=u64s_at (by omega)
      have hst:=u64s_set l i (u * 2 ^ s + l.getD i 0)
      generalize l.getD i 0=o at *
      refine WO.as (v':=.bool true) rfl rfl (bdT (by omega)) (WO.nil (W.seq (W.cond (b:=true) rfl (fun _=>W.skip ?_) (fun h=>by cases h))))
      refine W.seq (W.block (W.seq (W.region ?_)))
      refine WO.op rfl rfl ?_
      refine WO.op (SlU.idxG rfl rfl ha1) rfl ?_
      refine WO.op (SlU.loadG rfl tu rfl ha2 ha3) rfl ?_
      refine WO.op rfl rfl ?_
      refine WO.op rfl rfl (WO.nil (W.seq (W.draw0 rfl (by kernel_rfl) ?_)))
      refine WT.op rfl rfl rfl ?_
      refine WT.op rfl rfl rfl ?_
      refine WT.op (G.idx_sl rfl rfl tU rfl tu rfl (by omega) (by omega)) rfl rfl ?_
      refine WT.op (G.load_ptr rfl tu rfl (app_at rfl) hol) rfl rfl ?_
      refine WT.op rfl rfl rfl ?_
      refine WT.op rfl rfl rfl ?_
      refine WT.as (v':=uA (u * 2 ^ s)) (shl_i (m:=x) (k:=s) rfl rfl (by omega)) rfl rfl (by rw [hy]) ?_
      refine WT.as (v':=uA (u * 2 ^ s + o)) rfl rfl rfl (int_eq (or_add' ho hub)) ?_
      refine WT.op (G.idx_sl rfl rfl tU rfl tu rfl (by omega) (by omega)) rfl rfl ?_
      refine WT.op (G.store_u64 rfl rfl tu rfl (app_at rfl) (by omega)) rfl rfl (WT.nil (W.region ?_))
      refine WO.heq (H':=H ++ [.cells (u64s (l.set i (u * 2 ^ s + o))) 92]) (app_set rfl) ?_
      refine WO.op rfl rfl ?_
      refine WO.op rfl rfl ?_
      refine WO.as (v':=iA ((i + 1:Nat):Int)) rfl rfl (int_i64 (by omega) (by omega)) ?_
      refine WO.op rfl rfl ?_
      refine WO.op (shr_u (m:=x) (k:=1) rfl rfl (by decide)) rfl ?_
      refine WO.op rfl rfl ?_
      refine WO.as (v':=iA ((63 - s:Nat):Int)) rfl rfl (int_i64 (by omega) (by omega)) ?_
      refine WO.as (v':=uA (x / 2 ^ (64 - s))) (shr_i rfl rfl (by omega)) rfl (by rw [half_pow hsb]) ?_
      refine WO.op (G.idx_sl rfl rfl tU rfl tu rfl (by omega) (by omega)) rfl ?_
      refine WO.op (G.store_u64 rfl rfl tu rfl (app_at rfl) (by rw [List.length_set]; omega)) rfl (WO.nil (W.region ?_))
      refine WO.as (v':=iA ((i + 1:Nat):Int)) rfl rfl (int_i64 (by omega) (by omega)) ?_
      refine WO.op rfl rfl (WO.nil ⟨(i + 1,(l.set i (u * 2 ^ s + o)).set (i + 1) (x / 2 ^ (64 - s))),⟨by simp only; omega,by simpa using hll,(hdl.set _ hub).set _ hz2,hvn,?_⟩,by simp only; omega,fits_fr ⟨rfl,rfl,rfl,rfl,rfl,rfl,trivial⟩,app_set rfl⟩)
      intro j hj
      simp only at hj ⊢
      rw [List.getD_eq_getElem?_getD,List.getElem?_set_ne (by omega),List.getElem?_set_ne (by omega),← List.getD_eq_getElem?_getD]
      exact hz j (by omega)
    · have hie:i=la.length:=by omega
      subst hie
      rw [List.take_length] at hv
      refine WO.as (v':=.bool false) rfl rfl (bdF (by omega)) (WO.nil (W.seq (W.cond (b:=false) rfl (fun h=>by cases h) (fun _=>W.exit ?_))))
      refine W.seq (W.region ?_)
      refine WO.op rfl rfl ?_
      refine WO.op rfl rfl (WO.nil (W.ret ⟨trivial,_,rfl,Wk.refl _,?_⟩))
      rw [dg_of hdl hll hv]
  · simp only [List.take_zero,val,Nat.zero_mul]
    exact val_zeros _
  · intro j _
    simp only
    rw [List.getD_eq_getElem?_getD,List.getElem?_replicate]
    split <;> rfl
end
end Go.AM.C
namespace Go.AM.C
open Go.Proofs
noncomputable section
def div64R (args:List AVal) (H:Heap) (v:AVal) (H':Heap):Prop:=∃ hi lo y:Nat,(hi < y∧lo < 18446744073709551616∧y < 18446744073709551616)∧args=[uA hi,uA lo,uA y]∧v=.tup [uA ((hi * 18446744073709551616 + lo) / y),uA ((hi * 18446744073709551616 + lo) % y)]∧H'=H
theorem div64R_has:∀ args H v H',div64R args H v H'→Has 197 args H v H':=by
  rintro _ H _ _ ⟨hi,lo,y,⟨h1,h2,h3⟩,rfl,rfl,rfl⟩
  exact DV.div64_has hi lo y h1 h2 h3 _
theorem div64R_fun:∀ args H v H1 u H2,div64R args H v H1→div64R args H u H2→v=u∧H1=H2:=by
  rintro _ H _ _ _ _ ⟨hi,lo,y,_,rfl,rfl,rfl⟩ ⟨hi',lo',y',_,h,rfl,rfl⟩
  simp only [List.cons.injEq,AVal.int.injEq,true_and,and_true,Int.natCast_inj] at h
  obtain ⟨rfl,rfl,rfl⟩:=h
  exact ⟨rfl,rfl⟩
abbrev div64E:Ent:=⟨197,relX div64R,true,relX_quiet fun _ _ _ _ ⟨_,_,_,_,_,_,h⟩=>h⟩
abbrev SG:Sg:=mk [div64E]
theorem sG:Sound Tryz.prog SG:=mk_sound ⟨relX_ok div64R_has _ rfl rfl,trivial⟩
theorem div64G {hi lo y:Nat} (h1:hi < y) (h2:lo < 18446744073709551616) (h3:y < 18446744073709551616) (H:Heap):callS SG 197 [uA hi,uA lo,uA y] H=some (.tup [uA ((hi * 18446744073709551616 + lo) / y),uA ((hi * 18446744073709551616 + lo) % y)],H) :=
  (show callS SG 197 [uA hi,uA lo,uA y] H=relX div64R [uA hi,uA lo,uA y] H from rfl).trans (relX_eq div64R_fun ⟨hi,lo,y,⟨h1,h2,h3⟩,rfl,rfl,rfl⟩)
theorem gu:SG.ty 92=some ti92:=rfl
theorem slu_toG {H:Heap} {v:AVal} {l:List Nat} (h:SlU S0 35 H v l):SlU SG 35 H v l:=⟨h.len,h.at_⟩
theorem stop_iff {q next r u2:Nat} (hu:u2 < B64):(q * next / B64 < r∨q * next / B64=r∧q * next % B64≤u2)↔q * next≤r * B64 + u2:=by
  have h1:=Nat.mod_add_div (q * next) B64
  have h2:q * next % B64 < B64:=Nat.mod_lt _ (by decide)
  generalize q * next / B64=hi at *
  generalize q * next % B64=lo at *
  generalize q * next=p at *
  unfold B64 at *
  omega
theorem gsF_stop {top next X2 u2 q:Nat} (h:q * next≤(X2 - q * top) * B64 + u2):gsF top next X2 u2 q=q:=by
  cases q with
  | zero=>rfl
  | succ q=>unfold gsF; rw [if_pos h]
theorem rest_next {X2 q top:Nat} (h:(q + 1) * top≤X2):q * top≤X2∧X2 - (q + 1) * top + top=X2 - q * top:=by
  rw [Nat.add_mul,Nat.one_mul] at *
  omega
set_option maxRecDepth 100000 in
theorem guess_low {H:Heap} {vu vv:AVal} {lu lv:List Nat} (hu:SlU SG 35 H vu lu) (hv:SlU SG 35 H vv lv) {n:Nat} (hn:lv.length=n + 2) (hul:lu.length=n + 3) (hb:n < 2097152) {top next un u1 u2 X2 q0 Q:Nat}
    (htb:top < B64) (hnb:next < B64) (hub2:u2 < B64) (hc:¬ top≤un)
    (et:lv.getD (n + 1) 0=top) (en:lv.getD n 0=next) (eun:lu.getD (n + 2) 0=un) (eu1:lu.getD (n + 1) 0=u1) (eu2:lu.getD n 0=u2)
    (hdv0:∀ H,callS SG 197 [uA un,uA u1,uA top] H=some (.tup [uA q0,uA (X2 - q0 * top)],H)) (hq0:q0 < B64) (hm0:q0 * top≤X2) (hr0:X2 - q0 * top < B64) (hQ:gsF top next X2 u2 q0=Q) :
    Has 200 [vu,vv] H (uA Q) H:=by
  have hB:B64=18446744073709551616:=rfl
  obtain ⟨b1,b2,b3,hb1,hb2,hb3⟩:=hv.at_ (n + 1) (by omega)
  obtain ⟨c1,c2,c3,hc1,hc2,hc3⟩:=hv.at_ n (by omega)
  obtain ⟨d1,d2,d3,hd1,hd2,hd3⟩:=hu.at_ (n + 2) (by omega)
  obtain ⟨e1,e2,e3,he1,he2,he3⟩:=hu.at_ (n + 1) (by omega)
  obtain ⟨g1,g2,g3,hg1,hg2,hg3⟩:=hu.at_ n (by omega)
  rw [et] at hb3
  rw [en] at hc3
  rw [eun] at hd3
  rw [eu1] at he3
  rw [eu2] at hg3
  refine Has.of (l:=[div64E]) ?_
  refine does_run sG (show SG.fn 200=some Tryz.f200 by kernel_rfl) rfl (by kernel_rfl) (Nat.le_of_ble_eq_true rfl) ?_
  refine W.seq (W.region ?_)
  refine WO.op rfl rfl (WO.nil (W.seq (W.draw0 rfl (by kernel_rfl) ?_)))
  refine WT.op rfl rfl rfl ?_
  refine WT.op rfl rfl rfl ?_
  refine WT.op (hv.lenG rfl rfl rfl) rfl rfl ?_
  refine WT.as (v':=iA ((n + 1:Nat):Int)) rfl rfl rfl (int_i64 (by omega) (by omega)) ?_
  refine WT.op (SlU.idxG rfl rfl hb1) rfl rfl ?_
  refine WT.op (SlU.loadG rfl gu rfl hb2 hb3) rfl rfl ?_
  refine WT.op rfl rfl rfl ?_
  refine WT.op rfl rfl rfl ?_
  refine WT.op (hv.lenG rfl rfl rfl) rfl rfl ?_
  refine WT.as (v':=iA (n:Int)) rfl rfl rfl (int_i64 (by omega) (by omega)) ?_
  refine WT.op (SlU.idxG rfl rfl hc1) rfl rfl ?_
  refine WT.op (SlU.loadG rfl gu rfl hc2 hc3) rfl rfl ?_
  refine WT.op rfl rfl rfl ?_
  refine WT.op rfl rfl rfl (WT.nil (W.seq (W.region ?_)))
  refine WO.op rfl rfl ?_
  refine WO.op (hu.lenG rfl rfl rfl) rfl ?_
  refine WO.as (v':=iA ((n + 2:Nat):Int)) rfl rfl (int_i64 (by omega) (by omega)) ?_
  refine WO.op rfl rfl (WO.nil (W.seq (W.seq (W.region ?_))))
  refine WO.op rfl rfl ?_
  refine WO.op rfl rfl ?_
  refine WO.op (SlU.idxG rfl rfl hd1) rfl ?_
  refine WO.op (SlU.loadG rfl gu rfl hd2 hd3) rfl ?_
  refine WO.op rfl rfl ?_
  refine WO.as (v':=.bool false) rfl rfl (bdF (by omega)) (WO.nil (W.cond (b:=false) rfl (fun h=>by cases h) (fun _=>W.skip ?_)))
  refine W.seq (W.draw0 rfl (by kernel_rfl) ?_)
  refine WT.op rfl rfl rfl ?_
  refine WT.op rfl rfl rfl ?_
  refine WT.op (SlU.idxG rfl rfl hd1) rfl rfl ?_
  refine WT.op (SlU.loadG rfl gu rfl hd2 hd3) rfl rfl ?_
  refine WT.op rfl rfl rfl ?_
  refine WT.op rfl rfl rfl ?_
  refine WT.as (v':=iA ((n + 1:Nat):Int)) rfl rfl rfl (int_i64 (by omega) (by omega)) ?_
  refine WT.op (SlU.idxG rfl rfl he1) rfl rfl ?_
  refine WT.op (SlU.loadG rfl gu rfl he2 he3) rfl rfl ?_
  refine WT.op rfl rfl rfl ?_
  refine WT.op (hdv0 _) rfl rfl ?_
  iterate 4 refine WT.op rfl rfl rfl ?_
  refine WT.op rfl rfl rfl (WT.nil (W.block ?_))
  refine W.fits (F':=fr [(0,vu),(5,uA top),(6,uA next),(7,iA ((n + 2:Nat):Int)),(8,uA q0),(9,uA (X2 - q0 * top))]) (fits_fr ⟨rfl,rfl,rfl,rfl,rfl,rfl,trivial⟩) ?_
  refine W.loopI (fun q:Nat=>q < B64∧q * top≤X2∧X2 - q * top < B64∧gsF top next X2 u2 q=Q) (fun q=>q)
    (fun q=>fr [(0,vu),(5,uA top),(6,uA next),(7,iA ((n + 2:Nat):Int)),(8,uA q),(9,uA (X2 - q * top))]) (fun _=>H) ?_ q0 ⟨hq0,hm0,hr0,hQ⟩
  rintro q ⟨hqb,hqt,hrb,hgs⟩
  have hmul:=Has.at (l:=[div64E]) (mul64_has q next hqb hnb H)
  have hst:=stop_iff (q:=q) (next:=next) (r:=X2 - q * top) hub2
  have hstp:=fun h=>gsF_stop (top:=top) (next:=next) (X2:=X2) (u2:=u2) (q:=q) h
  have hhi:q * next / B64 < B64:=Nat.div_lt_of_lt_mul (Nat.mul_lt_mul'' hqb hnb)
  have hlo:q * next % B64 < B64:=Nat.mod_lt _ (by decide)
  have hq1:q * next≤(X2 - q * top) * B64 + u2∨0 < q:=by
    rcases Nat.eq_zero_or_pos q with rfl | h
    · exact .inl (by rw [Nat.zero_mul]; exact Nat.zero_le _)
    · exact .inr h
  generalize hP:(q * next≤(X2 - q * top) * B64 + u2)=SP at *
  generalize q * next / B64=hi at *
  generalize q * next % B64=lo at *
  generalize hr:X2 - q * top=r at *
  refine W.block (W.seq (W.region ?_))
  refine WO.op rfl rfl ?_
  refine WO.op rfl rfl ?_
  refine WO.call rfl hmul rfl ?_
  iterate 4 refine WO.op rfl rfl ?_
  refine WO.op rfl rfl (WO.nil ?_)
  refine W.seq ?_
  refine W.mid (H1:=H) [(0,vu),(5,uA top),(6,uA next),(7,iA ((n + 2:Nat):Int)),(8,uA q),(9,uA r),(70,.bool (decide (hi < r∨hi=r∧lo≤u2)))] ?_ ?_
  · refine W.region ?_
    refine WO.op rfl rfl ?_
    refine WO.op rfl rfl ?_
    by_cases h1:hi < r
    · refine WO.as (v':=.bool true) rfl rfl (bdT (by omega)) ?_
      refine WO.op rfl rfl ?_
      iterate 12 refine WO.skip rfl ?_
      refine WO.as (v':=.bool true) rfl rfl rfl ?_
      refine WO.nil ⟨rfl,⟨rfl,rfl,rfl,rfl,rfl,rfl,(bdT (.inl h1)).symm,trivial⟩,rfl⟩
    · refine WO.as (v':=.bool false) rfl rfl (bdF (by omega)) ?_
      iterate 3 refine WO.op rfl rfl ?_
      by_cases h2:hi=r
      · refine WO.as (v':=.bool true) rfl rfl (bdT (by omega)) ?_
        iterate 4 refine WO.op rfl rfl ?_
        refine WO.as (v':=iA (n:Int)) rfl rfl (int_i64 (by omega) (by omega)) ?_
        refine WO.op (SlU.idxG rfl rfl hg1) rfl ?_
        refine WO.op (SlU.loadG rfl gu rfl hg2 hg3) rfl ?_
        refine WO.as (v':=.bool (decide (lo≤u2))) rfl rfl (bdE (by omega)) ?_
        refine WO.op rfl rfl ?_
        refine WO.op rfl rfl ?_
        refine WO.nil ⟨rfl,⟨rfl,rfl,rfl,rfl,rfl,rfl,bdE (by omega),trivial⟩,rfl⟩
      · refine WO.as (v':=.bool false) rfl rfl (bdF (by omega)) ?_
        refine WO.op rfl rfl ?_
        iterate 7 refine WO.skip rfl ?_
        refine WO.op rfl rfl ?_
        refine WO.op rfl rfl ?_
        refine WO.nil ⟨rfl,⟨rfl,rfl,rfl,rfl,rfl,rfl,(bdF (by omega)).symm,trivial⟩,rfl⟩
  refine W.cond rfl (fun hb=>?_) (fun hb=>?_)
  · have hb:=hst.1 (of_decide_eq_true hb)
    have hQq:=hgs.symm.trans (hstp hb)
    subst hQq
    refine W.seq (W.region ?_)
    refine WO.op rfl rfl ?_
    exact WO.op rfl rfl (WO.nil (W.ret ⟨trivial,_,rfl,Wk.refl _,rfl⟩))
  · have hb:¬ SP:=fun h=>of_decide_eq_false hb (hst.2 h)
    have hq0':0 < q:=hq1.resolve_left hb
    obtain ⟨p,rfl⟩:∃ p,q=p + 1:=⟨q - 1,by omega⟩
    obtain ⟨hpt,hpr⟩:=rest_next hqt
    rw [hr] at hpr
    have hg2':gsF top next X2 u2 (p + 1)=if B64≤X2 - p * top then p else gsF top next X2 u2 p:=by
      conv=>lhs; unfold gsF
      rw [hr,if_neg (by rw [hP]; exact hb)]
    have hadd:=Has.at (l:=[div64E]) (add64_has r top 0 (by omega) H)
    refine W.skip (W.seq (W.region ?_))
    refine WO.op rfl rfl ?_
    refine WO.as (v':=uA p) rfl rfl (int_u64 (by omega) (by omega)) ?_
    refine WO.op rfl rfl (WO.nil (W.seq (W.region ?_)))
    refine WO.op rfl rfl (WO.nil (W.seq (W.region ?_)))
    refine WO.op rfl rfl ?_
    refine WO.op rfl rfl ?_
    refine WO.call rfl hadd rfl ?_
    iterate 4 refine WO.op rfl rfl ?_
    refine WO.op rfl rfl (WO.nil (W.seq (W.region ?_)))
    refine WO.op rfl rfl ?_
    by_cases hov:B64≤X2 - p * top
    · rw [if_pos hov] at hg2'
      have hQp:=hgs.symm.trans hg2'
      subst hQp
      have hdv1:(r + top + 0) / B64≠0:=by
        have:1≤(r + top + 0) / B64:=(Nat.le_div_iff_mul_le (by decide)).2 (by omega)
        omega
      refine WO.as (v':=.bool true) rfl rfl (bnF (by omega)) (WO.nil (W.cond (b:=true) rfl (fun _=>?_) (fun h=>by cases h)))
      refine W.seq (W.region ?_)
      refine WO.op rfl rfl ?_
      exact WO.op rfl rfl (WO.nil (W.ret ⟨trivial,_,rfl,Wk.refl _,rfl⟩))
    · rw [if_neg hov] at hg2'
      have hdv1:(r + top + 0) / B64=0:=Nat.div_eq_of_lt (by omega)
      have hmd1:(r + top + 0) % B64=X2 - p * top:=by rw [Nat.mod_eq_of_lt (by omega),Nat.add_zero,hpr]
      refine WO.as (v':=.bool false) rfl rfl (bnT (by rw [hdv1]; rfl)) (WO.nil (W.cond (b:=false) rfl (fun h=>by cases h) (fun _=>W.skip ?_)))
      refine ⟨p,⟨by omega,hpt,by omega,hg2'.symm.trans hgs⟩,by omega,fits_fr ⟨rfl,rfl,rfl,rfl,rfl,?_,trivial⟩,rfl⟩
      show uA ((r + top + 0) % B64)=_
      rw [hmd1]
set_option maxRecDepth 100000 in
theorem guess_has {H:Heap} {vu vv:AVal} {lu lv:List Nat} (hu0:SlU S0 35 H vu lu) (hv0:SlU S0 35 H vv lv) {n:Nat} (hn:lv.length=n + 2) (hul:lu.length=n + 3) (hdu:Dig lu) (hdv:Dig lv) (hb:n < 2097152) (htop:0 < lv.getD (n + 1) 0) (hlt:val lu < val lv * B64) :
    ∃ q,val lu / val lv≤q∧q < B64∧Has 200 [vu,vv] H (uA q) H:=by
  have hB:B64=18446744073709551616:=rfl
  have hu:=slu_toG hu0
  have hv:=slu_toG hv0
  obtain ⟨low,hlow,hU⟩:=val_top3 (l:=lu) (k:=n) hul hdu
  obtain ⟨lov,_,hV⟩:=val_top2 (l:=lv) (k:=n) hn hdv
  have hVp:0 < val lv:=by
    have:0 < B64 ^ n * (lv.getD (n + 1) 0 * B64 + lv.getD n 0):=Nat.mul_pos (pow_pos64 n) (Nat.lt_of_lt_of_le (Nat.mul_pos htop (by decide)) (Nat.le_add_right _ _))
    omega
  obtain ⟨b1,b2,b3,hb1,hb2,hb3⟩:=hv.at_ (n + 1) (by omega)
  obtain ⟨c1,c2,c3,hc1,hc2,hc3⟩:=hv.at_ n (by omega)
  obtain ⟨d1,d2,d3,hd1,hd2,hd3⟩:=hu.at_ (n + 2) (by omega)
  obtain ⟨e1,e2,e3,he1,he2,he3⟩:=hu.at_ (n + 1) (by omega)
  obtain ⟨g1,g2,g3,hg1,hg2,hg3⟩:=hu.at_ n (by omega)
  have htb:=hdv.getD (n + 1)
  have hnb:=hdv.getD n
  have hub:=hdu.getD (n + 2)
  have hub1:=hdu.getD (n + 1)
  have hub2:=hdu.getD n
  generalize et:lv.getD (n + 1) 0=top at *
  generalize en:lv.getD n 0=next at *
  generalize eun:lu.getD (n + 2) 0=un at *
  generalize eu1:lu.getD (n + 1) 0=u1 at *
  generalize eu2:lu.getD n 0=u2 at *
  by_cases hc:top≤un
  · refine ⟨B64 - 1,?_,by decide,Has.of (l:=[div64E]) ?_⟩
    · have:val lu / val lv < B64:=(Nat.div_lt_iff_lt_mul hVp).2 (by rw [Nat.mul_comm]; exact hlt)
      omega
    refine does_run sG (show SG.fn 200=some Tryz.f200 by kernel_rfl) rfl (by kernel_rfl) (Nat.le_of_ble_eq_true rfl) ?_
    refine W.seq (W.region ?_)
    refine WO.op rfl rfl (WO.nil (W.seq (W.draw0 rfl (by kernel_rfl) ?_)))
    refine WT.op rfl rfl rfl ?_
    refine WT.op rfl rfl rfl ?_
    refine WT.op (hv.lenG rfl rfl rfl) rfl rfl ?_
    refine WT.as (v':=iA ((n + 1:Nat):Int)) rfl rfl rfl (int_i64 (by omega) (by omega)) ?_
    refine WT.op (SlU.idxG rfl rfl hb1) rfl rfl ?_
    refine WT.op (SlU.loadG rfl gu rfl hb2 hb3) rfl rfl ?_
    refine WT.op rfl rfl rfl ?_
    refine WT.op rfl rfl rfl ?_
    refine WT.op (hv.lenG rfl rfl rfl) rfl rfl ?_
    refine WT.as (v':=iA (n:Int)) rfl rfl rfl (int_i64 (by omega) (by omega)) ?_
    refine WT.op (SlU.idxG rfl rfl hc1) rfl rfl ?_
    refine WT.op (SlU.loadG rfl gu rfl hc2 hc3) rfl rfl ?_
    refine WT.op rfl rfl rfl ?_
    refine WT.op rfl rfl rfl (WT.nil (W.seq (W.region ?_)))
    refine WO.op rfl rfl ?_
    refine WO.op (hu.lenG rfl rfl rfl) rfl ?_
    refine WO.as (v':=iA ((n + 2:Nat):Int)) rfl rfl (int_i64 (by omega) (by omega)) ?_
    refine WO.op rfl rfl (WO.nil (W.seq (W.seq (W.region ?_))))
    refine WO.op rfl rfl ?_
    refine WO.op rfl rfl ?_
    refine WO.op (SlU.idxG rfl rfl hd1) rfl ?_
    refine WO.op (SlU.loadG rfl gu rfl hd2 hd3) rfl ?_
    refine WO.op rfl rfl ?_
    refine WO.as (v':=.bool true) rfl rfl (bdT (by omega)) (WO.nil (W.cond (b:=true) rfl (fun _=>?_) (fun h=>by cases h)))
    refine W.seq (W.region ?_)
    exact WO.op rfl rfl (WO.nil (W.ret ⟨trivial,_,rfl,Wk.refl _,rfl⟩))
  · have hX:un * 18446744073709551616 + u1 < top * 18446744073709551616:=by omega
    have hq0:(un * 18446744073709551616 + u1) / top < B64:=(Nat.div_lt_iff_lt_mul htop).2 (by have:B64 * top=top * 18446744073709551616:=Nat.mul_comm _ _; omega)
    have hm0:=Nat.div_mul_le_self (un * 18446744073709551616 + u1) top
    have hr0:(un * 18446744073709551616 + u1) % top < top:=Nat.mod_lt _ htop
    have hi0:=guess_init (M:=B64 ^ n) (next:=next) htop hU hlow hub2 hV
    have hdv0:=fun H=>div64G (hi:=un) (lo:=u1) (y:=top) (by omega) hub1 htb H
    have hmod:(un * 18446744073709551616 + u1) % top=(un * 18446744073709551616 + u1) - (un * 18446744073709551616 + u1) / top * top:=by
      have:=Nat.mod_add_div (un * 18446744073709551616 + u1) top
      rw [Nat.mul_comm top] at this
      omega
    rw [hmod] at hdv0 hr0
    exact ⟨gsF top next (un * 18446744073709551616 + u1) u2 ((un * 18446744073709551616 + u1) / top),gsF_ge htop hU hlow hV _ hm0 hi0,Nat.lt_of_le_of_lt (gsF_le _ _ _ _ _) hq0,guess_low hu hv hn hul hb htb hnb hub2 hc et en eun eu1 eu2 hdv0 hq0 hm0 (Nat.lt_trans hr0 htb) rfl⟩
end
end Go.AM.C
namespace Go.AM.C
open Go.Proofs
noncomputable section
def mid3 (pre p post:List Nat):List Nat:=pre ++ (p ++ post)
theorem mid3_len (pre p post:List Nat):(mid3 pre p post).length=pre.length + p.length + post.length:=by unfold mid3; simp; omega
theorem mid3_at {pre p post:List Nat} {i:Nat} (h:i < p.length):(u64s (mid3 pre p post))[pre.length + (i:Int).toNat * 1]?=some (uA (p.getD i 0)):=by
  rw [show pre.length + (i:Int).toNat * 1=pre.length + i by simp]
  refine u64s_get ?_
  unfold mid3
  rw [List.getElem?_append_right (by omega),Nat.add_sub_cancel_left,List.getElem?_append_left h]
  exact getD_some h
theorem mid3_set {pre p post:List Nat} {i x:Nat} (h:i < p.length):(u64s (mid3 pre p post)).set (pre.length + (i:Int).toNat * 1) (uA x)=u64s (mid3 pre (p.set i x) post):=by
  rw [show pre.length + (i:Int).toNat * 1=pre.length + i by simp,u64s_set]
  congr 1
  unfold mid3
  rw [List.set_append_right _ _ (by omega),Nat.add_sub_cancel_left,List.set_append_left _ _ h]
theorem store_mid {S:Sg} {call:Calling} {d:Bool} {g:Operand→AVal} {H:Heap} {a y:Operand} {t:TypeId} {ti:TI} {id i x:Nat} {pre p post:List Nat} {ty:TypeId} (hx:g a=.ptr id (pre.length + (i:Int).toNat * 1)) (hy:g y=uA x) (ht:S.ty t=some ti) (hs:ti.size=1) (hi:H[id]?=some (.cells (u64s (mid3 pre p post)) ty)) (ho:i < p.length) :
    denG S call d g H (.store t a y)=some (undefA,H.set id (.cells (u64s (mid3 pre (p.set i x) post)) ty)):=by
  rw [← mid3_set ho]
  refine G.store_ptr hx hy rfl ht hs hi ?_
  rw [u64s_len,mid3_len]
  simp
  omega
theorem slu_partG {S:Sg} {t e:TypeId} {ti te:TI} (ht:S.ty t=some ti) (hd:ti.desc=.slice e) (he:S.ty e=some te) (hs:te.size=1) {H:Heap} {id:Nat} {cap:Option Nat} {ty:TypeId} {pre p post:List Nat} (hH:H[id]?=some (.cells (u64s (mid3 pre p post)) ty)):SlU S t H (.sl id pre.length p.length cap 1) p:=by
  obtain ⟨d1,d2,d3,d4,d5,d6,d7,d8⟩:=ti
  simp only at hd
  subst hd
  refine ⟨by simp only [denLen,ht],fun j hj=>⟨.ptr id (pre.length + (j:Int).toNat * 1),u64s (mid3 pre p post),_,?_,?_,mid3_at hj⟩⟩
  · simp only [elemAddr,ht,he]
    rw [if_pos ⟨hs,by omega,by omega⟩,fNat_eq]
  · simp only [rowAt,hH]
theorem slu_part {H:Heap} {id k:Nat} {cap:Option Nat} {ty:TypeId} {pre p post:List Nat} (hH:H[id]?=some (.cells (u64s (mid3 pre p post)) ty)) (hk:p.length=k):SlU S0 35 H (.sl id pre.length k cap 1) p:=by
  subst hk
  exact slu_partG tU rfl tu rfl hH
theorem sub64_ex (x y b:Nat) (hx:x < B64) (hy:y < B64) (hb:b≤1):∃ d b':Nat,(∀ H,Has 114 [uA x,uA y,uA b] H (.tup [uA d,uA b']) H)∧d < B64∧b'≤1∧d + y + b=x + B64 * b':=by
  refine ⟨_,_,fun H=>sub64_has x y b hb H,Nat.mod_lt _ (show 0 < B64 by decide),?_,?_⟩
  · split <;> omega
  · by_cases h:x < y + b
    · rw [if_pos h,Nat.mod_eq_of_lt (by unfold B64 at *; omega)]
      unfold B64 at *; omega
    · rw [if_neg h,show x + B64 - y - b=(x - y - b) + B64 by unfold B64 at *; omega,Nat.add_mod_right,Nat.mod_eq_of_lt (by unfold B64 at *; omega)]
      omega
theorem carry_lt {q x c hi lo c1 lo1:Nat} (hq:q < B64) (hx:x < B64) (hc:c < B64) (h1:lo + B64 * hi=q * x) (h2:lo1 + B64 * c1=lo + c + 0):hi + c1 < B64∧q * x + c=B64 * (hi + c1) + lo1:=by
  have e:q * x + c=B64 * (hi + c1) + lo1:=by rw [Nat.mul_add]; omega
  refine ⟨?_,e⟩
  have hp:q * x≤(B64 - 1) * (B64 - 1):=Nat.mul_le_mul (by omega) (by omega)
  have hk:(B64 - 1) * (B64 - 1) + (B64 - 1) < B64 * B64:=by decide
  have:B64 * (hi + c1) < B64 * B64:=by omega
  exact Nat.lt_of_mul_lt_mul_left this
theorem tk_uniq {k vP Q vp o b':Nat} {P:List Nat} (hP:Dig P) (hl:P.length=k) (hv:val P + Q=vp + B64 ^ k * b') (hb:b'≤1) (hvp:vp < B64 ^ k) (ho:o=if vp < Q then 1 else 0):b'=o∧P=dg k (vp + B64 ^ k * o - Q):=by
  have hlt:=val_lt hP
  rw [hl] at hlt
  have hbo:b'=o:=by
    rcases (show b'=0∨b'=1 by omega) with rfl | rfl
    · rw [ho,if_neg (by omega)]
    · rw [ho,if_pos (by omega)]
  refine ⟨hbo,dg_of hP hl ?_⟩
  rw [← hbo]
  omega
abbrev tkF (vu vv:AVal) (q c b n i:Nat):List (Nat×AVal):=[(0,vu),(1,vv),(2,uA q),(7,uA c),(8,uA b),(14,vv),(15,iA (n:Int)),(16,iA (i:Int))]
structure TkI (p lv:List Nat) (n q:Nat) (x:Nat×List Nat×Nat×Nat):Prop where
  i:x.1≤n
  len:x.2.1.length=n + 1
  dig:Dig x.2.1
  c:x.2.2.1 < B64
  b:x.2.2.2≤1
  same:∀ j,x.1≤j→x.2.1.getD j 0=p.getD j 0
  val:val (x.2.1.take x.1) + q * val (lv.take x.1)=val (p.take x.1) + B64 ^ x.1 * (x.2.2.1 + x.2.2.2)
set_option maxRecDepth 100000 in
theorem takes_has {H:Heap} {id:Nat} {ty:TypeId} {pre p post:List Nat} {n:Nat} {cap:Option Nat} {vv:AVal} {lv:List Nat} {q:Nat} (hH:H[id]?=some (.cells (u64s (mid3 pre p post)) ty)) (hp:p.length=n + 1) (hdp:Dig p)
    (hv:∀ l,SlU S0 35 (H.set id (.cells (u64s l) ty)) vv lv) (hn:lv.length=n) (hdv:Dig lv) (hq:q < B64) (hb:n < 2097152) :
    ∃ o p',o≤1∧p'.length=n + 1∧Dig p'∧val p' + q * val lv=val p + B64 ^ (n + 1) * o∧Has 201 [.sl id pre.length (n + 1) cap 1,vv,uA q] H (.bool (decide (o≠0))) (H.set id (.cells (u64s (mid3 pre p' post)) ty)):=by
  obtain ⟨o,ho⟩:∃ o,o=if val p < q * val lv then 1 else 0:=⟨_,rfl⟩
  have hvp:=val_lt hdp
  rw [hp] at hvp
  have hvv:=val_lt hdv
  rw [hn] at hvv
  have hqv:q * val lv≤B64 ^ (n + 1):=by
    rw [Nat.pow_succ,Nat.mul_comm]
    exact Nat.mul_le_mul (Nat.le_of_lt hvv) (Nat.le_of_lt hq)
  have ho1:o≤1:=by rw [ho]; split <;> omega
  have hX:val p + B64 ^ (n + 1) * o - q * val lv < B64 ^ (n + 1)∧q * val lv≤val p + B64 ^ (n + 1) * o:=by
    by_cases h:val p < q * val lv
    · rw [ho,if_pos h,Nat.mul_one]; omega
    · rw [ho,if_neg h,Nat.mul_zero]; omega
  refine ⟨o,dg (n + 1) (val p + B64 ^ (n + 1) * o - q * val lv),ho1,dg_len _ _,dg_dig _ _,by rw [dg_val hX.1]; omega,?_⟩
  have hid:id < H.length:=(List.getElem?_eq_some_iff.1 hH).1
  have hset:∀ l,(H.set id (.cells (u64s l) ty))[id]?=some (.cells (u64s l) ty):=fun l=>List.getElem?_set_self hid
  have hun:=fun (P:List Nat) (b':Nat) h1 h2 h3 h4=>tk_uniq (k:=n + 1) (Q:=q * val lv) (vp:=val p) (o:=o) (b':=b') (P:=P) (vP:=0) h1 h2 h3 h4 hvp ho
  clear hX hqv ho
  generalize dg (n + 1) (val p + B64 ^ (n + 1) * o - q * val lv)=P' at *
  refine does_run s0 (show S0.fn 201=some Tryz.f201 by kernel_rfl) rfl (by kernel_rfl) (Nat.le_of_ble_eq_true rfl) ?_
  refine W.seq (W.region ?_)
  refine WO.op rfl rfl (WO.nil (W.seq (W.region ?_)))
  refine WO.op rfl rfl ?_
  refine WO.op rfl rfl (WO.nil (W.seq (W.seq (W.region ?_))))
  refine WO.heq (H':=H.set id (.cells (u64s (mid3 pre p post)) ty)) (set_same hH).symm ?_
  refine WO.op rfl rfl ?_
  refine WO.op ((hv _).lenG rfl rfl rfl) rfl ?_
  rw [hn]
  refine WO.op rfl rfl (WO.nil (W.block ?_))
  refine W.fits (F':=fr (tkF (.sl id pre.length (n + 1) cap 1) vv q 0 0 n 0)) (fits_fr ⟨rfl,rfl,rfl,rfl,rfl,rfl,rfl,rfl,trivial⟩) ?_
  refine W.loopI (α:=Nat×List Nat×Nat×Nat) (TkI p lv n q) (fun x=>n - x.1) (fun x=>fr (tkF (.sl id pre.length (n + 1) cap 1) vv q x.2.2.1 x.2.2.2 n x.1)) (fun x=>H.set id (.cells (u64s (mid3 pre x.2.1 post)) ty)) ?_ (0,p,0,0)
    ⟨Nat.zero_le _,hp,hdp,by show 0 < B64; decide,Nat.zero_le _,fun _ _=>rfl,by simp [val]⟩
  rintro ⟨i,P,c,b⟩ ⟨hi,hPl,hPd,hc,hbb,hsame,hval⟩
  simp only at hi hPl hPd hc hbb hsame hval ⊢
  change W _ _ _ _ (fr (tkF (.sl id pre.length (n + 1) cap 1) vv q c b n i)) (H.set id (.cells (u64s (mid3 pre P post)) ty)) _
  refine W.seq (W.region ?_)
  have hss:∀ l,((H.set id (.cells (u64s (mid3 pre P post)) ty)).set id (.cells (u64s l) ty))=H.set id (.cells (u64s l) ty):=fun l=>List.set_set _
  have hHP:=hset (mid3 pre P post)
  by_cases hlt:i < n
  · obtain ⟨a1,a2,a3,ha1,ha2,ha3⟩:=(hv (mid3 pre P post)).at_ i (by omega)
    have htk:=val_take_succ (l:=lv) (k:=i) (by omega)
    have hpt:=val_take_succ (l:=p) (k:=i) (by omega)
    have hx:=hdv.getD i
    have hsi:=hsame i (Nat.le_refl _)
    have hyb:=hPd.getD i
    have hat:=mid3_at (pre:=pre) (p:=P) (post:=post) (i:=i) (by omega)
    rw [← hsi] at hpt
    generalize lv.getD i 0=x at *
    generalize hy:P.getD i 0=y at *
    obtain ⟨h0,lo,hmul,hlo,q1⟩:=mul64_ex q x hq hx
    obtain ⟨lo1,c1,hadd,hlo1,q2⟩:=add64_ex lo c 0 (by omega)
    obtain ⟨hcb,hce⟩:=carry_lt hq hx hc q1 q2
    obtain ⟨d,b',hsub,hd,hb',q3⟩:=sub64_ex y lo1 b hyb hlo1 hbb
    have hstep:=tk_step hval hce q3
    refine WO.as (v':=.bool true) rfl rfl (bdT (by omega)) (WO.nil (W.seq (W.cond (b:=true) rfl (fun _=>W.skip ?_) (fun h=>by cases h))))
    refine W.seq (W.block (W.seq (W.region ?_)))
    refine WO.op rfl rfl ?_
    refine WO.op (SlU.idxG rfl rfl ha1) rfl ?_
    refine WO.op (SlU.loadG rfl tu rfl ha2 ha3) rfl ?_
    refine WO.op rfl rfl ?_
    refine WO.op rfl rfl (WO.nil (W.seq (W.region ?_)))
    refine WO.op rfl rfl ?_
    refine WO.op rfl rfl ?_
    refine WO.call rfl (hmul _) rfl ?_
    iterate 4 refine WO.op rfl rfl ?_
    refine WO.op rfl rfl (WO.nil (W.seq (W.region ?_)))
    refine WO.op rfl rfl (WO.nil (W.seq (W.region ?_)))
    refine WO.op rfl rfl ?_
    refine WO.op rfl rfl ?_
    refine WO.call rfl (hadd _) rfl ?_
    iterate 4 refine WO.op rfl rfl ?_
    refine WO.op rfl rfl (WO.nil (W.seq (W.region ?_)))
    refine WO.op rfl rfl ?_
    refine WO.op rfl rfl ?_
    refine WO.as (v':=uA (h0 + c1)) rfl rfl (int_u64 (by unfold B64 at hcb; omega) (by omega)) ?_
    refine WO.op rfl rfl (WO.nil (W.region ?_))
    iterate 4 refine WO.op rfl rfl ?_
    refine WO.op (G.idx_sl rfl rfl tU rfl tu rfl (by omega) (by omega)) rfl ?_
    refine WO.op (G.load_ptr rfl tu rfl hHP hat) rfl ?_
    refine WO.op rfl rfl ?_
    refine WO.op rfl rfl ?_
    refine WO.call rfl (hsub _) rfl ?_
    iterate 3 refine WO.op rfl rfl ?_
    refine WO.op (G.idx_sl rfl rfl tU rfl tu rfl (by omega) (by omega)) rfl ?_
    refine WO.op (store_mid rfl rfl tu rfl hHP (by omega)) rfl ?_
    refine WO.op rfl rfl (WO.nil (W.region ?_))
    refine WO.as (v':=iA ((i + 1:Nat):Int)) rfl rfl (int_i64 (by omega) (by omega)) ?_
    refine WO.op rfl rfl (WO.nil ⟨(i + 1,P.set i d,h0 + c1,b'),⟨by simp only; omega,by simpa using hPl,hPd.set _ hd,hcb,hb',fun j hj=>?_,?_⟩,by simp only; omega,fits_fr ⟨rfl,rfl,rfl,rfl,rfl,rfl,rfl,rfl,trivial⟩,hss _⟩)
    · simp only at hj ⊢
      rw [List.getD_eq_getElem?_getD,List.getElem?_set_ne (by omega),← List.getD_eq_getElem?_getD]
      exact hsame j (by omega)
    · simp only
      rw [val_take_succ (l:=P.set i d) (k:=i) (by rw [List.length_set]; omega),val_set_take,getD_set_at (by omega),htk,hpt,Nat.pow_succ]
      exact hstep
  · have hie:i=n:=by omega
    subst hie
    rw [List.take_of_length_le (l:=lv) (by omega)] at hval
    have hpt:=val_take_succ (l:=p) (k:=i) (by omega)
    rw [List.take_of_length_le (by omega),← hsame i (Nat.le_refl _)] at hpt
    have hyb:=hPd.getD i
    have hat:=mid3_at (pre:=pre) (p:=P) (post:=post) (i:=i) (by omega)
    generalize hy:P.getD i 0=y at *
    obtain ⟨d,b',hsub,hd,hb',q3⟩:=sub64_ex y c b hyb hc hbb
    have hend:=tk_end hval q3
    have hl2:(P.set i d).length=i + 1:=by rw [List.length_set]; exact hPl
    have hve:val (P.set i d) + q * val lv=val p + B64 ^ (i + 1) * b':=by
      have h1:=val_take_succ (l:=P.set i d) (k:=i) (by omega)
      rw [List.take_of_length_le (by omega),val_set_take,getD_set_at (by omega)] at h1
      rw [h1,hpt,Nat.pow_succ]
      exact hend
    obtain ⟨e1,e2⟩:=hun _ _ (hPd.set i hd) hl2 hve hb'
    refine WO.as (v':=.bool false) rfl rfl (bdF (by omega)) (WO.nil (W.seq (W.cond (b:=false) rfl (fun h=>by cases h) (fun _=>W.exit ?_))))
    refine W.seq (W.region ?_)
    refine WO.op rfl rfl ?_
    refine WO.op rfl rfl ?_
    refine WO.op ((hv _).lenG rfl rfl rfl) rfl ?_
    rw [hn]
    refine WO.op rfl rfl ?_
    refine WO.op rfl rfl ?_
    refine WO.op ((hv _).lenG rfl rfl rfl) rfl ?_
    rw [hn]
    refine WO.op (G.idx_sl rfl rfl tU rfl tu rfl (by omega) (by omega)) rfl ?_
    refine WO.op (G.load_ptr rfl tu rfl hHP hat) rfl ?_
    refine WO.op rfl rfl ?_
    refine WO.op rfl rfl ?_
    refine WO.call rfl (hsub _) rfl ?_
    iterate 3 refine WO.op rfl rfl ?_
    refine WO.op (G.idx_sl rfl rfl tU rfl tu rfl (by omega) (by omega)) rfl ?_
    refine WO.op (store_mid rfl rfl tu rfl hHP (by omega)) rfl ?_
    refine WO.op rfl rfl (WO.nil (W.seq (W.region ?_)))
    refine WO.op rfl rfl ?_
    refine WO.as (v':=.bool (decide (o≠0))) rfl rfl ?_ ?_
    · rw [e1]
      by_cases h:o=0
      · subst h; rfl
      · have:o=1:=by omega
        subst this; rfl
    refine WO.op rfl rfl (WO.nil (W.ret ⟨trivial,_,rfl,Wk.refl _,?_⟩))
    rw [hss,e2]
abbrev gvF (vu vv:AVal) (c n i:Nat):List (Nat×AVal):=[(0,vu),(1,vv),(4,uA c),(7,vv),(8,iA (n:Int)),(9,iA (i:Int))]
structure GvI (p lv:List Nat) (n:Nat) (x:Nat×List Nat×Nat):Prop where
  i:x.1≤n
  len:x.2.1.length=n + 1
  dig:Dig x.2.1
  c:x.2.2≤1
  same:∀ j,x.1≤j→x.2.1.getD j 0=p.getD j 0
  val:val (x.2.1.take x.1) + B64 ^ x.1 * x.2.2=val (p.take x.1) + val (lv.take x.1)
set_option maxRecDepth 100000 in
theorem gives_has {H:Heap} {id:Nat} {ty:TypeId} {pre p post:List Nat} {n:Nat} {cap:Option Nat} {vv:AVal} {lv:List Nat} (hH:H[id]?=some (.cells (u64s (mid3 pre p post)) ty)) (hp:p.length=n + 1) (hdp:Dig p)
    (hv:∀ l,SlU S0 35 (H.set id (.cells (u64s l) ty)) vv lv) (hn:lv.length=n) (hdv:Dig lv) (hb:n < 2097152) :
    ∃ o p',p'.length=n + 1∧Dig p'∧val p' + B64 ^ (n + 1) * o=val p + val lv∧Has 202 [.sl id pre.length (n + 1) cap 1,vv] H (.tup []) (H.set id (.cells (u64s (mid3 pre p' post)) ty)):=by
  refine ⟨(val p + val lv) / B64 ^ (n + 1),dg (n + 1) ((val p + val lv) % B64 ^ (n + 1)),dg_len _ _,dg_dig _ _,by rw [dg_val (Nat.mod_lt _ (pow_pos64 _))]; exact Nat.mod_add_div _ _,?_⟩
  have hid:id < H.length:=(List.getElem?_eq_some_iff.1 hH).1
  have hset:∀ l,(H.set id (.cells (u64s l) ty))[id]?=some (.cells (u64s l) ty):=fun l=>List.getElem?_set_self hid
  have hun:∀ (P:List Nat) (o:Nat),Dig P→P.length=n + 1→val P + B64 ^ (n + 1) * o=val p + val lv→P=dg (n + 1) ((val p + val lv) % B64 ^ (n + 1)):=by
    intro P o h1 h2 h3
    refine dg_of h1 h2 ?_
    have:=val_lt h1
    rw [h2] at this
    rw [← h3,Nat.add_mul_mod_self_left,Nat.mod_eq_of_lt this]
  generalize dg (n + 1) ((val p + val lv) % B64 ^ (n + 1))=P' at *
  refine does_run s0 (show S0.fn 202=some Tryz.f202 by kernel_rfl) rfl (by kernel_rfl) (Nat.le_of_ble_eq_true rfl) ?_
  refine W.seq (W.region ?_)
  refine WO.op rfl rfl (WO.nil (W.seq (W.seq (W.region ?_))))
  refine WO.heq (H':=H.set id (.cells (u64s (mid3 pre p post)) ty)) (set_same hH).symm ?_
  refine WO.op rfl rfl ?_
  refine WO.op ((hv _).lenG rfl rfl rfl) rfl ?_
  rw [hn]
  refine WO.op rfl rfl (WO.nil (W.block ?_))
  refine W.fits (F':=fr (gvF (.sl id pre.length (n + 1) cap 1) vv 0 n 0)) (fits_fr ⟨rfl,rfl,rfl,rfl,rfl,rfl,trivial⟩) ?_
  refine W.loopI (α:=Nat×List Nat×Nat) (GvI p lv n) (fun x=>n - x.1) (fun x=>fr (gvF (.sl id pre.length (n + 1) cap 1) vv x.2.2 n x.1)) (fun x=>H.set id (.cells (u64s (mid3 pre x.2.1 post)) ty)) ?_ (0,p,0)
    ⟨Nat.zero_le _,hp,hdp,Nat.zero_le _,fun _ _=>rfl,by simp [val]⟩
  rintro ⟨i,P,c⟩ ⟨hi,hPl,hPd,hc,hsame,hval⟩
  simp only at hi hPl hPd hc hsame hval ⊢
  change W _ _ _ _ (fr (gvF (.sl id pre.length (n + 1) cap 1) vv c n i)) (H.set id (.cells (u64s (mid3 pre P post)) ty)) _
  refine W.seq (W.region ?_)
  have hss:∀ l,((H.set id (.cells (u64s (mid3 pre P post)) ty)).set id (.cells (u64s l) ty))=H.set id (.cells (u64s l) ty):=fun l=>List.set_set _
  have hHP:=hset (mid3 pre P post)
  by_cases hlt:i < n
  · obtain ⟨a1,a2,a3,ha1,ha2,ha3⟩:=(hv (mid3 pre P post)).at_ i (by omega)
    have htk:=val_take_succ (l:=lv) (k:=i) (by omega)
    have hpt:=val_take_succ (l:=p) (k:=i) (by omega)
    have hx:=hdv.getD i
    have hsi:=hsame i (Nat.le_refl _)
    have hyb:=hPd.getD i
    have hat:=mid3_at (pre:=pre) (p:=P) (post:=post) (i:=i) (by omega)
    rw [← hsi] at hpt
    generalize lv.getD i 0=x at *
    generalize hy:P.getD i 0=y at *
    obtain ⟨d,c',hadd,hd,q3⟩:=add64_ex y x c hc
    have hc':c'≤1:=by unfold B64 at *; omega
    have hstep:=gv_step hval q3
    refine WO.as (v':=.bool true) rfl rfl (bdT (by omega)) (WO.nil (W.seq (W.cond (b:=true) rfl (fun _=>W.skip ?_) (fun h=>by cases h))))
    refine W.seq (W.block (W.seq (W.region ?_)))
    refine WO.op rfl rfl ?_
    refine WO.op (SlU.idxG rfl rfl ha1) rfl ?_
    refine WO.op (SlU.loadG rfl tu rfl ha2 ha3) rfl ?_
    refine WO.op rfl rfl ?_
    refine WO.op rfl rfl (WO.nil (W.region ?_))
    iterate 4 refine WO.op rfl rfl ?_
    refine WO.op (G.idx_sl rfl rfl tU rfl tu rfl (by omega) (by omega)) rfl ?_
    refine WO.op (G.load_ptr rfl tu rfl hHP hat) rfl ?_
    refine WO.op rfl rfl ?_
    refine WO.op rfl rfl ?_
    refine WO.call rfl (hadd _) rfl ?_
    iterate 3 refine WO.op rfl rfl ?_
    refine WO.op (G.idx_sl rfl rfl tU rfl tu rfl (by omega) (by omega)) rfl ?_
    refine WO.op (store_mid rfl rfl tu rfl hHP (by omega)) rfl ?_
    refine WO.op rfl rfl (WO.nil (W.region ?_))
    refine WO.as (v':=iA ((i + 1:Nat):Int)) rfl rfl (int_i64 (by omega) (by omega)) ?_
    refine WO.op rfl rfl (WO.nil ⟨(i + 1,P.set i d,c'),⟨by simp only; omega,by simpa using hPl,hPd.set _ hd,hc',fun j hj=>?_,?_⟩,by simp only; omega,fits_fr ⟨rfl,rfl,rfl,rfl,rfl,rfl,trivial⟩,hss _⟩)
    · simp only at hj ⊢
      rw [List.getD_eq_getElem?_getD,List.getElem?_set_ne (by omega),← List.getD_eq_getElem?_getD]
      exact hsame j (by omega)
    · simp only
      rw [val_take_succ (l:=P.set i d) (k:=i) (by rw [List.length_set]; omega),val_set_take,getD_set_at (by omega),htk,hpt,Nat.pow_succ]
      exact hstep
  · have hie:i=n:=by omega
    subst hie
    rw [List.take_of_length_le (l:=lv) (by omega)] at hval
    have hpt:=val_take_succ (l:=p) (k:=i) (by omega)
    rw [List.take_of_length_le (by omega),← hsame i (Nat.le_refl _)] at hpt
    have hyb:=hPd.getD i
    have hat:=mid3_at (pre:=pre) (p:=P) (post:=post) (i:=i) (by omega)
    generalize hy:P.getD i 0=y at *
    have hmd:(y + c) % B64 + B64 * ((y + c) / B64)=y + 0 + c:=by rw [Nat.mod_add_div,Nat.add_zero]
    have hend:=gv_step hval hmd
    rw [Nat.mul_zero,Nat.add_zero] at hend
    have hdm:(y + c) % B64 < B64:=Nat.mod_lt _ (by decide)
    have hl2:(P.set i ((y + c) % B64)).length=i + 1:=by rw [List.length_set]; exact hPl
    have hve:val (P.set i ((y + c) % B64)) + B64 ^ (i + 1) * ((y + c) / B64)=val p + val lv:=by
      have h1:=val_take_succ (l:=P.set i ((y + c) % B64)) (k:=i) (by omega)
      rw [List.take_of_length_le (by omega),val_set_take,getD_set_at (by omega)] at h1
      rw [h1,hpt,Nat.pow_succ]
      exact hend
    have e2:=hun _ _ (hPd.set i hdm) hl2 hve
    have hwr:AVal.int .u64 (wrapI .u64 ((y:Int) + (c:Int)))=uA ((y + c) % B64):=by
      have:wrapI .u64 ((y:Int) + (c:Int))=(((y + c) % B64:Nat):Int):=by
        rw [Int.natCast_emod,Int.natCast_add]; rfl
      rw [this]
    refine WO.as (v':=.bool false) rfl rfl (bdF (by omega)) (WO.nil (W.seq (W.cond (b:=false) rfl (fun h=>by cases h) (fun _=>W.exit ?_))))
    refine W.region ?_
    refine WO.op rfl rfl ?_
    refine WO.op rfl rfl ?_
    refine WO.op ((hv _).lenG rfl rfl rfl) rfl ?_
    rw [hn]
    refine WO.op (G.idx_sl rfl rfl tU rfl tu rfl (by omega) (by omega)) rfl ?_
    refine WO.op (G.load_ptr rfl tu rfl hHP hat) rfl ?_
    refine WO.op rfl rfl ?_
    refine WO.as (v':=uA ((y + c) % B64)) rfl rfl hwr ?_
    refine WO.op (G.idx_sl rfl rfl tU rfl tu rfl (by omega) (by omega)) rfl ?_
    refine WO.op (store_mid rfl rfl tu rfl hHP (by omega)) rfl (WO.nil ⟨trivial,_,rfl,Wk.refl _,?_⟩)
    rw [hss,e2]
end
end Go.AM.C
namespace Go.AM.C
open Go.Proofs
noncomputable section
theorem mid3_val (pre p post:List Nat):val (mid3 pre p post)=val pre + B64 ^ pre.length * (val p + B64 ^ p.length * val post):=by
  unfold mid3
  rw [val_append,val_append]
theorem mid3_of (l:List Nat) {j k:Nat} (h:j + k≤l.length):∃ pre p post,l=mid3 pre p post∧pre.length=j∧p.length=k:=by
  refine ⟨l.take j,(l.drop j).take k,(l.drop j).drop k,?_,by simp; omega,by simp; omega⟩
  unfold mid3
  rw [List.take_append_drop,List.take_append_drop]
theorem mid3_dig {pre p post:List Nat} (h:Dig (mid3 pre p post)):Dig pre∧Dig p∧Dig post :=
  ⟨fun x hx=>h x (List.mem_append_left _ hx),fun x hx=>h x (List.mem_append_right _ (List.mem_append_left _ hx)),fun x hx=>h x (List.mem_append_right _ (List.mem_append_right _ hx))⟩
theorem dig_mid3 {pre p post:List Nat} (h1:Dig pre) (h2:Dig p) (h3:Dig post):Dig (mid3 pre p post):=h1.append (h2.append h3)
structure LI (A V n m d k:Nat) (u q:List Nat):Prop where
  ul:u.length=m + 1
  ud:Dig u
  ql:q.length=d
  qd:Dig q
  kd:k≤d
  eq:val q * V + val u=A
  lt:val u < V * B64 ^ k
  z:∀ j,j < k→q.getD j 0=0
theorem LI.part {A V n m d:Nat} {pre p post q:List Nat} (h:LI A V n m d (pre.length + 1) (mid3 pre p post) q) (hV:V < B64 ^ n) (hp:p.length=n + 1):val p < V * B64∧val post=0:=by
  have h1:=h.lt
  rw [mid3_val,hp] at h1
  have hv0:val post=0:=by
    rcases Nat.eq_zero_or_pos (val post) with e | e
    · exact e
    · exfalso
      have h2:B64 ^ (n + 1)≤B64 ^ (n + 1) * val post:=Nat.le_mul_of_pos_right _ e
      have h3:B64 ^ pre.length * B64 ^ (n + 1)≤B64 ^ pre.length * (val p + B64 ^ (n + 1) * val post):=Nat.mul_le_mul_left _ (Nat.le_trans h2 (Nat.le_add_left _ _))
      have h4:V * B64 ^ (pre.length + 1)≤B64 ^ n * B64 ^ (pre.length + 1):=Nat.mul_le_mul_right _ (Nat.le_of_lt hV)
      have h5:B64 ^ n * B64 ^ (pre.length + 1)=B64 ^ pre.length * B64 ^ (n + 1):=by rw [← Nat.pow_add,← Nat.pow_add]; congr 1; omega
      omega
  refine ⟨?_,hv0⟩
  rw [hv0,Nat.mul_zero,Nat.add_zero,Nat.pow_succ,Nat.mul_left_comm] at h1
  exact Nat.lt_of_mul_lt_mul_left (Nat.lt_of_le_of_lt (Nat.le_add_left _ _) h1)
theorem LI.next {A V n m d:Nat} {pre p post q p':List Nat} (h:LI A V n m d (pre.length + 1) (mid3 pre p post) q) (hV:V < B64 ^ n) (hV0:0 < V) (hp:p.length=n + 1) (hp':p'.length=n + 1) (hd':Dig p') {c:Nat} (hc:c < B64) (he:c=val p / V∧val p' + c * V=val p):LI A V n m d pre.length (mid3 pre p' post) (q.set pre.length c):=by
  obtain ⟨hcd,he⟩:=he
  obtain ⟨_,hpo⟩:=h.part hV hp
  obtain ⟨d1,d2,d3⟩:=mid3_dig h.ud
  have hlen:=h.ul
  rw [mid3_len] at hlen
  have hkd:=h.kd
  have hql:=h.ql
  have hz:=h.z pre.length (by omega)
  have hpl:val pre < B64 ^ pre.length:=val_lt d1
  have hp'V:val p' < V:=by
    have:=Nat.mod_lt (val p) hV0
    have h2:=Nat.mod_add_div (val p) V
    rw [← hcd,Nat.mul_comm V c] at h2
    omega
  have hq:=val_set q pre.length c (by omega)
  rw [hz,Nat.mul_zero,Nat.add_zero] at hq
  refine ⟨by rw [mid3_len]; omega,dig_mid3 d1 hd' d3,by rw [List.length_set]; exact hql,h.qd.set _ hc,by omega,?_,?_,fun j hj=>?_⟩
  · have heq:=h.eq
    rw [mid3_val,hpo,Nat.mul_zero,Nat.add_zero] at heq ⊢
    rw [hq,Nat.add_mul,← heq,← he,Nat.mul_assoc,Nat.mul_add]
    omega
  · rw [mid3_val,hpo,Nat.mul_zero,Nat.add_zero,Nat.mul_comm V]
    have:B64 ^ pre.length * (val p' + 1)≤B64 ^ pre.length * V:=Nat.mul_le_mul_left _ hp'V
    rw [Nat.mul_add,Nat.mul_one] at this
    omega
  · rw [List.getD_eq_getElem?_getD,List.getElem?_set_ne (by omega),← List.getD_eq_getElem?_getD]
    exact h.z j (by omega)
theorem LI.init {A b s n m d:Nat} {la:List Nat} (hdl:Dig la) (hm:la.length=m) (hA:val la=A) (hnm:d + n=m + 1) (hs:s < 64) (hVn:B64 ^ n≤2 * (b * 2 ^ s)):LI (A * 2 ^ s) (b * 2 ^ s) n m d d (dg (m + 1) (A * 2 ^ s)) (List.replicate d 0):=by
  have hAl:=val_lt hdl
  rw [hm,hA] at hAl
  have h63:2 * 2 ^ s≤B64:=by
    have:2 ^ (s + 1)≤2 ^ 64:=Nat.pow_le_pow_right (by decide) (by omega)
    rw [Nat.pow_succ] at this
    show 2 * 2 ^ s≤2 ^ 64
    omega
  have hlt:A * 2 ^ s < B64 ^ (m + 1):=by
    have h1:A * 2 ^ s < B64 ^ m * 2 ^ s:=Nat.mul_lt_mul_of_pos_right hAl (Nat.pow_pos (by decide))
    have h2:B64 ^ m * 2 ^ s≤B64 ^ m * B64:=Nat.mul_le_mul_left _ (by omega)
    rw [Nat.pow_succ]
    omega
  refine ⟨dg_len _ _,dg_dig _ _,by simp,Dig.replicate _ (by decide),Nat.le_refl _,?_,?_,fun j _=>?_⟩
  · rw [val_zeros,Nat.zero_mul,Nat.zero_add,dg_val hlt]
  · rw [dg_val hlt]
    have h1:A * 2 ^ s < B64 ^ m * 2 ^ s:=Nat.mul_lt_mul_of_pos_right hAl (Nat.pow_pos (by decide))
    have h2:B64 ^ m * (2 * 2 ^ s)≤B64 ^ m * B64:=Nat.mul_le_mul_left _ h63
    have h3:B64 ^ m * B64=B64 ^ n * B64 ^ d:=by rw [← Nat.pow_succ,← Nat.pow_add]; congr 1; omega
    have h4:B64 ^ n * B64 ^ d≤2 * (b * 2 ^ s) * B64 ^ d:=Nat.mul_le_mul_right _ hVn
    have h5:B64 ^ m * (2 * 2 ^ s)=2 * (B64 ^ m * 2 ^ s):=Nat.mul_left_comm _ _ _
    have h6:2 * (b * 2 ^ s) * B64 ^ d=2 * (b * 2 ^ s * B64 ^ d):=Nat.mul_assoc _ _ _
    omega
  · rw [List.getD_eq_getElem?_getD,List.getElem?_replicate]
    split <;> rfl
theorem LI.fin {A b s n m d:Nat} {u q:List Nat} (h:LI (A * 2 ^ s) (b * 2 ^ s) n m d 0 u q) (hb:0 < b):val q=A / b∧u=dg (m + 1) (A % b * 2 ^ s):=by
  have h1:=h.eq
  have h2:=h.lt
  rw [Nat.pow_zero,Nat.mul_one] at h2
  have hp:0 < 2 ^ s:=Nat.pow_pos (by decide)
  have hV:0 < b * 2 ^ s:=Nat.mul_pos hb hp
  have e:=(Nat.div_mod_unique (a:=A * 2 ^ s) (c:=val u) (d:=val q) hV).2 ⟨by rw [Nat.mul_comm] at h1; omega,h2⟩
  rw [Nat.mul_div_mul_right _ _ hp,Nat.mul_mod_mul_right] at e
  exact ⟨e.1.symm,dg_of h.ud h.ul e.2.symm⟩
theorem pow64' {t:Nat} (ht:t≤64):B64=2 ^ (64 - t) * 2 ^ t:=by rw [← Nat.pow_add,show 64 - t + t=64 by omega]
theorem shl_two {x s:Nat} (hs:s < 64):x * 2 ^ 1 % 18446744073709551616 * 2 ^ (63 - s) % B64=x % 2 ^ s * 2 ^ (64 - s):=by
  rw [Nat.mod_mul_mod,Nat.mul_assoc,← Nat.pow_add,show 1 + (63 - s)=64 - s by omega]
  have:=pow64' (t:=64 - s) (by omega)
  rw [show 64 - (64 - s)=s by omega] at this
  show x * 2 ^ (64 - s) % B64=_
  rw [this,Nat.mul_mod_mul_right]
theorem back_dig {R s i:Nat} (hs:s < 64):R / B64 ^ i % B64=(R * 2 ^ s / B64 ^ (i + 1) % B64) % 2 ^ s * 2 ^ (64 - s) + (R * 2 ^ s / B64 ^ i % B64) / 2 ^ s∧(R * 2 ^ s / B64 ^ i % B64) / 2 ^ s < 2 ^ (64 - s):=by
  have hp:0 < 2 ^ s:=Nat.pow_pos (by decide)
  have hB:=pow64 hs
  have hY:R / B64 ^ i=R * 2 ^ s / B64 ^ i / 2 ^ s:=by
    rw [Nat.div_div_eq_div_mul,Nat.mul_div_mul_right _ _ hp]
  have hY1:R * 2 ^ s / B64 ^ (i + 1)=R * 2 ^ s / B64 ^ i / B64:=by rw [Nat.div_div_eq_div_mul,Nat.pow_succ]
  rw [hY,hY1]
  generalize R * 2 ^ s / B64 ^ i=Y
  have hm:Y % B64 / 2 ^ s < 2 ^ (64 - s):=by
    rw [Nat.div_lt_iff_lt_mul hp,← hB]
    exact Nat.mod_lt _ (by decide)
  refine ⟨?_,hm⟩
  have h1:Y / 2 ^ s=Y % B64 / 2 ^ s + 2 ^ (64 - s) * (Y / B64):=by
    have h2:=Nat.mod_add_div Y B64
    have h3:B64 * (Y / B64)=2 ^ s * (2 ^ (64 - s) * (Y / B64)):=by
      rw [← Nat.mul_assoc,Nat.mul_comm (2 ^ s),← hB]
    rw [h3] at h2
    have h4:Y / 2 ^ s=(Y % B64 + 2 ^ s * (2 ^ (64 - s) * (Y / B64))) / 2 ^ s:=by rw [h2]
    rw [h4,Nat.add_mul_div_left _ _ hp]
  have h5:Y / B64 % B64 % 2 ^ s=Y / B64 % 2 ^ s:=by rw [hB,Nat.mod_mul_left_mod]
  rw [h1,h5]
  generalize Y / B64=Z
  generalize Y % B64 / 2 ^ s=e at *
  have h6:=Nat.mod_add_div Z (2 ^ s)
  have h7:e + 2 ^ (64 - s) * Z=(Z % 2 ^ s * 2 ^ (64 - s) + e) + B64 * (Z / 2 ^ s):=by
    have h8:2 ^ (64 - s) * Z=2 ^ (64 - s) * (Z % 2 ^ s) + 2 ^ (64 - s) * (2 ^ s * (Z / 2 ^ s)):=by rw [← Nat.mul_add,h6]
    rw [h8,← Nat.mul_assoc,← hB,Nat.mul_comm (2 ^ (64 - s)) (Z % 2 ^ s)]
    omega
  rw [h7,Nat.add_mul_mod_self_left]
  refine Nat.mod_eq_of_lt ?_
  have h9:Z % 2 ^ s < 2 ^ s:=Nat.mod_lt _ hp
  have h10:(Z % 2 ^ s + 1) * 2 ^ (64 - s)≤2 ^ s * 2 ^ (64 - s):=Nat.mul_le_mul_right _ h9
  rw [Nat.mul_comm (2 ^ s),← hB,Nat.add_mul,Nat.one_mul] at h10
  omega
theorem take_put {l:List Nat} {i n:Nat} (hl:l.length=n) (hi:i < n):(l.take i ++ List.replicate (n - i) 0).set i (l.getD i 0)=l.take (i + 1) ++ List.replicate (n - (i + 1)) 0:=by
  have h1:(l.take i).length=i:=by simp; omega
  rw [List.set_append_right _ _ (by omega),h1,Nat.sub_self,show n - i=(n - (i + 1)) + 1 by omega,List.replicate_succ,List.set_cons_zero,take_succ_getD (by omega),List.append_assoc]
  rfl
theorem hb0 {H:Heap} {a b c:AObj}:(H ++ [a,b,c])[H.length]?=some a:=by simp
theorem hb1 {H:Heap} {a b c:AObj}:(H ++ [a,b,c])[H.length + 1]?=some b:=by rw [List.getElem?_append_right (by omega)]; simp
theorem hb2 {H:Heap} {a b c:AObj}:(H ++ [a,b,c])[H.length + 2]?=some c:=by rw [List.getElem?_append_right (by omega)]; simp
theorem hs0 {H:Heap} {a b c x:AObj}:(H ++ [a,b,c]).set H.length x=H ++ [x,b,c]:=by rw [List.set_append_right _ _ (by omega)]; simp
theorem hs2 {H:Heap} {a b c x:AObj}:(H ++ [a,b,c]).set (H.length + 2) x=H ++ [a,b,x]:=by rw [List.set_append_right _ _ (by omega)]; simp
end
end Go.AM.C
namespace Go.AM.C
open Go.Proofs
noncomputable section
theorem beq_int (k:IntKind) (n:Int):beqA 9 (.int k n) (.int k n)=true:=by simp [beqA]
def listH (l:List (List AVal×Heap×AVal×Heap)) (args:List AVal) (H:Heap) (v:AVal) (H':Heap):Prop:=(args,H,v,H')∈l
theorem two_fun {a1 a2:List AVal} {H1 H2:Heap} {v1 v2:AVal} {K1 K2:Heap} (h:H1.length≠H2.length):∀ args H v J1 u J2,listH [(a1,H1,v1,K1),(a2,H2,v2,K2)] args H v J1→listH [(a1,H1,v1,K1),(a2,H2,v2,K2)] args H u J2→v=u∧J1=J2:=by
  intro args H v J1 u J2 h1 h2
  unfold listH at h1 h2
  simp only [List.mem_cons,List.not_mem_nil,or_false,Prod.mk.injEq] at h1 h2
  rcases h1 with ⟨_,e1,rfl,rfl⟩ | ⟨_,e1,rfl,rfl⟩ <;> rcases h2 with ⟨_,e2,rfl,rfl⟩ | ⟨_,e2,rfl,rfl⟩
  · exact ⟨rfl,rfl⟩
  · exact absurd (congrArg List.length (e1.symm.trans e2)) h
  · exact absurd (congrArg List.length (e1.symm.trans e2)) (Ne.symm h)
  · exact ⟨rfl,rfl⟩
abbrev leftE (l:List (List AVal×Heap×AVal×Heap)):Ent:=⟨199,relX (listH l),false,fun h=>by cases h⟩
theorem slu_dg {S:Sg} (hU:S.ty 35=some ti35) (hu:S.ty 92=some ti92) {H:Heap} {id n:Nat} {cap:Option Nat} {ty:TypeId} {V:Nat} (hH:H[id]?=some (.cells (u64s (dg (n + 1) V)) ty)):SlU S 35 H (.sl id 0 n cap 1) (dg n V):=by
  have:=SlU.sl (S:=S) (t:=35) (cap:=cap) (k:=n) hU rfl hu rfl hH (by rw [dg_len]; omega)
  rwa [dg_take (by omega)] at this
abbrev loF (va vb:AVal) (s m n d id j:Nat):List (Nat×AVal):=[(0,va),(1,vb),(6,iA (s:Int)),(7,.sl id 0 (m + 1) (some (m + 1)) 1),(8,.sl (id + 1) 0 n (some (n + 1)) 1),(9,.sl (id + 2) 0 d (some d) 1),(10,iA ((j:Int) - 1))]
abbrev liF (va vb:AVal) (s m n d id j:Nat) (ov:Bool):List (Nat×AVal):=[(0,va),(1,vb),(6,iA (s:Int)),(7,.sl id 0 (m + 1) (some (m + 1)) 1),(8,.sl (id + 1) 0 n (some (n + 1)) 1),(9,.sl (id + 2) 0 d (some d) 1),(10,iA (j:Int)),(11,.sl id j (n + 1) (some (m + 1 - j)) 1),(12,.bool ov)]
abbrev hL (H:Heap) (u v q:List Nat):Heap:=H ++ [.cells (u64s u) 92,.cells (u64s v) 92,.cells (u64s q) 92]
theorem hL_v {H:Heap} {u v q l:List Nat}:((hL H u v q).set H.length (.cells (u64s l) 92))[H.length + 1]?=some (.cells (u64s v) 92):=by rw [hs0]; exact hb1
theorem prev_i64' (j:Nat):iA (((j + 1:Nat):Int) - 1)=iA (j:Int):=prev_i64 j
set_option maxRecDepth 100000 in
set_option maxHeartbeats 4000000 in
theorem long_walk {l:List (List AVal×Heap×AVal×Heap)} (sl:Sound Tryz.prog (mk [leftE l])) {H:Heap} {va vb:AVal} {la lb:List Nat} {A b s m n d top:Nat} {b1:AVal} {b2:List AVal} {b3:Nat}
    (ha:∀ X,SlU (mk [leftE l]) 35 X va la) (hb:∀ X,SlU (mk [leftE l]) 35 X vb lb) (hn:lb.length=n + 2) (hmm:la.length=m) (hm:m < 1048576) (hnm:n + 2≤m)
    (hb1':elemAddr (mk [leftE l]) 35 vb ((n + 1:Nat):Int)=some b1) (hb2':rowAt H b1=some (b2,b3)) (hb3':b2[b3]?=some (uA top)) (hlead:∀ H,Has 198 [uA top] H (iA (s:Int)) H)
    (hl1:callS (mk [leftE l]) 199 [va,iA (s:Int)] H=some (.sl H.length 0 (m + 1) (some (m + 1)) 1,H ++ [.cells (u64s (dg (m + 1) (A * 2 ^ s))) 92]))
    (hl2:callS (mk [leftE l]) 199 [vb,iA (s:Int)] (H ++ [.cells (u64s (dg (m + 1) (A * 2 ^ s))) 92])=some (.sl (H ++ [.cells (u64s (dg (m + 1) (A * 2 ^ s))) 92]:Heap).length 0 (n + 3) (some (n + 3)) 1,H ++ [.cells (u64s (dg (m + 1) (A * 2 ^ s))) 92] ++ [.cells (u64s (dg (n + 3) (b * 2 ^ s))) 92]))
    (hs64:s < 64) (hbpos:0 < b) (hVlt:b * 2 ^ s < B64 ^ (n + 2)) (hVtop:0 < (dg (n + 2) (b * 2 ^ s)).getD (n + 1) 0) (hd:d=m - (n + 2) + 1) (hinit:LI (A * 2 ^ s) (b * 2 ^ s) (n + 2) m d d (dg (m + 1) (A * 2 ^ s)) (List.replicate d 0)) :
    DoesC Tryz.prog (mk [leftE l]) 113 [va,vb] H (.tup [.sl (H.length + 2) 0 d (some d) 1,.sl (H.length + 3) 0 (n + 2) (some (n + 2)) 1])
      (H ++ [.cells (u64s (dg (m + 1) (A % b * 2 ^ s))) 92,.cells (u64s (dg (n + 3) (b * 2 ^ s))) 92,.cells (u64s (dg d (A / b))) 92,.cells (u64s (dg (n + 2) (A % b))) 92]):=by
  have tU:(mk [leftE l]).ty 35=some ti35:=rfl
  have tu:(mk [leftE l]).ty 92=some ti92:=rfl
  have hdm:d + (n + 2)=m + 1:=by omega
  have hVpos:0 < b * 2 ^ s:=Nat.mul_pos hbpos (Nat.pow_pos (by decide))
  have hld:val (dg (n + 2) (b * 2 ^ s))=b * 2 ^ s:=dg_val hVlt
  have hlen:(dg (n + 2) (b * 2 ^ s)).length=n + 2:=dg_len _ _
  have hdgd:=dg_dig (n + 2) (b * 2 ^ s)
  have hmn:n + 3≤m + 1:=by omega
  have hfin:=fun (u q:List Nat) (h:LI (A * 2 ^ s) (b * 2 ^ s) (n + 2) m d 0 u q)=>h.fin hbpos
  refine does_run sl (show (mk [leftE l]).fn 113=some Tryz.f113 by kernel_rfl) rfl (by kernel_rfl) (Nat.le_of_ble_eq_true rfl) ?_
  refine W.seq (W.region ?_)
  refine WO.op rfl rfl ?_
  refine WO.op rfl rfl (WO.nil (W.seq (W.region ?_)))
  refine WO.op rfl rfl ?_
  refine WO.op rfl rfl ?_
  refine WO.op ((hb _).lenG rfl rfl rfl) rfl ?_
  refine WO.as (v':=iA ((n + 1:Nat):Int)) rfl rfl (int_i64 (by omega) (by omega)) ?_
  refine WO.op (SlU.idxG rfl rfl hb1') rfl ?_
  refine WO.op (SlU.loadG rfl tu rfl hb2' hb3') rfl ?_
  refine WO.call rfl (Has.at (hlead _)) rfl ?_
  refine WO.op rfl rfl (WO.nil (W.seq (W.drawJ0 [29] rfl (by kernel_rfl) ?_)))
  refine WJ.op rfl rfl rfl rfl ?_
  refine WJ.op rfl rfl rfl rfl ?_
  refine WJ.op hl1 rfl rfl rfl ?_
  refine WJ.op rfl rfl rfl rfl ?_
  refine WJ.op rfl rfl rfl rfl ?_
  refine WJ.op hl2 rfl rfl rfl ?_
  refine WJ.op rfl rfl rfl rfl ?_
  refine WJ.free (fun X=>(hb X).lenG rfl rfl rfl) rfl rfl (beq_int _ _) ?_
  rw [hn]
  refine WJ.op (G.slice_sl (l:=0) (h:=n + 2) rfl tU rfl tu rfl rfl ⟨_,rfl⟩ (by omega) (by simp) (by simp)) rfl rfl rfl ?_
  refine WJ.op rfl rfl rfl rfl ?_
  refine WJ.op rfl rfl rfl rfl (WJ.nil (W.seq (W.region ?_)))
  refine WO.op rfl rfl ?_
  refine WO.op ((ha _).lenG rfl rfl rfl) rfl ?_
  rw [hmm]
  refine WO.op rfl rfl ?_
  refine WO.op ((hb _).lenG rfl rfl rfl) rfl ?_
  rw [hn]
  refine WO.as (v':=iA ((m - (n + 2):Nat):Int)) rfl rfl (int_i64 (by omega) (by omega)) ?_
  refine WO.as (v':=iA (d:Int)) rfl rfl (int_i64 (by omega) (by omega)) ?_
  refine WO.op (G.make (l:=d) (c:=d) rfl rfl tU rfl tu rfl (Nat.le_refl _) (by show d * 8≤_; omega) (by omega)) rfl ?_
  refine WO.op rfl rfl (WO.nil ?_)
  have hlen1:(H ++ [AObj.cells (u64s (dg (m + 1) (A * 2 ^ s))) 92]).length=H.length + 1:=by simp
  have hlen2:(H ++ [AObj.cells (u64s (dg (m + 1) (A * 2 ^ s))) 92] ++ [AObj.cells (u64s (dg (n + 3) (b * 2 ^ s))) 92]).length=H.length + 2:=by simp
  refine W.heq (H':=hL H (dg (m + 1) (A * 2 ^ s)) (dg (n + 3) (b * 2 ^ s)) (List.replicate d 0)) (by simp [u64s]) ?_
  rw [hlen1,hlen2]
  refine W.mid (H1:=hL H (dg (m + 1) (A % b * 2 ^ s)) (dg (n + 3) (b * 2 ^ s)) (dg d (A / b))) [(0,va),(1,vb),(6,iA (s:Int)),(7,.sl H.length 0 (m + 1) (some (m + 1)) 1),(9,.sl (H.length + 2) 0 d (some d) 1)] ?_ ?_
  · -- the digits
    refine W.seq (W.region ?_)
    refine WO.op rfl rfl ?_
    refine WO.op rfl rfl ?_
    refine WO.as (v':=iA ((d:Int) - 1)) rfl rfl (int_i64 (by omega) rfl) ?_
    refine WO.op rfl rfl (WO.nil (W.block ?_))
    refine W.fits (F':=fr (loF va vb s m (n + 2) d H.length d)) (fits_fr ⟨rfl,rfl,rfl,rfl,rfl,rfl,rfl,trivial⟩) ?_
    refine W.loopI (α:=Nat×List Nat×List Nat) (fun x=>LI (A * 2 ^ s) (b * 2 ^ s) (n + 2) m d x.1 x.2.1 x.2.2) (fun x=>x.1) (fun x=>fr (loF va vb s m (n + 2) d H.length x.1)) (fun x=>hL H x.2.1 (dg (n + 3) (b * 2 ^ s)) x.2.2) ?_ (d,_,_) hinit
    rintro ⟨k,u,q⟩ hI
    simp only at hI ⊢
    change W _ _ _ _ (fr (loF va vb s m (n + 2) d H.length k)) (hL H u (dg (n + 3) (b * 2 ^ s)) q) _
    cases k with
    | zero =>
      obtain ⟨e1,e2⟩:=hfin _ _ hI
      refine W.seq (W.seq (W.region ?_))
      refine WO.op rfl rfl ?_
      refine WO.as (v':=.bool false) rfl rfl (bdF (by omega)) (WO.nil (W.cond (b:=false) rfl (fun h=>by cases h) (fun _=>W.exit ?_)))
      refine ⟨rfl,⟨rfl,rfl,rfl,rfl,rfl,trivial⟩,?_⟩
      rw [e2,dg_of hI.qd hI.ql e1]
    | succ j =>
      have hkd:=hI.kd
      have hul:=hI.ul
      have hql:=hI.ql
      obtain ⟨pre,p,post,rfl,rfl,hpl⟩:=mid3_of u (j:=j) (k:=n + 3) (by omega)
      obtain ⟨hpV,hpo⟩:=hI.part hVlt hpl
      obtain ⟨hd1,hd2,hd3⟩:=mid3_dig hI.ud
      have hsv:∀ {u q:List Nat},SlU S0 35 (hL H u (dg (n + 3) (b * 2 ^ s)) q) (.sl (H.length + 1) 0 (n + 2) (some (n + 3)) 1) (dg (n + 2) (b * 2 ^ s)):=fun {u q}=>slu_dg rfl rfl hb1
      have hsu:SlU S0 35 (hL H (mid3 pre p post) (dg (n + 3) (b * 2 ^ s)) q) (.sl H.length pre.length (n + 3) (some (m + 1 - pre.length)) 1) p:=slu_part hb0 hpl
      have hsx:∀ {u q:List Nat} (l:List Nat),SlU S0 35 ((hL H u (dg (n + 3) (b * 2 ^ s)) q).set H.length (.cells (u64s l) 92)) (.sl (H.length + 1) 0 (n + 2) (some (n + 3)) 1) (dg (n + 2) (b * 2 ^ s)):=fun {u q} l=>slu_dg rfl rfl hL_v
      obtain ⟨c0,hc0,hc0b,hguess⟩:=guess_has hsu (hsv (u:=mid3 pre p post) (q:=q)) hlen hpl hd2 hdgd (by omega) hVtop (by rw [hld]; exact hpV)
      rw [hld] at hc0
      obtain ⟨o,p1,ho1,hp1l,hp1d,hp1v,htakes⟩:=takes_has (H:=hL H (mid3 pre p post) (dg (n + 3) (b * 2 ^ s)) (q.set pre.length c0)) (cap:=some (m + 1 - pre.length)) (q:=c0) (vv:=.sl (H.length + 1) 0 (n + 2) (some (n + 3)) 1) hb0 hpl hd2 hsx hlen hdgd hc0b (by omega)
      rw [hld] at hp1v
      have hqi:=qi_init hVpos hc0b hc0 (by have:=val_lt hp1d; rwa [hp1l] at this) ho1 hp1v
      refine W.seq (W.seq (W.region ?_))
      refine WO.op rfl rfl ?_
      refine WO.as (v':=.bool true) rfl rfl (bdT (by omega)) (WO.nil (W.cond (b:=true) rfl (fun _=>W.skip ?_) (fun h=>by cases h)))
      refine W.fits (F':=fr [(0,va),(1,vb),(6,iA (s:Int)),(7,.sl H.length 0 (m + 1) (some (m + 1)) 1),(8,.sl (H.length + 1) 0 (n + 2) (some (n + 3)) 1),(9,.sl (H.length + 2) 0 d (some d) 1),(10,iA (pre.length:Int))]) (fits_fr ⟨rfl,rfl,rfl,rfl,rfl,rfl,prev_i64' pre.length,trivial⟩) ?_
      refine W.seq (W.block (W.seq (W.region ?_)))
      iterate 5 refine WO.op rfl rfl ?_
      refine WO.as (v':=iA ((pre.length + (n + 2):Nat):Int)) rfl rfl (int_i64 (by omega) (by omega)) ?_
      refine WO.as (v':=iA ((pre.length + (n + 3):Nat):Int)) rfl rfl (int_i64 (by omega) (by omega)) ?_
      refine WO.as (v':=.sl H.length pre.length (n + 3) (some (m + 1 - pre.length)) 1) (G.slice_sl (l:=pre.length) (h:=pre.length + (n + 3)) rfl tU rfl tu rfl ⟨_,rfl⟩ ⟨_,rfl⟩ (by omega) (by simp; omega) (by simp)) rfl ?_ ?_
      · rw [show 0 + pre.length * 1=pre.length by omega,show pre.length + (n + 3) - pre.length=n + 3 by omega]
        rfl
      refine WO.op rfl rfl (WO.nil (W.seq (W.region ?_)))
      iterate 4 refine WO.op rfl rfl ?_
      refine WO.call rfl (Has.at hguess) rfl ?_
      refine WO.op (G.idx_sl rfl rfl tU rfl tu rfl (by omega) (by omega)) rfl ?_
      refine WO.op (G.store_u64 rfl rfl tu rfl hb2 (by omega)) rfl (WO.nil (W.seq (W.region ?_)))
      refine WO.heq (H':=hL H (mid3 pre p post) (dg (n + 3) (b * 2 ^ s)) (q.set pre.length c0)) hs2 ?_
      iterate 4 refine WO.op rfl rfl ?_
      refine WO.op (G.idx_sl rfl rfl tU rfl tu rfl (by omega) (by omega)) rfl ?_
      refine WO.op (G.load_ptr rfl tu rfl hb2 (u64s_at (by rw [List.length_set]; omega))) rfl ?_
      rw [getD_set_at (by omega)]
      refine WO.call rfl (Has.at htakes) rfl ?_
      refine WO.op rfl rfl (WO.nil (W.block ?_))
      refine W.heq (H':=hL H (mid3 pre p1 post) (dg (n + 3) (b * 2 ^ s)) (q.set pre.length c0)) hs0 ?_
      refine W.fits (F':=fr (liF va vb s m (n + 2) d H.length pre.length (decide (o≠0)))) (fits_fr ⟨rfl,rfl,rfl,rfl,rfl,rfl,rfl,rfl,rfl,trivial⟩) ?_
      refine W.loopI (α:=Nat×List Nat×Bool) (fun x=>QI (n + 2) (val p) (b * 2 ^ s) x.1 (val x.2.1) x.2.2∧x.2.1.length=n + 3∧Dig x.2.1) (fun x=>x.1) (fun x=>fr (liF va vb s m (n + 2) d H.length pre.length x.2.2))
        (fun x=>hL H (mid3 pre x.2.1 post) (dg (n + 3) (b * 2 ^ s)) (q.set pre.length x.1)) ?_ (c0,p1,decide (o≠0)) ⟨hqi,hp1l,hp1d⟩
      rintro ⟨c,P,ov⟩ ⟨hq,hPl,hPd⟩
      simp only at hq hPl hPd ⊢
      change W _ _ _ _ (fr (liF va vb s m (n + 2) d H.length pre.length ov)) (hL H (mid3 pre P post) (dg (n + 3) (b * 2 ^ s)) (q.set pre.length c)) _
      refine W.seq (W.seq (W.region ?_))
      refine WO.op rfl rfl (WO.nil ?_)
      cases ov with
      | false =>
        have hnx:=hI.next hVlt hVpos hpl hPl hPd hq.cb (hq.no rfl)
        refine W.cond (b:=false) rfl (fun h=>by cases h) (fun _=>W.exit ?_)
        refine W.region ?_
        refine WO.op rfl rfl ?_
        refine WO.as (v':=iA ((pre.length:Int) - 1)) rfl rfl (int_i64 (by omega) rfl) ?_
        exact WO.op rfl rfl (WO.nil ⟨(pre.length,_,_),hnx,by simp only; omega,fits_fr ⟨rfl,rfl,rfl,rfl,rfl,rfl,rfl,trivial⟩,rfl⟩)
      | true =>
        have hcp:=hq.pos
        obtain ⟨c',rfl⟩:∃ c',c=c' + 1:=⟨c - 1,by omega⟩
        have hcb:=hq.cb
        obtain ⟨o',p2,hp2l,hp2d,hp2v,hgives⟩:=gives_has (H:=hL H (mid3 pre P post) (dg (n + 3) (b * 2 ^ s)) (q.set pre.length c')) (cap:=some (m + 1 - pre.length)) (vv:=.sl (H.length + 1) 0 (n + 2) (some (n + 3)) 1) hb0 hPl hPd hsx hlen hdgd (by omega)
        rw [hld] at hp2v
        have hnq:=qi_next hq hVpos hVlt (by have:=val_lt hp2d; rwa [hp2l] at this) hp2v (val_top hp2l hp2d) hpV
        refine W.cond (b:=true) rfl (fun _=>W.skip ?_) (fun h=>by cases h)
        refine W.seq (W.block (W.seq (W.region ?_)))
        refine WO.op rfl rfl ?_
        refine WO.op rfl rfl ?_
        refine WO.op (G.idx_sl rfl rfl tU rfl tu rfl (by omega) (by omega)) rfl ?_
        refine WO.op (G.load_ptr rfl tu rfl hb2 (u64s_at (by rw [List.length_set]; omega))) rfl ?_
        rw [getD_set_at (by omega)]
        refine WO.as (v':=uA c') rfl rfl (int_u64 (by unfold B64 at hcb; omega) (by omega)) ?_
        refine WO.op (G.idx_sl rfl rfl tU rfl tu rfl (by omega) (by omega)) rfl ?_
        refine WO.op (G.store_u64 rfl rfl tu rfl hb2 (by rw [List.length_set]; omega)) rfl (WO.nil (W.region ?_))
        refine WO.heq (H':=hL H (mid3 pre P post) (dg (n + 3) (b * 2 ^ s)) (q.set pre.length c')) (by rw [hs2,List.set_set]) ?_
        refine WO.op rfl rfl ?_
        refine WO.op rfl rfl ?_
        refine WO.call rfl (Has.at hgives) rfl (WO.nil (W.region ?_))
        refine WO.heq (H':=hL H (mid3 pre p2 post) (dg (n + 3) (b * 2 ^ s)) (q.set pre.length c')) hs0 ?_
        iterate 3 refine WO.op rfl rfl ?_
        refine WO.op (G.idx_sl rfl rfl tU rfl tu rfl (by omega) (by omega)) rfl ?_
        refine WO.op (G.load_ptr rfl tu rfl hb0 (mid3_at (i:=n + 2) (by omega))) rfl ?_
        refine WO.as (v':=.bool (decide (p2.getD (n + 2) 0≠0))) rfl rfl ?_ ?_
        · by_cases h:p2.getD (n + 2) 0=0
          · rw [bdF (show ¬ p2.getD (n + 2) 0≠0 by omega)]
            exact bnT (by omega)
          · rw [bdT (show p2.getD (n + 2) 0≠0 from h)]
            exact bnF (by omega)
        exact WO.op rfl rfl (WO.nil ⟨(c',p2,_),⟨hnq,hp2l,hp2d⟩,by simp only; omega,fits_fr ⟨rfl,rfl,rfl,rfl,rfl,rfl,rfl,rfl,rfl,trivial⟩,rfl⟩)
  · -- what is left
    have hul:(dg (m + 1) (A % b * 2 ^ s)).length=m + 1:=dg_len _ _
    have hrl:(dg (n + 2) (A % b)).length=n + 2:=dg_len _ _
    have hug:∀ {i:Nat},i < m + 1→(u64s (dg (m + 1) (A % b * 2 ^ s)))[0 + (i:Int).toNat * 1]?=some (uA (A % b * 2 ^ s / B64 ^ i % B64)):=fun {i} h=>by
      rw [← dg_getD h]
      exact u64s_at (by omega)
    have hrg:∀ {i:Nat},i < n + 2→(dg (n + 2) (A % b)).getD i 0=A % b / B64 ^ i % B64:=fun {i} h=>dg_getD h
    generalize hR':A % b=R at *
    generalize dg (m + 1) (R * 2 ^ s)=uR at *
    generalize dg (n + 2) R=rR at *
    generalize dg (n + 3) (b * 2 ^ s)=vR at *
    generalize dg d (A / b)=qR at *
    have hL0:∀ {x:AObj},(hL H uR vR qR ++ [x])[H.length]?=some (.cells (u64s uR) 92):=fun {x}=>by rw [app_lt (by simp)]; exact hb0
    have hL3:(hL H uR vR qR).length=H.length + 3:=by simp
    refine W.seq (W.region ?_)
    refine WO.op rfl rfl ?_
    refine WO.op ((hb _).lenG rfl rfl rfl) rfl ?_
    rw [hn]
    refine WO.op (G.make (l:=n + 2) (c:=n + 2) rfl rfl tU rfl tu rfl (Nat.le_refl _) (by show (n + 2) * 8≤_; omega) (by omega)) rfl ?_
    refine WO.op rfl rfl (WO.nil (W.seq (W.seq (W.region ?_))))
    rw [hL3]
    refine WO.heq (H':=hL H uR vR qR ++ [.cells (u64s (rR.take 0 ++ List.replicate (n + 2 - 0) 0)) 92]) (by simp [u64s]) ?_
    refine WO.op rfl rfl ?_
    refine WO.op rfl rfl ?_
    refine WO.op rfl rfl (WO.nil (W.block ?_))
    refine W.fits (F':=fr [(6,iA (s:Int)),(7,.sl H.length 0 (m + 1) (some (m + 1)) 1),(9,.sl (H.length + 2) 0 d (some d) 1),(13,.sl (H.length + 3) 0 (n + 2) (some (n + 2)) 1),(86,iA ((n + 2:Nat):Int)),(87,iA ((0:Nat):Int))]) (fits_fr ⟨rfl,rfl,rfl,rfl,rfl,rfl,trivial⟩) ?_
    refine W.loopI (fun i:Nat=>i≤n + 2) (fun i=>n + 2 - i) (fun i=>fr [(6,iA (s:Int)),(7,.sl H.length 0 (m + 1) (some (m + 1)) 1),(9,.sl (H.length + 2) 0 d (some d) 1),(13,.sl (H.length + 3) 0 (n + 2) (some (n + 2)) 1),(86,iA ((n + 2:Nat):Int)),(87,iA (i:Int))])
      (fun i=>hL H uR vR qR ++ [.cells (u64s (rR.take i ++ List.replicate (n + 2 - i) 0)) 92]) ?_ 0 (Nat.zero_le _)
    intro i hi
    refine W.seq (W.region ?_)
    by_cases hlt:i < n + 2
    · obtain ⟨hbd,hbs⟩:=back_dig (R:=R) (s:=s) (i:=i) hs64
      have hdgb:R / B64 ^ i % B64 < B64:=Nat.mod_lt _ (by decide)
      have hu1:=hug (i:=i) (by omega)
      have hu2:=hug (i:=i + 1) (by omega)
      have hri:=hrg hlt
      have htp:=take_put (l:=rR) (i:=i) (n:=n + 2) hrl hlt
      have hll:(rR.take i ++ List.replicate (n + 2 - i) 0).length=n + 2:=by simp; omega
      have hst:=shl_two (x:=R * 2 ^ s / B64 ^ (i + 1) % B64) hs64
      rw [hri] at htp
      generalize R / B64 ^ i % B64=z at *
      generalize R * 2 ^ s / B64 ^ i % B64=x at *
      generalize R * 2 ^ s / B64 ^ (i + 1) % B64=y at *
      refine WO.as (v':=.bool true) rfl rfl (bdT (by omega)) (WO.nil (W.seq (W.cond (b:=true) rfl (fun _=>W.skip ?_) (fun h=>by cases h))))
      refine W.seq (W.block (W.seq (W.region ?_)))
      refine WO.op rfl rfl ?_
      refine WO.op rfl rfl (WO.nil (W.draw0 rfl (by kernel_rfl) ?_))
      iterate 4 refine WT.op rfl rfl rfl ?_
      refine WT.op (G.idx_sl rfl rfl tU rfl tu rfl (by omega) (by omega)) rfl rfl ?_
      refine WT.op (G.load_ptr rfl tu rfl hL0 hu1) rfl rfl ?_
      refine WT.op rfl rfl rfl ?_
      refine WT.op (shr_i (m:=x) (k:=s) rfl rfl hs64) rfl rfl ?_
      refine WT.op rfl rfl rfl ?_
      refine WT.op rfl rfl rfl ?_
      refine WT.as (v':=iA ((i + 1:Nat):Int)) rfl rfl rfl (int_i64 (by omega) (by omega)) ?_
      refine WT.op (G.idx_sl rfl rfl tU rfl tu rfl (by omega) (by omega)) rfl rfl ?_
      refine WT.op (G.load_ptr rfl tu rfl hL0 hu2) rfl rfl ?_
      refine WT.op (shl_u (m:=y) (k:=1) rfl rfl (by decide) rfl) rfl rfl ?_
      refine WT.op rfl rfl rfl ?_
      refine WT.as (v':=iA ((63 - s:Nat):Int)) rfl rfl rfl (int_i64 (by omega) (by omega)) ?_
      refine WT.as (v':=uA (y % 2 ^ s * 2 ^ (64 - s))) (shl_i (k:=63 - s) rfl rfl (by omega)) rfl rfl (by rw [hst]) ?_
      refine WT.as (v':=uA z) rfl rfl rfl (by rw [hbd]; exact int_eq (or_add' hbs (by rw [← hbd]; exact hdgb))) ?_
      refine WT.op (G.idx_sl rfl rfl tU rfl tu rfl (by omega) (by omega)) rfl rfl ?_
      refine WT.op (G.store_u64 rfl rfl tu rfl (app_at hL3.symm) (by omega)) rfl rfl (WT.nil (W.region ?_))
      refine WO.as (v':=iA ((i + 1:Nat):Int)) rfl rfl (int_i64 (by omega) (by omega)) ?_
      refine WO.op rfl rfl (WO.nil ⟨i + 1,by omega,by omega,fits_fr ⟨rfl,rfl,rfl,rfl,rfl,rfl,trivial⟩,?_⟩)
      rw [app_set hL3.symm,htp]
    · have hie:i=n + 2:=by omega
      subst hie
      refine WO.as (v':=.bool false) rfl rfl (bdF (by omega)) (WO.nil (W.seq (W.cond (b:=false) rfl (fun h=>by cases h) (fun _=>W.exit ?_))))
      refine W.seq (W.region ?_)
      iterate 3 refine WO.op rfl rfl ?_
      refine WO.op rfl rfl (WO.nil (W.ret ⟨trivial,_,rfl,Wk.refl _,?_⟩))
      rw [Nat.sub_self,List.replicate_zero,List.append_nil,List.take_of_length_le (by omega),List.append_assoc]
      rfl
set_option maxRecDepth 100000 in
set_option maxHeartbeats 4000000 in
theorem long_has {H:Heap} {va vb:AVal} {la lb:List Nat} (ha:∀ X,SlU S0 35 X va la) (hb:∀ X,SlU S0 35 X vb lb) (hda:Dig la) (hdb:Dig lb) {n:Nat} (hn:lb.length=n + 2) (hm:la.length < 1048576) (hnm:n + 2≤la.length) (htop:0 < lb.getD (n + 1) 0) :
    ∃ Q,Dig Q∧Q.length=la.length - (n + 2) + 1∧val Q=val la / val lb∧∃ H',Has 113 [va,vb] H (.tup [.sl (H.length + 2) 0 Q.length (some Q.length) 1,.sl (H.length + 3) 0 (n + 2) (some (n + 2)) 1]) (H ++ H') ∧
      (H ++ H')[H.length + 2]?=some (.cells (u64s Q) 92)∧(H ++ H')[H.length + 3]?=some (.cells (u64s (dg (n + 2) (val la % val lb))) 92):=by
  obtain ⟨b1,b2,b3,hb1',hb2',hb3'⟩:=(hb H).at_ (n + 1) (by omega)
  have htb:=hdb.getD (n + 1)
  obtain ⟨low,hlow,hbv⟩:=val_top (l:=lb) (k:=n + 1) hn hdb
  generalize lb.getD (n + 1) 0=top at *
  have hl1:2 ^ top.log2≤top:=Nat.log2_self_le (by omega)
  have hl2:top < 2 ^ (top.log2 + 1):=Nat.lt_log2_self
  have hl3:top.log2 < 64:=(Nat.log2_lt (by omega)).2 htb
  have hlead:=lead_has top (top.log2 + 1) (by omega) (by omega) (by simpa using hl1) hl2 htb
  obtain ⟨s,hs⟩:∃ s,s=64 - (top.log2 + 1):=⟨_,rfl⟩
  rw [← hs] at hlead
  have hs64:s < 64:=by omega
  have htop1:2 ^ 63≤top * 2 ^ s:=by
    have h1:2 ^ top.log2 * 2 ^ s≤top * 2 ^ s:=Nat.mul_le_mul_right _ hl1
    rw [← Nat.pow_add,show top.log2 + s=63 by omega] at h1
    exact h1
  have htop2:(top + 1) * 2 ^ s≤B64:=by
    have h1:(top + 1) * 2 ^ s≤2 ^ (top.log2 + 1) * 2 ^ s:=Nat.mul_le_mul_right _ hl2
    rw [← Nat.pow_add,show top.log2 + 1 + s=64 by omega] at h1
    exact h1
  clear hl1 hl2 hl3 hs
  have hbpos:0 < val lb:=by
    have:0 < B64 ^ (n + 1) * top:=Nat.mul_pos (pow_pos64 _) htop
    omega
  have hp2:0 < 2 ^ s:=Nat.pow_pos (by decide)
  have hVlt:val lb * 2 ^ s < B64 ^ (n + 2):=by
    have h1:val lb < B64 ^ (n + 1) * (top + 1):=by rw [Nat.mul_add,Nat.mul_one]; omega
    have h2:val lb * 2 ^ s < B64 ^ (n + 1) * (top + 1) * 2 ^ s:=Nat.mul_lt_mul_of_pos_right h1 hp2
    have h3:B64 ^ (n + 1) * ((top + 1) * 2 ^ s)≤B64 ^ (n + 1) * B64:=Nat.mul_le_mul_left _ htop2
    rw [Nat.mul_assoc] at h2
    rw [show n + 2=n + 1 + 1 from rfl,Nat.pow_succ]
    omega
  have hVge:B64 ^ (n + 2)≤2 * (val lb * 2 ^ s):=by
    have h1:B64 ^ (n + 1) * top * 2 ^ s≤val lb * 2 ^ s:=Nat.mul_le_mul_right _ (by omega)
    have h2:B64 ^ (n + 1) * 2 ^ 63≤B64 ^ (n + 1) * (top * 2 ^ s):=Nat.mul_le_mul_left _ htop1
    rw [Nat.mul_assoc] at h1
    rw [show n + 2=n + 1 + 1 from rfl,Nat.pow_succ]
    have h3:B64 ^ (n + 1) * B64=2 * (B64 ^ (n + 1) * 2 ^ 63):=Nat.mul_left_comm _ 2 (2 ^ 63)
    rw [h3]
    exact Nat.mul_le_mul_left 2 (Nat.le_trans h2 h1)
  have hVpos:0 < val lb * 2 ^ s:=Nat.mul_pos hbpos hp2
  have hVtop:0 < (dg (n + 2) (val lb * 2 ^ s)).getD (n + 1) 0:=by
    obtain ⟨lw,h1,h2⟩:=val_top (l:=dg (n + 2) (val lb * 2 ^ s)) (k:=n + 1) (dg_len _ _) (dg_dig _ _)
    rw [dg_val hVlt] at h2
    rcases Nat.eq_zero_or_pos ((dg (n + 2) (val lb * 2 ^ s)).getD (n + 1) 0) with e | e
    · exfalso
      rw [e,Nat.mul_zero,Nat.add_zero] at h2
      have h3:B64 ^ (n + 2)=B64 ^ (n + 1) * B64:=Nat.pow_succ _ _
      have h4:B64 ^ (n + 1) * 2≤B64 ^ (n + 1) * B64:=Nat.mul_le_mul_left _ (by decide)
      omega
    · exact e
  have hld:val (dg (n + 2) (val lb * 2 ^ s))=val lb * 2 ^ s:=dg_val hVlt
  have hlen:(dg (n + 2) (val lb * 2 ^ s)).length=n + 2:=dg_len _ _
  have hdgd:=dg_dig (n + 2) (val lb * 2 ^ s)
  obtain ⟨d,hd⟩:∃ d,d=la.length - (n + 2) + 1:=⟨_,rfl⟩
  have hdm:d + (n + 2)=la.length + 1:=by omega
  have hinit:=LI.init (b:=val lb) hda rfl rfl hdm hs64 hVge
  refine ⟨dg d (val la / val lb),dg_dig _ _,by rw [dg_len]; exact hd,?_,[.cells (u64s (dg (la.length + 1) (val la % val lb * 2 ^ s))) 92,.cells (u64s (dg (n + 3) (val lb * 2 ^ s))) 92,.cells (u64s (dg d (val la / val lb))) 92,.cells (u64s (dg (n + 2) (val la % val lb))) 92],?_,?_,?_⟩
  · refine dg_val ?_
    have h1:=hinit.lt
    have h2:=hinit.eq
    rw [val_zeros,Nat.zero_mul,Nat.zero_add] at h2
    rw [h2] at h1
    rw [Nat.div_lt_iff_lt_mul hbpos]
    rw [Nat.mul_right_comm,Nat.mul_comm (val lb) (B64 ^ d)] at h1
    exact Nat.lt_of_mul_lt_mul_right h1
  rotate_left
  · rw [List.getElem?_append_right (by omega)]; simp
  · rw [List.getElem?_append_right (by omega)]; simp
  rw [dg_len]
  have hleft1:=left_has (H:=H) (fun X=>ha _) (ha _) hm hda hs64
  have hleft2:=left_has (H:=H ++ [.cells (u64s (dg (la.length + 1) (val la * 2 ^ s))) 92]) (fun X=>hb _) (hb _) (by omega) hdb hs64
  rw [hn] at hleft2
  change Has _ _ _ (.sl _ 0 (n + 3) (some (n + 3)) 1) (H ++ [_] ++ [.cells (u64s (dg (n + 3) _)) _]) at hleft2
  have hne:H.length≠(H ++ [AObj.cells (u64s (dg (la.length + 1) (val la * 2 ^ s))) 92]).length:=by simp
  refine Has.of (l:=[leftE [([va,iA (s:Int)],H,_,_),([vb,iA (s:Int)],_,_,_)]]) (long_walk (mk_sound ⟨relX_ok ?_ _ rfl rfl,trivial⟩) (fun X=>⟨(ha X).len,(ha X).at_⟩) (fun X=>⟨(hb X).len,(hb X).at_⟩) hn rfl hm hnm hb1' hb2' hb3' (fun H=>hlead H) (relX_eq (two_fun hne) (.head _)) (relX_eq (two_fun hne) (.tail _ (.head _))) hs64 hbpos hVlt hVtop hd hinit)
  intro args X v X' h
  unfold listH at h
  simp only [List.mem_cons,List.not_mem_nil,or_false,Prod.mk.injEq] at h
  rcases h with ⟨rfl,rfl,rfl,rfl⟩ | ⟨rfl,rfl,rfl,rfl⟩
  · exact hleft1
  · exact hleft2
end
end Go.AM.C
namespace Go.AM.C
open Go.Proofs
noncomputable section
set_option maxRecDepth 100000 in
theorem made_np (n:Nat) (hb:(lims n).length < 4611686018427387904) (H:Heap):Has 107 [.isl (limbs n) 0 (limbs n).length none true] H (.obj (.np n)) H:=by
  have hs:∀ X,SlU S0 35 X (.isl (limbs n) 0 (limbs n).length none true) (lims n):=fun X=>slu_np n X
  refine does_pure s0 (show S0.fn 107=some Tryz.f107 by kernel_rfl) rfl (by kernel_rfl) (Nat.le_of_ble_eq_true rfl) rfl rfl ?_
  refine W.seq (W.region ?_)
  repeat refine WO.op rfl rfl ?_
  refine WO.nil (W.seq (W.block (W.fits (F':=fr [(0,.isl (limbs n) 0 (limbs n).length none true)]) (fits_fr ⟨rfl,trivial⟩) ?_)))
  refine W.loopI (fun _:Unit=>True) (fun _=>0) (fun _=>fr [(0,.isl (limbs n) 0 (limbs n).length none true)]) (fun _=>[]) ?_ () trivial
  intro _ _
  refine W.seq (W.seq (W.region ?_))
  refine WO.op rfl rfl ?_
  refine WO.op ((hs _).lenG rfl rfl rfl) rfl ?_
  by_cases h0:(lims n).length=0
  · refine WO.as (v':=.bool false) rfl rfl (bdF (by omega)) ?_
    refine WO.op rfl rfl ?_
    repeat refine WO.skip rfl ?_
    refine WO.op rfl rfl ?_
    refine WO.nil (W.cond (b:=false) rfl (fun h=>by cases h) (fun _=>W.exit ?_))
    refine W.seq (W.region ?_)
    repeat refine WO.op rfl rfl ?_
    exact WO.nil (W.ret ⟨trivial,_,rfl,seals_np_isl n⟩)
  · obtain ⟨k,hk⟩:∃ k,(lims n).length=k + 1:=⟨(lims n).length - 1,by omega⟩
    have hz:=noZ_lims n k hk
    obtain ⟨a1,a2,a3,ha1,ha2,ha3⟩:=(hs []).at_ k (by omega)
    generalize (lims n).getD k 0=x at *
    refine WO.as (v':=.bool true) rfl rfl (bdT (by omega)) ?_
    iterate 3 refine WO.op rfl rfl ?_
    refine WO.op ((hs _).lenG rfl rfl rfl) rfl ?_
    refine WO.as (v':=.int .i64 ((k:Nat):Int)) rfl rfl (int_i64 (by omega) (by omega)) ?_
    refine WO.op (SlU.idxG rfl rfl ha1) rfl ?_
    refine WO.op (SlU.loadG rfl tu rfl ha2 ha3) rfl ?_
    refine WO.as (v':=.bool false) rfl rfl (bdF (by omega)) ?_
    repeat refine WO.op rfl rfl ?_
    refine WO.nil (W.cond (b:=false) rfl (fun h=>by cases h) (fun _=>W.exit ?_))
    refine W.seq (W.region ?_)
    repeat refine WO.op rfl rfl ?_
    exact WO.nil (W.ret ⟨trivial,_,rfl,seals_np_isl n⟩)
set_option maxRecDepth 100000 in
theorem div_np (n m:Nat) (hm:m≠0) (hn:(lims n).length < 1048576) (hml:(lims m).length < 1048576) (H:Heap) :
    Has 52 [.obj (.np n),.obj (.np m)] H (.tup [.obj (.np (n / m)),.obj (.np (n % m)),.nili]) H:=by
  by_cases hmb:m < B64
  · exact divS_np n m hm hmb hn H
  have hl0:(lims m).length≠0:=fun h=>hm (lims_len_zero.1 h)
  have hl1:(lims m).length≠1:=fun h=>by
    have:=val_lt (dig_lims m)
    rw [h,val_lims] at this
    simp at this
    omega
  obtain ⟨k,hk⟩:∃ k,(lims m).length=k + 2:=⟨(lims m).length - 2,by omega⟩
  have tp:∀ X,SlU S0 35 X (.isl (limbs n) 0 (limbs n).length none true) (lims n):=fun X=>slu_np n X
  have tq:∀ X,SlU S0 35 X (.isl (limbs m) 0 (limbs m).length none true) (lims m):=fun X=>slu_np m X
  refine does_pure s0 (show S0.fn 52=some Tryz.f52 by kernel_rfl) rfl (by kernel_rfl) (Nat.le_of_ble_eq_true rfl) rfl rfl ?_
  refine W.seq (W.region ?_)
  refine WO.op rfl rfl ?_
  refine WO.op rfl rfl ?_
  refine WO.op rfl rfl (WO.nil (W.seq (W.region ?_)))
  refine WO.op rfl rfl ?_
  refine WO.call rfl (limbs_np n _) rfl ?_
  refine WO.op rfl rfl ?_
  refine WO.call rfl (limbs_np m _) rfl ?_
  refine WO.op rfl rfl ?_
  refine WO.op rfl rfl (WO.nil (W.seq (W.block ?_)))
  have hcmp:=fun X=>compare_sl (tp X) (tq X) (by omega) (by omega)
  have hmd:=made_np n (by omega)
  have hlong:=fun (h:¬ n < m)=>long_has (H:=[]) tp tq (dig_lims n) (dig_lims m) hk hn (by
    rw [← hk]
    rcases Nat.lt_or_ge (lims n).length (lims m).length with hl | hl
    · exact absurd (lims_len_lt hl) h
    · exact hl) (Nat.pos_of_ne_zero (noZ_lims m (k + 1) hk))
  rw [val_lims,val_lims] at hlong
  generalize hP:(AVal.isl (limbs n) 0 (limbs n).length none true)=vp at *
  generalize hQ:(AVal.isl (limbs m) 0 (limbs m).length none true)=vq at *
  refine W.seq (W.region ?_)
  refine WO.op rfl rfl ?_
  refine WO.op ((tq _).lenG rfl rfl rfl) rfl ?_
  refine WO.as (v':=.bool false) rfl rfl (bdF (by omega)) ?_
  refine WO.op rfl rfl (WO.nil (W.cond (b:=false) rfl (fun h=>by cases h) (fun _=>?_)))
  refine W.seq (W.region ?_)
  refine WO.op rfl rfl ?_
  refine WO.op rfl rfl ?_
  refine WO.call rfl (hcmp _) rfl ?_
  rw [cmpL_lims]
  by_cases hlt:n < m
  · rw [Nat.div_eq_of_lt hlt,Nat.mod_eq_of_lt hlt]
    refine WO.as (v':=.bool true) rfl rfl (bdT (by unfold cmpN; rw [if_pos hlt]; decide)) ?_
    refine WO.op rfl rfl (WO.nil (W.cond (b:=true) rfl (fun _=>?_) (fun h=>by cases h)))
    refine W.seq (W.region ?_)
    refine WO.call rfl (of_np 0 (by decide) _) rfl ?_
    refine WO.op rfl rfl ?_
    refine WO.call rfl (hmd _) rfl ?_
    refine WO.op rfl rfl ?_
    refine WO.op rfl rfl ?_
    exact WO.op rfl rfl (WO.nil (W.ret ⟨trivial,.tup [.obj (.np 0),.obj (.np n),.nili],rfl,Seals.same _ rfl⟩))
  · obtain ⟨Q,hQd,hQl,hQv,H',hlg,hH2,hH3⟩:=hlong hlt
    rw [List.nil_append] at hlg hH2 hH3
    have hmodlt:n % m < B64 ^ (k + 2):=Nat.lt_trans (Nat.mod_lt _ (Nat.pos_of_ne_zero hm)) (by
      have:=val_lt (dig_lims m)
      rwa [hk,val_lims] at this)
    change Has _ _ _ (.tup [.sl 2 0 Q.length (some Q.length) 1,.sl 3 0 (k + 2) (some (k + 2)) 1]) _ at hlg
    change H'[2]?=_ at hH2
    change H'[3]?=_ at hH3
    refine WO.as (v':=.bool false) rfl rfl (bdF (by unfold cmpN; rw [if_neg hlt]; split <;> omega)) ?_
    refine WO.op rfl rfl (WO.nil (W.cond (b:=false) rfl (fun h=>by cases h) (fun _=>?_)))
    refine W.seq (W.region ?_)
    refine WO.op rfl rfl ?_
    refine WO.op ((tq _).lenG rfl rfl rfl) rfl ?_
    refine WO.as (v':=.bool false) rfl rfl (bdF (by omega)) ?_
    refine WO.op rfl rfl (WO.nil (W.cond (b:=false) rfl (fun h=>by cases h) (fun _=>W.skip ?_)))
    refine W.seq (W.region ?_)
    refine WO.op rfl rfl ?_
    refine WO.op rfl rfl ?_
    refine WO.call rfl hlg rfl ?_
    iterate 4 refine WO.op rfl rfl ?_
    refine WO.op rfl rfl (WO.nil (W.seq (W.region ?_)))
    refine WO.op rfl rfl ?_
    refine WO.call rfl (made_sl 2 Q Q.length Q.length _ 92 hH2 (Nat.le_refl _) (Nat.le_refl _) (by omega)) rfl ?_
    refine WO.op rfl rfl ?_
    refine WO.call rfl (made_sl 3 (dg (k + 2) (n % m)) (k + 2) (k + 2) _ 92 hH3 (by rw [dg_len]; omega) (Nat.le_refl _) (by omega)) rfl ?_
    refine WO.op rfl rfl ?_
    refine WO.op rfl rfl ?_
    refine WO.op rfl rfl (WO.nil (W.ret ⟨trivial,.tup [.ip [.sl 2 0 (trimN Q Q.length) (some Q.length) 1] 0 false,.ip [.sl 3 0 (trimN (dg (k + 2) (n % m)) (k + 2)) (some (k + 2)) 1] 0 false,.nili],rfl,?_⟩))
    refine seals_tup3 (seals_np hH2 (trimN_le _ _) (trim_of hQd rfl hQv)) (seals_np hH3 (by have:=trimN_le (dg (k + 2) (n % m)) (k + 2); rw [dg_len]; exact this) (trim_of (dg_dig _ _) (dg_len _ _).symm (dg_val hmodlt))) (Seals.same _ rfl)
end
end Go.AM.C
namespace Go.AM.C.BK
open Go.Proofs
noncomputable section
theorem fit_prod {a b:Nat} (ha:a≤9223372036854775808) (hb:b < 18446744073709551616):Fit (a * b):=by
  have h:a * b < B64 ^ 2:=by
    refine Nat.lt_of_le_of_lt (Nat.mul_le_mul ha (Nat.le_of_lt hb)) ?_
    decide
  have:=lims_len_le h
  unfold Fit
  omega
def smI (z:Int):Int:=bif small64 z then z else 0
def outsA (t:Int) (l:List Nat):List AVal:=l.map fun (p:Nat)=>iA (smI (sz (decide (t < 0)) p))
theorem outs_len (t:Int) (l:List Nat):(outsA t l).length=l.length:=by unfold outsA; simp
theorem outs_take (t:Int) {l:List Nat} {k:Nat} (h:k < l.length):outsA t (l.take k) ++ [iA (smI (sz (decide (t < 0)) (l.getD k 0)))]=outsA t (l.take (k + 1)):=by
  rw [takeD h]; unfold outsA; rw [List.map_append]; rfl
theorem outs_closed (t:Int) (l:List Nat):∀ a∈outsA t l,a.closed1=true:=by
  intro a ha
  unfold outsA at ha
  obtain ⟨x,_,rfl⟩:=List.mem_map.1 ha
  rfl
theorem fit2 {n:Nat} (h:n < 340282366920938463463374607431768211456):Fit n:=by
  have:(lims n).length≤2:=lims_len_le (k:=2) h
  unfold Fit
  omega
theorem sum_bound {M:Nat}:∀ (l:List Nat),(∀ x∈l,x < M)→l.sum≤l.length * M
  | [],_=>by simp
  | x :: l,h=>by
    have h1:=h x List.mem_cons_self
    have h2:=sum_bound l fun y hy=>h y (List.mem_cons_of_mem _ hy)
    rw [List.sum_cons,List.length_cons,Nat.add_mul,Nat.one_mul]
    omega
theorem mem_le_sum {x:Nat}:∀ {l:List Nat},x∈l→x≤l.sum
  | y :: l,h=>by
    rw [List.sum_cons]
    rcases List.mem_cons.1 h with rfl | h
    · omega
    · have:=mem_le_sum h
      omega
theorem bump_snoc (i:Nat):∀ (o l:List Nat),bumpN (o ++ [i]) l=(bumpN o l).set i ((bumpN o l).getD i 0 + 1)
  | [],l=>rfl
  | j :: o,l=>bump_snoc i o _
theorem bump_le {B:Nat}:∀ (o l:List Nat) (c:Nat),(∀ x∈l,x≤B + c)→∀ x∈bumpN o l,x≤B + c + o.length
  | [],l,c,h,x,hx=>h x hx
  | i :: o,l,c,h,x,hx=>by
    have:=bump_le (B:=B) o (l.set i (l.getD i 0 + 1)) (c + 1) (fun y hy=>by
      rcases List.mem_or_eq_of_mem_set hy with hy | rfl
      · have:=h y hy; omega
      · by_cases hi:i < l.length
        · have:=h _ (getD_mem hi); omega
        · rw [List.getD_eq_getElem?_getD,List.getElem?_eq_none (by omega)]; simp; omega) x hx
    rw [List.length_cons]
    omega
theorem nps_set (l:List Nat) (j x:Nat):(nps l).set j (.obj (.np x))=nps (l.set j x):=by unfold nps; rw [List.map_set]
set_option maxRecDepth 100000 in
set_option maxHeartbeats 4000000 in
theorem parts_big (t:Int) (ht:i64 t) (sh:List Nat) (hs:∀ s∈sh,s < 9223372036854775808) (h20:sh.length≤20) (h0:0 < sh.sum) (H:Heap) :
    Has 10 [iA t,.isl (ints sh) 0 sh.length none true] H (.tup [.isl (outsA t (partsN t.natAbs sh)) 0 sh.length none true,.nili]) H:=by
  have hS:sh.sum < 340282366920938463463374607431768211456:=by
    have:=sum_bound (M:=9223372036854775808) sh hs
    omega
  have hSl:(lims sh.sum).length < 1048576:=by
    have:(lims sh.sum).length≤2:=lims_len_le (k:=2) hS
    omega
  have hl0:0 < sh.length:=by
    cases sh with
    | nil=>simp at h0
    | cons=>simp
  have hA:t.natAbs≤9223372036854775808:=by unfold i64 at ht; omega
  have hicl:(AVal.isl (ints sh) 0 sh.length none true).closed=true:=rfl
  have hcont:=contains_has sh hs (by omega)
  refine unB (l:=[nofE,naddE]) ?_
  refine does_pure sB (show SB.fn 10=some Tryz.f10 by kernel_rfl) rfl (by kernel_rfl) (Nat.le_of_ble_eq_true rfl) rfl rfl ?_
  refine W.seq (W.region ?_)
  refine WO.op rfl rfl ?_
  refine WO.op rfl rfl (WO.nil (W.seq (W.region ?_)))
  refine WO.op rfl rfl ?_
  refine WO.call rfl (inB (hcont _)) rfl ?_
  refine WO.op rfl rfl (WO.nil (W.seq (W.seq (W.region ?_))))
  refine WO.op rfl rfl ?_
  refine WO.op rfl rfl ?_
  refine WO.as (v':=.bool false) rfl rfl (bdF (by omega)) ?_
  iterate 3 refine WO.op rfl rfl ?_
  refine WO.as (v':=.bool false) rfl rfl (bdF (by omega)) ?_
  iterate 3 refine WO.op rfl rfl ?_
  refine WO.op rfl rfl (WO.nil (W.cond (b:=false) rfl (fun h=>by cases h) (fun _=>W.skip ?_)))
  refine W.seq (W.region ?_)
  refine WO.call rfl (inB (of_np 0 (by decide) _)) rfl ?_
  refine WO.op rfl rfl (WO.nil ?_)
  refine W.mid (H1:=[]) [(0,iA t),(1,.isl (ints sh) 0 sh.length none true),(7,.obj (.np sh.sum))] ?_ ?_
  · refine W.seq (W.region ?_)
    refine WO.op rfl rfl ?_
    refine WO.op rfl rfl ?_
    refine WO.op rfl rfl (WO.nil (W.block ?_))
    refine W.fits (F':=fr [(0,iA t),(1,.isl (ints sh) 0 sh.length none true),(7,.obj (.np (sh.take 0).sum)),(44,.isl (ints sh) 0 sh.length none true),(45,iA (sh.length:Int)),(46,iA ((0:Nat):Int))]) (fits_fr ⟨rfl,rfl,rfl,rfl,rfl,rfl,trivial⟩) ?_
    refine W.loopI (fun k:Nat=>k≤sh.length) (fun k=>sh.length - k) (fun k=>fr [(0,iA t),(1,.isl (ints sh) 0 sh.length none true),(7,.obj (.np (sh.take k).sum)),(44,.isl (ints sh) 0 sh.length none true),(45,iA (sh.length:Int)),(46,iA (k:Int))]) (fun _=>[]) ?_ 0 (Nat.zero_le _)
    intro k hk
    refine W.seq (W.region ?_)
    by_cases hlt:k < sh.length
    · have hsk:=hs _ (getD_mem hlt)
      have hsum:=sum_takeD hlt
      have hsum2:=sum_take_le sh (k + 1)
      refine WO.as (v':=.bool true) rfl rfl (bdT (by omega)) (WO.nil (W.seq (W.cond (b:=true) rfl (fun _=>W.skip ?_) (fun h=>by cases h))))
      refine W.seq (W.block (W.seq (W.region ?_)))
      refine WO.op (G.idx_isl rfl rfl bL rfl bl (by omega) (by omega)) rfl ?_
      refine WO.op (G.load_ip rfl bl rfl (show (ints sh)[0 + ((k:Nat):Int).toNat * 1]?=some (iA (sh.getD k 0:Nat)) by rw [idx0]; exact ints_at hlt)) rfl ?_
      refine WO.op rfl rfl (WO.nil (W.region ?_))
      refine WO.op rfl rfl ?_
      refine WO.op rfl rfl ?_
      refine WO.as (v':=.int .u64 ((sh.getD k 0:Nat):Int)) rfl rfl (int_u64 (by omega) rfl) ?_
      refine WO.call rfl (inB (of_np (sh.getD k 0) (by unfold B64; omega) _)) rfl ?_
      refine WO.call rfl (inB (add_np (sh.take k).sum (sh.getD k 0) (fit2 (by omega)) (fit_small (by unfold B64; omega)) _)) rfl ?_
      refine WO.op rfl rfl (WO.nil (W.region ?_))
      refine WO.as (v':=iA ((k + 1:Nat):Int)) rfl rfl (int_i64 (by omega) (by omega)) ?_
      exact WO.op rfl rfl (WO.nil ⟨k + 1,by omega,by omega,fits_fr ⟨rfl,rfl,by rw [hsum]; rfl,rfl,rfl,rfl,trivial⟩,rfl⟩)
    · have hke:k=sh.length:=by omega
      subst hke
      refine WO.as (v':=.bool false) rfl rfl (bdF (by omega)) (WO.nil (W.seq (W.cond (b:=false) rfl (fun h=>by cases h) (fun _=>W.exit ?_))))
      refine ⟨rfl,⟨rfl,rfl,?_,trivial⟩,rfl⟩
      show AVal.obj (.np (sh.take sh.length).sum)=_
      rw [List.take_length]
  refine W.seq (W.seq (W.region ?_))
  refine WO.op rfl rfl ?_
  refine WO.call rfl (inB (zero_np sh.sum _)) rfl (WO.nil (W.cond (b:=false) (by show AVal.bool (decide _)=_; exact bdF (by omega)) (fun h=>by cases h) (fun _=>W.skip ?_)))
  refine W.seq (W.region ?_)
  refine WO.op rfl rfl ?_
  refine WO.call rfl (inB (ofz t ht _)) rfl ?_
  refine WO.op rfl rfl (WO.nil (W.seq (W.region ?_)))
  refine WO.op rfl rfl ?_
  refine WO.call rfl (inB (absz (IsZ.mk t) _)) rfl ?_
  refine WO.op rfl rfl (WO.nil (W.seq (W.region ?_)))
  refine WO.op rfl rfl ?_
  refine WO.op rfl rfl (WO.nil (W.seq (W.region ?_)))
  refine WO.op rfl rfl (WO.nil ?_)
  generalize hAe:t.natAbs=A at *
  refine W.midE (α:=Heap×AVal×AVal×AVal) (fun x=>St A sh.sum sh sh.length x.1 x.2.1 x.2.2.1 x.2.2.2)
    (fun x=>[(0,iA t),(11,.obj (.np (missN A sh))),(12,x.2.1),(13,.ptr 0 0),(14,x.2.2.2)]) (fun x=>x.1) ?_ ?_
  · refine W.seq (W.region ?_)
    refine WO.op rfl rfl ?_
    refine WO.op rfl rfl ?_
    refine WO.op rfl rfl (WO.nil (W.block ?_))
    refine W.fits (F':=fr [(0,iA t),(1,.isl (ints sh) 0 sh.length none true),(7,.obj (.np sh.sum)),(10,.obj (.zp t)),(11,.obj (.np (A - ((qsN A sh.sum sh).take 0).sum))),(12,.nils),(13,.ptr 0 0),(14,.nils),(63,.isl (ints sh) 0 sh.length none true),(64,iA (sh.length:Int)),(65,iA ((0:Nat):Int))]) (fits_fr ⟨rfl,rfl,rfl,rfl,rfl,rfl,rfl,rfl,rfl,rfl,rfl,trivial⟩) ?_
    refine W.loopI (α:=Nat×Heap×AVal×AVal×AVal) (fun x=>St A sh.sum sh x.1 x.2.1 x.2.2.1 x.2.2.2.1 x.2.2.2.2) (fun x=>sh.length - x.1)
      (fun x=>fr [(0,iA t),(1,.isl (ints sh) 0 sh.length none true),(7,.obj (.np sh.sum)),(10,.obj (.zp t)),(11,.obj (.np (A - ((qsN A sh.sum sh).take x.1).sum))),(12,x.2.2.1),(13,.ptr 0 0),(14,x.2.2.2.2),(63,.isl (ints sh) 0 sh.length none true),(64,iA (sh.length:Int)),(65,iA (x.1:Int))]) (fun x=>x.2.1) ?_
      (0,[.cells [.nils] 97],.nils,.nils,.nils) ⟨Nat.zero_le _,.inl ⟨rfl,rfl⟩,.inl ⟨rfl,rfl⟩,.inl ⟨rfl,rfl⟩,rfl,(fun h=>by cases h),(fun h=>by cases h),(fun h=>by cases h),(fun _ h=>by cases h),(fun _ h=>by cases h),(fun _ h=>by cases h)⟩
    rintro ⟨k,Y,vp,vr,vo⟩ hst
    simp only at hst ⊢
    change W _ _ _ _ (fr [(0,iA t),(1,.isl (ints sh) 0 sh.length none true),(7,.obj (.np sh.sum)),(10,.obj (.zp t)),(11,.obj (.np (A - ((qsN A sh.sum sh).take k).sum))),(12,vp),(13,.ptr 0 0),(14,vo),(63,.isl (ints sh) 0 sh.length none true),(64,iA (sh.length:Int)),(65,iA (k:Int))]) Y _
    refine W.seq (W.region ?_)
    by_cases hlt:k < sh.length
    · have hsk:=hs _ (getD_mem hlt)
      have hqs:=qs_sum_le (A:=A) h0
      have hqt:=sum_take_le (qsN A sh.sum sh) (k + 1)
      have hqd:=sum_takeD (l:=qsN A sh.sum sh) (k:=k) (by rw [qs_len]; exact hlt)
      rw [qs_getD hlt] at hqd
      have hfa:Fit (A * sh.getD k 0):=fit_prod hA (by omega)
      have hfs:(lims (A * sh.getD k 0)).length < 1048576:=by
        have:(lims (A * sh.getD k 0)).length≤2:=lims_len_le (Nat.lt_of_le_of_lt (Nat.mul_le_mul hA (Nat.le_of_lt hsk)) (by decide))
        omega
      obtain ⟨G1,G2,G3,vp',vr',vo',a1,a2,a3,c1,c2,c3,hce,hst'⟩:=hst.step hlt (by omega)
      have hbq:=hst.r.beq
      have hc0:=hst.c
      refine WO.as (v':=.bool true) rfl rfl (bdT (by omega)) (WO.nil (W.seq (W.cond (b:=true) rfl (fun _=>W.skip ?_) (fun h=>by cases h))))
      refine W.seq (W.block (W.seq (W.region ?_)))
      refine WO.op rfl rfl ?_
      refine WO.op (G.idx_isl rfl rfl bL rfl bl (by omega) (by omega)) rfl ?_
      refine WO.op (G.load_ip rfl bl rfl (show (ints sh)[0 + ((k:Nat):Int).toNat * 1]?=some (iA (sh.getD k 0:Nat)) by rw [idx0]; exact ints_at hlt)) rfl ?_
      refine WO.op rfl rfl ?_
      refine WO.op rfl rfl (WO.nil (W.seq (W.region ?_)))
      refine WO.op rfl rfl ?_
      refine WO.call rfl (inB (absz (IsZ.mk t) _)) rfl ?_
      rw [hAe]
      refine WO.op rfl rfl ?_
      refine WO.as (v':=.int .u64 ((sh.getD k 0:Nat):Int)) rfl rfl (int_u64 (by omega) rfl) ?_
      refine WO.call rfl (inB (of_np (sh.getD k 0) (by unfold B64; omega) _)) rfl ?_
      refine WO.call rfl (inB (mul_np A (sh.getD k 0) (fit_small (by unfold B64; omega)) (fit_small (by unfold B64; omega)) _)) rfl ?_
      refine WO.op rfl rfl ?_
      refine WO.call rfl (inB (div_np (A * sh.getD k 0) sh.sum (by omega) hfs hSl _)) rfl ?_
      iterate 6 refine WO.op rfl rfl ?_
      refine WO.op rfl rfl (WO.nil (W.seq (W.region ?_)))
      refine WO.op rfl rfl ?_
      refine WO.op rfl rfl ?_
      refine WO.call rfl (inB (sub_np (A - ((qsN A sh.sum sh).take k).sum) (A * sh.getD k 0 / sh.sum) (fit_small (by unfold B64; omega)) (fit_small (by unfold B64; omega)) _)) rfl ?_
      rw [if_neg (by omega)]
      iterate 3 refine WO.op rfl rfl ?_
      refine WO.op rfl rfl (WO.nil ?_)
      have hmi:A - ((qsN A sh.sum sh).take k).sum - A * sh.getD k 0 / sh.sum=A - ((qsN A sh.sum sh).take (k + 1)).sum:=by omega
      rw [hmi]
      generalize hmi2:A - ((qsN A sh.sum sh).take (k + 1)).sum=mi
      generalize A * sh.getD k 0 / sh.sum=q at *
      generalize A * sh.getD k 0 % sh.sum=r at *
      refine W.drawK0 [92] (fun X=>X[0]?=some (.cells [vr] 97)) 13 (by rfl) (by kernel_rfl) ?_
      iterate 3 refine WK.op rfl rfl rfl rfl hc0 hc0 ?_
      refine WK.op (a1 (cap2:=some 1) (cl:=true) rfl rfl rfl bN rfl bn rfl (by decide)) rfl rfl rfl hc0 c1 ?_
      refine WK.free c1 (fun X hX=>G.load_ptr rfl bN rfl hX rfl) rfl rfl hbq ?_
      refine WK.op rfl rfl rfl rfl c1 c1 ?_
      refine WK.op rfl rfl rfl rfl c1 c1 ?_
      refine WK.op (a2 (cap2:=some 1) (cl:=true) rfl rfl rfl bN rfl bn rfl (by decide)) rfl rfl rfl c1 c2 ?_
      iterate 3 refine WK.op rfl rfl rfl rfl c2 c2 ?_
      refine WK.op (a3 (cap2:=some 1) (cl:=true) rfl rfl rfl bI rfl bi rfl (by decide)) rfl rfl rfl c2 c3 ?_
      refine WK.op rfl rfl rfl rfl c3 c3 ?_
      refine WK.tail ?_
      refine WT.op (G.store_ptr (v:=vr') rfl rfl hce bN rfl c3 (by simp)) rfl rfl ?_
      refine WT.op rfl rfl rfl (WT.nil (W.region ?_))
      refine WO.as (v':=iA ((k + 1:Nat):Int)) rfl rfl (int_i64 (by omega) (by omega)) ?_
      exact WO.op rfl rfl (WO.nil ⟨(k + 1,G3.set 0 (.cells [vr'] 97),vp',vr',vo'),hst',by simp only; omega,fits_fr ⟨rfl,rfl,rfl,rfl,Eq.trans (b:=.obj (.np mi)) rfl (by rw [← hmi2]),rfl,rfl,rfl,rfl,rfl,rfl,trivial⟩,rfl⟩)
    · have hke:k=sh.length:=by have:=hst.hk; omega
      subst hke
      refine WO.as (v':=.bool false) rfl rfl (bdF (by omega)) (WO.nil (W.seq (W.cond (b:=false) rfl (fun h=>by cases h) (fun _=>W.exit ?_))))
      refine ⟨rfl,(Y,vp,vr,vo),hst,⟨rfl,?_,rfl,rfl,rfl,trivial⟩,rfl⟩
      show AVal.obj (.np (A - ((qsN A sh.sum sh).take sh.length).sum))=_
      rw [List.take_of_length_le (by rw [qs_len]; exact Nat.le_refl _)]
      rfl
  rintro ⟨Y,vp,vr,vo⟩ hst
  simp only at hst ⊢
  have hqn:nps ((qsN A sh.sum sh).take sh.length)≠[]:=fun e=>by have:=congrArg List.length e; rw [nps_len,List.length_take,qs_len] at this; rw [List.length_nil] at this; omega
  have hrn:nps ((rsN A sh.sum sh).take sh.length)≠[]:=fun e=>by have:=congrArg List.length e; rw [nps_len,List.length_take,rs_len] at this; rw [List.length_nil] at this; omega
  have hon:ints (List.range sh.length)≠[]:=fun e=>by have:=congrArg List.length e; rw [ints_len,List.length_range] at this; rw [List.length_nil] at this; omega
  obtain ⟨a,rfl,ea,ha⟩:=hst.p.cons hqn
  obtain ⟨b,rfl,eb,hb⟩:=hst.r.cons hrn
  obtain ⟨o,rfl,eo,ho⟩:=hst.o.cons hon
  have hc:=hst.c
  have ha0:a≠0:=fun e=>hst.p0 (by rw [ea,e])
  have hb0:b≠0:=fun e=>hst.r0 (by rw [eb,e])
  have ho0:o≠0:=fun e=>hst.o0 (by rw [eo,e])
  have hao:a≠o:=fun e=>hst.po a ea (by rw [eo,e])
  have hbo:b≠o:=fun e=>hst.ro b eb (by rw [eo,e])
  have hab:a≠b:=fun e=>hst.pr a ea (by rw [eb,e])
  rw [List.take_of_length_le (by rw [qs_len]; exact Nat.le_refl _)] at ha
  rw [List.take_of_length_le (by rw [rs_len]; exact Nat.le_refl _)] at hb hc
  rw [List.take_of_length_le (by rw [qs_len]; exact Nat.le_refl _)]
  rw [nps_len,rs_len] at hc
  rw [nps_len,qs_len,ints_len,List.length_range]
  clear hst hqn hrn hon ea eb eo
  have hrests:RestsAt Y 0 b (rsN A sh.sum sh):=⟨by rw [rs_len]; exact hc,hb,fun x hx=>by
    obtain ⟨s,_,rfl⟩:=List.mem_map.1 hx
    exact fit2 (Nat.lt_trans (Nat.mod_lt _ h0) hS)⟩
  have hsort:=fun cap=>sort_has (cap:=cap) ho hrests ho0 (Ne.symm hbo) (by intro x hx; rw [rs_len]; exact List.mem_range.1 hx) (by rw [List.length_range]; exact hl0) (by rw [List.length_range]; exact h20)
  rw [List.length_range] at hsort
  change ∀ cap,Has _ _ _ _ (Y.set o (oC (ordN A sh))) at hsort
  have hmiss:=miss_lt (A:=A) h0
  have hmA:missN A sh≤A:=by unfold missN; omega
  have hordl:=ord_len A sh
  have hordm:=ord_lt A sh hl0
  have hYo:o < Y.length:=(List.getElem?_eq_some_iff.1 ho).1
  have ha1:(Y.set o (oC (ordN A sh)))[a]?=some (.cells (nps (qsN A sh.sum sh)) 90):=by rw [List.getElem?_set_ne (Ne.symm hao)]; exact ha
  have ho1:(Y.set o (oC (ordN A sh)))[o]?=some (oC (ordN A sh)):=List.getElem?_set_self hYo
  have hpe:partsN A sh=bumpN ((ordN A sh).take (missN A sh)) (qsN A sh.sum sh):=rfl
  generalize partsN A sh=PR at hpe ⊢
  have hql:=qs_len A sh.sum sh
  have hqf:∀ x∈qsN A sh.sum sh,x≤A:=fun x hx=>by
    have:=mem_le_sum hx
    have:=qs_sum_le (A:=A) h0
    omega
  generalize missN A sh=M at *
  generalize qsN A sh.sum sh=Q at *
  generalize ordN A sh=O at *
  have hZl:(Y.set o (oC O)).length=Y.length:=List.length_set
  generalize Y.set o (oC O)=Z at *
  have hZa:a < Z.length:=(List.getElem?_eq_some_iff.1 ha1).1
  generalize hn:sh.length=n at *
  clear hcont hs hS hc hb hrests ho ha
  refine W.seq (W.region ?_)
  refine WO.op rfl rfl ?_
  refine WO.op rfl rfl ?_
  refine WO.call rfl (inB (hsort _)) rfl (WO.nil (W.seq (W.region ?_)))
  refine WO.op rfl rfl ?_
  refine WO.call rfl (inB (small_np M _)) rfl ?_
  rw [if_pos (show M < B64 by unfold B64; omega)]
  iterate 4 refine WO.op rfl rfl ?_
  refine WO.op rfl rfl (WO.nil ?_)
  refine W.mid (H1:=Z.set a (.cells (nps PR) 90)) [(0,iA t),(12,.sl a 0 n none 1)] ?_ ?_
  · refine W.seq (W.region ?_)
    refine WO.op rfl rfl ?_
    refine WO.op rfl rfl ?_
    refine WO.op (G.slice_sl (l:=0) (h:=M) rfl bI rfl bi rfl rfl ⟨_,rfl⟩ (by omega) (by simp; omega) (by simp)) rfl ?_
    refine WO.op rfl rfl ?_
    refine WO.op rfl rfl (WO.nil (W.block ?_))
    refine W.heq (H':=Z.set a (.cells (nps (bumpN (O.take 0) Q)) 90)) (set_same ha1).symm ?_
    refine W.fits (F':=fr [(0,iA t),(12,.sl a 0 n none 1),(111,.sl o 0 M none 1),(112,iA (M:Int)),(113,iA ((0:Nat):Int))]) (fits_fr ⟨rfl,rfl,rfl,rfl,rfl,trivial⟩) ?_
    refine W.loopI (fun k:Nat=>k≤M) (fun k=>M - k) (fun k=>fr [(0,iA t),(12,.sl a 0 n none 1),(111,.sl o 0 M none 1),(112,iA (M:Int)),(113,iA (k:Int))]) (fun k=>Z.set a (.cells (nps (bumpN (O.take k) Q)) 90)) ?_ 0 (Nat.zero_le _)
    intro k hk
    refine W.seq (W.region ?_)
    by_cases hlt:k < M
    · have hkO:k < O.length:=by omega
      have hi:=hordm _ (getD_mem hkO)
      have hot:O.take (k + 1)=O.take k ++ [O.getD k 0]:=takeD hkO
      have hbs:=bump_snoc (O.getD k 0) (O.take k) Q
      rw [← hot] at hbs
      have hbl:=bump_len (O.take k) Q
      have hbf:=bump_le (B:=A) (O.take k) Q 0 (fun x hx=>hqf x hx)
      rw [List.length_take] at hbf
      have hge:=hbf _ (getD_mem (l:=bumpN (O.take k) Q) (j:=O.getD k 0) (by omega))
      have hX1:(Z.set a (.cells (nps (bumpN (O.take k) Q)) 90))[o]?=some (oC O):=by rw [List.getElem?_set_ne hao]; exact ho1
      have hX2:(Z.set a (.cells (nps (bumpN (O.take k) Q)) 90))[a]?=some (.cells (nps (bumpN (O.take k) Q)) 90):=List.getElem?_set_self hZa
      have hl1:(ints O)[0 + ((k:Nat):Int).toNat * 1]?=some (iA (O.getD k 0:Nat)):=by rw [idx0]; exact ints_at hkO
      generalize O.getD k 0=i at *
      have hl2:(nps (bumpN (O.take k) Q))[0 + ((i:Nat):Int).toNat * 1]?=some (.obj (.np ((bumpN (O.take k) Q).getD i 0))):=by rw [idx0]; exact nps_at (by omega)
      refine WO.as (v':=.bool true) rfl rfl (bdT (by omega)) (WO.nil (W.seq (W.cond (b:=true) rfl (fun _=>W.skip ?_) (fun h=>by cases h))))
      refine W.seq (W.block (W.seq (W.region ?_)))
      refine WO.op (G.idx_sl rfl rfl bI rfl bi rfl (by omega) (by omega)) rfl ?_
      refine WO.op (G.load_ptr rfl bi rfl hX1 hl1) rfl ?_
      refine WO.op rfl rfl (WO.nil (W.draw0 rfl (by kernel_rfl) ?_))
      iterate 4 refine WT.op rfl rfl rfl ?_
      refine WT.op (G.idx_sl rfl rfl bN rfl bn rfl (by omega) (by omega)) rfl rfl ?_
      refine WT.op (G.load_ptr rfl bn rfl hX2 hl2) rfl rfl ?_
      refine WT.op (nofB (n:=1) (by decide) _) rfl rfl ?_
      refine WT.op (naddB (fit_small (by unfold B64; omega)) (fit_small (by decide)) _) rfl rfl ?_
      refine WT.op (G.idx_sl rfl rfl bN rfl bn rfl (by omega) (by omega)) rfl rfl ?_
      refine WT.op (G.store_ptr (v:=.obj (.np ((bumpN (O.take k) Q).getD i 0 + 1))) rfl rfl rfl bn rfl hX2 (by rw [idx0,nps_len]; omega)) rfl rfl (WT.nil (W.region ?_))
      refine WO.as (v':=iA ((k + 1:Nat):Int)) rfl rfl (int_i64 (by omega) (by omega)) ?_
      refine WO.op rfl rfl (WO.nil ⟨k + 1,by omega,by omega,fits_fr ⟨rfl,rfl,rfl,rfl,rfl,trivial⟩,?_⟩)
      rw [idx0,nps_set,List.set_set,hbs]
    · have hke:k=M:=by omega
      subst hke
      refine WO.as (v':=.bool false) rfl rfl (bdF (by omega)) (WO.nil (W.seq (W.cond (b:=false) rfl (fun h=>by cases h) (fun _=>W.exit ?_))))
      refine ⟨rfl,⟨rfl,rfl,trivial⟩,?_⟩
      rw [hpe]
  have hPl:PR.length=n:=by rw [hpe,bump_len,hql]
  have hZ1:(Z.set a (.cells (nps PR) 90))[a]?=some (.cells (nps PR) 90):=List.getElem?_set_self hZa
  generalize Z.set a (.cells (nps PR) 90)=Z' at hZ1 ⊢
  clear hpe hqf hql hordm hordl ho1 ha1 hsort hYo hZa
  refine W.seq (W.region ?_)
  refine WO.op rfl rfl (WO.nil (W.seq (W.seq (W.region ?_))))
  refine WO.op rfl rfl ?_
  refine WO.op rfl rfl ?_
  refine WO.op rfl rfl (WO.nil (W.block ?_))
  refine W.fits (F':=fr [(0,iA t),(24,.nils),(127,.sl a 0 n none 1),(128,iA (n:Int)),(129,iA ((0:Nat):Int))]) (fits_fr ⟨rfl,rfl,rfl,rfl,rfl,trivial⟩) ?_
  refine W.loopI (α:=Nat×Heap×AVal) (fun x=>x.1≤n∧RowK x.2.1 x.2.2 (outsA t (PR.take x.1)) 2∧x.2.1[a]?=some (.cells (nps PR) 90)∧idK x.2.2≠some a) (fun x=>n - x.1)
    (fun x=>fr [(0,iA t),(24,x.2.2),(127,.sl a 0 n none 1),(128,iA (n:Int)),(129,iA (x.1:Int))]) (fun x=>x.2.1) ?_ (0,Z',.nils) ⟨Nat.zero_le _,.inl ⟨rfl,rfl⟩,hZ1,(fun h=>by cases h)⟩
  rintro ⟨k,X,vo⟩ ⟨hk,hr,hXa,hne⟩
  simp only at hk hr hXa hne ⊢
  change W _ _ _ _ (fr [(0,iA t),(24,vo),(127,.sl a 0 n none 1),(128,iA (n:Int)),(129,iA (k:Int))]) X _
  refine W.seq (W.region ?_)
  by_cases hlt:k < n
  · have hl2:(nps PR)[0 + ((k:Nat):Int).toNat * 1]?=some (.obj (.np (PR.getD k 0))):=by rw [idx0]; exact nps_at (by omega)
    have hot:=outs_take t (l:=PR) (k:=k) (by omega)
    have hXl:a < X.length:=(List.getElem?_eq_some_iff.1 hXa).1
    have hsm:smallA (sz (decide (t < 0)) (PR.getD k 0))=.tup [iA (smI (sz (decide (t < 0)) (PR.getD k 0))),.bool (small64 (sz (decide (t < 0)) (PR.getD k 0)))]:=rfl
    generalize hsmI:smI (sz (decide (t < 0)) (PR.getD k 0))=z at hot hsm
    have hsmz:=smallz (IsZ.mk (sz (decide (t < 0)) (PR.getD k 0)))
    rw [hsm] at hsmz
    obtain ⟨X',hden,hXl',hr',hkeep⟩:=(hr.mono (H':=X ++ [.cells [iA z] 2]) fun j hj=>app_lt (hr.lt hj)).app2 2 (iA z) rfl (by rw [outs_len,List.length_take]; omega) (app_at rfl)
    rw [hot] at hr' hden
    refine WO.as (v':=.bool true) rfl rfl (bdT (by omega)) (WO.nil (W.seq (W.cond (b:=true) rfl (fun _=>W.skip ?_) (fun h=>by cases h))))
    refine W.seq (W.block (W.seq (W.region ?_)))
    refine WO.op (G.idx_sl rfl rfl bN rfl bn rfl (by omega) (by omega)) rfl ?_
    refine WO.op (G.load_ptr rfl bn rfl hXa hl2) rfl ?_
    refine WO.op rfl rfl (WO.nil (W.seq (W.region ?_)))
    iterate 3 refine WO.op rfl rfl ?_
    refine WO.call rfl (inB (new_zp (decide (t < 0)) (PR.getD k 0) _)) rfl ?_
    refine WO.call rfl (inB (hsmz _)) rfl ?_
    iterate 4 refine WO.op rfl rfl ?_
    refine WO.op rfl rfl (WO.nil (W.region ?_))
    iterate 3 refine WO.op rfl rfl ?_
    refine WO.op (hden (cap2:=some 1) rfl rfl rfl bL rfl bl rfl (by decide)) rfl ?_
    refine WO.op rfl rfl (WO.nil (W.region ?_))
    refine WO.as (v':=iA ((k + 1:Nat):Int)) rfl rfl (int_i64 (by omega) (by omega)) ?_
    have hal:(X ++ [AObj.cells [iA z] 2]).length=X.length + 1:=by simp
    refine WO.op rfl rfl (WO.nil ⟨(k + 1,X',.sl (X ++ [AObj.cells [iA z] 2]).length 0 (outsA t (PR.take (k + 1))).length none 1),⟨by simp only; omega,hr',?_,?_⟩,by simp only; omega,fits_fr ⟨rfl,rfl,rfl,rfl,rfl,trivial⟩,rfl⟩)
    · rw [hkeep a (by omega) hne,app_lt hXl]; exact hXa
    · intro e
      injection e with e
      omega
  · have hke:k=n:=by omega
    subst hke
    refine WO.as (v':=.bool false) rfl rfl (bdF (by omega)) (WO.nil (W.seq (W.cond (b:=false) rfl (fun h=>by cases h) (fun _=>W.exit ?_))))
    rw [List.take_of_length_le (by omega)] at hr
    obtain ⟨id,rfl,_,hid⟩:=hr.cons (fun e=>by have:=congrArg List.length e; rw [outs_len,List.length_nil] at this; omega)
    refine W.seq (W.region ?_)
    refine WO.op rfl rfl ?_
    refine WO.op rfl rfl ?_
    refine WO.op rfl rfl (WO.nil (W.ret ⟨trivial,.tup [.sl id 0 (outsA t PR).length none 1,.nili],rfl,?_⟩))
    refine seals_tup2 ?_ (Seals.same _ rfl)
    rw [outs_len,hPl]
    refine Seals.sl id 0 k none 1 _ _ _ hid (by rw [outs_len]; omega) (by rw [outs_len]; omega) (fun j x y hx hy=>?_) (outs_closed _ _)
    rw [Nat.zero_add,hy] at hx
    cases hx
    exact Seals.same _ (closed1_ (outs_closed _ _ _ (List.mem_of_getElem? hy)))
end
end Go.AM.C.BK
namespace Go.AM
theorem row_ptr {H:Heap} {id off:Nat} {vs:List AVal} {ty:TypeId} (h:H[id]?=some (.cells vs ty)):rowAt H (.ptr id off)=some (vs,off):=by simp only [rowAt,h]
end Go.AM
namespace Go.AM.C
open Go.Proofs
noncomputable section
end
end Go.AM.C
namespace Go.AM.C.BK
open Go.Proofs
noncomputable section
theorem getD_set {l:List Nat} {i x k:Nat} (h:i < l.length):(l.set i x).getD k 0=if k=i then x else l.getD k 0:=by
  rw [List.getD_eq_getElem?_getD,List.getElem?_set]
  by_cases e:i=k
  · subst e
    rw [if_pos rfl,if_pos h,if_pos rfl]
    rfl
  · rw [if_neg e,if_neg (Ne.symm e),List.getD_eq_getElem?_getD]
end
end Go.AM.C.BK
namespace Go.AM.C.BK
open Go.Proofs
noncomputable section
theorem cmpN_lt {n m:Nat}:cmpN n m < 0↔n < m:=by
  unfold cmpN
  split
  · rename_i h; simp [h]
  · rename_i h
    split <;> simp <;> omega
theorem ltR_iff (rs:List Nat) (a b:Nat):ltR rs a b=true↔rs.getD b 0 < rs.getD a 0:=by
  unfold ltR
  rw [decide_eq_true_eq,cmpN_lt]
theorem swp_perm {l:List Nat} {j:Nat} (h:j + 1 < l.length):(swp l j).Perm l:=by
  have:=List.set_set_perm (i:=j + 1) (j:=j) h (Nat.lt_of_succ_lt h)
  unfold swp
  rw [List.getD_eq_getElem?_getD,List.getD_eq_getElem?_getD,List.getElem?_eq_getElem h,List.getElem?_eq_getElem (show j < l.length by omega)]
  exact this
theorem sink_perm (lt:Nat→Nat→Bool):∀ (j:Nat) (l:List Nat),j < l.length→(sink lt j l).Perm l
  | 0,l,_=>.refl _
  | j + 1,l,h=>by
    unfold sink
    split
    · exact (sink_perm lt j _ (by rw [swp_len]; omega)).trans (swp_perm h)
    · exact .refl _
theorem isort_perm (lt:Nat→Nat→Bool) (l:List Nat):∀ i,i < l.length→(isortK lt i l).Perm l
  | 0,_=>.refl _
  | i + 1,h=>(sink_perm lt (i + 1) _ (by rw [isort_len]; exact h)).trans (isort_perm lt l i (by omega))
theorem swp_getD {l:List Nat} {j:Nat} (h:j + 1 < l.length) (p:Nat):(swp l j).getD p 0=if p=j then l.getD (j + 1) 0 else if p=j + 1 then l.getD j 0 else l.getD p 0:=by
  unfold swp
  rw [getD_set (by rw [List.length_set]; omega),getD_set h]
def SrtTo (f:Nat→Nat) (l:List Nat) (J:Nat):Prop:=∀ p q,p < q→q≤J→f (l.getD q 0)≤f (l.getD p 0)
theorem sink_srt (f:Nat→Nat) (lt:Nat→Nat→Bool) (hlt:∀ a b,lt a b=true↔f b < f a) (J:Nat):∀ (j:Nat) (l:List Nat),j≤J→J < l.length →
    (∀ p q,p < q→q≤J→p≠j→q≠j→f (l.getD q 0)≤f (l.getD p 0))→(∀ q,j < q→q≤J→f (l.getD q 0)≤f (l.getD j 0))→SrtTo f (sink lt j l) J
  | 0,l,_,_,h1,h2=>fun p q hpq hq=>by
    by_cases hp:p=0
    · subst hp; exact h2 q hpq hq
    · exact h1 p q hpq hq hp (by omega)
  | j + 1,l,hj,hJ,h1,h2=>by
    unfold sink
    split
    · rename_i hh
      rw [hlt] at hh
      refine sink_srt f lt hlt J j (swp l j) (by omega) (by rw [swp_len]; exact hJ) (fun p q hpq hq hpj hqj=>?_) (fun q hqj hq=>?_)
      · rw [swp_getD (by omega),swp_getD (by omega),if_neg hpj,if_neg hqj]
        by_cases hq1:q=j + 1
        · rw [if_pos hq1,if_neg (by omega)]
          exact h1 p j (by omega) (by omega) (by omega) (by omega)
        · rw [if_neg hq1]
          by_cases hp1:p=j + 1
          · rw [if_pos hp1]
            exact h1 j q (by omega) hq (by omega) hq1
          · rw [if_neg hp1]
            exact h1 p q hpq hq hp1 hq1
      · rw [swp_getD (by omega),swp_getD (by omega),if_pos rfl,if_neg (by omega)]
        by_cases hq1:q=j + 1
        · rw [if_pos hq1]; omega
        · rw [if_neg hq1]
          exact h2 q (by omega) hq
    · rename_i hh
      have hh':¬ f (l.getD j 0) < f (l.getD (j + 1) 0):=fun e=>hh ((hlt _ _).2 e)
      intro p q hpq hq
      by_cases hq1:q=j + 1
      · subst hq1
        by_cases hp:p=j
        · subst hp; omega
        · have:=h1 p j (by omega) (by omega) (by omega) (by omega)
          omega
      · by_cases hp1:p=j + 1
        · subst hp1; exact h2 q hpq hq
        · exact h1 p q hpq hq hp1 hq1
theorem isort_srt (f:Nat→Nat) (lt:Nat→Nat→Bool) (hlt:∀ a b,lt a b=true↔f b < f a) (l:List Nat):∀ i,i < l.length→SrtTo f (isortK lt i l) i
  | 0,_=>fun p q h1 h2=>by omega
  | i + 1,h=>by
    have ih:=isort_srt f lt hlt l i (by omega)
    exact sink_srt f lt hlt (i + 1) (i + 1) _ (Nat.le_refl _) (by rw [isort_len]; exact h) (fun p q hpq hq hp hq1=>ih p q hpq (by omega)) (fun q h1 h2=>by omega)
theorem perm_sum {a b:List Nat} (h:a.Perm b):a.sum=b.sum:=by
  induction h with
  | nil=>rfl
  | cons x _ ih=>rw [List.sum_cons,List.sum_cons,ih]
  | swap x y l=>simp only [List.sum_cons]; omega
  | trans _ _ i1 i2=>rw [i1,i2]
theorem sum_zero:∀ {l:List Nat},(∀ x∈l,x=0)→l.sum=0
  | [],_=>rfl
  | x :: l,h=>by rw [List.sum_cons,h x (by simp),sum_zero fun y hy=>h y (by simp [hy])]
theorem sum_le {c:Nat}:∀ {l:List Nat},(∀ x∈l,x≤c)→l.sum≤l.length * c
  | [],_=>by simp
  | x :: l,h=>by
    rw [List.sum_cons,List.length_cons,Nat.succ_mul]
    have:=h x (by simp)
    have:=sum_le fun y hy=>h y (List.mem_cons_of_mem x hy)
    omega
theorem map_range (l:List Nat):(List.range l.length).map (fun i=>l.getD i 0)=l:=by
  apply List.ext_getElem?
  intro i
  rw [List.getElem?_map]
  by_cases h:i < l.length
  · rw [List.getElem?_range h,List.getElem?_eq_getElem h]
    simp [List.getD_eq_getElem?_getD,h]
  · rw [List.getElem?_eq_none (by rw [List.length_range]; omega),List.getElem?_eq_none (by omega)]
    rfl
theorem ord_pos {A:Nat} {sh:List Nat} (h0:0 < sh.sum):∀ i∈(ordN A sh).take (missN A sh),0 < (rsN A sh.sum sh).getD i 0:=by
  intro i hi
  have hl:0 < sh.length:=by
    cases sh with
    | nil=>simp at h0
    | cons=>simp
  have hm:=miss_lt (A:=A) h0
  have hqr:=qr_sum A sh.sum sh
  have hqA:=qs_sum_le (A:=A) h0
  have hol:=ord_len A sh
  obtain ⟨p,hp,he⟩:=List.getElem_of_mem hi
  rw [List.length_take,hol] at hp
  rw [List.getElem_take] at he
  have hpo:(ordN A sh).getD p 0=i:=by rw [List.getD_eq_getElem?_getD,List.getElem?_eq_getElem (by omega),← he]; rfl
  refine Nat.pos_of_ne_zero fun hz=>?_
  have hsrt:SrtTo (fun x=>(rsN A sh.sum sh).getD x 0) (ordN A sh) (sh.length - 1):=isort_srt _ _ (ltR_iff _) _ _ (by rw [List.length_range]; omega)
  have hperm:(ordN A sh).Perm (List.range sh.length):=isort_perm _ _ _ (by rw [List.length_range]; omega)
  have hsum:((ordN A sh).map fun x=>(rsN A sh.sum sh).getD x 0).sum=(rsN A sh.sum sh).sum:=by
    rw [perm_sum (hperm.map _),← rs_len A sh.sum sh,map_range]
  have hmod:∀ x,(rsN A sh.sum sh).getD x 0≤sh.sum - 1:=fun x=>by
    by_cases h:x < sh.length
    · rw [rs_getD h]
      have:=Nat.mod_lt (A * sh.getD x 0) h0
      omega
    · rw [List.getD_eq_getElem?_getD,List.getElem?_eq_none (by rw [rs_len]; omega)]
      simp
  have hmM:missN A sh=A - (qsN A sh.sum sh).sum:=rfl
  generalize ordN A sh=O at *
  generalize rsN A sh.sum sh=R at *
  generalize missN A sh=M at *
  rw [← List.take_append_drop p O,List.map_append,List.sum_append] at hsum
  have h1:((O.drop p).map fun x=>R.getD x 0).sum=0:=sum_zero fun y hy=>by
    obtain ⟨x,hx,rfl⟩:=List.mem_map.1 hy
    obtain ⟨q,hq,rfl⟩:=List.getElem_of_mem hx
    rw [List.length_drop] at hq
    rw [List.getElem_drop]
    have e1:O[p + q]=O.getD (p + q) 0:=by rw [List.getD_eq_getElem?_getD,List.getElem?_eq_getElem (by omega)]; rfl
    rw [e1]
    by_cases hq0:q=0
    · subst hq0
      rw [Nat.add_zero,hpo]; exact hz
    · have:=hsrt p (p + q) (by omega) (by omega)
      simp only [hpo,hz] at this
      omega
  have h2:((O.take p).map fun x=>R.getD x 0).sum≤p * (sh.sum - 1):=by
    have:=sum_le (c:=sh.sum - 1) (l:=(O.take p).map fun x=>R.getD x 0) fun y hy=>by
      obtain ⟨x,_,rfl⟩:=List.mem_map.1 hy
      exact hmod x
    rwa [List.length_map,List.length_take,Nat.min_eq_left (by omega)] at this
  have h3:p * (sh.sum - 1)≤p * sh.sum:=Nat.mul_le_mul_left p (by omega)
  have h4:(p + 1) * sh.sum≤M * sh.sum:=Nat.mul_le_mul_right _ (by omega)
  rw [Nat.succ_mul] at h4
  have h5:M * sh.sum + sh.sum * (qsN A sh.sum sh).sum=A * sh.sum:=by
    rw [Nat.mul_comm M,← Nat.mul_add,Nat.mul_comm]
    congr 1
    omega
  omega
theorem bump_out:∀ (o l:List Nat) (i:Nat),i ∉ o→(bumpN o l).getD i 0=l.getD i 0
  | [],l,i,_=>rfl
  | j :: o,l,i,h=>by
    show (bumpN o (l.set j _)).getD i 0=_
    rw [bump_out o _ i (fun e=>h (by simp [e]))]
    have hne:j≠i:=fun e=>h (by simp [e])
    simp only [List.getD_eq_getElem?_getD,List.getElem?_set_ne hne]
end
end Go.AM.C.BK
namespace Go.AM
section
variable {S:Sg} {call:Calling} {d:Bool} {g:Operand→AVal} {H:Heap} {c:Call} {t e:TypeId} {ti te:TI} {news:List AVal} {id2:Nat} {cap2:Option Nat} {ty2:TypeId}
end
end Go.AM
namespace Go.AM.C.BK
open Go.Proofs
noncomputable section
def zA (l:List Int):List AVal:=l.map iA
theorem zA_at {l:List Int} {j:Nat} (h:j < l.length):(zA l)[j]?=some (iA (l.getD j 0)):=by
  unfold zA
  rw [List.getElem?_map,List.getD_eq_getElem?_getD,List.getElem?_eq_getElem h]
  rfl
end
end Go.AM.C.BK
namespace Go.AM.C.BK
open Go.Proofs
noncomputable section
def isNeg (z:Int):Bool:=decide (z < 0)
theorem below_z (z:Int) (H:Heap):Has 44 [iA z] H (.bool (isNeg z)) H:=by
  refine unB (l:=[]) ?_
  refine does_run s1 (show S1.fn 44=some Tryz.f44 by kernel_rfl) rfl (by kernel_rfl) (Nat.le_of_ble_eq_true rfl) ?_
  refine W.seq (W.region ?_)
  refine WO.op rfl rfl (WO.nil (W.seq (W.region ?_)))
  refine WO.op rfl rfl ?_
  refine WO.op rfl rfl ?_
  exact WO.op rfl rfl (WO.nil (W.ret ⟨trivial,_,rfl,Wk.refl _,rfl⟩))
theorem any_split {l:List Int} {k:Nat} (h:k < l.length):(l.drop k).any isNeg=(isNeg (l.getD k 0) || (l.drop (k + 1)).any isNeg):=by
  rw [List.drop_eq_getElem_cons h,List.any_cons]
  simp [h]
def negAt (l:List Int) (k:Nat):Int:=if (l.drop k).any isNeg then (k + (l.drop k).findIdx isNeg:Nat) else -1
theorem negAt_here {l:List Int} {k:Nat} (h:k < l.length) (hn:isNeg (l.getD k 0)=true):negAt l k=(k:Int):=by
  unfold negAt
  rw [if_pos (by rw [any_split h,hn]; rfl),List.drop_eq_getElem_cons h,List.findIdx_cons]
  have:l[k]=l.getD k 0:=by simp [h]
  rw [this,hn]
  rfl
theorem negAt_next {l:List Int} {k:Nat} (h:k < l.length) (hn:isNeg (l.getD k 0)=false):negAt l k=negAt l (k + 1):=by
  have e:l[k]=l.getD k 0:=by simp [h]
  unfold negAt
  rw [any_split h,hn,Bool.false_or]
  by_cases ha:(l.drop (k + 1)).any isNeg=true
  · rw [if_pos ha,if_pos ha,List.drop_eq_getElem_cons h,List.findIdx_cons,e,hn,cond_false]
    congr 1
    omega
  · rw [if_neg ha,if_neg ha]
theorem negAt_end {l:List Int}:negAt l l.length=-1:=by unfold negAt; rw [List.drop_length]; rfl
set_option maxRecDepth 100000 in
theorem index_z (l:List Int) (hn:l.length < 1048576) (H:Heap) :
    Has 106 [.isl (zA l) 0 l.length none true,.fn 44 [] []] H (iA (negAt l 0)) H:=by
  refine unB (l:=[]) ?_
  refine does_run s1 (show S1.fn 106=some Tryz.f106 by kernel_rfl) rfl (by kernel_rfl) (Nat.le_of_ble_eq_true rfl) ?_
  generalize hR:negAt l 0=R
  refine W.seq (W.region ?_)
  refine WO.op rfl rfl (WO.nil (W.seq (W.seq (W.region ?_))))
  refine WO.op rfl rfl ?_
  refine WO.op rfl rfl ?_
  refine WO.op rfl rfl (WO.nil (W.block ?_))
  refine W.fits (F':=fr [(0,.isl (zA l) 0 l.length none true),(1,.fn 44 [] []),(7,iA (l.length:Int)),(8,iA ((0:Nat):Int))]) (fits_fr ⟨rfl,rfl,rfl,rfl,trivial⟩) ?_
  refine W.loopI (fun k:Nat=>k≤l.length∧negAt l k=R) (fun k=>l.length - k) (fun k=>fr [(0,.isl (zA l) 0 l.length none true),(1,.fn 44 [] []),(7,iA (l.length:Int)),(8,iA (k:Int))]) (fun _=>H) ?_ 0 ⟨Nat.zero_le _,hR⟩
  rintro k ⟨hk,hr⟩
  refine W.seq (W.region ?_)
  by_cases hlt:k < l.length
  · have hx:(zA l)[0 + ((k:Nat):Int).toNat * 1]?=some (iA (l.getD k 0)):=by rw [idx0]; exact zA_at hlt
    have h1:=negAt_here hlt
    have h2:=negAt_next hlt
    refine WO.as (v':=.bool true) rfl rfl (bdT (by omega)) (WO.nil (W.seq (W.cond (b:=true) rfl (fun _=>W.skip ?_) (fun h=>by cases h))))
    refine W.seq (W.block (W.seq (W.region ?_)))
    refine WO.op rfl rfl ?_
    refine WO.op rfl rfl (WO.nil (W.seq (W.region ?_)))
    iterate 3 refine WO.op rfl rfl ?_
    refine WO.op (G.idx_isl rfl rfl bL rfl bl (by omega) (by omega)) rfl ?_
    refine WO.op (G.load_ip rfl bl rfl hx) rfl ?_
    refine WO.call rfl (inB (below_z (l.getD k 0) _)) rfl (WO.nil ?_)
    cases hb:isNeg (l.getD k 0) with
    | true =>
      rw [h1 hb] at hr
      refine W.cond (b:=true) rfl (fun _=>?_) (fun h=>by cases h)
      refine W.seq (W.region ?_)
      refine WO.op rfl rfl ?_
      refine WO.op rfl rfl (WO.nil (W.ret ⟨trivial,_,rfl,?_,rfl⟩))
      rw [← hr]
      exact Wk.refl _
    | false =>
      rw [h2 hb] at hr
      refine W.cond (b:=false) rfl (fun h=>by cases h) (fun _=>W.skip (W.region ?_))
      refine WO.as (v':=iA ((k + 1:Nat):Int)) rfl rfl (int_i64 (by omega) (by omega)) ?_
      exact WO.op rfl rfl (WO.nil ⟨k + 1,⟨by omega,hr⟩,by omega,fits_fr ⟨rfl,rfl,rfl,rfl,trivial⟩,rfl⟩)
  · have hke:k=l.length:=by omega
    subst hke
    rw [negAt_end] at hr
    refine WO.as (v':=.bool false) rfl rfl (bdF (by omega)) (WO.nil (W.seq (W.cond (b:=false) rfl (fun h=>by cases h) (fun _=>W.exit ?_))))
    refine W.seq (W.region ?_)
    refine WO.op rfl rfl (WO.nil (W.ret ⟨trivial,_,rfl,?_,rfl⟩))
    rw [← hr]
    exact Wk.refl _
theorem negAt_pos (l:List Int):(0≤negAt l 0)=(l.any isNeg=true):=by
  unfold negAt
  rw [List.drop_zero]
  by_cases h:l.any isNeg=true
  · rw [if_pos h]
    exact propext ⟨fun _=>h,fun _=>by omega⟩
  · rw [if_neg h]
    exact propext ⟨fun h'=>absurd h' (by decide),fun h'=>absurd h' h⟩
theorem contains_z (l:List Int) (hn:l.length < 1048576) (H:Heap) :
    Has 43 [.isl (zA l) 0 l.length none true,.fn 44 [] []] H (.bool (l.any isNeg)) H:=by
  have hi:=index_z l hn
  refine unB (l:=[]) ?_
  refine does_run s1 (show S1.fn 43=some Tryz.f43 by kernel_rfl) rfl (by kernel_rfl) (Nat.le_of_ble_eq_true rfl) ?_
  refine W.seq (W.region ?_)
  refine WO.op rfl rfl (WO.nil (W.seq (W.region ?_)))
  refine WO.op rfl rfl ?_
  refine WO.op rfl rfl ?_
  refine WO.call rfl (inB (hi _)) rfl ?_
  refine WO.as (v':=.bool (l.any isNeg)) rfl rfl ?_ ?_
  · have h:=negAt_pos l
    by_cases hb:l.any isNeg=true
    · rw [hb]
      exact bdT (by rw [h]; exact hb)
    · rw [Bool.not_eq_true] at hb
      rw [hb]
      exact bdF (by rw [h,hb]; decide)
  exact WO.op rfl rfl (WO.nil (W.ret ⟨trivial,_,rfl,Wk.refl _,rfl⟩))
set_option maxRecDepth 100000 in
theorem parts_bad (t:Int) (l:List Int) (hn:l.length < 1048576) (hbad:l.length=0∨20 < l.length∨l.any isNeg=true) (H:Heap) :
    Has 10 [iA t,.isl (zA l) 0 l.length none true] H (.tup [.nils,errA 2]) H:=by
  have hcont:=contains_z l hn
  refine unB (l:=[]) ?_
  refine does_pure s1 (show S1.fn 10=some Tryz.f10 by kernel_rfl) rfl (by kernel_rfl) (Nat.le_of_ble_eq_true rfl) rfl rfl ?_
  refine W.seq (W.region ?_)
  refine WO.op rfl rfl ?_
  refine WO.op rfl rfl (WO.nil (W.seq (W.region ?_)))
  refine WO.op rfl rfl ?_
  refine WO.call rfl (inB (hcont _)) rfl ?_
  refine WO.op rfl rfl (WO.nil (W.seq ?_))
  refine W.mid (H1:=[]) [(41,.bool true)] ?_ ?_
  · refine W.region ?_
    refine WO.op rfl rfl ?_
    refine WO.op rfl rfl ?_
    by_cases h0:l.length=0
    · refine WO.as (v':=.bool true) rfl rfl (bdT (by omega)) ?_
      refine WO.op rfl rfl ?_
      iterate 3 refine WO.skip rfl ?_
      refine WO.op rfl rfl ?_
      refine WO.op rfl rfl ?_
      refine WO.skip rfl ?_
      exact WO.op rfl rfl (WO.nil ⟨rfl,⟨rfl,trivial⟩,rfl⟩)
    · refine WO.as (v':=.bool false) rfl rfl (bdF (by omega)) ?_
      iterate 3 refine WO.op rfl rfl ?_
      by_cases h1:20 < l.length
      · refine WO.as (v':=.bool true) rfl rfl (bdT (by omega)) ?_
        refine WO.op rfl rfl ?_
        refine WO.op rfl rfl ?_
        refine WO.skip rfl ?_
        exact WO.op rfl rfl (WO.nil ⟨rfl,⟨rfl,trivial⟩,rfl⟩)
      · have hneg:l.any isNeg=true:=by
          rcases hbad with h | h | h
          · exact absurd h h0
          · exact absurd h h1
          · exact h
        refine WO.as (v':=.bool false) rfl rfl (bdF (by omega)) ?_
        iterate 3 refine WO.op rfl rfl ?_
        refine WO.op rfl rfl (WO.nil ⟨rfl,⟨?_,trivial⟩,rfl⟩)
        show AVal.bool (l.any isNeg)=_
        rw [hneg]
  refine W.cond (b:=true) rfl (fun _=>?_) (fun h=>by cases h)
  refine W.seq (W.region ?_)
  refine WO.call rfl (inB (faultOf 2 (by decide) _)) rfl ?_
  refine WO.op rfl rfl ?_
  exact WO.op rfl rfl (WO.nil (W.ret ⟨trivial,_,rfl,Seals.same _ rfl⟩))
theorem zA_ints (sh:List Nat):zA (sh.map fun (n:Nat)=>(n:Int))=ints sh:=by
  unfold zA ints
  rw [List.map_map]
  rfl
set_option maxRecDepth 100000 in
theorem parts_nought (t:Int) (sh:List Nat) (hs:∀ s∈sh,s=0) (h20:sh.length≤20) (hl0:0 < sh.length) (H:Heap) :
    Has 10 [iA t,.isl (ints sh) 0 sh.length none true] H (.tup [.nils,errA 3]) H:=by
  have hcont:=contains_has sh (fun s h=>by rw [hs s h]; decide) (by omega)
  have hz:∀ k,(sh.take k).sum=0:=fun k=>by
    rw [List.sum_eq_zero_iff_forall_eq_nat]
    intro x hx
    exact hs x (List.mem_of_mem_take hx)
  refine unB (l:=[]) ?_
  refine does_pure s1 (show S1.fn 10=some Tryz.f10 by kernel_rfl) rfl (by kernel_rfl) (Nat.le_of_ble_eq_true rfl) rfl rfl ?_
  refine W.seq (W.region ?_)
  refine WO.op rfl rfl ?_
  refine WO.op rfl rfl (WO.nil (W.seq (W.region ?_)))
  refine WO.op rfl rfl ?_
  refine WO.call rfl (inB (hcont _)) rfl ?_
  refine WO.op rfl rfl (WO.nil (W.seq (W.seq (W.region ?_))))
  refine WO.op rfl rfl ?_
  refine WO.op rfl rfl ?_
  refine WO.as (v':=.bool false) rfl rfl (bdF (by omega)) ?_
  iterate 3 refine WO.op rfl rfl ?_
  refine WO.as (v':=.bool false) rfl rfl (bdF (by omega)) ?_
  iterate 3 refine WO.op rfl rfl ?_
  refine WO.op rfl rfl (WO.nil (W.cond (b:=false) rfl (fun h=>by cases h) (fun _=>W.skip ?_)))
  refine W.seq (W.region ?_)
  refine WO.call rfl (inB (of_np 0 (by decide) _)) rfl ?_
  refine WO.op rfl rfl (WO.nil ?_)
  refine W.mid (H1:=[]) [(0,iA t),(1,.isl (ints sh) 0 sh.length none true),(7,.obj (.np 0))] ?_ ?_
  · refine W.seq (W.region ?_)
    refine WO.op rfl rfl ?_
    refine WO.op rfl rfl ?_
    refine WO.op rfl rfl (WO.nil (W.block ?_))
    refine W.fits (F':=fr [(0,iA t),(1,.isl (ints sh) 0 sh.length none true),(7,.obj (.np 0)),(44,.isl (ints sh) 0 sh.length none true),(45,iA (sh.length:Int)),(46,iA ((0:Nat):Int))]) (fits_fr ⟨rfl,rfl,rfl,rfl,rfl,rfl,trivial⟩) ?_
    refine W.loopI (fun k:Nat=>k≤sh.length) (fun k=>sh.length - k) (fun k=>fr [(0,iA t),(1,.isl (ints sh) 0 sh.length none true),(7,.obj (.np 0)),(44,.isl (ints sh) 0 sh.length none true),(45,iA (sh.length:Int)),(46,iA (k:Int))]) (fun _=>[]) ?_ 0 (Nat.zero_le _)
    intro k hk
    refine W.seq (W.region ?_)
    by_cases hlt:k < sh.length
    · have hsk:=hs _ (getD_mem hlt)
      refine WO.as (v':=.bool true) rfl rfl (bdT (by omega)) (WO.nil (W.seq (W.cond (b:=true) rfl (fun _=>W.skip ?_) (fun h=>by cases h))))
      refine W.seq (W.block (W.seq (W.region ?_)))
      refine WO.op (G.idx_isl rfl rfl bL rfl bl (by omega) (by omega)) rfl ?_
      refine WO.op (G.load_ip rfl bl rfl (show (ints sh)[0 + ((k:Nat):Int).toNat * 1]?=some (iA (sh.getD k 0:Nat)) by rw [idx0]; exact ints_at hlt)) rfl ?_
      rw [hsk]
      refine WO.op rfl rfl (WO.nil (W.region ?_))
      refine WO.op rfl rfl ?_
      refine WO.op rfl rfl ?_
      refine WO.as (v':=.int .u64 ((0:Nat):Int)) rfl rfl rfl ?_
      refine WO.call rfl (inB (of_np 0 (by decide) _)) rfl ?_
      refine WO.call rfl (inB (add_np 0 0 (fit_small (by decide)) (fit_small (by decide)) _)) rfl ?_
      refine WO.op rfl rfl (WO.nil (W.region ?_))
      refine WO.as (v':=iA ((k + 1:Nat):Int)) rfl rfl (int_i64 (by omega) (by omega)) ?_
      exact WO.op rfl rfl (WO.nil ⟨k + 1,by omega,by omega,fits_fr ⟨rfl,rfl,rfl,rfl,rfl,rfl,trivial⟩,rfl⟩)
    · refine WO.as (v':=.bool false) rfl rfl (bdF (by omega)) (WO.nil (W.seq (W.cond (b:=false) rfl (fun h=>by cases h) (fun _=>W.exit ?_))))
      exact ⟨rfl,⟨rfl,rfl,rfl,trivial⟩,rfl⟩
  refine W.seq (W.seq (W.region ?_))
  refine WO.op rfl rfl ?_
  refine WO.call rfl (inB (zero_np 0 _)) rfl (WO.nil (W.cond (b:=true) rfl (fun _=>?_) (fun h=>by cases h)))
  refine W.seq (W.region ?_)
  refine WO.call rfl (inB (faultOf 3 (by decide) _)) rfl ?_
  refine WO.op rfl rfl ?_
  exact WO.op rfl rfl (WO.nil (W.ret ⟨trivial,_,rfl,Seals.same _ rfl⟩))
end
end Go.AM.C.BK
