import Derived.Sort.Row
import Derived.Test.YtjlmihjhakfchaaGreatDoorA7
set_option linter.unusedVariables false
set_option linter.unusedSimpArgs false
noncomputable section
namespace Go.AM
open Go.Sort
theorem onCells_cells (f:Array Value→Array Value) (arr:Array Value) (e:TypeId) (fz:Nat×Nat):onCells f (.cells arr e fz)=.cells (f arr) e fz:=rfl
theorem set_cell {c:Ctx} {w:World} {H:Heap} (r:Rel c w H) {id b o off:Nat} {vs:List AVal} {ty:TypeId} (hH:H[id]?=some (.cells vs ty)) (hι:c.ι id=some (b,o)) {v:Value} {a:AVal} (hoff:off < vs.length) (hv:VR c w a v) :
    Rel c (w.setCell ⟨b,o + off,none⟩ v) (H.set id (.cells (vs.set off a) ty))∧Post c w H c (w.setCell ⟨b,o + off,none⟩ v) (H.set id (.cells (vs.set off a) ty)):=by
  obtain ⟨arr,e,hb,hlen,hh⟩:=r.obj id _ b o hH hι
  have hbl:b < w.heap.size:=(Array.getElem?_eq_some_iff.1 hb).1
  rw [setCell_eq]
  have at_b:(mapBlock w b fun x=>x.setIfInBounds (o + off) v).heap[b]?=some (.cells (arr.setIfInBounds (o + off) v) e (0,0)):=by
    unfold mapBlock
    simp only [Array.getElem?_modify,if_pos,hb,Option.map_some,onCells_cells]
  refine upd r hH rfl hι rfl (by simp [mapBlock]) (fun k hk=>?_) (fun arr' e' fz' he=>?_) rfl rfl rfl (fun l=>?_)
  · unfold mapBlock
    simp only [Array.getElem?_modify]
    rw [if_neg (fun h=>hk h.symm)]
  · rw [hb] at he
    cases he
    exact ⟨_,_,_,at_b,by simp⟩
  · refine ⟨_,e,at_b,by simp; omega,fun j x u hx hu=>?_⟩
    rw [Array.getElem?_setIfInBounds] at hu
    rw [List.getElem?_set] at hx
    by_cases hj:off=j
    · subst hj
      rw [if_pos rfl,if_pos hoff] at hx
      cases hx
      rw [if_pos rfl,if_pos (by omega)] at hu
      cases hu
      exact hv.mono l
    · rw [if_neg hj] at hx
      rw [if_neg (by omega)] at hu
      exact (hh j x u hx hu).mono l
theorem cell_at {c:Ctx} {w:World} {H:Heap} (r:Rel c w H) {id b o off:Nat} {vs:List AVal} {ty:TypeId} (hH:H[id]?=some (.cells vs ty)) (hι:c.ι id=some (b,o)) (hoff:off < vs.length) :
    ∃ v,w.cell? ⟨b,o + off,none⟩=some v∧w.frozen? ⟨b,o + off,none⟩=false:=by
  obtain ⟨arr,e,hb,hlen,hh⟩:=r.obj id _ b o hH hι
  have:o + off < arr.size:=by omega
  refine ⟨arr[o + off],by simp [World.cell?,hb,this],?_⟩
  simp [World.frozen?,hb]
end Go.AM
namespace Go.AM
variable {P:Program}
def numsOf:List AVal→Option (List Nat)
  | []=>some []
  | .int .u64 (.ofNat k) :: l=>bif Nat.blt k 18446744073709551616 then (match numsOf l with
    | some r=>some (k :: r)
    | none=>none) else none
  | _=>none
def topB:List Nat→Bool
  | []=>true
  | [d]=>!Nat.beq d 0
  | _ :: d :: r=>topB (d :: r)
def valF:List Nat→Nat
  | []=>0
  | d :: l=>Nat.add d (Nat.mul 18446744073709551616 (valF l))
theorem numsOf_ok:∀ {l:List AVal} {r:List Nat},numsOf l=some r→l=u64s r∧Dig r
  | [],r,h=>by cases h; exact ⟨rfl,Dig.nil⟩
  | a :: l,r,h=>by
    unfold numsOf at h
    split at h
    · rename_i e; cases e
    · rename_i k l' e
      cases e
      cases hb:Nat.blt k 18446744073709551616 with
      | false=>rw [hb] at h; cases h
      | true =>
        rw [hb] at h
        simp only [cond_true] at h
        split at h
        · rename_i r' hr
          cases h
          obtain ⟨h1,h2⟩:=numsOf_ok hr
          have hk:k < B64:=by
            have:=Nat.le_of_ble_eq_true hb
            unfold B64
            exact this
          exact ⟨by rw [h1]; rfl,Dig.mk hk h2⟩
        · cases h
    · cases h
theorem topB_noZ:∀ {l:List Nat},topB l=true→NoZ l
  | [],_=>fun k hk=>by simp at hk
  | [d],h=>fun k hk=>by
    have:k=0:=by simpa using hk.symm
    subst this
    intro h0
    have:d=0:=h0
    subst this
    cases h
  | a :: d :: r,h=>fun k hk=>by
    cases k with
    | zero=>simp at hk
    | succ k=>exact topB_noZ (l:=d :: r) h k (by simpa using hk)
theorem valF_eq:∀ l:List Nat,valF l=val l
  | []=>rfl
  | d :: l=>by
    unfold valF val
    rw [valF_eq l]
    rfl
def natOf:AVal→Option Nat
  | .obj (.np n)=>some n
  | .ip [.isl cells off len _ true] 0 true=>match numsOf ((cells.drop off).take len) with
    | some l=>bif Nat.beq l.length len && topB l then some (valF l) else none
    | none=>none
  | _=>none
theorem natOf_wk {v:AVal} {n:Nat} (h:natOf v=some n):Wk v (.obj (.np n)):=by
  unfold natOf at h
  split at h
  · cases h; exact Wk.refl _
  · rename_i cells off len cap
    split at h
    · rename_i l hl
      cases hb:Nat.beq l.length len && topB l with
      | false=>rw [hb] at h; cases h
      | true =>
        rw [hb] at h
        cases h
        rw [Bool.and_eq_true] at hb
        obtain ⟨h1,h2⟩:=numsOf_ok hl
        have hlen:l.length=len:=Nat.eq_of_beq_eq_true hb.1
        have hm:l=lims (valF l):=by rw [valF_eq]; exact (lims_of h2 (topB_noZ hb.2)).symm
        refine Wk.trans (Wk.ip1 (cl':=true) (Wk.isl_sub (n:=len)) (fun _=>rfl)) ?_
        rw [h1]
        have:=Wk.np (m:=valF l) (cap:=cap)
        rw [← hm,hlen] at this
        exact this
    · cases h
  · cases h
theorem DoesC.args {S:Sg} {f:FuncId} {args args':List AVal} {H H':Heap} {v:AVal} (hl:args'.length=args.length) (hw:∀ (j:Nat) (a b:AVal),args'[j]?=some a→args[j]?=some b→Wk a b) (h:DoesC P S f args H v H'):DoesC P S f args' H v H':=by
  intro c w cargs r hg ha
  refine h c w cargs r hg ⟨by rw [ha.1,hl],fun j b x hb hx=>?_⟩
  have hj:j < args'.length:=by rw [hl]; exact (List.getElem?_eq_some_iff.1 hb).1
  exact hw j _ b (List.getElem?_eq_getElem hj) hb _ _ _ (ha.2 j _ x (List.getElem?_eq_getElem hj) hx)
theorem DoesC.arg1 {S:Sg} {f:FuncId} {x x':AVal} {H H':Heap} {v:AVal} (hw:Wk x' x) (h:DoesC P S f [x] H v H'):DoesC P S f [x'] H v H' :=
  DoesC.args (args:=[x]) (args':=[x']) rfl (fun j a b ha hb=>by
    match j with
    | 0=>cases ha; cases hb; exact hw
    | j + 1=>simp at ha) h
theorem DoesC.arg2 {S:Sg} {f:FuncId} {x x' y y':AVal} {H H':Heap} {v:AVal} (hx:Wk x' x) (hy:Wk y' y) (h:DoesC P S f [x,y] H v H'):DoesC P S f [x',y'] H v H' :=
  DoesC.args (args:=[x,y]) (args':=[x',y']) rfl (fun j a b ha hb=>by
    match j with
    | 0=>cases ha; cases hb; exact hx
    | 1=>cases ha; cases hb; exact hy
    | j + 2=>simp at ha) h
def nat1 (g:Nat→Option AVal):Ext:=fun args H=>match args with
  | [x]=>match natOf x with
    | some n=>match g n with
      | some v=>some (v,H)
      | none=>none
    | none=>none
  | _=>none
def nat2 (g:Nat→Nat→Option AVal):Ext:=fun args H=>match args with
  | [x,y]=>match natOf x with
    | some n=>match natOf y with
      | some m=>match g n m with
        | some v=>some (v,H)
        | none=>none
      | none=>none
    | none=>none
  | _=>none
theorem nat1_ok {S:Sg} {f:FuncId} {g:Nat→Option AVal} (h:∀ n v,g n=some v→∀ H,DoesC P S f [.obj (.np n)] H v H):ExtAt P S f (nat1 g):=by
  intro args H v H' hx
  unfold nat1 at hx
  split at hx
  · split at hx
    · rename_i n hn
      split at hx
      · rename_i v' hv
        cases hx
        exact DoesC.arg1 (natOf_wk hn) (h n v hv H)
      · cases hx
    · cases hx
  · cases hx
theorem nat2_ok {S:Sg} {f:FuncId} {g:Nat→Nat→Option AVal} (h:∀ n m v,g n m=some v→∀ H,DoesC P S f [.obj (.np n),.obj (.np m)] H v H):ExtAt P S f (nat2 g):=by
  intro args H v H' hx
  unfold nat2 at hx
  split at hx
  · split at hx
    · rename_i n hn
      split at hx
      · rename_i m hm
        split at hx
        · rename_i v' hv
          cases hx
          exact DoesC.arg2 (natOf_wk hn) (natOf_wk hm) (h n m v hv H)
        · cases hx
      · cases hx
    · cases hx
  · cases hx
theorem nat1_quiet (g:Nat→Option AVal):true=true→∀ args H v H',nat1 g args H=some (v,H')→H'=H:=by
  intro _ args H v H' hx
  unfold nat1 at hx
  split at hx
  · split at hx
    · split at hx
      · cases hx; rfl
      · cases hx
    · cases hx
  · cases hx
theorem nat2_quiet (g:Nat→Nat→Option AVal):true=true→∀ args H v H',nat2 g args H=some (v,H')→H'=H:=by
  intro _ args H v H' hx
  unfold nat2 at hx
  split at hx
  · split at hx
    · split at hx
      · split at hx
        · cases hx; rfl
        · cases hx
      · cases hx
    · cases hx
  · cases hx
def tab2:List (Nat×Nat×AVal)→Nat→Nat→Option AVal
  | [],_,_=>none
  | (a,b,v) :: l,n,m=>bif Nat.beq a n && Nat.beq b m then some v else tab2 l n m
theorem tab2_mem:∀ {l:List (Nat×Nat×AVal)} {n m:Nat} {v:AVal},tab2 l n m=some v→(n,m,v)∈l
  | [],_,_,_,h=>by cases h
  | (a,b,u) :: l,n,m,v,h=>by
    unfold tab2 at h
    cases hb:Nat.beq a n && Nat.beq b m with
    | true =>
      rw [hb] at h
      cases h
      rw [Bool.and_eq_true] at hb
      rw [Nat.eq_of_beq_eq_true hb.1,Nat.eq_of_beq_eq_true hb.2]
      exact List.mem_cons_self
    | false =>
      rw [hb] at h
      exact List.mem_cons_of_mem _ (tab2_mem h)
def isNat (v:AVal) (n:Nat):Bool:=match natOf v with
  | some m=>Nat.beq m n
  | none=>false
theorem isNat_wk {v:AVal} {n:Nat} (h:isNat v n=true):Wk v (.obj (.np n)):=by
  unfold isNat at h
  split at h
  · rename_i m hm
    rw [← Nat.eq_of_beq_eq_true h]
    exact natOf_wk hm
  · cases h
def givesN (r:Option (AVal×Heap)) (n:Nat):Bool:=match r with
  | some (v,_)=>v.closed && isNat v n
  | none=>false
def givesNN (r:Option (AVal×Heap)) (n m:Nat):Bool:=match r with
  | some (.tup [a,b,.nili],_)=>(AVal.tup [a,b,.nili]).closed && (isNat a n && isNat b m)
  | _=>false
def givesNE (r:Option (AVal×Heap)) (n:Nat):Bool:=match r with
  | some (.tup [a,.nili],_)=>(AVal.tup [a,.nili]).closed && isNat a n
  | _=>false
def bytesEq:List UInt8→List UInt8→Bool
  | [],[]=>true
  | a :: l,b :: r=>Nat.beq a.toNat b.toNat && bytesEq l r
  | _,_=>false
theorem bytesEq_ok:∀ {l r:List UInt8},bytesEq l r=true→l=r
  | [],[],_=>rfl
  | [],_ :: _,h=>by cases h
  | _ :: _,[],h=>by cases h
  | a :: l,b :: r,h=>by
    unfold bytesEq at h
    rw [Bool.and_eq_true] at h
    rw [UInt8.toNat_inj.1 (Nat.eq_of_beq_eq_true h.1),bytesEq_ok h.2]
def givesS (r:Option (AVal×Heap)) (s:List UInt8):Bool:=match r with
  | some (.str t,_)=>bytesEq t s
  | _=>false
theorem run_N {S:Sg} (hs:Sound P S) {n:Nat} {f:FuncId} {args:List AVal} {k:Nat} (hcl:args.all AVal.closed=true) (h:givesN (den S n f args []) k=true) (H:Heap):DoesC P S f args H (.obj (.np k)) H:=by
  unfold givesN at h
  split at h
  · rename_i v H' hd
    rw [Bool.and_eq_true] at h
    exact (DoesC.run hs hd hcl h.1 H).wk (isNat_wk h.2)
  · cases h
theorem run_NN {S:Sg} (hs:Sound P S) {n:Nat} {f:FuncId} {args:List AVal} {k m:Nat} (hcl:args.all AVal.closed=true) (h:givesNN (den S n f args []) k m=true) (H:Heap):DoesC P S f args H (.tup [.obj (.np k),.obj (.np m),.nili]) H:=by
  unfold givesNN at h
  split at h
  · rename_i a b H' hd
    rw [Bool.and_eq_true,Bool.and_eq_true] at h
    refine (DoesC.run hs hd hcl h.1 H).wk (Wk.tup rfl fun j x y hx hy=>?_)
    match j with
    | 0=>cases hx; cases hy; exact isNat_wk h.2.1
    | 1=>cases hx; cases hy; exact isNat_wk h.2.2
    | 2=>cases hx; cases hy; exact Wk.refl _
    | j + 3=>simp at hx
  · cases h
theorem run_NE {S:Sg} (hs:Sound P S) {n:Nat} {f:FuncId} {args:List AVal} {k:Nat} (hcl:args.all AVal.closed=true) (h:givesNE (den S n f args []) k=true) (H:Heap):DoesC P S f args H (.tup [.obj (.np k),.nili]) H:=by
  unfold givesNE at h
  split at h
  · rename_i a H' hd
    rw [Bool.and_eq_true] at h
    exact (DoesC.run hs hd hcl h.1 H).wk (Wk.tup2 (isNat_wk h.2) (Wk.refl _))
  · cases h
theorem run_S {S:Sg} (hs:Sound P S) {n:Nat} {f:FuncId} {args:List AVal} {s:List UInt8} (hcl:args.all AVal.closed=true) (h:givesS (den S n f args []) s=true) (H:Heap):DoesC P S f args H (.str s) H:=by
  unfold givesS at h
  split at h
  · rename_i t H' hd
    have:=DoesC.run hs hd hcl rfl H
    rw [bytesEq_ok h] at this
    exact this
  · cases h
end Go.AM
namespace Go.AM
variable {P:Program} {S:Sg} {n:Nat} {draw:Bool} {ops:Array Oper} {o o1 o2:Oper} {rest:List Oper} {i:Nat} {F:Fr} {H:Heap} {K:Fr→Heap→Prop}
theorem WO.two {f1:FuncId} {args1:List AVal} {v:AVal} {H2:Heap} {t1:Tmp} (hc1:callOf S (opdF S F) o1.op=some (f1,args1)) (hw1:wantedF ops F o1=some true) (hd1:o1.dst=some t1) (hg2:o2.guard=none)
    (hd:∀ c w cargs,Rel c w H→Glob S c w→VRs c w args1 cargs→Serves P f1 cargs w fun cv1 w1=>∀ ev:Operand→Value,ev (.tmp t1)=cv1→∃ f2 cargs2,(execOp ev o2).run P w1=(callFunc f2 cargs2).run P w1 ∧
      Serves P f2 cargs2 w1 fun cv2 w2=>∃ c2,Rel c2 w2 H2∧Post c w H c2 w2 H2∧VR c2 w2 v cv2)
    (next:WO P S n draw ops rest (i + 2) (putF (putF F o1.dst .any) o2.dst v) H2 K):WO P S n draw ops (o1 :: o2 :: rest) i F H K:=by
  intro hs hR hr c w a Q st hq
  have get:∀ (j:Nat) (x:Oper),(o1 :: o2 :: rest)[j]?=some x→ops[i + j]?=some x:=fun j x hx=>by
    rw [hr,List.getElem?_drop,Array.getElem?_toList] at hx
    exact hx
  have e1:ops[i]?=some o1:=get 0 o1 rfl
  have e2:ops[i + 1]?=some o2:=get 1 o2 rfl
  have opR:∀ x∈ops.toList,operR n x=true:=fun x hx=>by
    have:=hR
    unfold opsR at this
    rw [List.all_eq_true] at this
    exact this x hx
  have hoR1:operR n o1=true:=opR o1 (List.mem_of_getElem? (by rw [Array.getElem?_toList]; exact e1))
  have hoR2:operR n o2=true:=opR o2 (List.mem_of_getElem? (by rw [Array.getElem?_toList]; exact e2))
  have hr':rest=ops.toList.drop (i + 2):=by
    have:=congrArg (List.drop 2) hr
    simpa [List.drop_drop,Nat.add_comm] using this
  simp only [List.length_cons,List.range'_succ,wpOps,e1]
  rw [wanted_ok st.st.env ((wanted_tab hR).trans hw1)]
  simp only [if_true]
  obtain ⟨cargs,hva,hx⟩:=call_run hs.sg st hoR1 hc1
  refine .inl (wp_of_serves hx (hd c w cargs st.rel st.glob hva) fun cv1 w1 h1=>?_)
  simp only [e2]
  have hw2:∀ y:Tmp→Value,∀ q,Region.wanted o2 (yielded ops q)=true:=fun _ q=>by unfold Region.wanted; rw [hg2]
  rw [hw2 (fun _=>undef)]
  simp only [if_true]
  have ht1:t1 < n:=operR_dst hoR1 t1 hd1
  have hev:(a.put o1.dst cv1).eval (.tmp t1)=cv1:=by
    rw [hd1]
    have:t1 < a.tmps.size:=by rw [st.size]; exact ht1
    simp [Act.put,Act.eval,this]
  obtain ⟨f2,cargs2,hx2,h2⟩:=h1 _ hev
  refine .inl (wp_of_serves hx2 h2 fun cv2 w2 h2=>?_)
  obtain ⟨c2,r2,p2,hv2⟩:=h2
  have st2:=((st.later r2 p2).put (cv:=cv1) (operR_dst hoR1) (.any cv1)).put (cv:=cv2) (operR_dst hoR2) hv2
  exact next hs hR hr' c2 w2 _ Q st2 fun F' H' c' w' a' hk st' p'=>hq F' H' c' w' a' hk st' (p2.trans st.rel p')
theorem invoke_run (hS:SgOK P S) {k:Call} {x:Operand} {m:String} {t:TypeId} {u:Value} {f:FuncId} (ho:o.op=.call k) (hk:k.callee=.invoke x m) (ha:k.args=#[]) (ev:Operand→Value) (hx:ev x=.iface t u) (hm:S.meth t m=some f) (w:World) :
    (execOp ev o).run P w=(callFunc f #[u]).run P w:=by
  have hmm:=hS.meth t m f hm u (#[]:Array Value) w
  simp only [execOp,ho,resolve,hk,hx,ha,Sem.run_bind,Sem.run_pure,Result.andThen_ok,invoke]
  have e0:(#[Value.iface t u] ++ Array.map ev #[])[0]?=some (.iface t u):=by simp
  have e1:(#[Value.iface t u] ++ Array.map ev #[]).extract 1 (#[Value.iface t u] ++ Array.map ev #[]).size=#[]:=by simp
  simp only [e0,e1]
  rw [hmm]
  simp
end Go.AM
namespace Go.AM
variable {P:Program}
structure Kills (H H2:Heap):Prop where
  len:H2.length=H.length
  obj:∀ (id:Nat) (o:AObj),H2[id]?=some o→o=.dead∨H[id]?=some o
theorem Kills.live {H H2:Heap} (k:Kills H H2) {id:Nat} (h:Live H2 id):Live H id:=by
  obtain ⟨o,ho,hl⟩:=h
  rcases k.obj id o ho with rfl | h
  · cases hl
  · exact ⟨o,h,hl⟩
theorem Rel.kill {c:Ctx} {w:World} {H H2:Heap} (r:Rel c w H) (k:Kills H H2):Rel c w H2 :=
  ⟨fun id o b off h hi=>by
    rcases k.obj id o h with rfl | h
    · trivial
    · exact r.obj id o b off h hi,fun i j b o1 o2 hi hj=>r.inj i j b o1 o2 (k.live hi) (k.live hj),fun id b off h=>by rw [k.len]; exact r.dom id b off h,fun id b off hl=>r.sep id b off (k.live hl),r.fr⟩
theorem Post.kill {c c':Ctx} {w w':World} {H H' H2:Heap} (p:Post c w H c' w' H') (k:Kills H' H2) (h:∀ id,id < H.length→H2[id]?=H'[id]?):Post c w H c' w' H2 :=
  ⟨p.ι,p.new,p.F,p.Fnew,p.frame,fun id hid hn=>(h id hid).trans (p.unm id hid hn),fun id hid hn hl=>p.dead id hid hn (k.live hl),by rw [k.len]; exact p.len,p.size,p.siz,p.os,p.tape,p.output⟩
theorem does_less {S:Sg} (hs:Sound P S) {f:FuncId} {fn:Func} {code:Code} (hf:S.fn f=some fn) (hb:fn.body=some code) (hR:funcR fn code=true) {args:List AVal} (hn:args.length≤fn.ntmps) {H H2:Heap} {v:AVal}
    (h:W P S fn.ntmps code (argF args) H (fun x F' H'=>ends x∧∃ u,resF S fn.results.toList F' H'=some u∧Wk u v∧Kills H' H2∧∀ id,id < H.length→H2[id]?=H'[id]?)):DoesC P S f args H v H2:=by
  intro c w cargs r hg ha
  unfold funcR at hR
  rw [Bool.and_eq_true] at hR
  refine .inl ⟨fun w=>hs.sg.call f (by rw [hf]; rfl) cargs w,?_⟩
  have st:=startF (n:=fn.ntmps) r hg ha hn
  refine calls_of_wp (hs.sg.fn f fn hf) hb (Good.wp (h hs hR.1 c w _ _ st fun x F1 H1 c1 w1 a1 hk st1 p1=>?_))
  obtain ⟨he,u,hu,hw,hkl,hold⟩:=hk
  obtain ⟨cv,hr,hv⟩:=results_ok hs.sg st1.st ((res_tab hR.2).trans hu)
  have fin:bodyPost P fn (fun e w'=>∃ cv,e=.returned cv∧∃ c',Rel c' w' H2∧Post c w H c' w' H2∧VR c' w' v cv) (exOf x) a1 w1:=by
    cases x with
    | normal=>exact ⟨st1.defers,cv,hr,cv,rfl,_,st1.rel.kill hkl,p1.kill hkl hold,hw _ _ _ hv⟩
    | ret=>exact ⟨st1.defers,cv,hr,cv,rfl,_,st1.rel.kill hkl,p1.kill hkl hold,hw _ _ _ hv⟩
    | exit id=>exact he.elim
  exact fin
def IntKeys (es:List (AVal×AVal)):Prop:=∀ e∈es,∃ k:Int,e.1=.int .i64 k
theorem findKey_int (k:Int):∀ (es:List (AVal×AVal)) (i:Nat),IntKeys es→∃ r,findKeyA (.int .i64 k) es i=some r
  | [],i,_=>⟨none,rfl⟩
  | e :: es,i,h=>by
    obtain ⟨r,hr⟩:=findKey_int k es (i + 1) fun x hx=>h x (by simp [hx])
    obtain ⟨k',hk'⟩:=h e (by simp)
    unfold findKeyA
    rw [hk']
    have:∃ b,sameKey (.int .i64 k) (.int .i64 k')=some b:=by
      unfold sameKey
      exact ⟨_,rfl⟩
    obtain ⟨b,hb⟩:=this
    rw [hb]
    cases b with
    | true=>exact ⟨_,rfl⟩
    | false=>exact ⟨r,hr⟩
theorem mapUpdate_int {S:Sg} {H:Heap} {t kt et:TypeId} {ti tk:TI} {d:Nat} {es:List (AVal×AVal)} {k:Int} {v:AVal} (ht:S.ty t=some ti) (hd:ti.desc=.map kt et) (hk:S.ty kt=some tk) (hks:tk.desc=.int .i64) (hH:H[d]?=some (.map es)) (hes:IntKeys es) :
    ∃ es',denMapUpdate S H t (.map d) (.int .i64 k) v=some (H.set d (.map es'))∧IntKeys es':=by
  obtain ⟨d1,d2,d3,d4,d5,d6,d7,d8⟩:=ti
  simp only at hd
  subst hd
  obtain ⟨r,hr⟩:=findKey_int k es 0 hes
  have hok:keyOk tk.desc (.int .i64 k)=true:=by rw [hks]; rfl
  unfold denMapUpdate
  simp only [ht,hk,hH,hok,if_true,hr]
  cases r with
  | none =>
    refine ⟨_,rfl,fun e he=>?_⟩
    rcases List.mem_append.1 he with he | he
    · exact hes e he
    · cases List.mem_singleton.1 he; exact ⟨k,rfl⟩
  | some p =>
    obtain ⟨i,u⟩:=p
    refine ⟨_,rfl,fun e he=>?_⟩
    rcases List.mem_or_eq_of_mem_set he with he | he
    · exact hes e he
    · subst he; exact ⟨k,rfl⟩
theorem G.range_map' {S:Sg} {call:Calling} {d:Bool} {g:Operand→AVal} {H:Heap} {x:Operand} {t:TypeId} {ti:TI} {id:Nat} {es:List (AVal×AVal)} {kt et:TypeId} (hx:g x=.map id) (ht:S.ty t=some ti) (hd:ti.desc=.map kt et) (hH:H[id]?=some (.map es)):denG S call d g H (.range t x)=some (.ptr H.length 0,H ++ [.miter id es.length []]):=by
  obtain ⟨d1,d2,d3,d4,d5,d6,d7,d8⟩:=ti
  simp only at hd
  subst hd
  simp only [denG,denRange,ht,hx,hH]
end Go.AM
namespace Go.AM
variable {P:Program} {S:Sg} {n:Nat} {draw:Bool} {ops:Array Oper} {rest:List Oper} {i:Nat} {F:Fr} {H:Heap} {K:Fr→Heap→Prop}
def only (H:Heap) (id:Nat):Heap:=H.mapIdx fun i o=>if i=id then o else .dead
theorem only_at (H:Heap) (id:Nat):(only H id)[id]?=H[id]?:=by
  unfold only
  rw [List.getElem?_mapIdx]
  cases H[id]? with
  | none=>rfl
  | some o=>simp
theorem only_kills (H:Heap) (id:Nat):Kills H (only H id):=by
  refine ⟨by simp [only],fun j o h=>?_⟩
  unfold only at h
  rw [List.getElem?_mapIdx] at h
  cases hj:H[j]? with
  | none=>rw [hj] at h; cases h
  | some p =>
    rw [hj] at h
    simp only [Option.map_some,Option.some.injEq] at h
    split at h
    · exact .inr (by rw [h])
    · exact .inl h.symm
theorem only_live {H:Heap} {id j:Nat} (h:Live (only H id) j):j=id:=by
  obtain ⟨o,ho,hl⟩:=h
  unfold only at ho
  rw [List.getElem?_mapIdx] at ho
  cases hj:H[j]? with
  | none=>rw [hj] at ho; cases ho
  | some p =>
    rw [hj] at ho
    simp only [Option.map_some,Option.some.injEq] at ho
    split at ho
    · assumption
    · rw [← ho] at hl; cases hl
theorem freeze1 {c:Ctx} {w:World} (r:Rel c w H) {id b off:Nat} (hι:c.ι id=some (b,off)) (hl:Live H id) :
    Rel ⟨c.ι,fun x=>c.F x∨x=b⟩ w (H.set id .dead)∧Post c w H ⟨c.ι,fun x=>c.F x∨x=b⟩ w (H.set id .dead):=by
  have lm:Le c w ⟨c.ι,fun x=>c.F x∨x=b⟩ w:=⟨fun _ _ h=>h,fun _ h=>.inl h,fun _ _=>rfl,fun _ arr e fz h=>⟨arr,e,fz,h,rfl⟩⟩
  have old:∀ {j:Nat},Live (H.set id .dead) j→Live H j∧j≠id:=by
    rintro j ⟨o,ho,hol⟩
    rw [List.getElem?_set] at ho
    split at ho
    · split at ho
      · cases ho; cases hol
      · cases ho
    · rename_i hne
      exact ⟨⟨o,ho,hol⟩,fun e=>hne e.symm⟩
  refine ⟨⟨fun j o b' off' h hi=>?_,fun i j b o1 o2 hi hj=>r.inj i j b o1 o2 (old hi).1 (old hj).1,fun j b' off' h=>by rw [List.length_set]; exact r.dom j b' off' h,?_,?_⟩,?_⟩
  · rw [List.getElem?_set] at h
    split at h
    · split at h
      · cases h; trivial
      · cases h
    · exact (r.obj j o b' off' h hi).mono lm rfl
  · rintro j b' off' hj hi (hF | rfl)
    · exact r.sep j b' off' (old hj).1 hi hF
    · exact (old hj).2 (r.inj j id b' off' off (old hj).1 hl hi hι)
  · rintro x (hx | rfl)
    · exact r.fr x hx
    · exact (r.dom id x off hι).2
  · refine ⟨fun _ _ h=>h,fun _ _ _ h=>.inl h,fun _ h=>.inl h,?_,fun _ _ _=>rfl,?_,?_,by rw [List.length_set]; exact Nat.le_refl _,Nat.le_refl _,fun _ arr e fz h=>⟨arr,e,fz,h,rfl⟩,rfl,rfl,rfl⟩
    · rintro x (hx | rfl)
      · exact .inl hx
      · exact .inr (.inr ⟨id,off,hl,hι⟩)
    · intro j hj hn
      rw [List.getElem?_set,if_neg]
      rintro rfl
      rw [hι] at hn; cases hn
    · intro j hj hnl hl'
      exact hnl (old hl').1
theorem WO.seal1 {id t:Nat} {a':AVal} {o:AObj} (ht:t < n) (ho:H[id]?=some o) (hol:o.live=true) (hm:∀ c w v,VR c w (F t) v→∃ p,c.ι id=some p) (hs:Seals (only H id) (F t) a')
    (next:WO P S n draw ops rest i (putF F (some t) a') (H.set id .dead) K):WO P S n draw ops rest i F H K:=by
  intro hS hR hr c w a Q st hq
  have hv:=st.env t ht
  obtain ⟨⟨b,off⟩,hι⟩:=hm _ _ _ hv
  obtain ⟨r1,p1⟩:=freeze1 st.rel hι ⟨o,ho,hol⟩
  have hv2:=hs.ok (st.rel.kill (only_kills H id)) _ hv
  have hv3:VR ⟨c.ι,fun x=>c.F x∨x=b⟩ w a' (a.tmps.getD t undef):=by
    have lm:Le (c.shut (only H id)) w ⟨c.ι,fun x=>c.F x∨x=b⟩ w:=by
      refine ⟨fun _ _ h=>h,?_,fun _ _=>rfl,fun _ arr e fz h=>⟨arr,e,fz,h,rfl⟩⟩
      rintro x (hx | ⟨j,o',hj,hjι⟩)
      · exact .inl hx
      · cases only_live hj
        rw [hι] at hjι
        cases hjι
        exact .inr rfl
    exact hv2.mono lm
  have st1:=st.later r1 p1
  refine next hS hR hr _ w a Q ⟨st1.rel,st1.glob,fun u hu=>?_,st1.size,st1.defers⟩ fun F' H' c' w' a' hk st' p'=>hq F' H' c' w' a' hk st' (p1.trans st.rel p')
  show VR _ _ (putF F (some t) a' u) _
  by_cases h:u=t
  · subst h
    have e:putF F (some u) a' u=a':=Fr.set_at _ _ _
    rw [e]; exact hv3
  · have e:putF F (some t) a' u=F u:=Fr.set_ne _ _ h
    rw [e]; exact st1.env u hu
end Go.AM
namespace Go.AM
variable {P:Program}
def inD (D:List Nat) (o:Oper):Bool:=match o.dst with | some d=>D.contains d | none=>false
def pairJ (S:Sg) (m:List Nat) (D:List Nat) (i:Nat) (x:Oper) (j:Nat) (y:Oper):Bool :=
  !(readOp x.op && !inD D x && effOp S y.op && !quietOp S y && !bit m j i) && !(effOp S x.op && !quietOp S x && readOp y.op && !inD D y && !bit m j i)
def pairsJR (S:Sg) (m:List Nat) (D:List Nat) (i:Nat) (x:Oper):Nat→List Oper→Bool
  | _,[]=>true
  | j,y :: r=>pairJ S m D i x j y && pairsJR S m D i x (j + 1) r
def pairsJT (S:Sg) (m:List Nat) (D:List Nat):Nat→List Oper→Bool
  | _,[]=>true
  | i,x :: r=>pairsJR S m D i x (i + 1) r && pairsJT S m D (i + 1) r
def okJ (S:Sg) (ops:Array Oper) (D:List Nat):Bool:=okS S ops (masks ops.toList []) && pairsJT S (masks ops.toList []) D 0 ops.toList
def FreeE (S:Sg) (D:List Nat) (x:En):Prop:=inD D x.o=true→x.w=true→∀ G,again S (callS S) x G=true
theorem pairJ_ok {S:Sg} {m:List Nat} {D:List Nat} {i j:Nat} {x y:En} (h:pairJ S m D i x.o j y.o=true) (hx:FreeE S D x) (hy:FreeE S D y):pairOK S (callS S) m i x j y=true:=by
  unfold pairJ at h
  rw [Bool.and_eq_true] at h
  obtain ⟨h1,h2⟩:=h
  unfold pairOK
  rw [Bool.and_eq_true]
  constructor
  · split
    · rename_i hh
      simp only [Bool.and_eq_true,Bool.not_eq_true'] at hh
      obtain ⟨⟨⟨⟨⟨a1,a2⟩,a3⟩,a4⟩,a5⟩,a6⟩:=hh
      have:quietOp S y.o=false:=by
        cases hq:quietOp S y.o with
        | false=>rfl
        | true=>rw [quietOp_E hq] at a5; cases a5
      cases hd:inD D x.o with
      | true=>exact hx hd a2 _
      | false=>rw [a1,a3,this,a6,hd] at h1; cases h1
    · rfl
  · split
    · rename_i hh
      simp only [Bool.and_eq_true,Bool.not_eq_true'] at hh
      obtain ⟨⟨⟨⟨⟨a1,a2⟩,a3⟩,a4⟩,a5⟩,a6⟩:=hh
      have:quietOp S x.o=false:=by
        cases hq:quietOp S x.o with
        | false=>rfl
        | true=>rw [quietOp_E hq] at a3; cases a3
      cases hd:inD D y.o with
      | true=>exact hy hd a5 _
      | false=>rw [a1,this,a4,a6,hd] at h2; cases h2
    · rfl
theorem pairsJR_ok {S:Sg} {m:List Nat} {D:List Nat} {i:Nat} {x:En} (hx:FreeE S D x):∀ (r:List En) (j:Nat),(∀ y∈r,FreeE S D y)→pairsJR S m D i x.o j (r.map (·.o))=true→checkR S (callS S) m i x j r=true
  | [],j,_,h=>rfl
  | y :: r,j,hr,h=>by
    simp only [List.map_cons,pairsJR,Bool.and_eq_true] at h
    simp only [checkR,Bool.and_eq_true]
    exact ⟨pairJ_ok h.1 hx (hr y (by simp)),pairsJR_ok hx r (j + 1) (fun z hz=>hr z (by simp [hz])) h.2⟩
theorem pairsJT_ok {S:Sg} {m:List Nat} {D:List Nat}:∀ (es:List En) (i:Nat),(∀ y∈es,FreeE S D y)→pairsJT S m D i (es.map (·.o))=true→checkT S (callS S) m i es=true
  | [],i,_,h=>rfl
  | x :: es,i,hr,h=>by
    simp only [List.map_cons,pairsJT,Bool.and_eq_true] at h
    simp only [checkT,Bool.and_eq_true]
    exact ⟨pairsJR_ok (hr x (by simp)) es (i + 1) (fun z hz=>hr z (by simp [hz])) h.1,pairsJT_ok es (i + 1) (fun z hz=>hr z (by simp [hz])) h.2⟩
def WJ (S:Sg) (n:Nat) (ops:Array Oper) (D:List Nat) (rest:List Oper) (k:Nat) (F:Fr) (H:Heap) (K:Fr→Heap→Prop):Prop :=
  opsR n ops=true→(∀ o∈rest,o∈ops.toList)→∀ e:Tr,(∀ t,t < n→e.get t=F t)→∃ es e2 H2 F2,traceD S (callS S) n ops rest k e H=some (es,e2,H2)∧es.map (·.o)=rest∧(∀ t,t < n→e2.get t=F2 t)∧K F2 H2∧∀ x∈es,FreeE S D x
section
variable {S:Sg} {n:Nat} {ops:Array Oper} {D:List Nat} {F:Fr} {H:Heap} {K:Fr→Heap→Prop} {k:Nat}
theorem WJ.nil (h:K F H):WJ S n ops D [] k F H K:=fun _ _ e he=>⟨[],e,H,F,rfl,rfl,he,h,fun x hx=>by cases hx⟩
theorem WJ.op {o:Oper} {rest:List Oper} {H1:Heap} {v:AVal} (hop:denG S (callS S) true (opdF S F) H o.op=some (v,H1)) (hw:wantedF ops F o=some true) (ha:isAlloc o.op=false) (hD:inD D o=false)
    (next:WJ S n ops D rest k (putF F o.dst v) H1 K):WJ S n ops D (o :: rest) k F H K:=by
  intro hR hm e he
  have hoR:operR n o=true:=List.all_eq_true.1 hR o (hm o (by simp))
  obtain ⟨e1,hp,he1⟩:=put_of (v:=v) he (operR_dst hoR)
  obtain ⟨es,e2,H2,F2,h1,h2,h3,h4,h5⟩:=next hR (fun o ho=>hm o (by simp [ho])) e1 he1
  refine ⟨⟨o,e,H,true,v,H1⟩ :: es,e2,H2,F2,?_,by simp [h2],h3,h4,fun x hx=>?_⟩
  · unfold traceD
    rw [wanted_of he hR,hw]
    simp only [ha,opF_eq,(denG_of he hoR).trans hop,force_eq,hp,h1]
  · rcases List.mem_cons.1 hx with rfl | hx
    · intro h; rw [hD] at h; cases h
    · exact h5 x hx
theorem WJ.free {o:Oper} {rest:List Oper} {v:AVal} (hop:∀ G,denG S (callS S) true (opdF S F) G o.op=some (v,G)) (hw:wantedF ops F o=some true) (ha:isAlloc o.op=false) (hb:beqA 9 v v=true)
    (next:WJ S n ops D rest k (putF F o.dst v) H K):WJ S n ops D (o :: rest) k F H K:=by
  intro hR hm e he
  have hoR:operR n o=true:=List.all_eq_true.1 hR o (hm o (by simp))
  obtain ⟨e1,hp,he1⟩:=put_of (v:=v) he (operR_dst hoR)
  obtain ⟨es,e2,H2,F2,h1,h2,h3,h4,h5⟩:=next hR (fun o ho=>hm o (by simp [ho])) e1 he1
  refine ⟨⟨o,e,H,true,v,H⟩ :: es,e2,H2,F2,?_,by simp [h2],h3,h4,fun x hx=>?_⟩
  · unfold traceD
    rw [wanted_of he hR,hw]
    simp only [ha,opF_eq,(denG_of he hoR).trans (hop H),force_eq,hp,h1]
  · rcases List.mem_cons.1 hx with rfl | hx
    · intro _ _ G
      unfold again
      simp only [opF_eq,(denG_of he hoR).trans (hop G),hb]
    · exact h5 x hx
theorem WJ.skip {o:Oper} {rest:List Oper} (hw:wantedF ops F o=some false) (ha:isAlloc o.op=false)
    (next:WJ S n ops D rest k (putF F o.dst undefA) H K):WJ S n ops D (o :: rest) k F H K:=by
  intro hR hm e he
  have hoR:operR n o=true:=List.all_eq_true.1 hR o (hm o (by simp))
  obtain ⟨e1,hp,he1⟩:=put_of (v:=undefA) he (operR_dst hoR)
  obtain ⟨es,e2,H2,F2,h1,h2,h3,h4,h5⟩:=next hR (fun o ho=>hm o (by simp [ho])) e1 he1
  refine ⟨⟨o,e,H,false,undefA,H⟩ :: es,e2,H2,F2,?_,by simp [h2],h3,h4,fun x hx=>?_⟩
  · unfold traceD
    rw [wanted_of he hR,hw]
    simp only [ha,hp,h1]
  · rcases List.mem_cons.1 hx with rfl | hx
    · intro _ h; cases h
    · exact h5 x hx
theorem WJ.alloc {o:Oper} {rest:List Oper} {t:TypeId} (ho:o.op=.alloc t) (hw:wantedF ops F o=some true) (hD:inD D o=false)
    (next:WJ S n ops D rest (k + 1) (putF F o.dst (.ptr k 0)) H K):WJ S n ops D (o :: rest) k F H K:=by
  intro hR hm e he
  have hoR:operR n o=true:=List.all_eq_true.1 hR o (hm o (by simp))
  obtain ⟨e1,hp,he1⟩:=put_of (v:=.ptr k 0) he (operR_dst hoR)
  obtain ⟨es,e2,H2,F2,h1,h2,h3,h4,h5⟩:=next hR (fun o ho=>hm o (by simp [ho])) e1 he1
  refine ⟨⟨o,e,H,true,.ptr k 0,H⟩ :: es,e2,H2,F2,?_,by simp [h2],h3,h4,fun x hx=>?_⟩
  · unfold traceD
    rw [wanted_of he hR,hw]
    have ha:isAlloc o.op=true:=by rw [ho]; rfl
    simp only [ha,hp,h1]
  · rcases List.mem_cons.1 hx with rfl | hx
    · intro h; rw [hD] at h; cases h
    · exact h5 x hx
end
section
variable {S:Sg} {n:Nat} {F:Fr} {H:Heap} {K:Ex→Fr→Heap→Prop}
theorem W.drawJ {id:Nat} {ops:Array Oper} (D:List Nat) {sl:Heap} (hsl:slotsOf S ops.toList=some sl) (hst:okJ S ops D=true)
    (h:WJ S n ops D ops.toList H.length F (H ++ sl) (fun F' H'=>K .normal F' H')):W P S n (.region id ops true) F H K:=by
  intro hs hR c w a Q st hq
  unfold codeR at hR
  obtain ⟨es,e2,H2,F2,h1,h2,h3,h4,h5⟩:=h hR (fun o ho=>ho) (Tr.tab F n) (fun t ht=>by rw [Tr.get_tab,if_pos ht])
  have hd:denDraw S (callS S) n ops (Tr.tab F n) H=some (e2,H2):=by
    unfold denDraw
    rw [hsl]
    simp only [h1]
    unfold okJ at hst
    rw [Bool.and_eq_true] at hst
    have hc:checkT S (callS S) (masks ops.toList []) 0 es=true:=pairsJT_ok es 0 h5 (by rw [h2]; exact hst.2)
    rw [hst.1,hc]
    rfl
  exact denDraw_ok hs.sg (callS S) hs.call hs.callQ n id ops (Tr.tab F n) e2 H H2 c w a Q hd st.st fun c' w' a' st' p'=>hq .normal F2 H2 c' w' a' h4 (st'.stF h3) p'
theorem W.drawJ0 {id:Nat} {ops:Array Oper} (D:List Nat) (hsl:slotsOf S ops.toList=some []) (hst:okJ S ops D=true)
    (h:WJ S n ops D ops.toList H.length F H (fun F' H'=>K .normal F' H')):W P S n (.region id ops true) F H K :=
  W.drawJ D hsl hst (by rw [List.append_nil]; exact h)
end
end Go.AM
namespace Go.AM
theorem W.midE {P:Program} {S:Sg} {n:Nat} {F:Fr} {H:Heap} {K:Ex→Fr→Heap→Prop} {p q:Code} {α:Type} (I:α→Prop) (FF:α→List (Nat×AVal)) (HH:α→Heap)
    (h1:W P S n p F H (fun x F' H'=>x=.normal∧∃ a,I a∧AllF F' (FF a)∧H'=HH a)) (h2:∀ a,I a→W P S n q (fr (FF a)) (HH a) K):W P S n (.seq p q) F H K:=by
  refine W.seq (h1.mono fun x F' H' h=>?_)
  obtain ⟨rfl,a,ha,hl,rfl⟩:=h
  exact W.fits (fits_fr hl) (h2 a ha)
end Go.AM
namespace Go.AM
variable {P:Program}
structure FreeK (S:Sg) (D:List Nat) (Ok:Heap→Prop) (x:En):Prop where
  g:Ok x.G
  g':Ok x.G'
  free:inD D x.o=true→x.w=true→∀ G,Ok G→again S (callS S) x G=true
theorem pairK_ok {S:Sg} {m:List Nat} {D:List Nat} {Ok:Heap→Prop} {i j:Nat} {x y:En} (h:pairJ S m D i x.o j y.o=true) (hx:FreeK S D Ok x) (hy:FreeK S D Ok y):pairOK S (callS S) m i x j y=true:=by
  unfold pairJ at h
  rw [Bool.and_eq_true] at h
  obtain ⟨h1,h2⟩:=h
  unfold pairOK
  rw [Bool.and_eq_true]
  constructor
  · split
    · rename_i hh
      simp only [Bool.and_eq_true,Bool.not_eq_true'] at hh
      obtain ⟨⟨⟨⟨⟨a1,a2⟩,a3⟩,a4⟩,a5⟩,a6⟩:=hh
      have:quietOp S y.o=false:=by
        cases hq:quietOp S y.o with
        | false=>rfl
        | true=>rw [quietOp_E hq] at a5; cases a5
      cases hd:inD D x.o with
      | true=>exact hx.free hd a2 _ hy.g'
      | false=>rw [a1,a3,this,a6,hd] at h1; cases h1
    · rfl
  · split
    · rename_i hh
      simp only [Bool.and_eq_true,Bool.not_eq_true'] at hh
      obtain ⟨⟨⟨⟨⟨a1,a2⟩,a3⟩,a4⟩,a5⟩,a6⟩:=hh
      have:quietOp S x.o=false:=by
        cases hq:quietOp S x.o with
        | false=>rfl
        | true=>rw [quietOp_E hq] at a3; cases a3
      cases hd:inD D y.o with
      | true=>exact hy.free hd a5 _ hx.g
      | false=>rw [a1,this,a4,a6,hd] at h2; cases h2
    · rfl
def pairsLR (S:Sg) (m:List Nat) (D:List Nat) (i:Nat) (x:Oper):Nat→Nat→List Oper→Bool
  | _,_,[]=>true
  | 0,j,y :: r=>pairJ S m [] i x j y && pairsLR S m D i x 0 (j + 1) r
  | c + 1,j,y :: r=>pairJ S m D i x j y && pairsLR S m D i x c (j + 1) r
def pairsLT (S:Sg) (m:List Nat) (D:List Nat):Nat→Nat→List Oper→Bool
  | _,_,[]=>true
  | 0,i,x :: r=>pairsLR S m D i x 0 (i + 1) r && pairsLT S m D 0 (i + 1) r
  | c + 1,i,x :: r=>pairsLR S m D i x c (i + 1) r && pairsLT S m D c (i + 1) r
def okL (S:Sg) (ops:Array Oper) (D:List Nat) (c:Nat):Bool:=okS S ops (masks ops.toList []) && pairsLT S (masks ops.toList []) D c 0 ops.toList
theorem freeE_nil {S:Sg} (x:En):FreeE S [] x:=fun h=>by
  unfold inD at h
  split at h
  · simp at h
  · cases h
theorem pairsLR0_ok {S:Sg} {m:List Nat} {D:List Nat} {i:Nat} {x:En}:∀ (r:List En) (j:Nat),pairsLR S m D i x.o 0 j (r.map (·.o))=true→checkR S (callS S) m i x j r=true
  | [],j,h=>rfl
  | y :: r,j,h=>by
    simp only [List.map_cons,pairsLR,Bool.and_eq_true] at h
    simp only [checkR,Bool.and_eq_true]
    exact ⟨pairJ_ok h.1 (freeE_nil x) (freeE_nil y),pairsLR0_ok r (j + 1) h.2⟩
theorem pairsLR_ok {S:Sg} {m:List Nat} {D:List Nat} {Ok:Heap→Prop} {i:Nat} {x:En} (hx:FreeK S D Ok x):∀ (c:Nat) (r:List En) (j:Nat),(∀ y∈r.take c,FreeK S D Ok y)→pairsLR S m D i x.o c j (r.map (·.o))=true→checkR S (callS S) m i x j r=true
  | c,[],j,_,h=>rfl
  | 0,y :: r,j,hr,h=>pairsLR0_ok (y :: r) j h
  | c + 1,y :: r,j,hr,h=>by
    simp only [List.map_cons,pairsLR,Bool.and_eq_true] at h
    simp only [checkR,Bool.and_eq_true]
    rw [List.take_succ_cons] at hr
    exact ⟨pairK_ok h.1 hx (hr y (by simp)),pairsLR_ok hx c r (j + 1) (fun z hz=>hr z (by simp [hz])) h.2⟩
theorem pairsLT0_ok {S:Sg} {m:List Nat} {D:List Nat}:∀ (es:List En) (i:Nat),pairsLT S m D 0 i (es.map (·.o))=true→checkT S (callS S) m i es=true
  | [],i,h=>rfl
  | x :: es,i,h=>by
    simp only [List.map_cons,pairsLT,Bool.and_eq_true] at h
    simp only [checkT,Bool.and_eq_true]
    exact ⟨pairsLR0_ok es (i + 1) h.1,pairsLT0_ok es (i + 1) h.2⟩
theorem pairsLT_ok {S:Sg} {m:List Nat} {D:List Nat} {Ok:Heap→Prop}:∀ (c:Nat) (es:List En) (i:Nat),(∀ y∈es.take c,FreeK S D Ok y)→pairsLT S m D c i (es.map (·.o))=true→checkT S (callS S) m i es=true
  | c,[],i,_,h=>rfl
  | 0,x :: es,i,_,h=>pairsLT0_ok (x :: es) i h
  | c + 1,x :: es,i,hr,h=>by
    simp only [List.map_cons,pairsLT,Bool.and_eq_true] at h
    simp only [checkT,Bool.and_eq_true]
    rw [List.take_succ_cons] at hr
    exact ⟨pairsLR_ok (hr x (by simp)) c es (i + 1) (fun z hz=>hr z (by simp [hz])) h.1,pairsLT_ok c es (i + 1) (fun z hz=>hr z (by simp [hz])) h.2⟩
def WK (S:Sg) (n:Nat) (ops:Array Oper) (D:List Nat) (Ok:Heap→Prop) (c:Nat) (rest:List Oper) (k:Nat) (F:Fr) (H:Heap) (K:Fr→Heap→Prop):Prop :=
  opsR n ops=true→(∀ o∈rest,o∈ops.toList)→∀ e:Tr,(∀ t,t < n→e.get t=F t)→∃ es e2 H2 F2,traceD S (callS S) n ops rest k e H=some (es,e2,H2)∧es.map (·.o)=rest∧(∀ t,t < n→e2.get t=F2 t)∧K F2 H2∧∀ x∈es.take c,FreeK S D Ok x
section
variable {S:Sg} {n:Nat} {ops:Array Oper} {D:List Nat} {Ok:Heap→Prop} {F:Fr} {H:Heap} {K:Fr→Heap→Prop} {k c:Nat}
theorem WK.tail {rest:List Oper} (h:WT S n ops rest k F H K):WK S n ops D Ok 0 rest k F H K:=fun hR hm e he=>by
  obtain ⟨es,e2,H2,F2,h1,h2,h3,h4⟩:=h hR hm e he
  exact ⟨es,e2,H2,F2,h1,h2,h3,h4,fun x hx=>by rw [List.take_zero] at hx; cases hx⟩
theorem WK.op {o:Oper} {rest:List Oper} {H1:Heap} {v:AVal} (hop:denG S (callS S) true (opdF S F) H o.op=some (v,H1)) (hw:wantedF ops F o=some true) (ha:isAlloc o.op=false) (hD:inD D o=false) (hO:Ok H) (hO1:Ok H1)
    (next:WK S n ops D Ok c rest k (putF F o.dst v) H1 K):WK S n ops D Ok (c + 1) (o :: rest) k F H K:=by
  intro hR hm e he
  have hoR:operR n o=true:=List.all_eq_true.1 hR o (hm o (by simp))
  obtain ⟨e1,hp,he1⟩:=put_of (v:=v) he (operR_dst hoR)
  obtain ⟨es,e2,H2,F2,h1,h2,h3,h4,h5⟩:=next hR (fun o ho=>hm o (by simp [ho])) e1 he1
  refine ⟨⟨o,e,H,true,v,H1⟩ :: es,e2,H2,F2,?_,by simp [h2],h3,h4,fun x hx=>?_⟩
  · unfold traceD
    rw [wanted_of he hR,hw]
    simp only [ha,opF_eq,(denG_of he hoR).trans hop,force_eq,hp,h1]
  · rcases List.mem_cons.1 (List.take_succ_cons ▸ hx) with rfl | hx
    · exact ⟨hO,hO1,fun h=>by rw [hD] at h; cases h⟩
    · exact h5 x hx
theorem WK.free {o:Oper} {rest:List Oper} {v:AVal} (hO:Ok H) (hop:∀ G,Ok G→denG S (callS S) true (opdF S F) G o.op=some (v,G)) (hw:wantedF ops F o=some true) (ha:isAlloc o.op=false) (hb:beqA 9 v v=true)
    (next:WK S n ops D Ok c rest k (putF F o.dst v) H K):WK S n ops D Ok (c + 1) (o :: rest) k F H K:=by
  intro hR hm e he
  have hoR:operR n o=true:=List.all_eq_true.1 hR o (hm o (by simp))
  obtain ⟨e1,hp,he1⟩:=put_of (v:=v) he (operR_dst hoR)
  obtain ⟨es,e2,H2,F2,h1,h2,h3,h4,h5⟩:=next hR (fun o ho=>hm o (by simp [ho])) e1 he1
  refine ⟨⟨o,e,H,true,v,H⟩ :: es,e2,H2,F2,?_,by simp [h2],h3,h4,fun x hx=>?_⟩
  · unfold traceD
    rw [wanted_of he hR,hw]
    simp only [ha,opF_eq,(denG_of he hoR).trans (hop H hO),force_eq,hp,h1]
  · rcases List.mem_cons.1 (List.take_succ_cons ▸ hx) with rfl | hx
    · refine ⟨hO,hO,fun _ _ G hG=>?_⟩
      unfold again
      simp only [opF_eq,(denG_of he hoR).trans (hop G hG),hb]
    · exact h5 x hx
theorem WK.skip {o:Oper} {rest:List Oper} (hO:Ok H) (hw:wantedF ops F o=some false) (ha:isAlloc o.op=false)
    (next:WK S n ops D Ok c rest k (putF F o.dst undefA) H K):WK S n ops D Ok (c + 1) (o :: rest) k F H K:=by
  intro hR hm e he
  have hoR:operR n o=true:=List.all_eq_true.1 hR o (hm o (by simp))
  obtain ⟨e1,hp,he1⟩:=put_of (v:=undefA) he (operR_dst hoR)
  obtain ⟨es,e2,H2,F2,h1,h2,h3,h4,h5⟩:=next hR (fun o ho=>hm o (by simp [ho])) e1 he1
  refine ⟨⟨o,e,H,false,undefA,H⟩ :: es,e2,H2,F2,?_,by simp [h2],h3,h4,fun x hx=>?_⟩
  · unfold traceD
    rw [wanted_of he hR,hw]
    simp only [ha,hp,h1]
  · rcases List.mem_cons.1 (List.take_succ_cons ▸ hx) with rfl | hx
    · exact ⟨hO,hO,fun _ h=>by cases h⟩
    · exact h5 x hx
end
section
variable {S:Sg} {n:Nat} {F:Fr} {H:Heap} {K:Ex→Fr→Heap→Prop}
theorem W.drawK {id:Nat} {ops:Array Oper} (D:List Nat) (Ok:Heap→Prop) (c:Nat) {sl:Heap} (hsl:slotsOf S ops.toList=some sl) (hst:okL S ops D c=true)
    (h:WK S n ops D Ok c ops.toList H.length F (H ++ sl) (fun F' H'=>K .normal F' H')):W P S n (.region id ops true) F H K:=by
  intro hs hR cx w a Q st hq
  unfold codeR at hR
  obtain ⟨es,e2,H2,F2,h1,h2,h3,h4,h5⟩:=h hR (fun o ho=>ho) (Tr.tab F n) (fun t ht=>by rw [Tr.get_tab,if_pos ht])
  have hd:denDraw S (callS S) n ops (Tr.tab F n) H=some (e2,H2):=by
    unfold denDraw
    rw [hsl]
    simp only [h1]
    unfold okL at hst
    rw [Bool.and_eq_true] at hst
    have hc:checkT S (callS S) (masks ops.toList []) 0 es=true:=pairsLT_ok c es 0 h5 (by rw [h2]; exact hst.2)
    rw [hst.1,hc]
    rfl
  exact denDraw_ok hs.sg (callS S) hs.call hs.callQ n id ops (Tr.tab F n) e2 H H2 cx w a Q hd st.st fun c' w' a' st' p'=>hq .normal F2 H2 c' w' a' h4 (st'.stF h3) p'
theorem W.drawK0 {id:Nat} {ops:Array Oper} (D:List Nat) (Ok:Heap→Prop) (c:Nat) (hsl:slotsOf S ops.toList=some []) (hst:okL S ops D c=true)
    (h:WK S n ops D Ok c ops.toList H.length F H (fun F' H'=>K .normal F' H')):W P S n (.region id ops true) F H K :=
  W.drawK D Ok c hsl hst (by rw [List.append_nil]; exact h)
end
end Go.AM
namespace Go.AM
theorem WT.as {S:Sg} {n:Nat} {ops:Array Oper} {F:Fr} {H:Heap} {K:Fr→Heap→Prop} {k:Nat} {o:Oper} {rest:List Oper} {H1:Heap} {v v':AVal} (hop:denG S (callS S) true (opdF S F) H o.op=some (v,H1)) (hw:wantedF ops F o=some true) (ha:isAlloc o.op=false) (e:v=v')
    (next:WT S n ops rest k (putF F o.dst v') H1 K):WT S n ops (o :: rest) k F H K:=WT.op (by rw [← e]; exact hop) hw ha next
noncomputable def relX (R:List AVal→Heap→AVal→Heap→Prop):Ext:=fun args H=>by
  classical
  exact if h:∃ p:AVal×Heap,R args H p.1 p.2 then some (Classical.choose h) else none
theorem relX_is {R:List AVal→Heap→AVal→Heap→Prop} {args:List AVal} {H H':Heap} {v:AVal} (h:relX R args H=some (v,H')):R args H v H':=by
  unfold relX at h
  split at h
  · rename_i hx
    have:=Classical.choose_spec hx
    rw [Option.some.inj h] at this
    exact this
  · cases h
theorem relX_eq {R:List AVal→Heap→AVal→Heap→Prop} (hf:∀ args H v H1 u H2,R args H v H1→R args H u H2→v=u∧H1=H2) {args:List AVal} {H H':Heap} {v:AVal} (h:R args H v H'):relX R args H=some (v,H'):=by
  unfold relX
  have hx:∃ p:AVal×Heap,R args H p.1 p.2:=⟨(v,H'),h⟩
  rw [dif_pos hx]
  obtain ⟨h1,h2⟩:=hf _ _ _ _ _ _ (Classical.choose_spec hx) h
  exact congrArg some (Prod.ext h1 h2)
def listR (l:List (List AVal×AVal)) (args:List AVal) (H:Heap) (v:AVal) (H':Heap):Prop:=(args,v)∈l∧H'=H
theorem listR_fun {l:List (List AVal×AVal)} (hl:∀ p∈l,∀ q∈l,p.1=q.1→p.2=q.2):∀ args H v H1 u H2,listR l args H v H1→listR l args H u H2→v=u∧H1=H2:=by
  rintro args H v _ u _ ⟨h1,rfl⟩ ⟨h2,rfl⟩
  exact ⟨hl _ h1 _ h2 rfl,rfl⟩
end Go.AM
