import Derived.Maps.RangeRun
import Derived.Test.YtjlmihjhakfchaaGreatDoorA5
set_option linter.unusedVariables false
set_option linter.unusedSimpArgs false
noncomputable section
namespace Go.AM
open Go.ChangeMaps (setBlock)
variable {P:Program} {S:Sg} {n:Nat} {draw:Bool} {ops:Array Oper} {o:Oper} {rest:List Oper} {i:Nat} {F:Fr} {H H1:Heap} {K:Fr→Heap→Prop}
theorem WO.yields (hw : wantedF ops F o = some true) (h : ∀ (c : Ctx) (w : World) (a : Act), Sound P S → StF S n c w F H a → operR n o = true →
      ∃ (v:AVal) (H1:Heap) (s:Sem Value),execOp a.eval o=(do pure (.value (← s)))∧Yields P c w H s v H1∧WO P S n draw ops rest (i + 1) (putF F o.dst v) H1 K):WO P S n draw ops (o :: rest) i F H K:=by
  intro hs hR hr c w a Q st hq
  have ho:ops[i]?=some o:=by
    have:(ops.toList.drop i)[0]?=some o:=by rw [← hr]; rfl
    rw [List.getElem?_drop,Nat.add_zero,Array.getElem?_toList] at this
    exact this
  have hoR:operR n o=true:=by
    have:=hR
    unfold opsR at this
    rw [List.all_eq_true] at this
    exact this o (List.mem_of_getElem? (by rw [Array.getElem?_toList]; exact ho))
  have hr':rest=ops.toList.drop (i + 1):=by
    have:=congrArg List.tail hr
    simpa [List.tail_drop] using this
  simp only [List.length_cons,List.range'_succ,wpOps,ho]
  rw [wanted_ok st.st.env ((wanted_tab hR).trans hw)]
  simp only [if_true]
  obtain ⟨v,H1,s,hx,y,next⟩:=h c w a hs st hoR
  refine .inl (wp_of_yields hx y fun cv c1 w1 r1 p1 hvv=>?_)
  exact next hs hR hr' c1 w1 _ Q ((st.later r1 p1).put (operR_dst hoR) hvv) fun F' H' c' w' a' hk st' p'=>hq F' H' c' w' a' hk st' (p1.trans st.rel p')
theorem opdF_ok {c:Ctx} {w:World} {a:Act} (st:StF S n c w F H a) {x:Operand} (h:tmpR n x=true):VR c w (opdF S F x) (a.eval x):=by
  have:=opd_ok (S:=S) (a:=a) st.st.env st.glob x
  rwa [opd_tab h] at this
theorem iter_ptr {c:Ctx} {w:World} {id:Nat} {v:Value} (h:VR c w (.ptr id 0) v):∃ b o,c.ι id=some (b,o)∧v=.pointer (some ⟨b,o,none⟩):=by
  cases h with
  | ptr _ _ b o hι=>exact ⟨b,o,hι,rfl⟩
theorem next_step {c:Ctx} {w:World} {H:Heap} (r:Rel c w H) {id b:Nat} {x:AObj} (hid:H[id]?=some x) (hx:x.live=true) (hι:c.ι id=some (b,0)) {y:AObj} (hy:y.live=true) {w1:World} (hw1:w1=w∨w1=w.drew) {obj:Obj}
    (hiter:∃ a b' c' d,w.heap[b]?=some (.mapIter a b' c' d)) (hO:∀ w2:World,Le c w c w2→w2.heap[b]?=some obj→ObjR c w2 b 0 y):Rel c (setBlock w1 b obj) (H.set id y)∧Post c w H c (setBlock w1 b obj) (H.set id y):=by
  have hlt:b < w.heap.size:=(r.dom id b 0 hι).2
  obtain ⟨q1,q2,q3,q4,hit⟩:=hiter
  rcases hw1 with rfl | rfl
  · refine upd r hid hx hι hy (by simp [setBlock]) (fun j hj=>by simp [setBlock,Array.getElem?_setIfInBounds,Ne.symm hj]) (fun arr e fz he=>by rw [hit] at he; cases he) rfl rfl rfl fun l=>?_
    exact hO _ l (by simp [setBlock,hlt])
  · have p0:=Post.drew c w H
    obtain ⟨r',p'⟩:=upd (w:=w.drew) (w':=setBlock w.drew b obj) (o:=y) r.drew hid hx hι hy (by simp [setBlock]) (fun j hj=>by simp [setBlock,Array.getElem?_setIfInBounds,Ne.symm hj]) (fun arr e fz he=>by
        have he':w.heap[b]?=some (.cells arr e fz):=he
        rw [hit] at he'; cases he') rfl rfl rfl fun l=>by
      have hlt':b < w.drew.heap.size:=hlt
      exact hO _ ((p0.le r).trans l) (by show (w.drew.heap.setIfInBounds b obj)[b]?=some obj; rw [Array.getElem?_setIfInBounds,if_pos rfl,if_pos hlt'])
    exact ⟨r',p0.trans r p'⟩
theorem mem_left {mes:Array MapEntry} {clk:Nat} (hst:Stamps mes clk) {seen:Array Nat} {e:MapEntry} (he:e∈(leftOf mes seen).toList):∃ j,mes[j]?=some e∧e.born=j∧j ∉ seen.toList:=by
  unfold leftOf at he
  rw [Array.mem_toList_iff,Array.mem_filter] at he
  obtain ⟨h1,h2⟩:=he
  obtain ⟨j,hj,rfl⟩:=Array.getElem_of_mem h1
  have hb:=hst.born j _ (Array.getElem?_eq_getElem hj)
  refine ⟨j,Array.getElem?_eq_getElem hj,hb,?_⟩
  rw [hb] at h2
  simpa using h2
theorem left_nil {mes:Array MapEntry} {clk:Nat} (hst:Stamps mes clk) {seen:Array Nat} (h:(leftOf mes seen).size=0):∀ j,j < mes.size→j∈seen.toList:=by
  intro j hj
  have hb:=hst.born j _ (Array.getElem?_eq_getElem hj)
  by_cases hm:j∈seen.toList
  · exact hm
  · have:mes[j]∈leftOf mes seen:=by
      unfold leftOf
      rw [Array.mem_filter]
      refine ⟨Array.getElem_mem hj,?_⟩
      rw [hb]
      simpa using hm
    have h0:leftOf mes seen=#[]:=Array.eq_empty_of_size_eq_zero h
    rw [h0] at this
    simp at this
theorem WO.next {it:Operand} {id mid m:Nat} {seen:List Nat} {es:List (AVal×AVal)} (ho:o.op=.next it false) (hx:opdF S F it=.ptr id 0) (hH:H[id]?=some (.miter mid m seen)) (hm:H[mid]?=some (.map es)) (hl:es.length=m) (hw:wantedF ops F o=some true)
    (over:(∀ j,j < m→j∈seen)→WO P S n draw ops rest (i + 1) (putF F o.dst (.tup [.bool false])) H K)
    (step:∀ (j:Nat) (e:AVal×AVal),es[j]?=some e→j ∉ seen→WO P S n draw ops rest (i + 1) (putF F o.dst (.tup [.bool true,e.1,e.2])) (H.set id (.miter mid m (seen ++ [j]))) K) :
    WO P S n draw ops (o :: rest) i F H K:=by
  refine WO.yields hw fun c w a hs st hoR=>?_
  have hit:tmpR n it=true:=by
    unfold operR at hoR
    rw [Bool.and_eq_true,List.all_eq_true] at hoR
    exact hoR.1 it (by rw [ho]; simp [Op.operands])
  have hv:=opdF_ok st hit
  rw [hx] at hv
  obtain ⟨b,ob,hι,hval⟩:=iter_ptr hv
  obtain ⟨rfl,bm,om,sn,hιm,hsn,hiter⟩:=st.rel.obj id _ b ob hH hι
  obtain ⟨mes,clk,hst,hb,hlm,hent⟩:=st.rel.obj mid _ bm om hm hιm
  have hclk:clk=m:=by rw [hst.clk,hlm,hl]
  subst hclk
  have hex:execOp a.eval o=(do pure (.value (← Instr.next (a.eval it) false o.type))):=by simp only [execOp,ho]
  rcases run_next_at (P:=P) w o.type b bm clk clk sn mes clk hiter hb (fun x hx=>by
      obtain ⟨j,hj,rfl⟩:=Array.getElem_of_mem (Array.mem_toList_iff.1 hx)
      rw [hst.born j _ (Array.getElem?_eq_getElem hj),hst.clk]; exact hj) (Nat.le_refl _) with ⟨h0,hr⟩ | ⟨e,he,w1,hw1,hr⟩
  · refine ⟨.tup [.bool false],H,_,hex,⟨_,w,c,by rw [hval]; exact hr,st.rel,Post.refl _ _ _,tup1 (.bool _)⟩,over fun j hj=>?_⟩
    rw [← hsn]
    exact left_nil hst h0 j (by rw [← hst.clk]; exact hj)
  · obtain ⟨j,hj,hbj,hjs⟩:=mem_left hst he
    have hjl:j < es.length:=by rw [← hlm]; exact (Array.getElem?_eq_some_iff.1 hj).1
    obtain ⟨hk,hvl⟩:=hent j _ _ (List.getElem?_eq_getElem hjl) hj
    obtain ⟨r',p'⟩:=next_step st.rel hH rfl hι (y:=.miter mid clk (seen ++ [j])) rfl hw1 (obj:=.mapIter (some bm) clk (sn.push e.born) clk) ⟨_,_,_,_,hiter⟩ fun w2 l h2=>⟨rfl,bm,om,sn.push e.born,hιm,by rw [Array.toList_push,hsn,hbj],h2⟩
    refine ⟨.tup [.bool true,es[j].1,es[j].2],_,_,hex,⟨_,_,c,by rw [hval]; exact hr,r',p',tup3 (.bool _) (hk.mono (p'.le st.rel)) (hvl.mono (p'.le st.rel))⟩,?_⟩
    exact step j es[j] (List.getElem?_eq_getElem hjl) (by rw [← hsn]; exact hjs)
theorem WO.entry {it:Operand} {id mid m j:Nat} {seen:List Nat} {es:List (AVal×AVal)} {e:AVal×AVal} (ho:o.op=.entry it) (hx:opdF S F it=.ptr id 0) (hH:H[id]?=some (.miter mid m (seen ++ [j]))) (hm:H[mid]?=some (.map es)) (hl:es.length=m) (he:es[j]?=some e) (hw:wantedF ops F o=some true)
    (next:WO P S n draw ops rest (i + 1) (putF F o.dst (.tup [e.1,e.2])) H K):WO P S n draw ops (o :: rest) i F H K:=by
  refine WO.yields hw fun c w a hs st hoR=>?_
  have hit:tmpR n it=true:=by
    unfold operR at hoR
    rw [Bool.and_eq_true,List.all_eq_true] at hoR
    exact hoR.1 it (by rw [ho]; simp [Op.operands])
  have hv:=opdF_ok st hit
  rw [hx] at hv
  obtain ⟨b,ob,hι,hval⟩:=iter_ptr hv
  obtain ⟨rfl,bm,om,sn,hιm,hsn,hiter⟩:=st.rel.obj id _ b ob hH hι
  obtain ⟨mes,clk,hst,hb,hlm,hent⟩:=st.rel.obj mid _ bm om hm hιm
  have hclk:clk=m:=by rw [hst.clk,hlm,hl]
  subst hclk
  have hj:j < mes.size:=by rw [hlm]; exact (List.getElem?_eq_some_iff.1 he).1
  have hbj:=hst.born j _ (Array.getElem?_eq_getElem hj)
  obtain ⟨sn',rfl⟩:∃ sn':Array Nat,sn=sn'.push j:=by
    refine ⟨seen.toArray,Array.toList_inj.1 ?_⟩
    rw [hsn]; simp
  have hr:=run_entry_at (P:=P) w b bm clk sn' mes clk mes[j] (by rw [hbj]; exact hiter) hb (by rw [Array.mem_toList_iff]; exact Array.getElem_mem hj) (by
    rw [List.nodup_iff_pairwise_ne,List.pairwise_map,List.pairwise_iff_getElem]
    intro x y hx hy hxy
    have h1:=hst.born x mes[x] (Array.getElem?_eq_getElem (by simpa using hx))
    have h2:=hst.born y mes[y] (Array.getElem?_eq_getElem (by simpa using hy))
    simp only [Array.getElem_toList]
    omega)
  obtain ⟨hk,hvl⟩:=hent j _ _ he (Array.getElem?_eq_getElem hj)
  exact ⟨.tup [e.1,e.2],H,_,by simp only [execOp,ho]; rfl,⟨_,w,c,by rw [hval]; exact hr,st.rel,Post.refl _ _ _,VR.pair2 hk hvl⟩,next⟩
theorem WO.range_imap {x:Operand} {t kt et:TypeId} {ti:TI} {ks vs:List AVal} {cl:Bool} (ho:o.op=.range t x) (hx:opdF S F x=.imap ks vs cl) (ht:S.ty t=some ti) (hd:ti.desc=.map kt et) (hw:wantedF ops F o=some true)
    (next:∀ ks' vs':List AVal,(ks'.zip vs').Perm (ks.zip vs)→vs'.length=ks'.length→WO P S n draw ops rest (i + 1) (putF F o.dst (.ptr H.length 0)) (H ++ [.iiter ks' vs' ks'.length []]) K):WO P S n draw ops (o :: rest) i F H K:=by
  refine WO.yields hw fun c w a hs st hoR=>?_
  have hit:tmpR n x=true:=by
    unfold operR at hoR
    rw [Bool.and_eq_true,List.all_eq_true] at hoR
    exact hoR.1 x (by rw [ho]; simp [Op.operands])
  have hv:=opdF_ok st hit
  rw [hx] at hv
  obtain ⟨ks',vs',b,mes,clk,hst,hF,hb,h1,h2,hp,h3,h4,hval⟩:∃ (ks' vs':List AVal) (b:Nat) (mes:Array MapEntry) (clk:Nat),Stamps mes clk∧c.F b∧w.heap[b]?=some (.map mes clk)∧mes.size=ks'.length∧vs'.length=ks'.length∧(ks'.zip vs').Perm (ks.zip vs) ∧
      (∀ (j:Nat) (a:AVal) (m:MapEntry),ks'[j]?=some a→mes[j]?=some m→VR c w a m.key)∧(∀ (j:Nat) (a:AVal) (m:MapEntry),vs'[j]?=some a→mes[j]?=some m→VR c w a m.val)∧a.eval x=.map (some b):=by
    generalize a.eval x=q at hv
    cases hv with
    | imap _ _ _ ks' vs' b mes clk _ hst hF hb h1 h2 hp h3 h4=>exact ⟨ks',vs',b,mes,clk,hst,hF,hb,h1,h2,hp,h3,h4,rfl⟩
  have hu:=(hs.sg.ty _ _ ht).und
  rw [hd] at hu
  have hclk:clk=ks'.length:=by rw [hst.clk,h1]
  subst hclk
  obtain ⟨c',r',p',hι⟩:=new_mut st.rel (.mapIter (some b) ks'.length #[] ks'.length) (.iiter ks' vs' ks'.length []) fun c' w' l hb'=>⟨rfl,b,#[],mes,l.F _ hF,hst,by rw [l.blk b hF]; exact hb,h1,h2,fun j a m ha hm=>(h3 j a m ha hm).mono l,fun j a m ha hm=>(h4 j a m ha hm).mono l,rfl,hb'⟩
  have hg:(getObj b).run P w=.ok (.map mes ks'.length) w:=by simp [getObj,Sem.run,hb]
  exact ⟨.ptr H.length 0,_,Instr.range t (a.eval x),by simp only [execOp,ho],⟨.pointer (some ⟨w.heap.size,0,none⟩),_,c',by simp [Instr.range,run_und hu,hval,hg],r',p',.ptr _ _ _ 0 hι⟩,next ks' vs' hp h2⟩
theorem WO.nextI {it:Operand} {id m:Nat} {seen:List Nat} {ks vs:List AVal} (ho:o.op=.next it false) (hx:opdF S F it=.ptr id 0) (hH:H[id]?=some (.iiter ks vs m seen)) (hw:wantedF ops F o=some true)
    (over:(∀ j,j < ks.length→j∈seen)→WO P S n draw ops rest (i + 1) (putF F o.dst (.tup [.bool false])) H K)
    (step:∀ (j:Nat) (k v:AVal),ks[j]?=some k→vs[j]?=some v→j ∉ seen→WO P S n draw ops rest (i + 1) (putF F o.dst (.tup [.bool true,k,v])) (H.set id (.iiter ks vs m (seen ++ [j]))) K) :
    WO P S n draw ops (o :: rest) i F H K:=by
  refine WO.yields hw fun c w a hs st hoR=>?_
  have hit:tmpR n it=true:=by
    unfold operR at hoR
    rw [Bool.and_eq_true,List.all_eq_true] at hoR
    exact hoR.1 it (by rw [ho]; simp [Op.operands])
  have hv:=opdF_ok st hit
  rw [hx] at hv
  obtain ⟨b,ob,hι,hval⟩:=iter_ptr hv
  obtain ⟨rfl,bm,sn,mes,hF,hst,hb,h1,h2,h3,h4,hsn,hiter⟩:=st.rel.obj id _ b ob hH hι
  have hex:execOp a.eval o=(do pure (.value (← Instr.next (a.eval it) false o.type))):=by simp only [execOp,ho]
  rcases run_next_at (P:=P) w o.type b bm m m sn mes m hiter hb (fun x hx=>by
      obtain ⟨j,hj,rfl⟩:=Array.getElem_of_mem (Array.mem_toList_iff.1 hx)
      rw [hst.born j _ (Array.getElem?_eq_getElem hj),hst.clk]; exact hj) (Nat.le_refl _) with ⟨h0,hr⟩ | ⟨e,he,w1,hw1,hr⟩
  · refine ⟨.tup [.bool false],H,_,hex,⟨_,w,c,by rw [hval]; exact hr,st.rel,Post.refl _ _ _,tup1 (.bool _)⟩,over fun j hj=>?_⟩
    rw [← hsn]
    exact left_nil hst h0 j (by rw [h1]; exact hj)
  · obtain ⟨j,hj,hbj,hjs⟩:=mem_left hst he
    have hjl:j < ks.length:=by rw [← h1]; exact (Array.getElem?_eq_some_iff.1 hj).1
    have hjv:j < vs.length:=by omega
    have hk:=h3 j _ _ (List.getElem?_eq_getElem hjl) hj
    have hvl:=h4 j _ _ (List.getElem?_eq_getElem hjv) hj
    obtain ⟨r',p'⟩:=next_step st.rel hH rfl hι (y:=.iiter ks vs m (seen ++ [j])) rfl hw1 (obj:=.mapIter (some bm) m (sn.push e.born) m) ⟨_,_,_,_,hiter⟩ fun w2 l h22 =>
      ⟨rfl,bm,sn.push e.born,mes,hF,hst,by rw [l.blk bm hF]; exact hb,h1,h2,fun j a m ha hm=>(h3 j a m ha hm).mono l,fun j a m ha hm=>(h4 j a m ha hm).mono l,by rw [Array.toList_push,hsn,hbj],h22⟩
    refine ⟨.tup [.bool true,ks[j],vs[j]],_,_,hex,⟨_,_,c,by rw [hval]; exact hr,r',p',tup3 (.bool _) (hk.mono (p'.le st.rel)) (hvl.mono (p'.le st.rel))⟩,?_⟩
    exact step j ks[j] vs[j] (List.getElem?_eq_getElem hjl) (List.getElem?_eq_getElem hjv) (by rw [← hsn]; exact hjs)
theorem WO.entryI {it:Operand} {id m j:Nat} {seen:List Nat} {ks vs:List AVal} {k v:AVal} (ho:o.op=.entry it) (hx:opdF S F it=.ptr id 0) (hH:H[id]?=some (.iiter ks vs m (seen ++ [j]))) (hk:ks[j]?=some k) (hv:vs[j]?=some v) (hw:wantedF ops F o=some true)
    (next:WO P S n draw ops rest (i + 1) (putF F o.dst (.tup [k,v])) H K):WO P S n draw ops (o :: rest) i F H K:=by
  refine WO.yields hw fun c w a hs st hoR=>?_
  have hit:tmpR n it=true:=by
    unfold operR at hoR
    rw [Bool.and_eq_true,List.all_eq_true] at hoR
    exact hoR.1 it (by rw [ho]; simp [Op.operands])
  have hvv:=opdF_ok st hit
  rw [hx] at hvv
  obtain ⟨b,ob,hι,hval⟩:=iter_ptr hvv
  obtain ⟨rfl,bm,sn,mes,hF,hst,hb,h1,h2,h3,h4,hsn,hiter⟩:=st.rel.obj id _ b ob hH hι
  have hj:j < mes.size:=by rw [h1]; exact (List.getElem?_eq_some_iff.1 hk).1
  have hbj:=hst.born j _ (Array.getElem?_eq_getElem hj)
  obtain ⟨sn',rfl⟩:∃ sn':Array Nat,sn=sn'.push j:=by
    refine ⟨seen.toArray,Array.toList_inj.1 ?_⟩
    rw [hsn]; simp
  have hr:=run_entry_at (P:=P) w b bm m sn' mes m mes[j] (by rw [hbj]; exact hiter) hb (by rw [Array.mem_toList_iff]; exact Array.getElem_mem hj) (by
    rw [List.nodup_iff_pairwise_ne,List.pairwise_map,List.pairwise_iff_getElem]
    intro x y hx hy hxy
    have h1:=hst.born x mes[x] (Array.getElem?_eq_getElem (by simpa using hx))
    have h2:=hst.born y mes[y] (Array.getElem?_eq_getElem (by simpa using hy))
    simp only [Array.getElem_toList]
    omega)
  exact ⟨.tup [k,v],H,_,by simp only [execOp,ho]; rfl,⟨_,w,c,by rw [hval]; exact hr,st.rel,Post.refl _ _ _,VR.pair2 (h3 j k _ hk (Array.getElem?_eq_getElem hj)) (h4 j v _ hv (Array.getElem?_eq_getElem hj))⟩,next⟩
theorem WO.next_nil {it:Operand} {id:Nat} (ho:o.op=.next it false) (hx:opdF S F it=.ptr id 0) (hH:H[id]?=some .niter) (hw:wantedF ops F o=some true)
    (over:WO P S n draw ops rest (i + 1) (putF F o.dst (.tup [.bool false])) H K):WO P S n draw ops (o :: rest) i F H K:=by
  refine WO.yields hw fun c w a hs st hoR=>?_
  have hit:tmpR n it=true:=by
    unfold operR at hoR
    rw [Bool.and_eq_true,List.all_eq_true] at hoR
    exact hoR.1 it (by rw [ho]; simp [Op.operands])
  have hv:=opdF_ok st hit
  rw [hx] at hv
  obtain ⟨b,ob,hι,hval⟩:=iter_ptr hv
  obtain ⟨rfl,hiter⟩:=st.rel.obj id _ b ob hH hι
  refine ⟨.tup [.bool false],H,_,by simp only [execOp,ho]; rfl,⟨.tuple #[.bool false],w,c,?_,st.rel,Post.refl _ _ _,tup1 (.bool _)⟩,over⟩
  rw [hval]
  simp [Instr.next,getObj,Sem.run,hiter]
end Go.AM
namespace Go.AM
variable {P:Program}
inductive SealsN (N:Nat) (H:Heap):AVal→AVal→Prop
  | same (a:AVal):a.closed=true→SealsN N H a a
  | ptr (id off:Nat) (vs:List AVal) (ty:TypeId) (cs:List AVal):N≤id→H[id]?=some (.cells vs ty)→cs.length=vs.length→(∀ (j:Nat) (a b:AVal),vs[j]?=some a→cs[j]?=some b→SealsN N H a b) →
      (∀ a∈cs,a.closed1=true)→SealsN N H (.ptr id off) (.ip cs off true)
  | sl (id off len:Nat) (cap:Option Nat) (sz:Nat) (vs:List AVal) (ty:TypeId) (cs:List AVal):N≤id→H[id]?=some (.cells vs ty)→off + len * sz≤vs.length→cs.length=len * sz →
      (∀ (j:Nat) (a b:AVal),vs[off + j]?=some a→cs[j]?=some b→SealsN N H a b)→(∀ a∈cs,a.closed1=true)→SealsN N H (.sl id off len cap sz) (.isl cs 0 len cap true)
  | map (id:Nat) (es:List (AVal×AVal)):N≤id→H[id]?=some (.map es)→(∀ e∈es,e.1.closed1=true∧e.2.closed1=true)→SealsN N H (.map id) (.imap (es.map (·.1)) (es.map (·.2)) true)
  | iface (t:TypeId) (a b:AVal):SealsN N H a b→SealsN N H (.iface t a) (.iface t b)
  | tup (as bs:List AVal):bs.length=as.length→(∀ (j:Nat) (a b:AVal),as[j]?=some a→bs[j]?=some b→SealsN N H a b)→SealsN N H (.tup as) (.tup bs)
  | wk (a b d:AVal):Wk a b→SealsN N H b d→SealsN N H a d
  | wk' (a b d:AVal):SealsN N H a b→Wk b d→SealsN N H a d
def Ctx.cut (c:Ctx) (H:Heap) (N:Nat):Ctx:=⟨fun i=>if i < N then c.ι i else none,fun b=>c.F b∨∃ id o,N≤id∧Live H id∧c.ι id=some (b,o)⟩
theorem SealsN.ok {c:Ctx} {w:World} {H:Heap} {N:Nat} (r:Rel c w H) {a a':AVal} (h:SealsN N H a a'):∀ v,VR c w a v→VR ⟨c.ι,(c.cut H N).F⟩ w a' v:=by
  have lm:Le c w ⟨c.ι,(c.cut H N).F⟩ w:=⟨fun _ _ h=>h,fun _ h=>.inl h,fun _ _=>rfl,fun _ arr e fz h=>⟨arr,e,fz,h,rfl⟩⟩
  induction h with
  | same a h=>exact fun v hv=>hv.mono lm
  | wk a b d hw _ ih=>exact fun v hv=>ih v (hw _ _ _ hv)
  | wk' a b d _ hw ih=>exact fun v hv=>hw _ _ _ (ih v hv)
  | iface t a b _ ih =>
    intro v hv
    cases hv with
    | iface _ _ u hu=>exact .iface t b u (ih u hu)
  | tup as bs hl _ ih =>
    intro v hv
    cases hv with
    | tup _ vs hs hh =>
      refine .tup bs vs (by omega) fun j x u hx hu=>?_
      have hj:j < as.length:=by rw [← hl]; exact (List.getElem?_eq_some_iff.1 hx).1
      exact ih j _ x (List.getElem?_eq_getElem hj) hx u (hh j _ u (List.getElem?_eq_getElem hj) hu)
  | map id es hN hH hall =>
    intro v hv
    cases hv with
    | map _ b o hι =>
      obtain ⟨mes,clk,hst,hb,hms,hent⟩:=r.obj id _ b o hH hι
      refine .imap _ _ true (es.map (·.1)) (es.map (·.2)) b mes clk (fun _=>⟨?_,?_⟩) hst (.inr ⟨id,o,hN,⟨_,hH,rfl⟩,hι⟩) hb (by simpa using hms) (by simp) (List.Perm.refl _) (fun j x m hx hm=>?_) (fun j x m hx hm=>?_)
      · intro a ha
        obtain ⟨e,he,rfl⟩:=List.mem_map.1 ha
        exact (hall e he).1
      · intro a ha
        obtain ⟨e,he,rfl⟩:=List.mem_map.1 ha
        exact (hall e he).2
      · rw [List.getElem?_map] at hx
        cases he:es[j]? with
        | none=>rw [he] at hx; cases hx
        | some e=>rw [he] at hx; cases hx; exact (hent j e m he hm).1.mono lm
      · rw [List.getElem?_map] at hx
        cases he:es[j]? with
        | none=>rw [he] at hx; cases hx
        | some e=>rw [he] at hx; cases hx; exact (hent j e m he hm).2.mono lm
  | ptr id off vs ty cs hN hH hl _ hall ih =>
    intro v hv
    cases hv with
    | ptr _ _ b o hι =>
      obtain ⟨arr,e,hb,hlen,hh⟩:=r.obj id _ b o hH hι
      refine .ip cs off true b o (fun j=>arr[o + j]?.getD default) (fun _=>hall) (.inr ⟨id,o,hN,⟨_,hH,rfl⟩,hι⟩) (fun j hj=>?_) fun j x hx=>?_
      · have:o + j < arr.size:=by omega
        simp [World.cell?,hb,this]
      · have hj:j < vs.length:=by rw [← hl]; exact (List.getElem?_eq_some_iff.1 hx).1
        have hlt:o + j < arr.size:=by omega
        simp only [Array.getElem?_eq_getElem hlt,Option.getD_some]
        exact ih j _ x (List.getElem?_eq_getElem hj) hx _ (hh j _ _ (List.getElem?_eq_getElem hj) (Array.getElem?_eq_getElem hlt))
  | sl id off len cap sz vs ty cs hN hH hfit hl _ hall ih =>
    intro v hv
    cases hv with
    | sl _ _ _ _ _ b o ca hι h2 h3 h4 h5 =>
      obtain ⟨arr,e,hb,hlen,hh⟩:=r.obj id _ b o hH hι
      have:=VR.isl (c:=⟨c.ι,(c.cut H N).F⟩) (w:=w) cs 0 len cap true b (o + off) ca (fun j=>arr[o + off + j]?.getD default) (fun _=>hall) (.inr ⟨id,o,hN,⟨_,hH,rfl⟩,hι⟩) h2 h3 h4 (fun j hj=>by
        have:o + off + j < arr.size:=by omega
        simp [World.cell?,hb,this]) fun j x hx=>by
        have hj:j < cs.length:=(List.getElem?_eq_some_iff.1 hx).1
        have hj2:off + j < vs.length:=by omega
        have hlt:o + off + j < arr.size:=by omega
        simp only [Array.getElem?_eq_getElem hlt,Option.getD_some]
        exact ih j _ x (List.getElem?_eq_getElem hj2) hx _ (hh (off + j) _ _ (List.getElem?_eq_getElem hj2) (by rw [← Nat.add_assoc]; exact Array.getElem?_eq_getElem hlt))
      exact this
    | sl0 _ _ _ _ b o a hι hc=>exact .isl0 _ _ _ _ _ _ (by omega) fun m hm=>(hc m hm).symm
theorem VR.agree {c c1 c2:Ctx} {w w1:World} (hι:∀ id p,c.ι id=some p→∀ q,c1.ι id=some q→c2.ι id=some q) (hF:∀ b,c1.F b→c2.F b) {a:AVal} {v0:Value} (h0:VR c w a v0):∀ v,VR c1 w1 a v→VR c2 w1 a v:=by
  induction h0 with
  | any _=>exact fun v _=>.any v
  | bool b=>intro v h; cases h; exact .bool b
  | int k n=>intro v h; cases h; exact .int k n
  | str l s hs=>intro v h; cases h with | str _ s' h'=>exact .str l s' h'
  | nilp=>intro v h; cases h; exact .nilp
  | ptr id off b o h =>
    intro v h1
    cases h1 with
    | ptr _ _ b' o' h'=>exact .ptr id off b' o' (hι id _ h _ h')
  | ip cells off cl b o g _ _ hcell _ ih =>
    intro v h1
    cases h1 with
    | ip _ _ _ b' o' g' k1 k2 k3 k4=>exact .ip cells off cl b' o' g' k1 (hF _ k2) k3 fun j a ha=>ih j a ha _ (k4 j a ha)
  | nils=>intro v h; cases h; exact .nils
  | sl id off len cap sz b o ca h _ _ _ _ =>
    intro v h1
    cases h1 with
    | sl _ _ _ _ _ b' o' ca' k1 k2 k3 k4 k5=>exact .sl id off len cap sz b' o' ca' (hι id _ h _ k1) k2 k3 k4 k5
    | sl0 _ _ _ _ b' o' a' k1 k2=>exact .sl0 id off cap sz b' o' a' (hι id _ h _ k1) k2
  | sl0 id off cap sz b o a h _ =>
    intro v h1
    cases h1 with
    | sl _ _ _ _ _ b' o' ca' k1 k2 k3 k4 k5=>exact .sl id off 0 cap sz b' o' ca' (hι id _ h _ k1) k2 k3 k4 k5
    | sl0 _ _ _ _ b' o' a' k1 k2=>exact .sl0 id off cap sz b' o' a' (hι id _ h _ k1) k2
  | isl cells off len cap cl b o ca g _ _ _ _ _ _ _ ih =>
    intro v h1
    cases h1 with
    | isl _ _ _ _ _ b' o' ca' g' k1 k2 k3 k4 k5 k6 k7=>exact .isl cells off len cap cl b' o' ca' g' k1 (hF _ k2) k3 k4 k5 k6 fun j a ha=>ih j a ha _ (k7 j a ha)
    | isl0 _ _ _ _ a ca h h'=>exact .isl0 _ _ _ _ a ca h h'
  | isl0 cells off cap cl a ca _ _ =>
    intro v h1
    cases h1 with
    | isl _ _ _ _ _ b' o' ca' g' k1 k2 k3 k4 k5 k6 k7=>exact .isl0 _ _ _ _ _ _ k4 k5
    | isl0 _ _ _ _ a ca h h'=>exact .isl0 _ _ _ _ a ca h h'
  | nilm=>intro v h; cases h; exact .nilm
  | map id b o h =>
    intro v h1
    cases h1 with
    | map _ b' o' k=>exact .map id b' o' (hι id _ h _ k)
  | imap ks vs cl ks0 vs0 b0 mes0 clk0 _ _ _ _ _ h2 hp _ _ ih1 ih2 =>
    intro v h1
    cases h1 with
    | imap _ _ _ ks' vs' b' mes' clk' k1 k2 k3 k4 k5 k6 k7 k8 k9 =>
      have back:(ks'.zip vs').Perm (ks0.zip vs0):=k7.trans hp.symm
      refine .imap ks vs cl ks' vs' b' mes' clk' k1 k2 (hF _ k3) k4 k5 k6 k7 (fun j a m ha hm=>?_) (fun j a m ha hm=>?_)
      · have hj:j < ks'.length:=(List.getElem?_eq_some_iff.1 ha).1
        have hmem:(a,vs'[j]'(by omega))∈ks'.zip vs':=by
          have:(ks'.zip vs')[j]?=some (a,vs'[j]'(by omega)):=by rw [List.getElem?_zip_eq_some]; exact ⟨ha,List.getElem?_eq_getElem _⟩
          exact List.mem_of_getElem? this
        obtain ⟨i,hi⟩:=List.getElem?_of_mem (back.mem_iff.1 hmem)
        rw [List.getElem?_zip_eq_some] at hi
        obtain ⟨m0,hm0⟩:∃ m0,mes0[i]?=some m0:=by
          rename_i hsz _ _
          have:i < mes0.size:=by rw [hsz]; exact (List.getElem?_eq_some_iff.1 hi.1).1
          exact ⟨_,Array.getElem?_eq_getElem this⟩
        exact ih1 i a m0 hi.1 hm0 _ (k8 j a m ha hm)
      · have hj:j < vs'.length:=(List.getElem?_eq_some_iff.1 ha).1
        have hmem:(ks'[j]'(by omega),a)∈ks'.zip vs':=by
          have:(ks'.zip vs')[j]?=some (ks'[j]'(by omega),a):=by rw [List.getElem?_zip_eq_some]; exact ⟨List.getElem?_eq_getElem _,ha⟩
          exact List.mem_of_getElem? this
        obtain ⟨i,hi⟩:=List.getElem?_of_mem (back.mem_iff.1 hmem)
        rw [List.getElem?_zip_eq_some] at hi
        obtain ⟨m0,hm0⟩:∃ m0,mes0[i]?=some m0:=by
          rename_i hsz _ _
          have:i < mes0.size:=by rw [hsz]; exact (List.getElem?_eq_some_iff.1 hi.1).1
          exact ⟨_,Array.getElem?_eq_getElem this⟩
        exact ih2 i a m0 hi.2 hm0 _ (k9 j a m ha hm)
  | fn f first cap vf vc _ _ hf hc ih1 ih2 =>
    intro v h1
    cases h1 with
    | fn _ _ _ vf' vc' k1 k2 k3 k4 =>
      refine .fn f first cap vf' vc' k1 k2 (fun j a v ha hv=>?_) (fun j a v ha hv=>?_)
      · rename_i e1 e2
        have hj:j < vf.size:=by rw [e1]; exact (List.getElem?_eq_some_iff.1 ha).1
        exact ih1 j a _ ha (Array.getElem?_eq_getElem hj) v (k3 j a v ha hv)
      · rename_i e1 e2
        have hj:j < vc.size:=by rw [e2]; exact (List.getElem?_eq_some_iff.1 ha).1
        exact ih2 j a _ ha (Array.getElem?_eq_getElem hj) v (k4 j a v ha hv)
  | nilfn=>intro v h; cases h; exact .nilfn
  | iface t a v0 _ ih=>intro v h; cases h with | iface _ _ u hu=>exact .iface t a u (ih u hu)
  | nili=>intro v h; cases h; exact .nili
  | agg cs vs0 h0 _ ih =>
    intro v h1
    cases h1 with
    | agg _ vs k1 k2 =>
      refine .agg cs vs k1 fun j a v ha hv=>?_
      have hj:j < vs0.size:=by rw [h0]; exact (List.getElem?_eq_some_iff.1 ha).1
      exact ih j a _ ha (Array.getElem?_eq_getElem hj) v (k2 j a v ha hv)
  | tup cs vs0 h0 _ ih =>
    intro v h1
    cases h1 with
    | tup _ vs k1 k2 =>
      refine .tup cs vs k1 fun j a v ha hv=>?_
      have hj:j < vs0.size:=by rw [h0]; exact (List.getElem?_eq_some_iff.1 ha).1
      exact ih j a _ ha (Array.getElem?_eq_getElem hj) v (k2 j a v ha hv)
  | obj o v0 _ ih=>intro v h; cases h with | obj _ _ hv=>exact .obj o v (ih v hv)
end Go.AM
namespace Go.AM
variable {P:Program}
theorem ObjR.agree {c c1 c2:Ctx} {w w1:World} (hι:∀ id p,c.ι id=some p→∀ q,c1.ι id=some q→c2.ι id=some q) (hF:∀ b,c1.F b→c2.F b) {b0 off0 b off:Nat} {o:AObj} (h0:ObjR c w b0 off0 o) (h:ObjR c1 w1 b off o):ObjR c2 w1 b off o:=by
  cases o with
  | cells vs ty =>
    obtain ⟨arr0,e0,_,hl0,hh0⟩:=h0
    obtain ⟨arr,e,h1,h2,h3⟩:=h
    refine ⟨arr,e,h1,h2,fun j a v ha hv=>?_⟩
    have hj:off0 + j < arr0.size:=by have:=(List.getElem?_eq_some_iff.1 ha).1; omega
    exact (hh0 j a _ ha (Array.getElem?_eq_getElem hj)).agree hι hF v (h3 j a v ha hv)
  | map es =>
    obtain ⟨mes0,clk0,_,_,hl0,hh0⟩:=h0
    obtain ⟨mes,clk,h1,h2,h3,h4⟩:=h
    refine ⟨mes,clk,h1,h2,h3,fun j a m ha hm=>?_⟩
    have hj:j < mes0.size:=by rw [hl0]; exact (List.getElem?_eq_some_iff.1 ha).1
    obtain ⟨k1,k2⟩:=hh0 j a _ ha (Array.getElem?_eq_getElem hj)
    obtain ⟨l1,l2⟩:=h4 j a m ha hm
    exact ⟨k1.agree hι hF _ l1,k2.agree hι hF _ l2⟩
  | siter s pos=>exact h
  | miter id n seen =>
    obtain ⟨_,bm0,om0,_,k1,_,_⟩:=h0
    obtain ⟨g0,bm,om,sn,l1,l2,l3⟩:=h
    exact ⟨g0,bm,om,sn,hι id _ k1 _ l1,l2,l3⟩
  | iiter ks vs n seen =>
    obtain ⟨_,bm0,sn0,mes0,_,_,_,k5,k6,k7,k8,_,_⟩:=h0
    obtain ⟨g0,bm,sn,mes,l1,l2,l3,l4,l5,l6,l7,l8,l9⟩:=h
    refine ⟨g0,bm,sn,mes,hF _ l1,l2,l3,l4,l5,fun j a m ha hm=>?_,fun j a m ha hm=>?_,l8,l9⟩
    · have hj:j < mes0.size:=by rw [k5]; exact (List.getElem?_eq_some_iff.1 ha).1
      exact (k7 j a _ ha (Array.getElem?_eq_getElem hj)).agree hι hF _ (l6 j a m ha hm)
    · have hj:j < mes0.size:=by rw [k5,← k6]; exact (List.getElem?_eq_some_iff.1 ha).1
      exact (k8 j a _ ha (Array.getElem?_eq_getElem hj)).agree hι hF _ (l7 j a m ha hm)
  | niter=>exact h
  | dead=>trivial
theorem does_mut {S:Sg} (hs:Sound P S) {f:FuncId} {fn:Func} {code:Code} (hf:S.fn f=some fn) (hb:fn.body=some code) (hR:funcR fn code=true) {args:List AVal} (hn:args.length≤fn.ntmps) {H:Heap} {L offL:Nat} (hLarg:.ptr L offL∈args)
    {vs0 vs':List AVal} {ty0:TypeId} (hL0:H[L]?=some (.cells vs0 ty0)) {v:AVal} (hvc:v.closed=true)
    (h:W P S fn.ntmps code (argF args) H (fun x F' H1=>ends x∧∃ u vs1 ty1,resF S fn.results.toList F' H1=some u∧SealsN H.length H1 u v∧H1[L]?=some (.cells vs1 ty1)∧vs'.length=vs1.length ∧
      (∀ (j:Nat) (a b:AVal),vs1[j]?=some a→vs'[j]?=some b→(a=b∧vs0[j]?=some a)∨(SealsN H.length H1 a b∧b.closed=true))∧(∀ id,id < H.length→id≠L→H1[id]?=H[id]?))) :
    DoesC P S f args H v (H.set L (.cells vs' ty0)):=by
  intro c w cargs r hg ha
  unfold funcR at hR
  rw [Bool.and_eq_true] at hR
  refine .inl ⟨fun w=>hs.sg.call f (by rw [hf]; rfl) cargs w,?_⟩
  have st:=startF (n:=fn.ntmps) r hg ha hn
  refine calls_of_wp (hs.sg.fn f fn hf) hb (Good.wp (h hs hR.1 c w _ _ st fun x F1 H1 c1 w1 a1 hk st1 p1=>?_))
  obtain ⟨he,u,vs1,ty1,hu,hsl,hL1,hlen,hcells,hrest⟩:=hk
  obtain ⟨cv,hr,hv⟩:=results_ok hs.sg st1.st ((res_tab hR.2).trans hu)
  have r1:=st1.rel
  have hLlt:L < H.length:=(List.getElem?_eq_some_iff.1 hL0).1
  obtain ⟨bL,oL,hιL⟩:∃ b o,c.ι L=some (b,o):=by
    obtain ⟨j,hj,hje⟩:=List.getElem_of_mem hLarg
    have h1:=ha.2 j _ _ (by rw [List.getElem?_eq_getElem hj,hje]) (Array.getElem?_eq_getElem (show j < cargs.size by rw [ha.1]; exact hj))
    generalize cargs[j]'(show j < cargs.size by rw [ha.1]; exact hj)=q at h1
    cases h1 with
    | ptr _ _ b o hι=>exact ⟨b,o,hι⟩
  let c2:Ctx:=c1.cut H1 H.length
  have hι2:∀ id p,c2.ι id=some p→id < H.length∧c1.ι id=some p:=fun id p hp=>by
    have hp':(if id < H.length then c1.ι id else none)=some p:=hp
    split at hp'
    · rename_i hlt; exact ⟨hlt,hp'⟩
    · cases hp'
  have hι2':∀ id p,id < H.length→c1.ι id=some p→c2.ι id=some p:=fun id p hlt hp=>by
    show (if id < H.length then c1.ι id else none)=some p
    rw [if_pos hlt]; exact hp
  have hF2:∀ b,c1.F b→c2.F b:=fun b hb=>.inl hb
  have old:∀ id b o,id < H.length→c1.ι id=some (b,o)→c.ι id=some (b,o):=fun id b o hlt hi=>by
    rcases p1.new id b o hi with h | ⟨h,_⟩
    · exact h
    · omega
  have hagree:∀ id p,c.ι id=some p→∀ q,c1.ι id=some q→c2.ι id=some q:=fun id p hp q hq=>hι2' id q (r.dom id p.1 p.2 hp).1 hq
  have sealed:∀ {a b:AVal} {x:Value},SealsN H.length H1 a b→b.closed=true→VR c1 w1 a x→VR c2 w1 b x:=fun hab hbc hx=>(hab.ok r1 _ hx).shut hbc c2.ι
  have hH2:∀ id,id≠L→(H.set L (.cells vs' ty0))[id]?=H[id]?:=fun id hne=>List.getElem?_set_ne (fun e=>hne e.symm)
  have hH2L:(H.set L (.cells vs' ty0))[L]?=some (.cells vs' ty0):=List.getElem?_set_self hLlt
  have live:∀ id,id < H.length→(Live (H.set L (.cells vs' ty0)) id↔Live H1 id):=by
    intro id hlt
    by_cases hid:id=L
    · subst hid
      exact ⟨fun _=>⟨_,hL1,rfl⟩,fun _=>⟨_,hH2L,rfl⟩⟩
    · unfold Live
      rw [hH2 id hid,hrest id hlt hid]
  have rel2:Rel c2 w1 (H.set L (.cells vs' ty0)):=by
    refine ⟨fun id o b off ho hi=>?_,fun i j b o1 o2 hi hj h1 h2=>?_,fun id b off hi=>?_,fun id b off hl hi=>?_,fun b hb=>?_⟩
    · obtain ⟨hlt,hi1⟩:=hι2 id _ hi
      have hi0:=old id b off hlt hi1
      by_cases hid:id=L
      · subst hid
        rw [hH2L] at ho
        cases ho
        obtain ⟨arr,e,g1,g2,g3⟩:=r1.obj id _ b off hL1 hi1
        obtain ⟨arr0,e0,k1,k2,k3⟩:=r.obj id _ b off hL0 hi0
        refine ⟨arr,e,g1,by omega,fun j a x hja hx=>?_⟩
        have hj:j < vs1.length:=by rw [← hlen]; exact (List.getElem?_eq_some_iff.1 hja).1
        have h3:=g3 j _ x (List.getElem?_eq_getElem hj) hx
        rcases hcells j _ a (List.getElem?_eq_getElem hj) hja with ⟨e1,e2⟩ | ⟨e1,e2⟩
        · rw [e1] at h3 e2
          have hj0:off + j < arr0.size:=by have:=(List.getElem?_eq_some_iff.1 e2).1; omega
          exact (k3 j a _ e2 (Array.getElem?_eq_getElem hj0)).agree hagree hF2 x h3
        · exact sealed e1 e2 h3
      · rw [hH2 id hid] at ho
        exact ObjR.agree hagree hF2 (r.obj id o b off ho hi0) (r1.obj id o b off (by rw [hrest id hlt hid]; exact ho) hi1)
    · obtain ⟨l1,k1⟩:=hι2 i _ h1
      obtain ⟨l2,k2⟩:=hι2 j _ h2
      exact r1.inj i j b o1 o2 ((live i l1).1 hi) ((live j l2).1 hj) k1 k2
    · obtain ⟨hlt,hi1⟩:=hι2 id _ hi
      exact ⟨by rw [List.length_set]; exact hlt,(r1.dom id b off hi1).2⟩
    · obtain ⟨hlt,hi1⟩:=hι2 id _ hi
      have hl1:=(live id hlt).1 hl
      rintro (hb | ⟨id',o',hN,hl',hi'⟩)
      · exact r1.sep id b off hl1 hi1 hb
      · have:=r1.inj id id' b off o' hl1 hl' hi1 hi'
        omega
    · rcases hb with hb | ⟨id',o',hN,hl',hi'⟩
      · exact r1.fr b hb
      · exact (r1.dom id' b o' hi').2
  have post2:Post c w H c2 w1 (H.set L (.cells vs' ty0)):=by
    refine ⟨fun id p hp=>hι2' id p (r.dom id p.1 p.2 hp).1 (p1.ι id p hp),fun id b off hi=>?_,fun b hb=>.inl (p1.F b hb),fun b hb=>?_,p1.frame,fun id hlt hn=>?_,fun id hlt hn hl=>?_,by rw [List.length_set]; exact Nat.le_refl _,p1.size,p1.siz,p1.os,p1.tape,p1.output⟩
    · obtain ⟨hlt,hi1⟩:=hι2 id _ hi
      exact .inl (old id b off hlt hi1)
    · rcases hb with hb | ⟨id',o',hN,hl',hi'⟩
      · exact p1.Fnew b hb
      · rcases p1.new id' b o' hi' with h | ⟨_,h⟩
        · have:=(r.dom id' b o' h).1; omega
        · exact .inr h
    · by_cases hid:id=L
      · subst hid; rw [hιL] at hn; cases hn
      · exact hH2 id hid
    · exact p1.dead id hlt hn ((live id hlt).1 hl)
  have fin:bodyPost P fn (fun e w'=>∃ cv,e=.returned cv∧∃ c',Rel c' w' (H.set L (.cells vs' ty0))∧Post c w H c' w' (H.set L (.cells vs' ty0))∧VR c' w' v cv) (exOf x) a1 w1:=by
    cases x with
    | normal=>exact ⟨st1.defers,cv,hr,cv,rfl,c2,rel2,post2,sealed hsl hvc hv⟩
    | ret=>exact ⟨st1.defers,cv,hr,cv,rfl,c2,rel2,post2,sealed hsl hvc hv⟩
    | exit id=>exact he.elim
  exact fin
end Go.AM
namespace Go.AM
variable {P:Program} {S:Sg}
theorem DoesC.run (hs:Sound P S) {n:Nat} {f:FuncId} {args:List AVal} {v:AVal} {H':Heap} (h:den S n f args []=some (v,H')) (hcl:args.all AVal.closed=true) (hv:v.closed=true) (H:Heap):DoesC P S f args H v H :=
  DoesC.pure hs.glob hcl hv (H':=H') (fun c w cargs r hg ha=>den_ok hs.sg hs.ext hs.quiet hs.glob n f args [] v H' h c w cargs r hg ha) H
theorem toBytes_at {l:List UInt8} {j:Nat} {b:UInt8} (h:l[j]?=some b):(toBytes l)[0 + (j:Int).toNat * 1]?=some (.int .u8 (b.toNat:Int)):=by
  rw [idx0,toBytes_get,h]; rfl
theorem G.len_str {call:Calling} {d:Bool} {g:Operand→AVal} {H:Heap} {t:TypeId} {ti:TI} {s:List UInt8} {c:Call} (hc:c.callee=.builtin .len) (ha:c.args.toList.map g=[.str s]) (hta:c.argTypes.toList=[t]) (ht:S.ty t=some ti) (hd:ti.desc=.string) :
    denG S call d g H (.call c)=some (.int .i64 (s.length:Int),H):=by
  obtain ⟨d1,d2,d3,d4,d5,d6,d7,d8⟩:=ti
  simp only at hd
  subst hd
  simp only [denG,hc,ha,hta,denLen,ht,fNat_eq]
  rfl
theorem G.toBytes {call:Calling} {d:Bool} {g:Operand→AVal} {H:Heap} {x:Operand} {src dst e:TypeId} {t1 t2 t3:TI} {s:List UInt8} (hx:g x=.str s) (h1:S.ty src=some t1) (h2:S.ty dst=some t2) (hd:t2.desc=.slice e) (h3:S.ty e=some t3) (hd3:t3.desc=.int .u8) (hs:s.length≤4611686018427387904) :
    denG S call d g H (.convert src dst x)=some (.isl (AM.toBytes s) 0 s.length none true,H):=by
  obtain ⟨d1,d2,d3,d4,d5,d6,d7,d8⟩:=t2
  simp only at hd
  subst hd
  obtain ⟨e1,e2,e3,e4,e5,e6,e7,e8⟩:=t3
  simp only at hd3
  subst hd3
  simp only [denG,hx,denConvert,h1,h2,h3,if_pos hs]
  rfl
theorem idx0' (j:Nat):0 + (j:Int).toNat * 1=j:=by simp
end Go.AM
namespace Go.AM
variable {P:Program} {S:Sg} {n:Nat} {draw:Bool} {ops:Array Oper} {o:Oper} {rest:List Oper} {i:Nat} {F:Fr} {H:Heap} {K:Fr→Heap→Prop}
def DoesR (P:Program) (S:Sg) (f:FuncId) (args:List AVal) (H:Heap) (R:AVal→Heap→Prop):Prop :=
  ∀ c w cargs,Rel c w H→Glob S c w→VRs c w args cargs→Serves P f cargs w fun cv w'=>∃ v H',R v H'∧∃ c',Rel c' w' H'∧Post c w H c' w' H'∧VR c' w' v cv
theorem wp_of_callR {c:Ctx} {w:World} {H:Heap} {f:FuncId} {cargs:Array Value} {R:AVal→Heap→Prop} {o:Oper} {a:Act} {next:Act→World→Prop} {Q:Exit→Act→World→Prop}
    (hx:(execOp a.eval o).run P w=(callFunc f cargs).run P w) (y:Serves P f cargs w fun cv w'=>∃ v H',R v H'∧∃ c',Rel c' w' H'∧Post c w H c' w' H'∧VR c' w' v cv)
    (hn:∀ v H' cv c' w',R v H'→Rel c' w' H'→Post c w H c' w' H'→VR c' w' v cv→next (a.put o.dst cv) w'):o.wp P a w next Q:=by
  unfold Oper.wp
  rcases y with ⟨hcf,y⟩ | ⟨cv,w',hr,v,H',hR,c',r',p',hv⟩
  · rw [hx,hcf w,Oper.upon_enter]
    refine y.mono ?_
    rintro e w' ⟨cv,rfl,v,H',hR,c',r',p',hv⟩
    exact hn v H' cv c' w' hR r' p' hv
  · rw [hx,hr]
    exact hn v H' cv c' w' hR r' p' hv
theorem call_run {c:Ctx} {w:World} {a:Act} {f:FuncId} {args:List AVal} (hS:SgOK P S) (st:StF S n c w F H a) (hoR:operR n o=true) (hc:callOf S (opdF S F) o.op=some (f,args)) :
    ∃ cargs,VRs c w args cargs∧(execOp a.eval o).run P w=(callFunc f cargs).run P w:=by
  have hopd:∀ x∈o.op.operands,VR c w (opdF S F x) (a.eval x):=fun x hx=>by
    refine opdF_ok st ?_
    unfold operR at hoR
    rw [Bool.and_eq_true,List.all_eq_true] at hoR
    exact hoR.1 x (by simpa using hx)
  unfold callOf at hc
  split at hc
  · rename_i k ho
    have hargs:VRs c w (k.args.toList.map (opdF S F)) (k.args.map a.eval):=by
      refine ⟨by simp,fun j x v hx hv=>?_⟩
      rw [List.getElem?_map,Array.getElem?_toList] at hx
      rw [Array.getElem?_map] at hv
      cases hj:k.args[j]? with
      | none=>rw [hj] at hx; cases hx
      | some y =>
        rw [hj] at hx hv
        cases hx; cases hv
        exact hopd y (by rw [ho]; simp [Op.operands,Call.operands,Array.mem_of_getElem? hj])
    split at hc
    · rename_i fo hk
      split at hc
      · rename_i g first cap hf
        cases hc
        have hvf:=hopd fo (by rw [ho]; simp [Op.operands,Call.operands,hk])
        rw [hf] at hvf
        obtain ⟨vf,vc,hvf',h1,h2⟩:∃ vf vc,a.eval fo=.func (.func f) vf vc∧VRs c w first vf∧VRs c w cap vc:=by
          generalize a.eval fo=q' at hvf; cases hvf with | fn _ _ _ vf vc s1 s2 h1 h2=>exact ⟨vf,vc,rfl,⟨s1,h1⟩,⟨s2,h2⟩⟩
        refine ⟨_,(h1.append hargs).append h2,?_⟩
        simp only [execOp,ho,resolve,hk,hvf',Deferred.ofValue,Sem.run_bind,Sem.run_pure,Result.andThen_ok,invoke]
      · cases hc
    · rename_i q m hk
      split at hc
      · rename_i t x hq
        split at hc
        · rename_i g hm
          cases hc
          have hvq:=hopd q (by rw [ho]; simp [Op.operands,Call.operands,hk])
          rw [hq] at hvq
          obtain ⟨u,hu,hvu⟩:∃ u,a.eval q=.iface t u∧VR c w x u:=by generalize a.eval q=q' at hvq; cases hvq with | iface _ _ u h=>exact ⟨u,rfl,h⟩
          refine ⟨_,VRs.cons hvu hargs,?_⟩
          have hmm:=hS.meth t m f hm u (k.args.map a.eval) w
          simp only [execOp,ho,resolve,hk,hu,Sem.run_bind,Sem.run_pure,Result.andThen_ok,invoke]
          have e0:(#[Value.iface t u] ++ k.args.map a.eval)[0]?=some (.iface t u):=by rw [Array.getElem?_append_left (Nat.zero_lt_one)]; rfl
          have e1:(#[Value.iface t u] ++ k.args.map a.eval).extract 1 (#[Value.iface t u] ++ k.args.map a.eval).size=k.args.map a.eval:=by simp
          simp only [e0,e1]
          rw [hmm]
        · cases hc
      · cases hc
    · cases hc
  · cases hc
theorem WO.callR {f:FuncId} {args:List AVal} {R:AVal→Heap→Prop} (hc:callOf S (opdF S F) o.op=some (f,args)) (hd:DoesR P S f args H R) (hw:wantedF ops F o=some true)
    (next:∀ v H1,R v H1→WO P S n draw ops rest (i + 1) (putF F o.dst v) H1 K):WO P S n draw ops (o :: rest) i F H K:=by
  intro hs hR hr c w a Q st hq
  have ho:ops[i]?=some o:=by
    have:(ops.toList.drop i)[0]?=some o:=by rw [← hr]; rfl
    rw [List.getElem?_drop,Nat.add_zero,Array.getElem?_toList] at this
    exact this
  have hoR:operR n o=true:=by
    have:=hR
    unfold opsR at this
    rw [List.all_eq_true] at this
    exact this o (List.mem_of_getElem? (by rw [Array.getElem?_toList]; exact ho))
  have hr':rest=ops.toList.drop (i + 1):=by
    have:=congrArg List.tail hr
    simpa [List.tail_drop] using this
  simp only [List.length_cons,List.range'_succ,wpOps,ho]
  rw [wanted_ok st.st.env ((wanted_tab hR).trans hw)]
  simp only [if_true]
  obtain ⟨cargs,hva,hx⟩:=call_run hs.sg st hoR hc
  refine .inl (wp_of_callR hx (hd c w cargs st.rel st.glob hva) fun v H1 cv c1 w1 hRv r1 p1 hvv=>?_)
  exact next v H1 hRv hs hR hr' c1 w1 _ Q ((st.later r1 p1).put (operR_dst hoR) hvv) fun F' H' c' w' a' hk st' p'=>hq F' H' c' w' a' hk st' (p1.trans st.rel p')
theorem doesR_run {S:Sg} (hs:Sound P S) {f:FuncId} {fn:Func} {code:Code} (hf:S.fn f=some fn) (hb:fn.body=some code) (hR:funcR fn code=true) {args:List AVal} (hn:args.length≤fn.ntmps) {H:Heap} {R:AVal→Heap→Prop}
    (h:W P S fn.ntmps code (argF args) H (fun x F' H'=>ends x∧∃ u v,resF S fn.results.toList F' H'=some u∧Wk u v∧R v H')):DoesR P S f args H R:=by
  intro c w cargs r hg ha
  unfold funcR at hR
  rw [Bool.and_eq_true] at hR
  refine .inl ⟨fun w=>hs.sg.call f (by rw [hf]; rfl) cargs w,?_⟩
  have st:=startF (n:=fn.ntmps) r hg ha hn
  refine calls_of_wp (hs.sg.fn f fn hf) hb (Good.wp (h hs hR.1 c w _ _ st fun x F1 H1 c1 w1 a1 hk st1 p1=>?_))
  obtain ⟨he,u,v,hu,hw,hRv⟩:=hk
  obtain ⟨cv,hr,hv⟩:=results_ok hs.sg st1.st ((res_tab hR.2).trans hu)
  have fin:bodyPost P fn (fun e w'=>∃ cv,e=.returned cv∧∃ v H',R v H'∧∃ c',Rel c' w' H'∧Post c w H c' w' H'∧VR c' w' v cv) (exOf x) a1 w1:=by
    cases x with
    | normal=>exact ⟨st1.defers,cv,hr,cv,rfl,v,H1,hRv,_,st1.rel,p1,hw _ _ _ hv⟩
    | ret=>exact ⟨st1.defers,cv,hr,cv,rfl,v,H1,hRv,_,st1.rel,p1,hw _ _ _ hv⟩
    | exit id=>exact he.elim
  exact fin
theorem DoesR.glob {S S':Sg} (h:S'.glob=S.glob) (hp:S'.pin=S.pin) {f:FuncId} {args:List AVal} {H:Heap} {R:AVal→Heap→Prop} (d:DoesR P S f args H R):DoesR P S' f args H R :=
  fun c w cargs r hg ha=>d c w cargs r (hg.of h hp) ha
end Go.AM
namespace Go.AM
theorem perm_map_inv {α β:Type} (f:α→β) {m m':List β} (h:m.Perm m'):∀ l:List α,m'=l.map f→∃ l':List α,l'.Perm l∧m=l'.map f:=by
  induction h with
  | nil=>intro l hl; exact ⟨l,List.Perm.refl _,hl⟩
  | cons x _ ih =>
    intro l hl
    cases l with
    | nil=>cases hl
    | cons a l =>
      simp only [List.map_cons,List.cons.injEq] at hl
      obtain ⟨l',hp,rfl⟩:=ih l hl.2
      exact ⟨a :: l',hp.cons a,by rw [hl.1]; rfl⟩
  | swap x y t =>
    intro l hl
    match l,hl with
    | a :: b :: l,hl =>
      simp only [List.map_cons,List.cons.injEq] at hl
      exact ⟨b :: a :: l,List.Perm.swap a b l,by rw [hl.1,hl.2.1,hl.2.2]; rfl⟩
    | [],hl=>cases hl
    | [a],hl=>simp at hl
  | trans _ _ ih1 ih2 =>
    intro l hl
    obtain ⟨l1,h1,e1⟩:=ih2 l hl
    obtain ⟨l2,h2,e2⟩:=ih1 l1 e1
    exact ⟨l2,h2.trans h1,e2⟩
def entsF {α:Type} (f:α→AVal) (l:List (List UInt8×α)):List (AVal×AVal):=l.map fun e=>(.str e.1,f e.2)
theorem entsF_zip {α:Type} (f:α→AVal) (l:List (List UInt8×α)):(l.map fun e=>AVal.str e.1).zip (l.map fun e=>f e.2)=entsF f l:=by
  induction l with
  | nil=>rfl
  | cons e l ih=>simp only [List.map_cons,List.zip_cons_cons,ih]; rfl
theorem entsF_get {α:Type} {f:α→AVal} {l:List (List UInt8×α)} {j:Nat} {e:List UInt8×α} (h:l[j]?=some e):(entsF f l)[j]?=some (.str e.1,f e.2):=by simp [entsF,h]
theorem entsF_len {α:Type} (f:α→AVal) (l:List (List UInt8×α)):(entsF f l).length=l.length:=by simp [entsF]
theorem entsF_append {α:Type} (f:α→AVal) (l r:List (List UInt8×α)):entsF f (l ++ r)=entsF f l ++ entsF f r:=by simp [entsF]
theorem entsF_set {α:Type} (f:α→AVal) (l:List (List UInt8×α)) (i:Nat) (k:List UInt8) (v:α):(entsF f l).set i (.str k,f v)=entsF f (l.set i (k,v)):=by simp [entsF,List.map_set]
def keyIdx {α:Type} (k:List UInt8):List (List UInt8×α)→Option Nat
  | []=>none
  | e :: l=>if k=e.1 then some 0 else (keyIdx k l).map (· + 1)
theorem keyIdx_none {α:Type} {k:List UInt8}:∀ {l:List (List UInt8×α)},keyIdx k l=none↔k ∉ l.map (·.1)
  | []=>by simp [keyIdx]
  | e :: l=>by
    unfold keyIdx
    by_cases h:k=e.1
    · simp [h]
    · rw [if_neg h]
      simp only [Option.map_eq_none_iff,List.map_cons,List.mem_cons,h,false_or]
      exact keyIdx_none
theorem keyIdx_some {α:Type} {k:List UInt8}:∀ {l:List (List UInt8×α)} {i:Nat},keyIdx k l=some i→∃ e,l[i]?=some e∧e.1=k
  | [],i,h=>by simp [keyIdx] at h
  | e :: l,i,h=>by
    unfold keyIdx at h
    split at h
    · rename_i hk; cases h; exact ⟨e,rfl,hk.symm⟩
    · cases hq:keyIdx k l with
      | none=>rw [hq] at h; cases h
      | some j =>
        rw [hq] at h
        cases h
        obtain ⟨e',h1,h2⟩:=keyIdx_some hq
        exact ⟨e',by simpa using h1,h2⟩
theorem findKey_ents {α:Type} (f:α→AVal) (k:List UInt8):∀ (l:List (List UInt8×α)) (i:Nat),findKeyA (.str k) (entsF f l) i=some ((keyIdx k l).bind fun j=>(l[j]?).map fun e=>(i + j,f e.2))
  | [],i=>rfl
  | e :: l,i=>by
    have ih:=findKey_ents f k l (i + 1)
    show findKeyA (.str k) ((.str e.1,f e.2) :: entsF f l) i=_
    unfold findKeyA keyIdx
    simp only [sameKey]
    by_cases h:k=e.1
    · rw [decide_eq_true h,if_pos h]; simp
    · rw [decide_eq_false h,if_neg h]
      simp only
      rw [ih]
      cases keyIdx k l with
      | none=>rfl
      | some j =>
        simp only [Option.bind_some,Option.map_some,List.getElem?_cons_succ]
        cases l[j]? with
        | none=>rfl
        | some e'=>simp only [Option.map_some]; congr 3; omega
def putE {α:Type} (l:List (List UInt8×α)) (k:List UInt8) (v:α):List (List UInt8×α):=match keyIdx k l with
  | some i=>l.set i (k,v)
  | none=>l ++ [(k,v)]
def getE {α:Type} (l:List (List UInt8×α)) (k:List UInt8):Option α:=(keyIdx k l).bind fun j=>(l[j]?).map (·.2)
section
variable {S:Sg} {H:Heap} {t kt et:TypeId} {ti tk te:TI} {d:Nat}
theorem mapUpdate_ents {α:Type} {f:α→AVal} {l:List (List UInt8×α)} {k:List UInt8} {v:α} (ht:S.ty t=some ti) (hd:ti.desc=.map kt et) (hk:S.ty kt=some tk) (hks:tk.desc=.string) (hH:H[d]?=some (.map (entsF f l))) :
    denMapUpdate S H t (.map d) (.str k) (f v)=some (H.set d (.map (entsF f (putE l k v)))):=by
  obtain ⟨d1,d2,d3,d4,d5,d6,d7,d8⟩:=ti
  simp only at hd
  subst hd
  unfold denMapUpdate putE
  simp only [ht,hk,hH,hks,keyOk,if_true]
  rw [findKey_ents f k l 0]
  cases hq:keyIdx k l with
  | none=>simp only [Option.bind_none]; rw [entsF_append]; rfl
  | some i =>
    obtain ⟨e,he,_⟩:=keyIdx_some hq
    simp only [Option.bind_some,he,Option.map_some,Nat.zero_add]
    rw [entsF_set]
theorem mapEntry_ents {α:Type} {f:α→AVal} {l:List (List UInt8×α)} {k:List UInt8} {z:α} (ht:S.ty t=some ti) (hd:ti.desc=.map kt et) (hk:S.ty kt=some tk) (hks:tk.desc=.string) (he:S.ty et=some te) (hz:zeroOf te=some (f z)) (hH:H[d]?=some (.map (entsF f l))) :
    denMapEntry S H t (.map d) (.str k)=some (match keyIdx k l with
      | some i=>(.tup [f ((getE l k).getD z),.int .i64 i],H.set d (.map (entsF f (putE l k ((getE l k).getD z)))))
      | none=>(.tup [f z,.int .i64 l.length],H.set d (.map (entsF f (l ++ [(k,z)]))))):=by
  obtain ⟨d1,d2,d3,d4,d5,d6,d7,d8⟩:=ti
  simp only at hd
  subst hd
  unfold denMapEntry putE getE
  simp only [ht,hk,he,hH,hks,keyOk,if_true]
  rw [findKey_ents f k l 0]
  cases hq:keyIdx k l with
  | none=>simp only [Option.bind_none,hz]; rw [entsF_append,entsF_len]; rfl
  | some i =>
    obtain ⟨e,he,_⟩:=keyIdx_some hq
    simp only [Option.bind_some,he,Option.map_some,Nat.zero_add,Option.getD_some]
    rw [entsF_set]
theorem entryStore_ents {α:Type} {f:α→AVal} {l:List (List UInt8×α)} {i:Nat} {k:IntKind} {e:List UInt8×α} {v:α} (hH:H[d]?=some (.map (entsF f l))) (he:l[i]?=some e) :
    denEntryStore H (.map d) (.int k (i:Int)) (f v)=some (H.set d (.map (entsF f (l.set i (e.1,v))))):=by
  unfold denEntryStore
  simp only [hH]
  rw [if_pos (by omega)]
  simp only [Int.toNat_natCast,entsF_get he]
  rw [entsF_set]
theorem lookup_ents {α:Type} {f:α→AVal} {l:List (List UInt8×α)} {k:List UInt8} {z:α} (ht:S.ty t=some ti) (hd:ti.desc=.map kt et) (hk:S.ty kt=some tk) (hks:tk.desc=.string) (he:S.ty et=some te) (hz:zeroOf te=some (f z)) (hH:H[d]?=some (.map (entsF f l))) :
    denLookup S H t (.map d) (.str k) false=some (f ((getE l k).getD z)):=by
  obtain ⟨d1,d2,d3,d4,d5,d6,d7,d8⟩:=ti
  simp only at hd
  subst hd
  unfold denLookup getE
  simp only [ht,hk,he,hH,hks,keyOk,if_true]
  rw [findKey_ents f k l 0]
  cases hq:keyIdx k l with
  | none=>simp only [Option.bind_none,hz]; rfl
  | some i =>
    obtain ⟨e,he,_⟩:=keyIdx_some hq
    simp only [Option.bind_some,he,Option.map_some,Nat.zero_add,Option.getD_some]
    rfl
end
theorem perm_of_all {α:Type} {l:List α} {seen:List Nat} (hn:seen.Nodup) (hlt:∀ j∈seen,j < l.length) (hall:∀ j,j < l.length→j∈seen):(seen.filterMap fun j=>l[j]?).Perm l:=by
  have h1:seen.Perm (List.range l.length):=by
    rw [List.perm_ext_iff_of_nodup hn List.nodup_range]
    intro j
    rw [List.mem_range]
    exact ⟨hlt j,hall j⟩
  have h2:=h1.filterMap (fun j=>l[j]?)
  have h3:(List.range l.length).filterMap (fun j=>l[j]?)=l:=by
    have:∀ (r:List α) (p:List α),l=p ++ r→(List.range' p.length r.length).filterMap (fun j=>l[j]?)=r:=by
      intro r
      induction r with
      | nil=>intro p _; rfl
      | cons a r ih =>
        intro p hp
        rw [List.length_cons,List.range'_succ,List.filterMap_cons]
        have e1:l[p.length]?=some a:=by rw [hp,List.getElem?_append_right (Nat.le_refl _)]; simp
        rw [e1]
        simp only
        have:=ih (p ++ [a]) (by rw [hp]; simp)
        rw [List.length_append] at this
        rw [show p.length + 1=p.length + [a].length from rfl,this]
    have:=this l [] rfl
    rwa [List.length_nil,← List.range_eq_range'] at this
  rwa [h3] at h2
theorem nodup_le:∀ (n:Nat) (l:List Nat),l.Nodup→(∀ j∈l,j < n)→l.length≤n
  | 0,l,_,h=>by
    cases l with
    | nil=>exact Nat.le_refl _
    | cons a l=>exact absurd (h a (by simp)) (Nat.not_lt_zero _)
  | n + 1,l,hn,h=>by
    have h1:=nodup_le n (l.erase n) (hn.erase n) (fun j hj=>by
      have h2:=h j (List.mem_of_mem_erase hj)
      have h3:j≠n:=fun e=>by subst e; exact (hn.mem_erase_iff.1 hj).1 rfl
      omega)
    have h4:=List.length_erase (a:=n) (l:=l)
    split at h4 <;> omega
theorem set_same {H:Heap} {d:Nat} {x:AObj} (h:H[d]?=some x):H.set d x=H:=by
  apply List.ext_getElem?
  intro k
  by_cases hk:d=k
  · subst hk; rw [List.getElem?_set_self (List.getElem?_eq_some_iff.1 h).1,h]
  · rw [List.getElem?_set_ne hk]
theorem set_app {H:Heap} {d:Nat} {X J:AObj} (h:d < H.length):(H ++ [J]).set d X=H.set d X ++ [J]:=by rw [List.set_append,if_pos h]
theorem app_at {H:Heap} {J:AObj} {n:Nat} (h:n=H.length):(H ++ [J])[n]?=some J:=by subst h; simp
theorem app_set {H:Heap} {J J':AObj} {n:Nat} (h:n=H.length):(H ++ [J]).set n J'=H ++ [J']:=by subst h; rw [List.set_append,if_neg (by omega)]; simp
theorem app_lt {H:Heap} {J:AObj} {n:Nat} (h:n < H.length):(H ++ [J])[n]?=H[n]?:=List.getElem?_append_left h
end Go.AM
namespace Go.AM
def look {α:Type} (d:α) (l:List (List UInt8×α)) (k:List UInt8):α:=(getE l k).getD d
theorem getE_put_self {α:Type} {l:List (List UInt8×α)} {k:List UInt8} {v:α}:getE (putE l k v) k=some v:=by
  unfold getE putE
  cases hq:keyIdx k l with
  | none =>
    have:∀ l:List (List UInt8×α),keyIdx k l=none→keyIdx k (l ++ [(k,v)])=some l.length:=by
      intro l
      induction l with
      | nil=>intro _; simp [keyIdx]
      | cons e l ih =>
        intro h
        unfold keyIdx at h
        split at h
        · cases h
        · rename_i hne
          simp only [Option.map_eq_none_iff] at h
          show (if k=e.1 then some 0 else (keyIdx k (l ++ [(k,v)])).map (· + 1))=_
          rw [if_neg hne,ih h]
          rfl
    simp only [this l hq]
    simp
  | some i =>
    have:∀ (l:List (List UInt8×α)) (i:Nat),keyIdx k l=some i→keyIdx k (l.set i (k,v))=some i:=by
      intro l
      induction l with
      | nil=>intro i h; simp [keyIdx] at h
      | cons e l ih =>
        intro i h
        unfold keyIdx at h
        split at h
        · cases h; simp [keyIdx]
        · rename_i hne
          cases hq:keyIdx k l with
          | none=>rw [hq] at h; cases h
          | some j =>
            rw [hq] at h
            cases h
            simp only [List.set_cons_succ]
            show (if k=e.1 then some 0 else (keyIdx k (l.set j (k,v))).map (· + 1))=_
            rw [if_neg hne,ih j hq]
            rfl
    simp only [this l i hq]
    obtain ⟨e,he,_⟩:=keyIdx_some hq
    simp [(List.getElem?_eq_some_iff.1 he).1]
theorem keyIdx_put_ne {α:Type} {l:List (List UInt8×α)} {k k':List UInt8} {v:α} (h:k'≠k):keyIdx k' (putE l k v)=keyIdx k' l:=by
  unfold putE
  cases hq:keyIdx k l with
  | none =>
    simp only
    clear hq
    induction l with
    | nil=>simp [keyIdx,h]
    | cons e l ih =>
      show (if k'=e.1 then some 0 else (keyIdx k' (l ++ [(k,v)])).map (· + 1))=(if k'=e.1 then some 0 else (keyIdx k' l).map (· + 1))
      rw [ih]
  | some i =>
    simp only
    have:∀ (l:List (List UInt8×α)) (i:Nat),keyIdx k l=some i→keyIdx k' (l.set i (k,v))=keyIdx k' l:=by
      intro l
      induction l with
      | nil=>intro i h; simp [keyIdx] at h
      | cons e l ih =>
        intro i hi
        unfold keyIdx at hi
        split at hi
        · rename_i he
          cases hi
          simp only [List.set_cons_zero]
          show (if k'=k then some 0 else (keyIdx k' l).map (· + 1))=(if k'=e.1 then some 0 else (keyIdx k' l).map (· + 1))
          rw [if_neg h,if_neg (by rw [← he]; exact h)]
        · cases hq:keyIdx k l with
          | none=>rw [hq] at hi; cases hi
          | some j =>
            rw [hq] at hi
            cases hi
            simp only [List.set_cons_succ]
            show (if k'=e.1 then some 0 else (keyIdx k' (l.set j (k,v))).map (· + 1))=(if k'=e.1 then some 0 else (keyIdx k' l).map (· + 1))
            rw [ih j hq]
    exact this l i hq
theorem getE_put_ne {α:Type} {l:List (List UInt8×α)} {k k':List UInt8} {v:α} (h:k'≠k):getE (putE l k v) k'=getE l k':=by
  unfold getE
  rw [keyIdx_put_ne h]
  cases hq:keyIdx k' l with
  | none=>rfl
  | some j =>
    obtain ⟨e,he,hek⟩:=keyIdx_some hq
    simp only [Option.bind_some]
    unfold putE
    cases hi:keyIdx k l with
    | none=>simp only; rw [List.getElem?_append_left (List.getElem?_eq_some_iff.1 he).1]
    | some i =>
      simp only
      have:i≠j:=by
        intro hij; subst hij
        obtain ⟨e',he',hek'⟩:=keyIdx_some hi
        rw [he] at he'; cases he'
        exact h (hek.symm.trans hek')
      rw [List.getElem?_set_ne this]
theorem put_nodup {α:Type} {l:List (List UInt8×α)} {k:List UInt8} {v:α} (h:(l.map (·.1)).Nodup):((putE l k v).map (·.1)).Nodup:=by
  unfold putE
  cases hq:keyIdx k l with
  | none =>
    simp only [List.map_append,List.map_cons,List.map_nil]
    rw [List.nodup_append]
    exact ⟨h,by simp,fun a ha b hb=>by cases List.mem_singleton.1 hb; intro hab; subst hab; exact keyIdx_none.1 hq ha⟩
  | some i =>
    obtain ⟨e,he,hek⟩:=keyIdx_some hq
    have:(l.set i (k,v)).map (·.1)=l.map (·.1):=by
      rw [List.map_set]
      apply List.ext_getElem?
      intro j
      rw [List.getElem?_set]
      by_cases hj:i=j
      · subst hj
        rw [if_pos rfl,if_pos (by simpa using (List.getElem?_eq_some_iff.1 he).1),List.getElem?_map,he]
        simp [hek]
      · rw [if_neg hj]
    simp only [this]
    exact h
theorem getE_none {α:Type} {l:List (List UInt8×α)} {k:List UInt8}:getE l k=none↔k ∉ l.map (·.1):=by
  rw [← keyIdx_none]
  unfold getE
  cases hq:keyIdx k l with
  | none=>simp
  | some j =>
    obtain ⟨e,he,_⟩:=keyIdx_some hq
    simp [he]
theorem getE_of_mem {α:Type} {l:List (List UInt8×α)} (h:(l.map (·.1)).Nodup) {e:List UInt8×α} (he:e∈l):getE l e.1=some e.2:=by
  unfold getE
  obtain ⟨i,hi⟩:=List.getElem?_of_mem he
  cases hq:keyIdx e.1 l with
  | none=>exact absurd (List.mem_map.2 ⟨e,he,rfl⟩) (keyIdx_none.1 hq)
  | some j =>
    obtain ⟨e',he',hk⟩:=keyIdx_some hq
    have h1:(l.map (·.1))[i]?=some e.1:=by rw [List.getElem?_map,hi]; rfl
    have h2:(l.map (·.1))[j]?=some e.1:=by rw [List.getElem?_map,he']; simp [hk]
    have:=(List.getElem?_inj (by simpa using (List.getElem?_eq_some_iff.1 hi).1) h).1 (h1.trans h2.symm)
    subst this
    simp [hi]
theorem mem_of_getE {α:Type} {l:List (List UInt8×α)} {k:List UInt8} {v:α} (h:getE l k=some v):(k,v)∈l:=by
  unfold getE at h
  cases hq:keyIdx k l with
  | none=>rw [hq] at h; cases h
  | some j =>
    obtain ⟨e,he,hk⟩:=keyIdx_some hq
    rw [hq] at h
    simp only [Option.bind_some,he,Option.map_some,Option.some.injEq] at h
    subst h; subst hk
    exact List.mem_of_getElem? he
theorem nodup_of_keys {α:Type} {l:List (List UInt8×α)} (h:(l.map (·.1)).Nodup):l.Nodup:=by
  rw [List.nodup_iff_pairwise_ne,List.pairwise_map] at h
  rw [List.nodup_iff_pairwise_ne]
  exact h.imp fun hab e=>hab (by rw [e])
theorem perm_of_getE {α:Type} {l r:List (List UInt8×α)} (hl:(l.map (·.1)).Nodup) (hr:(r.map (·.1)).Nodup) (h:∀ k,getE l k=getE r k):l.Perm r:=by
  classical
  rw [List.perm_ext_iff_of_nodup (nodup_of_keys hl) (nodup_of_keys hr)]
  intro e
  constructor
  · intro he
    have:=getE_of_mem hl he
    rw [h] at this
    exact mem_of_getE this
  · intro he
    have:=getE_of_mem hr he
    rw [← h] at this
    exact mem_of_getE this
theorem perm_getE {α:Type} {l r:List (List UInt8×α)} (hp:l.Perm r) (hl:(l.map (·.1)).Nodup) (k:List UInt8):getE l k=getE r k:=by
  have hr:(r.map (·.1)).Nodup:=(hp.map (·.1)).nodup_iff.1 hl
  cases hq:getE l k with
  | none =>
    symm
    rw [getE_none] at hq ⊢
    intro hm
    exact hq ((hp.map (·.1)).mem_iff.2 hm)
  | some v=>exact (getE_of_mem hr (hp.mem_iff.1 (mem_of_getE hq))).symm
abbrev Posts:=List (List UInt8×Int)
abbrev Sums:=List (List UInt8×Option Int)
def sg (undo:Bool) (a:Int):Int:=bif undo then -a else a
def sumStep (undo:Bool) (s:Sums) (p:List UInt8×Int):Sums:=putE s p.1 (some ((look none s p.1).getD 0 + sg undo p.2))
def sumsOf (undo:Bool) (ps:Posts):Sums:=ps.foldl (sumStep undo) []
def total (undo:Bool) (ps:Posts):Int:=ps.foldl (fun s p=>s + sg undo p.2) 0
theorem foldl_take {α β:Type} (f:β→α→β) (b:β) {l:List α} {k:Nat} {a:α} (h:l[k]?=some a):(l.take (k + 1)).foldl f b=f ((l.take k).foldl f b) a:=by
  have:l.take (k + 1)=l.take k ++ [a]:=by
    rw [List.take_add_one,h]; rfl
  rw [this,List.foldl_append]; rfl
theorem put_found {α:Type} {l:List (List UInt8×α)} {k:List UInt8} {i:Nat} {w v:α} (h:keyIdx k l=some i):(putE l k w).set i (k,v)=putE l k v:=by
  unfold putE; rw [h]; simp only [List.set_set]
theorem put_new {α:Type} {l:List (List UInt8×α)} {k:List UInt8} {z v:α} (h:keyIdx k l=none):(l ++ [(k,z)]).set l.length (k,v)=putE l k v:=by
  unfold putE; rw [h]; simp
theorem total_bound (undo:Bool) (ps:Posts) (h:∀ p∈ps,-9223372036854775808≤p.2∧p.2 < 9223372036854775808):(total undo ps).natAbs≤ps.length * 9223372036854775808:=by
  have:∀ (ps:Posts) (s:Int),(∀ p∈ps,-9223372036854775808≤p.2∧p.2 < 9223372036854775808)→(ps.foldl (fun s p=>s + sg undo p.2) s).natAbs≤s.natAbs + ps.length * 9223372036854775808:=by
    intro ps
    induction ps with
    | nil=>intro s _; simp
    | cons p ps ih =>
      intro s hp
      simp only [List.foldl_cons,List.length_cons]
      have h1:=ih (s + sg undo p.2) fun q hq=>hp q (by simp [hq])
      have h2:=hp p (by simp)
      have h3:(sg undo p.2).natAbs≤9223372036854775808:=by unfold sg; cases undo <;> simp only [cond_true,cond_false] <;> omega
      omega
  simpa [total] using this ps 0 h
theorem sums_bound (undo:Bool) (ps:Posts) (h:∀ p∈ps,-9223372036854775808≤p.2∧p.2 < 9223372036854775808):∀ e∈sumsOf undo ps,∃ z,e.2=some z∧z.natAbs≤ps.length * 9223372036854775808:=by
  have:∀ (ps:Posts) (s:Sums) (B:Nat),(∀ p∈ps,-9223372036854775808≤p.2∧p.2 < 9223372036854775808)→(∀ e∈s,∃ z:Int,e.2=some z∧z.natAbs≤B)→∀ e∈ps.foldl (sumStep undo) s,∃ z:Int,e.2=some z∧z.natAbs≤B + ps.length * 9223372036854775808:=by
    intro ps
    induction ps with
    | nil=>intro s B _ hs e he; obtain ⟨z,h1,h2⟩:=hs e he; exact ⟨z,h1,by simpa using h2⟩
    | cons p ps ih =>
      intro s B hp hs e he
      simp only [List.foldl_cons] at he
      have h2:=hp p (by simp)
      have h3:(sg undo p.2).natAbs≤9223372036854775808:=by unfold sg; cases undo <;> simp only [cond_true,cond_false] <;> omega
      have hl:((look none s p.1).getD 0).natAbs≤B:=by
        unfold look
        cases hq:getE s p.1 with
        | none=>simp
        | some v =>
          obtain ⟨z,h1,h2⟩:=hs _ (mem_of_getE hq)
          simp only at h1
          subst h1
          simpa using h2
      have hs':∀ e∈sumStep undo s p,∃ z:Int,e.2=some z∧z.natAbs≤B + 9223372036854775808:=by
        intro e he
        unfold sumStep putE at he
        split at he
        · rcases List.mem_or_eq_of_mem_set he with h | rfl
          · obtain ⟨z,h4,h5⟩:=hs e h; exact ⟨z,h4,by omega⟩
          · exact ⟨_,rfl,by omega⟩
        · rcases List.mem_append.1 he with h | h
          · obtain ⟨z,h4,h5⟩:=hs e h; exact ⟨z,h4,by omega⟩
          · cases List.mem_singleton.1 h; exact ⟨_,rfl,by omega⟩
      obtain ⟨z,h4,h5⟩:=ih _ _ (fun q hq=>hp q (by simp [hq])) hs' e he
      exact ⟨z,h4,by simp only [List.length_cons]; omega⟩
  intro e he
  obtain ⟨z,h1,h2⟩:=this ps [] 0 h (fun e he=>by simp at he) e he
  exact ⟨z,h1,by omega⟩
theorem sums_nodup (undo:Bool) (ps:Posts):((sumsOf undo ps).map (·.1)).Nodup:=by
  have:∀ (ps:Posts) (s:Sums),(s.map (·.1)).Nodup→((ps.foldl (sumStep undo) s).map (·.1)).Nodup:=by
    intro ps
    induction ps with
    | nil=>intro s h; exact h
    | cons p ps ih=>intro s h; exact ih _ (put_nodup h)
  exact this ps [] (by simp)
def bookE (l:Posts) (s:Sums):Posts:=s.foldl (fun l e=>putE l e.1 (look 0 l e.1 + e.2.getD 0)) l
end Go.AM
namespace Go.AM
open Go.RowKit
variable {P:Program} {S:Sg} {n:Nat} {draw:Bool} {ops:Array Oper} {o o1 o2:Oper} {rest:List Oper} {i:Nat} {F:Fr} {H:Heap} {K:Fr→Heap→Prop}
theorem Serves.mono {f:FuncId} {cargs:Array Value} {w:World} {R R':Value→World→Prop} (h:Serves P f cargs w R) (hr:∀ v w',R v w'→R' v w'):Serves P f cargs w R':=by
  rcases h with ⟨h1,h2⟩ | ⟨cv,w',h1,h2⟩
  · exact .inl ⟨h1,h2.mono fun e w' ⟨cv,he,hR⟩=>⟨cv,he,hr _ _ hR⟩⟩
  · exact .inr ⟨cv,w',h1,hr _ _ h2⟩
theorem wp_of_serves {w:World} {f:FuncId} {cargs:Array Value} {R:Value→World→Prop} {o:Oper} {a:Act} {next:Act→World→Prop} {Q:Exit→Act→World→Prop}
    (hx:(execOp a.eval o).run P w=(callFunc f cargs).run P w) (y:Serves P f cargs w R) (hn:∀ cv w',R cv w'→next (a.put o.dst cv) w'):o.wp P a w next Q:=by
  unfold Oper.wp
  rcases y with ⟨hcf,y⟩ | ⟨cv,w',hr,hR⟩
  · rw [hx,hcf w,Oper.upon_enter]
    refine y.mono ?_
    rintro e w' ⟨cv,rfl,hR⟩
    exact hn cv w' hR
  · rw [hx,hr]
    exact hn cv w' hR
theorem WO.call2 {f1 f2:FuncId} {args1:List AVal} {v:AVal} {H2:Heap} {t1:Tmp} {k2:Call} (hc1:callOf S (opdF S F) o1.op=some (f1,args1)) (hw1:wantedF ops F o1=some true) (hd1:o1.dst=some t1)
    (ho2:o2.op=.call k2) (hk2:k2.callee=.value (.func f2)) (ha2:k2.args=#[.tmp t1]) (hg2:o2.guard=none)
    (hd:∀ c w cargs,Rel c w H→Glob S c w→VRs c w args1 cargs→Serves P f1 cargs w fun cv1 w1=>Serves P f2 #[cv1] w1 fun cv2 w2=>∃ c2,Rel c2 w2 H2∧Post c w H c2 w2 H2∧VR c2 w2 v cv2)
    (next:WO P S n draw ops rest (i + 2) (putF (putF F o1.dst .any) o2.dst v) H2 K):WO P S n draw ops (o1 :: o2 :: rest) i F H K:=by
  intro hs hR hr c w a Q st hq
  have get:∀ (j:Nat) (x:Oper),(o1 :: o2 :: rest)[j]?=some x→ops[i + j]?=some x:=fun j x hx=>by
    rw [hr,List.getElem?_drop,Array.getElem?_toList] at hx
    exact hx
  have e1:ops[i]?=some o1:=get 0 o1 rfl
  have e2:ops[i + 1]?=some o2:=get 1 o2 rfl
  have opR:∀ x∈ops.toList,operR n x=true:=fun x hx=>by
    have:=hR
    unfold opsR at this
    rw [List.all_eq_true] at this
    exact this x hx
  have hoR1:operR n o1=true:=opR o1 (List.mem_of_getElem? (by rw [Array.getElem?_toList]; exact e1))
  have hoR2:operR n o2=true:=opR o2 (List.mem_of_getElem? (by rw [Array.getElem?_toList]; exact e2))
  have hr':rest=ops.toList.drop (i + 2):=by
    have:=congrArg (List.drop 2) hr
    simpa [List.drop_drop,Nat.add_comm] using this
  simp only [List.length_cons,List.range'_succ,wpOps,e1]
  rw [wanted_ok st.st.env ((wanted_tab hR).trans hw1)]
  simp only [if_true]
  obtain ⟨cargs,hva,hx⟩:=call_run hs.sg st hoR1 hc1
  refine .inl (wp_of_serves hx (hd c w cargs st.rel st.glob hva) fun cv1 w1 h1=>?_)
  simp only [e2]
  have hw2:∀ y:Tmp→Value,∀ q,Region.wanted o2 (yielded ops q)=true:=fun _ q=>by unfold Region.wanted; rw [hg2]
  rw [hw2 (fun _=>undef)]
  simp only [if_true]
  have ht1:t1 < n:=operR_dst hoR1 t1 hd1
  have hev:(a.put o1.dst cv1).eval (.tmp t1)=cv1:=by
    rw [hd1]
    have:t1 < a.tmps.size:=by rw [st.size]; exact ht1
    simp [Act.put,Act.eval,this]
  have hx2:(execOp (a.put o1.dst cv1).eval o2).run P w1=(callFunc f2 #[cv1]).run P w1:=by
    have hfe:(a.put o1.dst cv1).eval (.func f2)=.func (.func f2) #[] #[]:=rfl
    simp only [execOp,ho2,resolve,hk2,hfe,Deferred.ofValue,Sem.run_bind,Sem.run_pure,Result.andThen_ok,invoke,ha2]
    simp [hev]
  refine .inl (wp_of_serves hx2 h1 fun cv2 w2 h2=>?_)
  obtain ⟨c2,r2,p2,hv2⟩:=h2
  have st2:=((st.later r2 p2).put (cv:=cv1) (operR_dst hoR1) (.any cv1)).put (cv:=cv2) (operR_dst hoR2) hv2
  exact next hs hR hr' c2 w2 _ Q st2 fun F' H' c' w' a' hk st' p'=>hq F' H' c' w' a' hk st' (p2.trans st.rel p')
theorem Post.freeze {c c':Ctx} {w w':World} {H H':Heap} (p:Post c w H c' w' H') {b:Nat} (hb:w.heap.size≤b):Post c w H (c'.freeze b) w' H' :=
  ⟨p.ι,p.new,fun b h=>.inl (p.F b h),fun x h=>by
    rcases h with h | h
    · exact p.Fnew x h
    · subst h; exact .inr (.inl hb),p.frame,p.unm,p.dead,p.len,p.size,p.siz,p.os,p.tape,p.output⟩
def strsA (l:List (List UInt8)):List AVal:=l.map .str
theorem strsA_closed (l:List (List UInt8)):∀ a∈strsA l,a.closed1=true:=by
  intro a h
  obtain ⟨x,_,rfl⟩:=List.mem_map.1 h
  rfl
theorem strs_new {c:Ctx} {w w':World} {H:Heap} (r:Rel c w H) (b:Below w.heap.size w w') {g cap:Nat} {cur:Array Value} {e:TypeId} {fz:Nat×Nat} {ss:List (List UInt8)} (hg:w.heap.size≤g) (hh:w'.heap[g]?=some (.cells cur e fz))
    (hc1:ss.length≤cap) (hc2:cap≤9223372036854775807) (hcur:cur.toList.take ss.length=ss.map fun s=>Value.string ⟨s.toArray⟩) :
    ∃ c',Rel c' w' H∧Post c w H c' w' H∧VR c' w' (.isl (strsA ss) 0 ss.length none true) (.slice (some ⟨g,0,none⟩) ss.length cap):=by
  obtain ⟨r1,p1⟩:=below_post r b
  have hgl:g < w'.heap.size:=(Array.getElem?_eq_some_iff.1 hh).1
  obtain ⟨r2,l2⟩:=freeze_new r1 (b:=g) hgl (fun i o h=>by have:=(r.dom i g o h).2; omega)
  refine ⟨c.freeze g,r2,p1.freeze hg,?_⟩
  have cell:∀ (j:Nat) (x:List UInt8),ss[j]?=some x→cur[j]?=some (Value.string ⟨x.toArray⟩):=fun j x hx=>by
    have:(cur.toList.take ss.length)[j]?=some (Value.string ⟨x.toArray⟩):=by rw [hcur,List.getElem?_map,hx]; rfl
    rw [List.getElem?_take] at this
    split at this
    · rwa [Array.getElem?_toList] at this
    · cases this
  have:=VR.isl (c:=c.freeze g) (w:=w') (strsA ss) 0 ss.length none true g 0 cap (fun j=>(cur[j]?).getD default) (fun _=>strsA_closed ss) (.inr rfl) hc1 hc2 (fun n hn=>by cases hn) (fun j hj=>by
      obtain ⟨x,hx⟩:∃ x,ss[j]?=some x:=⟨_,List.getElem?_eq_getElem (by simpa [strsA] using hj)⟩
      simp [World.cell?,hh,cell j x hx]) (fun j a ha=>by
      obtain ⟨x,hx⟩:∃ x,ss[j]?=some x:=⟨_,List.getElem?_eq_getElem (by have:=(List.getElem?_eq_some_iff.1 ha).1; simpa [strsA] using this)⟩
      rw [strsA,List.getElem?_map,hx] at ha
      cases ha
      rw [cell j x hx]
      exact .str x _ rfl)
  simpa using this
end Go.AM
namespace Go.AM
theorem filter_key {α:Type} (k:List UInt8):∀ (l:List (List UInt8×α)),(l.map (·.1)).Nodup→(l.filter fun e=>decide (k=e.1))=match getE l k with
    | none=>[]
    | some v=>[(k,v)]
  | [],_=>rfl
  | e :: l,h=>by
    rw [List.map_cons,List.nodup_cons] at h
    have ih:=filter_key k l h.2
    by_cases hk:k=e.1
    · subst hk
      have hn:getE l e.1=none:=getE_none.2 h.1
      rw [hn] at ih
      have he:getE (e :: l) e.1=some e.2:=by
        obtain ⟨a,b⟩:=e
        simp [getE,keyIdx]
      rw [he,List.filter_cons,if_pos (by simp),ih]
    · have he:getE (e :: l) k=getE l k:=by
        obtain ⟨a,b⟩:=e
        have hk':¬ k=a:=hk
        unfold getE
        simp only [keyIdx,hk',if_false]
        cases keyIdx k l <;> simp
      rw [he,List.filter_cons,if_neg (by simpa using hk),ih]
theorem lookI_ents {α:Type} (f:α→AVal) (k:List UInt8) (l:List (List UInt8×α)) (h:(l.map (·.1)).Nodup):lookI (.str k) (entsF f l)=some ((getE l k).map fun v=>(0,f v)):=by
  unfold lookI
  rw [if_pos]
  · have:((entsF f l).filter fun e=>(sameKey (.str k) e.1).getD false)=entsF f (l.filter fun e=>decide (k=e.1)):=by
      unfold entsF
      rw [List.filter_map]
      rfl
    rw [this,filter_key k l h]
    cases getE l k with
    | none=>rfl
    | some v=>rfl
  · rw [List.all_eq_true]
    intro e he
    obtain ⟨a,_,rfl⟩:=List.mem_map.1 he
    rfl
section
variable {S:Sg} {H:Heap} {t kt et:TypeId} {ti tk te:TI}
theorem lookup_imap {α:Type} {f:α→AVal} {l:List (List UInt8×α)} {k:List UInt8} {z:α} {cl:Bool} (ht:S.ty t=some ti) (hd:ti.desc=.map kt et) (hk:S.ty kt=some tk) (hks:tk.desc=.string) (he:S.ty et=some te) (hz:zeroOf te=some (f z)) (hn:(l.map (·.1)).Nodup) :
    denLookup S H t (.imap (l.map fun e=>.str e.1) (l.map fun e=>f e.2) cl) (.str k) false=some (f (look z l k)):=by
  obtain ⟨d1,d2,d3,d4,d5,d6,d7,d8⟩:=ti
  simp only at hd
  subst hd
  unfold denLookup look
  simp only [ht,hk,he,hks,keyOk,if_true]
  rw [entsF_zip f l,lookI_ents f k l hn]
  cases getE l k with
  | none=>simp only [Option.map_none,hz]; rfl
  | some v=>rfl
theorem lookup_nilm {α:Type} {f:α→AVal} {k:List UInt8} {z:α} (ht:S.ty t=some ti) (hd:ti.desc=.map kt et) (hk:S.ty kt=some tk) (hks:tk.desc=.string) (he:S.ty et=some te) (hz:zeroOf te=some (f z)) :
    denLookup S H t .nilm (.str k) false=some (f z):=by
  obtain ⟨d1,d2,d3,d4,d5,d6,d7,d8⟩:=ti
  simp only at hd
  subst hd
  unfold denLookup
  simp only [ht,hk,he,hks,keyOk,if_true,hz]
  rfl
end
section
variable {S:Sg} {call:Calling} {d:Bool} {g:Operand→AVal} {H:Heap} {c:Call} {t e:TypeId} {ti te:TI} {news:List AVal} {id2:Nat} {cap2:Option Nat} {ty2:TypeId}
theorem G.append_nils (hc:c.callee=.builtin .append) (ha:c.args.toList.map g=[.nils,.sl id2 0 1 cap2 te.size]) (hta:c.argTypes.toList=[t,t]) (ht:S.ty t=some ti) (hd:ti.desc=.slice e) (he:S.ty e=some te) (hH:H[id2]?=some (.cells news ty2)) (hn:news.length=te.size) (hcl:news.all AVal.cell=true) (hb:te.bytes≤1024) :
    denG S call d g H (.call c)=some (.sl H.length 0 1 none te.size,H ++ [.cells news e]):=by
  obtain ⟨d1,d2,d3,d4,d5,d6,d7,d8⟩:=ti
  simp only at hd
  subst hd
  have hsc:sliceCells H te.size (.sl id2 0 1 cap2 te.size)=some (news,1):=by
    unfold sliceCells
    simp only [hH]
    rw [if_pos (by omega),List.drop_zero,List.take_of_length_le (by omega)]
  simp only [denG,hc,ha,hta,denAppend,ht,he,hsc,hcl]
  have h1:(0 + 1) * te.bytes≤140737488355328:=by omega
  rw [if_neg (by decide),if_pos ⟨h1,by omega⟩]
theorem G.append_sl {id len:Nat} {vs:List AVal} {ty:TypeId} (hc:c.callee=.builtin .append) (ha:c.args.toList.map g=[.sl id 0 len none te.size,.sl id2 0 1 cap2 te.size]) (hta:c.argTypes.toList=[t,t]) (ht:S.ty t=some ti) (hd:ti.desc=.slice e) (he:S.ty e=some te) (hH:H[id2]?=some (.cells news ty2)) (hn:news.length=te.size) (hcl:news.all AVal.cell=true) (hb:te.bytes≤1024) (hs:0 < te.size)
    (hI:H[id]?=some (.cells vs ty)) (hv:vs.length=len * te.size) (hl:len < 1073741824) :
    denG S call d g H (.call c)=some (.sl H.length 0 (len + 1) none te.size,H.set id .dead ++ [.cells (vs ++ news) e]):=by
  obtain ⟨d1,d2,d3,d4,d5,d6,d7,d8⟩:=ti
  simp only at hd
  subst hd
  have hsc:sliceCells H te.size (.sl id2 0 1 cap2 te.size)=some (news,1):=by
    unfold sliceCells
    simp only [hH]
    rw [if_pos (by omega),List.drop_zero,List.take_of_length_le (by omega)]
  have hso:sliceCells H te.size (.sl id 0 len none te.size)=some (vs,len):=by
    unfold sliceCells
    simp only [hI]
    rw [if_pos (by omega),List.drop_zero,List.take_of_length_le (by omega)]
  simp only [denG,hc,ha,hta,denAppend,ht,he,hsc,hso,hcl]
  have h1:(len + (0 + 1)) * te.bytes≤140737488355328:=by
    have:(len + (0 + 1)) * te.bytes≤1073741824 * 1024:=Nat.mul_le_mul (by omega) hb
    omega
  rw [if_neg (by decide),if_pos ⟨trivial,hs,h1,by omega⟩]
theorem G.len_isl {cells:List AVal} {off len:Nat} {cap:Option Nat} {cl:Bool} (hc:c.callee=.builtin .len) (ha:c.args.toList.map g=[.isl cells off len cap cl]) (hta:c.argTypes.toList=[t]) (ht:S.ty t=some ti) (hd:ti.desc=.slice e) :
    denG S call d g H (.call c)=some (.int .i64 (len:Int),H):=by
  obtain ⟨d1,d2,d3,d4,d5,d6,d7,d8⟩:=ti
  simp only at hd
  subst hd
  simp only [denG,hc,ha,hta,denLen,ht]
  rfl
end
end Go.AM
