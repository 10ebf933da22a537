import Derived.Laws.CopyRow
import Derived.Laws.Tables
import Derived.Test.YtjlmihjhakfchaaGreatDoorA2
set_option linter.unusedVariables false
set_option linter.unusedSimpArgs false
noncomputable section
namespace Go.AM
variable {P:Program}
def RowR (c:Ctx) (w:World) (cs:List AVal) (vs:Array Value):Prop :=
  vs.size=cs.length∧∀ (j:Nat) (a:AVal) (v:Value),cs[j]?=some a→vs[j]?=some v→VR c w a v
theorem run_mapM_list {α β:Type} (f:α→Sem β) (g:α→β) (w:World):∀ (l:List α),(∀ x∈l,(f x).run P w=.ok (g x) w)→(l.mapM f).run P w=.ok (l.map g) w
  | [],_=>by simp
  | x :: l,h=>by
    have h1:=h x (by simp)
    have h2:=run_mapM_list f g w l (fun y hy=>h y (by simp [hy]))
    simp [h1,h2]
theorem run_mapM {α β:Type} (f:α→Sem β) (g:α→β) (w:World) (l:Array α) (h:∀ x∈l,(f x).run P w=.ok (g x) w):(l.mapM f).run P w=.ok (l.map g) w:=by
  rw [Array.mapM_eq_mapM_toList,Sem.run_map,run_mapM_list f g w l.toList (fun x hx=>h x (by simpa using hx))]
  simp only [Result.andThen]
  congr 1
  apply Array.ext'
  simp
theorem foldl_zip (off:Nat):∀ (l:List Value) (k:Nat) (cs:Array Value),off + k + l.length≤cs.size →
    let r:=(l.zipIdx k).foldl (fun cs (x:Value×Nat)=>cs.setIfInBounds (off + x.2) x.1) cs
    r.size=cs.size∧∀ j,r[j]?=if off + k≤j∧j < off + k + l.length then l[j - (off + k)]? else cs[j]?
  | [],k,cs,h=>by
    refine ⟨rfl,fun j=>?_⟩
    have:¬ (off + k≤j∧j < off + k + ([]:List Value).length):=by simp only [List.length_nil]; omega
    rw [if_neg this]; rfl
  | x :: l,k,cs,h=>by
    simp only [List.length_cons] at h
    have ih:=foldl_zip off l (k + 1) (cs.setIfInBounds (off + k) x) (by simp only [Array.size_setIfInBounds]; omega)
    simp only [List.zipIdx_cons,List.foldl_cons]
    refine ⟨ih.1.trans (by simp),fun j=>?_⟩
    rw [ih.2 j,Array.getElem?_setIfInBounds]
    simp only [List.length_cons]
    by_cases h1:off + (k + 1)≤j∧j < off + (k + 1) + l.length
    · rw [if_pos h1,if_pos (by omega)]
      have:j - (off + k)=(j - (off + (k + 1))) + 1:=by omega
      rw [this,List.getElem?_cons_succ]
    · rw [if_neg h1]
      by_cases h2:off + k=j
      · rw [if_pos h2,if_pos (by omega),if_pos (by omega)]
        have:j - (off + k)=0:=by omega
        rw [this]; rfl
      · rw [if_neg h2,if_neg (by omega)]
theorem zip_fold (off:Nat) (vc cs:Array Value) (h:off + vc.size≤cs.size) :
    let r:=vc.zipIdx.foldl (fun cs (x:Value×Nat)=>cs.setIfInBounds (off + x.2) x.1) cs
    r.size=cs.size∧∀ j,r[j]?=if off≤j∧j < off + vc.size then vc[j - off]? else cs[j]?:=by
  have:=foldl_zip off vc.toList 0 cs (by simpa using h)
  simp only [Nat.add_zero,Array.length_toList,Array.getElem?_toList] at this
  rw [← Array.foldl_toList,Array.toList_zipIdx]
  exact this
theorem setRange_get (vs:List AVal) (off:Nat) (news:List AVal) (h:off + news.length≤vs.length) (j:Nat) :
    (setRange vs off news)[j]?=if off≤j∧j < off + news.length then news[j - off]? else vs[j]?:=by
  unfold setRange
  have hl:(vs.take off).length=off:=by simp; omega
  by_cases h1:j < off
  · rw [List.append_assoc,List.getElem?_append_left (by omega),if_neg (by omega),List.getElem?_take,if_pos h1]
  · by_cases h2:j < off + news.length
    · rw [if_pos (by omega),List.getElem?_append_left (by simp; omega),List.getElem?_append_right (by omega),hl]
    · rw [if_neg (by omega),List.getElem?_append_right (by simp; omega),List.getElem?_drop]
      congr 1
      simp; omega
theorem setRange_len (vs:List AVal) (off:Nat) (news:List AVal) (h:off + news.length≤vs.length):(setRange vs off news).length=vs.length:=by
  unfold setRange; simp; omega
theorem fill_ok {c:Ctx} {w:World} (pl pl':Nat→Option (Nat×Nat)) (hp:∀ i x,pl i=some x→pl' i=some x):∀ (ps:List (Nat×AVal)) (ps':List (Nat×Value)) (cs:List AVal) (arr:Array Value) (out:List AVal),
    ps'.length=ps.length→(∀ (j:Nat) (x:Nat×AVal) (y:Nat×Value),ps[j]?=some x→ps'[j]?=some y→x.1=y.1∧VR c w x.2 y.2) →
    fillA pl cs ps=some out→RowR c w cs arr→∃ arr',Instr.fill pl' arr ps'=some arr'∧RowR c w out arr'
  | [],ps',cs,arr,out,hl,_,h,hr=>by
    have:ps'=[]:=List.eq_nil_of_length_eq_zero (by simpa using hl)
    subst this
    simp only [fillA,Option.some.injEq] at h; subst h
    exact ⟨arr,rfl,hr⟩
  | (i,v) :: ps,[],cs,arr,out,hl,_,h,hr=>by simp at hl
  | (i,v) :: ps,(i',v') :: ps',cs,arr,out,hl,hv,h,hr=>by
    obtain ⟨rfl,hvv⟩:=hv 0 _ _ rfl rfl
    simp only at hvv
    unfold fillA at h
    split at h
    · rename_i off size vc hpl hvc
      split at h
      · rename_i hc
        obtain ⟨hsz,hcs⟩:=cellsOf_ok hvc hvv
        obtain ⟨h1,h2⟩:=zip_fold off v'.cells arr (by rw [hr.1]; omega)
        have hfit:off + vc.length≤cs.length:=by omega
        have hrow:RowR c w (setRange cs off vc) (v'.cells.zipIdx.foldl (fun cs (x:Value×Nat)=>cs.setIfInBounds (off + x.2) x.1) arr):=by
          refine ⟨by rw [h1,setRange_len cs off vc hfit]; exact hr.1,fun j a u ha hu=>?_⟩
          rw [setRange_get cs off vc hfit] at ha
          rw [h2] at hu
          rw [hsz] at hu
          split at ha
          · rename_i hj; rw [if_pos hj] at hu; exact hcs _ _ _ ha hu
          · rename_i hj; rw [if_neg hj] at hu; exact hr.2 _ _ _ ha hu
        obtain ⟨arr',hf,ho⟩:=fill_ok pl pl' hp ps ps' _ _ out (by simpa using hl) (fun j x y hx hy=>hv (j + 1) x y (by simpa using hx) (by simpa using hy)) h hrow
        refine ⟨arr',?_,ho⟩
        simp only [Instr.fill,hp _ _ hpl]
        rw [if_neg (by simp only [Bool.or_eq_true,decide_eq_true_eq,ne_eq]; rw [hr.1]; omega)]
        exact hf
      · cases h
    · cases h
theorem zero_row {c:Ctx} {w:World} {t:TypeId} {ti:TI} (ht:TyOK P t ti):∃ z,(zeroValue t).run P w=.ok z w∧RowR c w ti.zero z.cells∧ti.zero.length=ti.size:=by
  obtain ⟨inf,hi,hs,hb,zv,hz,hzz,hzl,ha,ha'⟩:=ht.info
  refine ⟨zv,by simp [zeroValue,typeInfo,hi,hz],⟨by rw [hzz]; simp,fun j a v hja hjv=>?_⟩,hzl⟩
  rw [hzz,List.getElem?_map,Array.getElem?_toList,hjv] at hja
  cases hja
  exact .ofV1 _ _ _
theorem flatten_get {α:Type} (z:List α) (n j:Nat) (hz:0 < z.length):((List.replicate n z).flatten)[j]?=if j < n * z.length then z[j % z.length]? else none:=by
  induction n generalizing j with
  | zero=>simp
  | succ n ih =>
    rw [List.replicate_succ,List.flatten_cons]
    by_cases h:j < z.length
    · rw [List.getElem?_append_left h,Nat.mod_eq_of_lt h,if_pos]
      rw [Nat.add_mul]; omega
    · rw [List.getElem?_append_right (by omega),ih,Nat.add_mul,Nat.one_mul]
      have:j % z.length=(j - z.length) % z.length:=by
        conv=>lhs; rw [show j=(j - z.length) + z.length by omega]
        rw [Nat.add_mod_right]
      rw [this]
      by_cases h2:j - z.length < n * z.length
      · rw [if_pos h2,if_pos (by omega)]
      · rw [if_neg h2,if_neg (by omega)]
theorem flatten_len {α:Type} (z:List α) (n:Nat):((List.replicate n z).flatten).length=n * z.length:=by
  induction n with
  | zero=>simp
  | succ n ih=>rw [List.replicate_succ,List.flatten_cons,List.length_append,ih,Nat.add_mul]; omega
theorem zeros_row {c:Ctx} {w:World} (z:Array Value) (cs:List AVal) (n:Nat) (hr:RowR c w cs z) :
    RowR c w ((List.replicate n cs).flatten) ((Array.range (n * cs.length)).map (z[· % z.size]!)):=by
  refine ⟨by simp [flatten_len],fun j a v ha hv=>?_⟩
  have hj:=(List.getElem?_eq_some_iff.1 ha).1
  rw [flatten_len] at hj
  have hpos:0 < cs.length:=by
    rcases Nat.eq_zero_or_pos cs.length with h | h
    · rw [h] at hj; omega
    · exact h
  rw [flatten_get cs n j hpos,if_pos hj] at ha
  have hm:j % z.size < z.size:=Nat.mod_lt _ (by rw [hr.1]; exact hpos)
  simp [hj] at hv
  have hz:z[j % z.size]?=some v:=by
    rw [Array.getElem?_eq_getElem hm]
    rw [getElem!_pos z (j % z.size) hm] at hv
    rw [hv]
  rw [hr.1] at hz
  exact hr.2 _ _ _ ha hz
theorem TyOK.zeroRun {t:TypeId} {ti:TI} (ht:TyOK P t ti) (c:Ctx) (w:World):∃ z,(zeroValue t).run P w=.ok z w∧(∀ w',(zeroValue t).run P w'=.ok z w')∧RowR c w ti.zero z.cells:=by
  obtain ⟨inf,hi,hs,hb,zv,hz,hzz,hzl,ha,ha'⟩:=ht.info
  have hrun:∀ w',(zeroValue t).run P w'=.ok zv w':=fun w'=>by simp [zeroValue,typeInfo,hi,hz]
  refine ⟨zv,hrun w,hrun,by rw [hzz]; simp,fun j a v hja hjv=>?_⟩
  rw [hzz,List.getElem?_map,Array.getElem?_toList,hjv] at hja
  cases hja
  exact .ofV1 _ _ _
theorem alloc_ok {c:Ctx} {w:World} {H:Heap} (r:Rel c w H) {t:TypeId} {ti:TI} (ht:TyOK P t ti) :
    Yields P c w H (Instr.alloc t true (.tuple #[])) (.ptr H.length 0) (H ++ [.cells ti.zero t]):=by
  obtain ⟨z,hz,_,hr⟩:=ht.zeroRun c w
  obtain ⟨c',r',p',hι⟩:=new_row r z.cells t ti.zero t (by rw [hr.1]; exact Nat.le_refl _) hr.2
  refine ⟨.pointer (some ⟨w.heap.size,0,none⟩),_,c',?_,r',p',.ptr _ _ _ 0 hι⟩
  simp [Instr.alloc,hz,newVar,newRow]
theorem box_ok {c:Ctx} {w:World} {H:Heap} (r:Rel c w H) {t:TypeId} {x:AVal} {vx:Value} {cs:List AVal} (hx:VR c w x vx) (h:cellsOf x=some cs) (mu:Bool) :
    Yields P c w H (Instr.box t vx) (newRowA mu H cs t).1 (newRowA mu H cs t).2:=by
  obtain ⟨hs,hv⟩:=cellsOf_ok h hx
  have hrun:(Instr.box t vx).run P w=.ok (.pointer (some ⟨w.heap.size,0,none⟩)) (w.alloc (.cells vx.cells t)):=by simp [Instr.box,newVar,newRow]
  cases mu with
  | true =>
    obtain ⟨c',r',p',hι⟩:=new_row r vx.cells t cs t (by omega) hv
    exact ⟨_,_,c',hrun,r',p',.ptr _ _ _ 0 hι⟩
  | false =>
    obtain ⟨c',r',p',hF,g,h1,h2⟩:=new_imm r vx.cells t (0,0) cs (by omega) hv
    exact ⟨_,_,c',hrun,r',p',.ip cs 0 _ w.heap.size 0 g (fun h=>List.all_eq_true.1 h) hF h1 h2⟩
theorem build_ok {S:Sg} (hS:SgOK P S) {c:Ctx} {w:World} {t:TypeId} {ti:TI} (hti:S.ty t=some ti) {fs:Array Field} (hd:ti.desc=.struct fs) {ps:List (Nat×AVal)} {ps':Array (Nat×Value)} {cs:List AVal}
    (hl:ps'.size=ps.length) (hv:∀ (j:Nat) (x:Nat×AVal) (y:Nat×Value),ps[j]?=some x→ps'.toList[j]?=some y→x.1=y.1∧VR c w x.2 y.2)
    (h:fillA (fun i=>(ti.flds[i]?).map fun f=>(f.1,f.2.1)) ti.zero ps=some cs):Tells P c w (Instr.build t ps') (.agg cs):=by
  have T:=hS.ty t ti hti
  obtain ⟨z,hz,_,hr⟩:=T.zeroRun c w
  have hu:=T.und
  rw [hd] at hu
  obtain ⟨hfl,hf⟩:=T.flds fs hd
  let pz:Field→Nat×Nat:=fun f=>(f.offset,((P.info? f.type).map (·.size)).getD 0)
  have hm:(fs.mapM fun (f:Field)=>do pure (f.offset,← sizeOf f.type)).run P w=.ok (fs.map pz) w:=by
    refine run_mapM _ pz w fs fun f hfm=>?_
    obtain ⟨j,hj,hje⟩:=Array.getElem_of_mem hfm
    have hg:∃ g,ti.flds[j]?=some g:=⟨_,List.getElem?_eq_getElem (by omega)⟩
    obtain ⟨g,hg⟩:=hg
    obtain ⟨_,inf,hi,_⟩:=hf j f g (by rw [Array.getElem?_eq_getElem hj,hje]) hg
    simp [run_sizeOf hi,pz,hi]
  have hpl:∀ (i:Nat) (x:Nat×Nat),(ti.flds[i]?).map (fun (f:Nat×Nat×Bool)=>(f.1,f.2.1))=some x→(fs.map pz)[i]?=some x:=by
    intro i x hx
    cases hg:ti.flds[i]? with
    | none=>rw [hg] at hx; cases hx
    | some g =>
      rw [hg] at hx; cases hx
      have hi:i < fs.size:=by rw [hfl]; exact (List.getElem?_eq_some_iff.1 hg).1
      obtain ⟨ho,inf,hinf,hs,_⟩:=hf i fs[i] g (Array.getElem?_eq_getElem hi) hg
      rw [Array.getElem?_map,Array.getElem?_eq_getElem hi]
      simp [pz,hinf,ho,hs]
  obtain ⟨arr',hfl',ho⟩:=fill_ok _ _ hpl ps ps'.toList ti.zero z.cells cs (by simpa using hl) hv h hr
  refine ⟨.agg arr',?_,.agg _ _ ho.1 ho.2⟩
  simp only [Instr.build,Sem.run_bind,hz,run_und hu,Result.andThen_ok,hm]
  rw [hfl']; rfl
theorem build_arr_ok {S:Sg} (hS:SgOK P S) {c:Ctx} {w:World} {t e:TypeId} {ti te:TI} {n:Nat} (hti:S.ty t=some ti) (hd:ti.desc=.array n e) (hte:S.ty e=some te) {ps:List (Nat×AVal)} {ps':Array (Nat×Value)} {cs:List AVal}
    (hl:ps'.size=ps.length) (hv:∀ (j:Nat) (x:Nat×AVal) (y:Nat×Value),ps[j]?=some x→ps'.toList[j]?=some y→x.1=y.1∧VR c w x.2 y.2)
    (h:fillA (fun i=>some (i * te.size,te.size)) ti.zero ps=some cs):Tells P c w (Instr.build t ps') (.agg cs):=by
  have T:=hS.ty t ti hti
  obtain ⟨z,hz,_,hr⟩:=T.zeroRun c w
  have hu:=T.und
  rw [hd] at hu
  obtain ⟨arr',hfl',ho⟩:=fill_ok _ (fun i=>some (i * te.size,te.size)) (fun _ _ h=>h) ps ps'.toList ti.zero z.cells cs (by simpa using hl) hv h hr
  refine ⟨.agg arr',?_,.agg _ _ ho.1 ho.2⟩
  simp only [Instr.build,Sem.run_bind,hz,run_und hu,Result.andThen_ok,(hS.ty _ _ hte).sizeOf]
  rw [hfl']; rfl
theorem buildSlice_ok {S:Sg} (hS:SgOK P S) {c:Ctx} {w:World} {H:Heap} (r:Rel c w H) {t e:TypeId} {te:TI} {n:Nat} (hu:P.underlying t=some (.slice e)) (hte:S.ty e=some te) {ps:List (Nat×AVal)} {ps':Array (Nat×Value)} {cs:List AVal}
    (hl:ps'.size=ps.length) (hv:∀ (j:Nat) (x:Nat×AVal) (y:Nat×Value),ps[j]?=some x→ps'.toList[j]?=some y→x.1=y.1∧VR c w x.2 y.2)
    (hn:n * te.size≤16777216) (hn':n≤9223372036854775807)
    (h:fillA (fun i=>some (i * te.size,te.size)) ((List.replicate n te.zero).flatten) ps=some cs) (draw:Bool) :
    Yields P c w H (Instr.buildSlice t n ps') (if draw then .isl cs 0 n (some n) (cs.all AVal.closed1) else .sl H.length 0 n (some n) te.size) (if draw then H else H ++ [.cells cs e]):=by
  have T:=hS.ty e te hte
  obtain ⟨z,hz,_,hr⟩:=T.zeroRun c w
  have hzl:te.zero.length=te.size:=by obtain ⟨_,_,_,_,_,_,_,hzl,_⟩:=T.info; exact hzl
  have hrow:RowR c w ((List.replicate n te.zero).flatten) ((Array.range (n * te.size)).map (z.cells[· % z.cells.size]!)):=by
    have:=zeros_row z.cells te.zero n hr
    rwa [hzl] at this
  obtain ⟨arr',hfl',ho⟩:=fill_ok _ (fun i=>some (i * te.size,te.size)) (fun _ _ h=>h) ps ps'.toList _ _ cs (by simpa using hl) hv h hrow
  have hrun:(Instr.buildSlice t n ps').run P w=.ok (.slice (some ⟨w.heap.size,0,none⟩) n n) (w.alloc (.cells arr' e)):=by
    unfold Instr.buildSlice
    simp only [Sem.run_bind,run_und hu,Result.andThen_ok,T.sizeOf]
    rw [if_neg (by omega)]
    by_cases h0:n * te.size=0
    · rw [if_pos h0]
      simp only [Sem.run_pure,Result.andThen_ok,Sem.run_bind]
      have e0:(Array.range (n * te.size)).map (fun x=>(#[]:Array Value)[x % (#[]:Array Value).size]!)=(Array.range (n * te.size)).map (z.cells[· % z.cells.size]!):=by rw [h0]; simp
      rw [e0,hfl']
      simp [newRow]
    · rw [if_neg h0]
      simp only [Sem.run_bind,hz,Result.andThen_ok,Sem.run_pure]
      rw [hfl']
      simp [newRow]
  have hlen:cs.length=n * te.size:=by
    have h1:=ho.1
    have:∀ (ps:List (Nat×AVal)) (l out:List AVal),fillA (fun i=>some (i * te.size,te.size)) l ps=some out→out.length=l.length:=by
      intro ps
      induction ps with
      | nil=>intro l out h; simp only [fillA,Option.some.injEq] at h; rw [h]
      | cons p ps ih =>
        intro l out h
        obtain ⟨i,v⟩:=p
        unfold fillA at h
        split at h
        · split at h
          · rename_i hc; rw [ih _ _ h,setRange_len _ _ _ (by omega)]
          · cases h
        · cases h
    rw [this _ _ _ h,flatten_len,hzl]
  cases draw with
  | true =>
    obtain ⟨c',r',p',hF,g,h1,h2⟩:=new_imm r arr' e (0,0) cs (by rw [ho.1]; exact Nat.le_refl _) ho.2
    exact ⟨_,_,c',hrun,r',p',.isl cs 0 n _ _ w.heap.size 0 n g (fun h=>List.all_eq_true.1 h) hF (Nat.le_refl _) hn' (fun m hm=>by cases hm; rfl) h1 h2⟩
  | false =>
    obtain ⟨c',r',p',hι⟩:=new_row r arr' e cs e (by rw [ho.1]; exact Nat.le_refl _) ho.2
    refine ⟨_,_,c',hrun,r',p',?_⟩
    have:=VR.sl (c:=c') (w:=w.alloc (.cells arr' e)) H.length 0 n (some n) te.size w.heap.size 0 n hι (Nat.le_refl _) hn' (fun m hm=>by cases hm; rfl) ⟨arr',e,(0,0),heap_alloc_at _ _,by rw [ho.1,hlen]; omega⟩
    exact this
theorem denMakeSlice_ok {S:Sg} (hS:SgOK P S) {c:Ctx} {w:World} {H H':Heap} (r:Rel c w H) {t:TypeId} {l k v:AVal} {vl vk:Value} (h:denMakeSlice S H t l k=some (v,H')) (hl:VR c w l vl) (hk:VR c w k vk) :
    Yields P c w H (Instr.makeSlice t vl vk) v H':=by
  unfold denMakeSlice at h
  split at h
  · rename_i e _ _ _ _ _ _ _ k1 ln k2 cp ht
    have hu:=(hS.ty _ _ ht).und
    simp only at hu
    split at h
    · rename_i te hte
      split at h
      · rename_i hc
        cases h
        cases hl; cases hk
        have T:=hS.ty _ _ hte
        obtain ⟨z,hz,hz',hr⟩:=T.zeroRun c w
        obtain ⟨inf,hi,hsz,hby,_⟩:=T.info
        have hzl:te.zero.length=te.size:=by obtain ⟨_,_,_,_,_,_,_,hzl,_⟩:=T.info; exact hzl
        obtain ⟨h0,h1,h2,h3⟩:=hc
        have w1:IntKind.i64.wrap ln=ln:=by rw [wrapI_eq]; unfold wrapI; simp only; rw [if_pos] <;> omega
        have w2:IntKind.i64.wrap cp=cp:=by rw [wrapI_eq]; unfold wrapI; simp only; rw [if_pos] <;> omega
        have hrow:RowR c w ((List.replicate cp.toNat te.zero).flatten) ((Array.range (cp.toNat * te.size)).map (z.cells[· % z.cells.size]!)):=by
          have:=zeros_row z.cells te.zero cp.toNat hr
          rwa [hzl] at this
        have hrun:(Instr.makeSlice t (.int k1 ln) (.int k2 cp)).run P w=.ok (.slice (some ⟨w.heap.size,0,none⟩) ln.toNat cp.toNat) (w.alloc (.cells ((Array.range (cp.toNat * te.size)).map (z.cells[· % z.cells.size]!)) e)):=by
          unfold Instr.makeSlice
          simp only [Sem.run_bind,run_und hu,Result.andThen_ok,asInt,asIntOf,Sem.run_pure,typeInfo,run_program,hi,w1,w2,hby]
          have hbc:(te.bytes:Int) * cp≤140737488355328:=by rw [Int.mul_comm]; exact h2
          rw [if_neg (by simp only [Bool.or_eq_true,decide_eq_true_eq]; omega)]
          simp only [Sem.run_bind,run_askRoom,Result.andThen_ok,T.sizeOf]
          by_cases hn:cp.toNat * te.size=0
          · rw [if_pos hn]
            simp only [Sem.run_pure,Result.andThen_ok,Sem.run_bind]
            rw [hn]
            have e0:∀ (f:Nat→Value),(Array.range 0).map f=#[]:=fun f=>by simp
            simp only [newRow,Sem.run_bind,run_newObj,Result.andThen_ok,Sem.run_pure,World.alloc_eq,e0]
          · rw [if_neg hn]
            simp only [Sem.run_bind,hz,Result.andThen_ok,Sem.run_pure]
            simp [newRow]
        obtain ⟨c',r',p',hι⟩:=new_row r _ e ((List.replicate cp.toNat te.zero).flatten) e (by rw [hrow.1]; exact Nat.le_refl _) hrow.2
        refine ⟨_,_,c',hrun,r',p',?_⟩
        refine VR.sl H.length 0 ln.toNat (some cp.toNat) te.size w.heap.size 0 cp.toNat hι (by omega) (by omega) (fun m hm=>by cases hm; rfl) ⟨_,e,(0,0),heap_alloc_at _ _,by simp⟩
      · cases h
    · cases h
  · cases h
theorem makeMap_ok {c:Ctx} {w:World} {H:Heap} (r:Rel c w H) (t:TypeId):Yields P c w H (Instr.makeMap t none) (.map H.length) (H ++ [.map []]):=by
  obtain ⟨c',r',p',hι⟩:=new_mut r (.map #[] 0) (.map []) fun c' w' l hb=>⟨#[],0,⟨rfl,fun j m h=>by simp at h⟩,hb,rfl,fun j a m ha=>by simp at ha⟩
  exact ⟨.map (some w.heap.size),_,c',by simp [Instr.makeMap],r',p',.map _ _ 0 hι⟩
theorem setRow_siz {w:World} {g:Nat} {cs:Array Value} {cur:Array Value} {e:TypeId} {fz:Nat×Nat} (hg:w.heap[g]?=some (.cells cur e fz)) (hs:cs.size=cur.size) :
    ∀ (arr:Array Value) (e':TypeId) (fz':Nat×Nat),w.heap[g]?=some (Obj.cells arr e' fz')→∃ (arr':Array Value) (e'':TypeId) (fz'':Nat×Nat),(w.setRow g cs).heap[g]?=some (Obj.cells arr' e'' fz'')∧arr'.size=arr.size:=by
  intro arr e' fz' h
  rw [hg] at h; cases h
  exact ⟨cs,e,fz,setRow_heap w g cur cs e fz hg,hs⟩
theorem store_row {c:Ctx} {w:World} {H:Heap} (r:Rel c w H) {id b o off:Nat} {vs:List AVal} {ty:TypeId} (hH:H[id]?=some (.cells vs ty)) (hι:c.ι id=some (b,o))
    {news:List AVal} {nv:List Value} (hn:nv.length=news.length) (hv:∀ (j:Nat) (a:AVal) (v:Value),news[j]?=some a→nv[j]?=some v→VR c w a v)
    (h1:∀ v∈nv,v.oneCell'=true) (hfit:off + news.length≤vs.length) :
    ∃ w',(storeCells ⟨b,o + off,none⟩ nv).run P w=.ok () w'∧Rel c w' (H.set id (.cells (setRange vs off news) ty))∧Post c w H c w' (H.set id (.cells (setRange vs off news) ty)):=by
  obtain ⟨arr,e,hb,hl,hh⟩:=r.obj id _ b o hH hι
  have hrun:=run_storeCells_at P b (o + off) e nv 0 arr w hb (by omega) h1
  simp only [Nat.add_zero] at hrun
  have hsz:((arr.toList.take (o + off) ++ nv ++ arr.toList.drop (o + off + nv.length)).toArray).size=arr.size:=by simp; omega
  refine ⟨_,hrun,?_⟩
  refine upd r hH rfl hι rfl (by simp [World.setRow]) (fun k hk=>setRow_other w b k _ hk) (setRow_siz hb hsz) rfl rfl rfl fun l=>?_
  refine ⟨_,e,setRow_heap w b arr _ e (0,0) hb,by rw [hsz,setRange_len _ _ _ hfit]; exact hl,fun j a v ha hv'=>?_⟩
  rw [setRange_get vs off news hfit] at ha
  simp only [List.getElem?_toArray] at hv'
  have hlt:(arr.toList.take (o + off)).length=o + off:=by simp; omega
  split at ha
  · rename_i hj
    rw [List.append_assoc,List.getElem?_append_right (by omega),hlt,List.getElem?_append_left (by omega)] at hv'
    have:o + j - (o + off)=j - off:=by omega
    rw [this] at hv'
    exact (hv _ _ _ ha hv').mono l
  · rename_i hj
    by_cases hlo:j < off
    · rw [List.append_assoc,List.getElem?_append_left (by omega),List.getElem?_take,if_pos (by omega),Array.getElem?_toList] at hv'
      exact (hh _ _ _ ha hv').mono l
    · rw [List.getElem?_append_right (by simp; omega),List.getElem?_drop,Array.getElem?_toList] at hv'
      have:o + off + nv.length + (o + j - (arr.toList.take (o + off) ++ nv).length)=o + j:=by simp; omega
      rw [this] at hv'
      exact (hh _ _ _ ha hv').mono l
theorem store_ok {S:Sg} (hS:SgOK P S) {c:Ctx} {w:World} {H:Heap} (r:Rel c w H) {t:TypeId} {ti:TI} (ht:S.ty t=some ti) {id off:Nat} {x:AVal} {va vx:Value} {cs vs:List AVal} {ty:TypeId}
    (ha:VR c w (.ptr id off) va) (hx:VR c w x vx) (hc:cellsOf x=some cs) (hH:H[id]?=some (.cells vs ty)) (hl:cs.length=ti.size) (hfit:off + ti.size≤vs.length) (hcell:cs.all AVal.cell=true) :
    ∃ w',(Instr.storeAt t va vx).run P w=.ok () w'∧Rel c w' (H.set id (.cells (setRange vs off cs) ty))∧Post c w H c w' (H.set id (.cells (setRange vs off cs) ty)):=by
  cases ha with
  | ptr _ _ b o hι =>
    obtain ⟨hs,hv⟩:=cellsOf_ok hc hx
    have h1:∀ v∈vx.cells.toList,v.oneCell'=true:=by
      intro v hm
      obtain ⟨j,hj,he⟩:=List.getElem_of_mem hm
      have hj':j < vx.cells.size:=by simpa using hj
      have hjc:j < cs.length:=by omega
      exact oneCell_of (List.all_eq_true.1 hcell cs[j] (List.getElem_mem hjc)) (hv j cs[j] v (List.getElem?_eq_getElem hjc) (by rw [← Array.getElem?_toList,List.getElem?_eq_getElem hj,he]))
    obtain ⟨w',hrun,r',p'⟩:=store_row (P:=P) r hH hι (news:=cs) (nv:=vx.cells.toList) (by simpa using hs) (fun j a v ha hv'=>hv j a v ha (by rw [← Array.getElem?_toList]; exact hv')) h1 (by omega) (off:=off)
    refine ⟨w',?_,r',p'⟩
    simp only [Instr.storeAt,Instr.sureAddr,Sem.run_bind,Sem.run_pure,Result.andThen_ok,storeVar,(hS.ty _ _ ht).sizeOf]
    rw [if_neg (by rw [hs,hl]; simp)]
    exact hrun
end Go.AM
