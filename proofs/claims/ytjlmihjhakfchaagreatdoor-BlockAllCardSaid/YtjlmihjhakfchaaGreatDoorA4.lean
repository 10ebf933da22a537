import Derived.Laws.AppendOwn
import Derived.Laws.RangeAny
import Derived.Orders
import Derived.Laws.StructEq
import Derived.Test.YtjlmihjhakfchaaGreatDoorA3
set_option linter.unusedVariables false
set_option linter.unusedSimpArgs false
noncomputable section
namespace Go.AM
variable {P:Program}
theorem first_ok {c:Ctx} {w:World} {H:Heap} {sz:Nat} {x:AVal} {v:Value} {cs:List AVal} {n k:Nat} (h:sliceCells H sz x=some (cs,n)) (hv:VR c w x v) (r:Rel c w H) (hk:k≤n) :
    ∃ nv:Array Value,RowR c w (cs.take (k * sz)) nv∧∀ w',(∀ a,w'.cell? a=w.cell? a)→(Builtin.firstCells sz k v).run P w'=.ok nv w'∧(Builtin.lenOf v).run P w'=.ok n w':=by
  obtain ⟨hl,hc⟩:=sliceCells_ok h hv r
  have hkn:k * sz≤n * sz:=Nat.mul_le_mul_right _ hk
  rcases hc with ⟨a,ca,rfl,h1,h2,hcell⟩ | ⟨s,rfl,rfl,rfl,rfl⟩
  · by_cases h0:k * sz=0
    · refine ⟨#[],⟨by simp [h0],fun j a v ha=>by simp [h0] at ha⟩,fun w' hw=>⟨?_,by simp [Builtin.lenOf]⟩⟩
      cases a with
      | none=>simp [Builtin.firstCells]
      | some a=>simp [Builtin.firstCells,h0,loadCells,loadCellsFrom]
    · have hk0:0 < k:=Nat.pos_of_ne_zero fun e=>h0 (by rw [e,Nat.zero_mul])
      obtain ⟨b,o,rfl,hcc⟩:=hcell (by omega)
      let g:Nat→Value:=fun j=>(w.cell? ⟨b,o + j,none⟩).getD default
      have hg:∀ j,j < k * sz→w.cell? ⟨b,o + j,none⟩=some (g j):=by
        intro j hj
        obtain ⟨u,hu,_⟩:=hcc j cs[j] (List.getElem?_eq_getElem (by omega))
        show _=some ((w.cell? ⟨b,o + j,none⟩).getD default)
        rw [hu]; rfl
      refine ⟨((List.range' 0 (k * sz)).map g).toArray,⟨by simp; omega,fun j a v ha hjv=>?_⟩,fun w' hw=>⟨?_,by simp [Builtin.lenOf]⟩⟩
      · rw [List.getElem?_take] at ha
        split at ha
        · rename_i hj
          obtain ⟨u,hu,hv⟩:=hcc j a ha
          rw [hg j hj] at hu; cases hu
          simp [hj] at hjv
          rw [← hjv]; exact hv
        · cases ha
      · simp only [Builtin.firstCells]
        exact run_loadCells (P:=P) w' b o g (k * sz) (fun j hj=>by rw [hw]; exact hg j hj)
  · refine ⟨(s.extract 0 k).data.map fun b=>.int .u8 b.toNat,⟨?_,fun j a v ha hjv=>?_⟩,fun w' hw=>⟨by simp [Builtin.firstCells],by simp [Builtin.lenOf]⟩⟩
    · have:(s.extract 0 k).data.toList.length=k:=by
        rw [Lib.extract_data]
        have:s.data.toList.length=s.size:=Array.length_toList
        simp only [List.drop_zero,List.length_take,Nat.sub_zero]; omega
      rw [Array.length_toList] at this
      simp only [Array.size_map,this,List.length_take,toBytes_len,Array.length_toList]
      have:s.data.size=s.size:=rfl
      omega
    · have e:(s.extract 0 k).data.toList=s.data.toList.take k:=by rw [Lib.extract_data]; simp
      rw [List.getElem?_take,toBytes_get] at ha
      rw [Array.getElem?_map,← Array.getElem?_toList,e,List.getElem?_take] at hjv
      rw [Nat.mul_one] at ha
      split at ha
      · rename_i hj
        rw [if_pos hj] at hjv
        cases hb:s.data.toList[j]? with
        | none=>rw [hb] at ha; cases ha
        | some b=>rw [hb] at ha hjv; cases ha; cases hjv; exact .int _ _
      · cases ha
theorem kill {c:Ctx} {w:World} {H:Heap} (r:Rel c w H) {id:Nat} {p:Nat×Nat} (hι:c.ι id=some p):Rel c w (H.set id .dead)∧Post c w H c w (H.set id .dead):=by
  have liv:∀ i,Live (H.set id .dead) i→i≠id∧Live H i:=by
    intro i ⟨o,ho,hl⟩
    by_cases hi:id=i
    · subst hi
      have:id < H.length:=(r.dom id p.1 p.2 hι).1
      simp [this] at ho; subst ho; cases hl
    · rw [List.getElem?_set_ne hi] at ho; exact ⟨fun e=>hi e.symm,o,ho,hl⟩
  refine ⟨⟨?_,?_,?_,?_,r.fr⟩,⟨fun _ _ h=>h,fun _ _ _ h=>.inl h,fun _ h=>h,fun _ h=>.inl h,fun _ _ _=>rfl,?_,?_,by simp,Nat.le_refl _,fun _ arr e fz h=>⟨arr,e,fz,h,rfl⟩,rfl,rfl,rfl⟩⟩
  · intro i o b off h hi
    by_cases hii:id=i
    · subst hii
      have:id < H.length:=(r.dom id b off hi).1
      simp [this] at h; subst h; trivial
    · rw [List.getElem?_set_ne hii] at h; exact r.obj i o b off h hi
  · intro i j b o1 o2 hi hj; exact r.inj i j b o1 o2 (liv i hi).2 (liv j hj).2
  · intro i b off h; have:=r.dom i b off h; simpa using this
  · intro i b off hl h; exact r.sep i b off (liv i hl).2 h
  · intro i hi hn
    have:id≠i:=fun e=>by subst e; rw [hι] at hn; cases hn
    exact List.getElem?_set_ne this
  · intro i hi hn h; exact hn (liv i h).2
theorem move_row {c:Ctx} {w w':World} {H:Heap} (r:Rel c w H) {id b o o':Nat} {x:AObj} (hid:H[id]?=some x) (hx:x.live=true) (hι:c.ι id=some (b,o)) {nc:List AVal} {ty:TypeId}
    (hsz:w'.heap.size=w.heap.size) (hoth:∀ k,k≠b→w'.heap[k]?=w.heap[k]?) {arr arr':Array Value} {e:TypeId} (hb:w.heap[b]?=some (.cells arr e (0,0))) (hb':w'.heap[b]?=some (.cells arr' e (0,0))) (has:arr'.size=arr.size)
    (h1:w'.os=w.os) (h2:w'.tape=w.tape) (h3:w'.output=w.output) (hfit:o' + nc.length≤arr'.size)
    (hv:∀ (j:Nat) (a:AVal) (v:Value),nc[j]?=some a→arr'[o' + j]?=some v→VR c w a v) :
    ∃ c',Rel c' w' (H.set id .dead ++ [.cells nc ty])∧Post c w H c' w' (H.set id .dead ++ [.cells nc ty])∧c'.ι H.length=some (b,o'):=by
  have hF:¬ c.F b:=r.sep id b o ⟨x,hid,hx⟩ hι
  have hlt:id < H.length:=(List.getElem?_eq_some_iff.1 hid).1
  have hlen:(H.set id .dead).length=H.length:=by simp
  have fresh:∀ i p,c.ι i=some p→i≠H.length:=fun i p h e=>by have:=(r.dom i p.1 p.2 h).1; omega
  have siz:∀ (k:Nat) (arr0:Array Value) (e0:TypeId) (fz0:Nat×Nat),w.heap[k]?=some (Obj.cells arr0 e0 fz0)→∃ (arr1:Array Value) (e1:TypeId) (fz1:Nat×Nat),w'.heap[k]?=some (Obj.cells arr1 e1 fz1)∧arr1.size=arr0.size:=by
    intro k arr0 e0 fz0 hk
    by_cases hkb:k=b
    · subst hkb; rw [hb] at hk; cases hk; exact ⟨arr',e,_,hb',has⟩
    · exact ⟨arr0,e0,fz0,by rw [hoth k hkb,hk],rfl⟩
  have l:Le c w (c.bind H.length (b,o')) w':=by
    refine ⟨fun i p h=>by simp [Ctx.bind,fresh i p h,h],fun _ h=>h,fun k hk=>hoth k (fun e=>hF (e ▸ hk)),siz⟩
  have bnd:∀ i b1 off,(c.bind H.length (b,o')).ι i=some (b1,off)→(i=H.length∧b1=b∧off=o')∨(i < H.length∧c.ι i=some (b1,off)):=by
    intro i b1 off h
    simp only [Ctx.bind] at h
    split at h
    · rename_i hi; cases h; exact .inl ⟨hi,rfl,rfl⟩
    · exact .inr ⟨(r.dom i b1 off h).1,h⟩
  have get:∀ i,i < H.length→(H.set id .dead ++ [.cells nc ty])[i]?=if id=i then some .dead else H[i]?:=by
    intro i hi
    rw [List.getElem?_append_left (by omega)]
    split
    · rename_i he; subst he; simp [hlt]
    · rename_i he; exact List.getElem?_set_ne he
  have liv:∀ i,i < H.length→Live (H.set id .dead ++ [.cells nc ty]) i→i≠id∧Live H i:=by
    intro i hi ⟨y,hy,hyl⟩
    rw [get i hi] at hy
    split at hy
    · cases hy; cases hyl
    · rename_i he; exact ⟨fun e=>he e.symm,y,hy,hyl⟩
  refine ⟨c.bind H.length (b,o'),⟨?_,?_,?_,?_,?_⟩,⟨l.ι,?_,fun _ h=>h,fun _ h=>.inl h,?_,?_,?_,by simp,by omega,siz,h1,h2,h3⟩,by simp [Ctx.bind]⟩
  · intro i y b1 off h hi
    rcases bnd i b1 off hi with ⟨rfl,rfl,rfl⟩ | ⟨hil,hi⟩
    · rw [List.getElem?_append_right (by omega),hlen,Nat.sub_self] at h
      cases h
      exact ⟨arr',e,hb',hfit,fun j a v ha hv'=>(hv j a v ha hv').mono l⟩
    · rw [get i hil] at h
      split at h
      · cases h; trivial
      · rename_i he
        cases hy:y.live with
        | false=>cases y <;> simp [AObj.live] at hy <;> trivial
        | true =>
          have hne:b1≠b:=fun e=>he (r.inj id i b o off ⟨x,hid,hx⟩ ⟨y,h,hy⟩ hι (e ▸ hi))
          exact (r.obj i y b1 off h hi).mono l (hoth b1 hne)
  · intro i j b1 o1 o2 hi hj g1 g2
    rcases bnd i b1 o1 g1 with ⟨rfl,rfl,rfl⟩ | ⟨hil,g1'⟩ <;> rcases bnd j _ o2 g2 with ⟨rfl,hbb,rfl⟩ | ⟨hjl,g2'⟩
    · rfl
    · obtain ⟨hne,hl⟩:=liv j hjl hj
      exact absurd (r.inj j id _ _ _ hl ⟨x,hid,hx⟩ g2' hι) hne
    · subst hbb
      obtain ⟨hne,hl⟩:=liv i hil hi
      exact absurd (r.inj i id _ _ _ hl ⟨x,hid,hx⟩ g1' hι) hne
    · exact r.inj i j b1 o1 o2 (liv i hil hi).2 (liv j hjl hj).2 g1' g2'
  · intro i b1 off h
    rcases bnd i b1 off h with ⟨rfl,rfl,rfl⟩ | ⟨hil,h⟩
    · have:=(r.dom id _ o hι).2; simp; omega
    · have:=r.dom i b1 off h; simp; omega
  · intro i b1 off hl h
    rcases bnd i b1 off h with ⟨rfl,rfl,rfl⟩ | ⟨hil,h⟩
    · exact hF
    · exact r.sep i b1 off (liv i hil hl).2 h
  · intro k hk; have:=r.fr k hk; omega
  · intro i b1 off h
    rcases bnd i b1 off h with ⟨rfl,rfl,rfl⟩ | ⟨hil,h⟩
    · exact .inr ⟨Nat.le_refl _,.inr ⟨id,o,⟨x,hid,hx⟩,hι⟩⟩
    · exact .inl h
  · intro k hk hn; exact hoth k (fun e=>hn id o ⟨x,hid,hx⟩ (e ▸ hι))
  · intro i hi hn
    rw [get i hi,if_neg]
    rintro rfl; rw [hι] at hn; cases hn
  · intro i hi hn h; exact hn (liv i hi h).2
theorem run_append_fits {t t2 ty e:TypeId} {d2:TypeDesc} {inf:TypeInfo} (hu:P.underlying t=some (.slice e)) (hu2:P.underlying t2=some d2) (hd2:∀ k,d2≠.int k) (hi:P.info? e=some inf)
    {w w':World} {base:Option Addr} {sLen sCap n:Nat} {x:Value} {nv:Array Value} (hlen:(Builtin.lenOf x).run P w=.ok n w) (hfirst:(Builtin.firstCells inf.size n x).run P w=.ok nv w) (hfit:sLen + n≤sCap)
    (hst:∀ a,base=some a→(storeCells (a.add (sLen * inf.size)) nv.toList).run P w=.ok () w') (hn:base=none→w'=w) :
    (Builtin.append_ #[t,t2] ty #[.slice base sLen sCap,x]).run P w=.ok (.slice base (sLen + n) sCap) w':=by
  have hz:(match d2 with | .int _=>true | _=>false)=false:=by cases d2 <;> first | rfl | exact absurd rfl (hd2 _)
  cases base with
  | none =>
    rw [hn rfl]
    simp [Builtin.append_,run_und hu,run_und hu2,run_sizeOf hi,hz,hlen,hfit,hfirst]
  | some a =>
    simp [Builtin.append_,run_und hu,run_und hu2,run_sizeOf hi,hz,hlen,hfit,hfirst,hst a rfl]
theorem run_append_new {t t2 ty e:TypeId} {d2:TypeDesc} {inf:TypeInfo} {z:Value} (hu:P.underlying t=some (.slice e)) (hu2:P.underlying t2=some d2) (hd2:∀ k,d2≠.int k) (hi:P.info? e=some inf) (hz:inf.zero=some z)
    {w:World} {base:Option Addr} {sLen sCap n:Nat} {x:Value} {ov nv:Array Value} (hlen:(Builtin.lenOf x).run P w=.ok n w) (hfirst:(Builtin.firstCells inf.size n x).run P w.drew=.ok nv w.drew)
    (hold:(Builtin.firstCells inf.size sLen (.slice base sLen sCap)).run P w.drew=.ok ov w.drew) (hfit:sCap < sLen + n)
    (h1:sLen + n≤9223372036854775807) (h2:(sLen + n) * inf.bytes≤140737488355328) :
    (Builtin.append_ #[t,t2] ty #[.slice base sLen sCap,x]).run P w =
      .ok (.slice (some ⟨w.heap.size,0,none⟩) (sLen + n) (grownCap w (sLen + n) sCap e)) (w.drew.alloc (.cells (ov ++ nv ++ Builtin.zeroCells z.cells (grownCap w (sLen + n) sCap e - (sLen + n))) e)):=by
  have hzr:(match d2 with | .int _=>true | _=>false)=false:=by cases d2 <;> first | rfl | exact absurd rfl (hd2 _)
  have hg:Builtin.nextslicecap (sLen + n) sCap * inf.bytes≤281474976710656:=growslice_fits hfit h2
  have hn:¬ (sLen + n≤sCap):=by omega
  have h63:¬ ((9223372036854775807:Int) < (sLen:Int) + (n:Int)):=by omega
  have h48:¬ (281474976710656 < Builtin.nextslicecap (sLen + n) sCap * inf.bytes):=by omega
  simp [Builtin.append_,run_und hu,run_und hu2,run_sizeOf hi,hzr,hlen,hn,h63,h48,typeInfo,zeroValue,hi,hz,Question.forced,hfirst,hold,newRow,grownCap]
theorem RowR.append {c:Ctx} {w:World} {as bs:List AVal} {xs ys:Array Value} (h:RowR c w as xs) (k:RowR c w bs ys):RowR c w (as ++ bs) (xs ++ ys):=by
  refine ⟨by simp [h.1,k.1],fun j a v ha hv=>?_⟩
  by_cases hj:j < as.length
  · rw [List.getElem?_append_left hj] at ha
    rw [Array.getElem?_append_left (by rw [h.1]; exact hj)] at hv
    exact h.2 j a v ha hv
  · rw [List.getElem?_append_right (by omega)] at ha
    rw [Array.getElem?_append_right (by rw [h.1]; omega),h.1] at hv
    exact k.2 _ a v ha hv
theorem RowR.mono {c c':Ctx} {w w':World} (l:Le c w c' w') {as:List AVal} {xs:Array Value} (h:RowR c w as xs):RowR c' w' as xs :=
  ⟨h.1,fun j a v ha hv=>(h.2 j a v ha hv).mono l⟩
theorem grown_row {c:Ctx} {w:World} {H H1:Heap} (r0:Rel c w H) (r:Rel c w H1) (p:Post c w H c w H1) (hH:H1.length=H.length) {e:TypeId} {sz:Nat} {cs:List AVal} {vs:Array Value} (hr:RowR c w cs vs) {need old:Nat}
    (hl:cs.length=need * sz) (h1:need≤9223372036854775807) {z:Value} (hz:z.cells.size=sz) :
    ∃ c',Rel c' (w.drew.alloc (.cells (vs ++ Builtin.zeroCells z.cells (grownCap w need old e - need)) e)) (H1 ++ [.cells cs e]) ∧
      Post c w H c' (w.drew.alloc (.cells (vs ++ Builtin.zeroCells z.cells (grownCap w need old e - need)) e)) (H1 ++ [.cells cs e]) ∧
      VR c' (w.drew.alloc (.cells (vs ++ Builtin.zeroCells z.cells (grownCap w need old e - need)) e)) (.sl H.length 0 need none sz) (.slice (some ⟨w.heap.size,0,none⟩) need (grownCap w need old e)):=by
  have hge:=grownCap_ge w need old e
  have hle:=grownCap_le_maxLen w need old e (by unfold maxLen; omega)
  unfold maxLen at hle
  obtain ⟨c',r',p',hι⟩:=new_row r.drew (vs ++ Builtin.zeroCells z.cells (grownCap w need old e - need)) e cs e (by rw [Array.size_append,hr.1]; omega) (by
    intro j a v ha hv
    have hj:=(List.getElem?_eq_some_iff.1 ha).1
    rw [Array.getElem?_append_left (by rw [hr.1]; exact hj)] at hv
    exact (hr.2 j a v ha hv).mono ((Post.drew c w H1).le r))
  rw [World.size_drew] at hι
  refine ⟨c',r',p.trans r0 ((Post.drew c w H1).trans r p'),?_⟩
  rw [hH] at hι
  have hm:need * sz + (grownCap w need old e - need) * sz=grownCap w need old e * sz:=by rw [← Nat.add_mul]; congr 1; omega
  refine .sl H.length 0 need none sz w.heap.size 0 _ hι hge hle (by simp) ⟨_,e,(0,0),by have:=heap_alloc_at w.drew (.cells (vs ++ Builtin.zeroCells z.cells (grownCap w need old e - need)) e); rwa [World.size_drew] at this,?_⟩
  rw [Array.size_append,hr.1,hl,size_zeroCells,hz]
  omega
theorem VR.sl_inv {c:Ctx} {w:World} {id off len:Nat} {cap:Option Nat} {sz:Nat} {v:Value} (h:VR c w (.sl id off len cap sz) v) :
    ∃ a b o ca,v=.slice (some a) len ca∧c.ι id=some (b,o)∧len≤ca∧ca≤9223372036854775807∧(∀ n,cap=some n→ca=n) ∧
      (0 < ca→a=⟨b,o + off,none⟩∧∃ (arr:Array Value) (e:TypeId) (fz:Nat×Nat),w.heap[b]?=some (Obj.cells arr e fz)∧o + off + ca * sz≤arr.size):=by
  cases h with
  | sl _ _ _ _ _ b o ca h1 h2 h3 h4 h5=>exact ⟨_,b,o,ca,rfl,h1,h2,h3,h4,fun _=>⟨rfl,h5⟩⟩
  | sl0 _ _ _ _ b o a h1 hc=>exact ⟨a,b,o,0,rfl,h1,Nat.le_refl _,by omega,fun n hn=>(hc n hn).symm,fun h=>absurd h (by omega)⟩
theorem take_all {cs:List AVal} {n:Nat} (h:cs.length=n):cs.take n=cs:=List.take_of_length_le (by omega)
theorem append_move {c:Ctx} {w:World} {H:Heap} (r:Rel c w H) {t t2 ty e:TypeId} {d2:TypeDesc} {inf:TypeInfo} (hu:P.underlying t=some (.slice e)) (hu2:P.underlying t2=some d2) (hni:∀ k,d2≠.int k) (hi:P.info? e=some inf)
    {id off len m ca sz b o:Nat} {cap:Option Nat} {ol news:List AVal} {k0:Nat} {vx:Value} {nv:Array Value} (hsz:inf.size=sz) (hs:VR c w (.sl id off len cap sz) (.slice (some ⟨b,o + off,none⟩) len ca)) (hι:c.ι id=some (b,o))
    (hle2:ca≤9223372036854775807) (hroom:len + m≤ca) (hblk:∃ (arr:Array Value) (e:TypeId) (fz:Nat×Nat),w.heap[b]?=some (Obj.cells arr e fz)∧o + off + ca * sz≤arr.size)
    (hsc:sliceCells H sz (.sl id off len cap sz)=some (ol,k0)) (hnr:RowR c w news nv) (hnl:news.length=m * sz) (hone:∀ u∈nv.toList,u.oneCell'=true)
    (hrun:(Builtin.lenOf vx).run P w=.ok m w∧(Builtin.firstCells inf.size m vx).run P w=.ok nv w) :
    Yields P c w H (Builtin.append_ #[t,t2] ty #[.slice (some ⟨b,o + off,none⟩) len ca,vx]) (.sl H.length 0 (len + m) none sz) (H.set id .dead ++ [.cells (ol ++ news) e]):=by
  obtain ⟨arr,e',fz,hb,hfit⟩:=hblk
  obtain ⟨hol,hcs⟩:=sliceCells_ok hsc hs r
  have hk0:k0=len:=by
    rcases hcs with ⟨a1,ca1,he1,_⟩ | ⟨s1,he1,_⟩
    · injection he1 with _ h _; exact h.symm
    · cases he1
  rw [hk0] at hol hcs
  cases hH:H[id]? with
  | none=>exact absurd (r.dom id b o hι).1 (by have:=List.getElem?_eq_none_iff.1 hH; omega)
  | some ob =>
    cases ob with
    | cells vs0 ty0 =>
      obtain ⟨arr0,e0,hb0,hl0,hh0⟩:=r.obj id _ b o hH hι
      rw [hb] at hb0; cases hb0
      have hmul:len * sz + m * sz≤ca * sz:=by rw [← Nat.add_mul]; exact Nat.mul_le_mul_right _ hroom
      have hnvs:nv.toList.length=m * sz:=by simp [hnr.1,hnl]
      have hnv2:nv.size=m * sz:=by rw [hnr.1,hnl]
      have hst:=run_storeCells_at P b (o + off + len * sz) _ nv.toList 0 arr w hb (by rw [hnvs]; omega) hone
      simp only [Nat.add_zero] at hst
      have hrun2:=run_append_fits (P:=P) (ty:=ty) (base:=some ⟨b,o + off,none⟩) hu hu2 hni hi hrun.1 hrun.2 (sLen:=len) (sCap:=ca) hroom (by
        intro a' ha'; cases ha'; rw [add_none,hsz]; exact hst) (by intro h; cases h)
      have hsize:((arr.toList.take (o + off + len * sz) ++ nv.toList ++ arr.toList.drop (o + off + len * sz + nv.toList.length)).toArray).size=arr.size:=by simp [hnv2]; omega
      have hb':=setRow_heap w b arr ((arr.toList.take (o + off + len * sz) ++ nv.toList ++ arr.toList.drop (o + off + len * sz + nv.toList.length)).toArray) _ (0,0) hb
      have hcellv:∀ (j:Nat) (a:AVal) (v:Value),(ol ++ news)[j]?=some a→((arr.toList.take (o + off + len * sz) ++ nv.toList ++ arr.toList.drop (o + off + len * sz + nv.toList.length)).toArray)[o + off + j]?=some v→VR c w a v:=by
        intro j a v ha hv
        simp only [List.getElem?_toArray] at hv
        have hlt:(arr.toList.take (o + off + len * sz)).length=o + off + len * sz:=by simp; omega
        by_cases hj:j < len * sz
        · rw [List.getElem?_append_left (by omega)] at ha
          rw [List.append_assoc,List.getElem?_append_left (by omega),List.getElem?_take,if_pos (by omega),Array.getElem?_toList] at hv
          rcases hcs with ⟨a1,ca1,he1,_,_,hcc⟩ | ⟨s1,he1,_⟩
          · have hl0':0 < len:=Nat.pos_of_ne_zero fun e=>by rw [e,Nat.zero_mul] at hj; omega
            obtain ⟨b1,o1,he2,hc2⟩:=hcc hl0'
            injection he1 with h1 _ _
            rw [he2] at h1; cases h1
            obtain ⟨u,hu1,hu2⟩:=hc2 j a ha
            have:w.cell? ⟨b,o + off + j,none⟩=arr[o + off + j]?:=by unfold World.cell?; rw [hb]; rfl
            rw [this,hv] at hu1; cases hu1
            exact hu2
          · cases he1
        · rw [List.getElem?_append_right (by omega),hol] at ha
          have hjn:j - len * sz < news.length:=(List.getElem?_eq_some_iff.1 ha).1
          rw [List.append_assoc,List.getElem?_append_right (by omega),hlt,List.getElem?_append_left (by omega),Array.getElem?_toList] at hv
          have:o + off + j - (o + off + len * sz)=j - len * sz:=by omega
          rw [this] at hv
          exact hnr.2 _ a v ha hv
      have hoth:∀ k,k≠b→(w.setRow b ((arr.toList.take (o + off + len * sz) ++ nv.toList ++ arr.toList.drop (o + off + len * sz + nv.toList.length)).toArray)).heap[k]?=w.heap[k]?:=fun k hk=>setRow_other w b k _ hk
      have hhs:(w.setRow b ((arr.toList.take (o + off + len * sz) ++ nv.toList ++ arr.toList.drop (o + off + len * sz + nv.toList.length)).toArray)).heap.size=w.heap.size:=by simp [World.setRow]
      have ho:(w.setRow b ((arr.toList.take (o + off + len * sz) ++ nv.toList ++ arr.toList.drop (o + off + len * sz + nv.toList.length)).toArray)).os=w.os:=rfl
      have ht:(w.setRow b ((arr.toList.take (o + off + len * sz) ++ nv.toList ++ arr.toList.drop (o + off + len * sz + nv.toList.length)).toArray)).tape=w.tape:=rfl
      have hp:(w.setRow b ((arr.toList.take (o + off + len * sz) ++ nv.toList ++ arr.toList.drop (o + off + len * sz + nv.toList.length)).toArray)).output=w.output:=rfl
      generalize w.setRow b ((arr.toList.take (o + off + len * sz) ++ nv.toList ++ arr.toList.drop (o + off + len * sz + nv.toList.length)).toArray)=w' at *
      generalize ((arr.toList.take (o + off + len * sz) ++ nv.toList ++ arr.toList.drop (o + off + len * sz + nv.toList.length)).toArray)=arr' at *
      obtain ⟨c',r',p',hι'⟩:=move_row (c:=c) (w:=w) (w':=w') r hH rfl hι (nc:=ol ++ news) (ty:=e) (o':=o + off) hhs hoth hb hb' hsize ho ht hp (by rw [hsize,List.length_append,hol,hnl]; omega) hcellv
      exact ⟨_,_,c',hrun2,r',p',.sl H.length 0 (len + m) none sz b (o + off) ca hι' hroom hle2 (by simp) ⟨_,_,(0,0),hb',by rw [hsize]; omega⟩⟩
    | map es=>obtain ⟨mes,clk,_,hb0,_⟩:=r.obj id _ b o hH hι; rw [hb] at hb0; cases hb0
    | siter s0 pos=>obtain ⟨_,bs,_,hb0⟩:=r.obj id _ b o hH hι; rw [hb] at hb0; cases hb0
    | miter _ _ _=>obtain ⟨_,_,_,_,_,_,hb0⟩:=r.obj id _ b o hH hι; rw [hb] at hb0; cases hb0
    | iiter _ _ _ _=>obtain ⟨_,_,_,_,_,_,_,_,_,_,_,_,hb0⟩:=r.obj id _ b o hH hι; rw [hb] at hb0; cases hb0
    | niter=>obtain ⟨_,hb0⟩:=r.obj id _ b o hH hι; rw [hb] at hb0; cases hb0
    | dead=>simp [sliceCells,hH] at hsc
theorem olds_ok {c:Ctx} {w:World} {H:Heap} (r:Rel c w H) {sz:Nat} {s:AVal} {base:Option Addr} {len ca:Nat} {ol:List AVal} {m:Nat} (hv:VR c w s (.slice base len ca)) (hc:sliceCells H sz s=some (ol,m)) :
    ol.length=len * sz∧∃ ov:Array Value,RowR c w ol ov∧(Builtin.firstCells sz len (.slice base len ca)).run P w.drew=.ok ov w.drew:=by
  obtain ⟨hl,hk⟩:=sliceCells_ok hc hv r
  have hm:m=len:=by
    rcases hk with ⟨a1,ca1,he1,_⟩ | ⟨s1,he1,_⟩
    · injection he1 with _ h _; exact h.symm
    · cases he1
  rw [hm] at hl hc
  obtain ⟨ov,h1,h2⟩:=first_ok (P:=P) hc hv r (Nat.le_refl _)
  rw [take_all hl] at h1
  exact ⟨hl,ov,h1,(h2 w.drew (fun _=>rfl)).1⟩
theorem append_grow {c:Ctx} {w:World} {H H1:Heap} (r:Rel c w H) {t t2 ty e:TypeId} {d2:TypeDesc} {te:TI} (T:TyOK P e te) (hu:P.underlying t=some (.slice e)) (hu2:P.underlying t2=some d2) (hni:∀ k,d2≠.int k)
    {s:AVal} {base:Option Addr} {len ca n m:Nat} {ol news:List AVal} {vx:Value} {nv:Array Value} (hv:VR c w s (.slice base len ca)) (hc:sliceCells H te.size s=some (ol,m)) (hlt:ca < len + n)
    (hb:(len + n) * te.bytes≤140737488355328) (hm:len + n≤4611686018427387904) (r1:Rel c w H1) (p1:Post c w H c w H1) (hH1:H1.length=H.length)
    (hnr:RowR c w news nv) (hnl:news.length=n * te.size) (hrun:(Builtin.lenOf vx).run P w=.ok n w∧(Builtin.firstCells te.size n vx).run P w.drew=.ok nv w.drew) :
    Yields P c w H (Builtin.append_ #[t,t2] ty #[.slice base len ca,vx]) (.sl H.length 0 (len + n) none te.size) (H1 ++ [.cells (ol ++ news) e]):=by
  obtain ⟨inf,hi,hsz,hby,z,hzz,hzl0,hzl,_,_⟩:=T.info
  have hzs:z.cells.size=te.size:=by rw [← hzl,hzl0]; simp
  obtain ⟨hol,ov,hor,horun⟩:=olds_ok (P:=P) r hv hc
  rw [← hsz] at hrun horun
  have hrun2:=run_append_new (P:=P) (ty:=ty) hu hu2 hni hi hzz hrun.1 hrun.2 horun hlt (by omega) (by rw [hby]; exact hb)
  obtain ⟨c',r',p',hv'⟩:=grown_row r r1 p1 hH1 (e:=e) (old:=ca) (hor.append hnr) (need:=len + n) (sz:=te.size) (by rw [List.length_append,hol,hnl,Nat.add_mul]) (by omega) hzs
  exact ⟨_,_,c',hrun2,r',p',hv'⟩
theorem denAppend_ok {S:Sg} (hS:SgOK P S) {c:Ctx} {w:World} {H H':Heap} (r:Rel c w H) {t t2 ty:TypeId} {s x v:AVal} {vs vx:Value} (h:denAppend S H t t2 s x=some (v,H')) (hs:VR c w s vs) (hx:VR c w x vx) :
    Yields P c w H (Builtin.append_ #[t,t2] ty #[vs,vx]) v H':=by
  unfold denAppend at h
  split at h
  · rename_i e _ _ _ _ _ _ _ t2i ht ht2
    have hu:=(hS.ty _ _ ht).und
    simp only at hu
    have hu2:=(hS.ty _ _ ht2).und
    split at h
    · cases h
    · rename_i hni
      split at h
      · cases h
      · rename_i te hte
        have T:=hS.ty _ _ hte
        obtain ⟨inf,hi,hsz,_⟩:=T.info
        cases hxc:sliceCells H te.size x with
        | none=>rw [hxc] at h; cases h
        | some q =>
          obtain ⟨news,n⟩:=q
          rw [hxc] at h
          simp only at h
          split at h
          · cases h
          · rename_i hcell
            have hcell':news.all AVal.cell=true:=by simpa using hcell
            have hnl:=(sliceCells_ok hxc hx r).1
            obtain ⟨nv,hnr,hnrun⟩:=first_ok (P:=P) hxc hx r (Nat.le_refl n)
            rw [take_all hnl] at hnr
            have hone:∀ u∈nv.toList,u.oneCell'=true:=by
              intro u hm
              obtain ⟨j,hj,he⟩:=List.getElem_of_mem hm
              have hj':j < nv.size:=by simpa using hj
              have hjc:j < news.length:=by rw [← hnr.1]; exact hj'
              exact oneCell_of (List.all_eq_true.1 hcell' news[j] (List.getElem_mem hjc)) (hnr.2 j news[j] u (List.getElem?_eq_getElem hjc) (by rw [← Array.getElem?_toList,List.getElem?_eq_getElem hj,he]))
            have runA:(Builtin.lenOf vx).run P w=.ok n w∧(Builtin.firstCells inf.size n vx).run P w=.ok nv w:=by have:=hnrun w (fun _=>rfl); rw [hsz]; exact ⟨this.2,this.1⟩
            have runB:(Builtin.lenOf vx).run P w=.ok n w∧(Builtin.firstCells te.size n vx).run P w.drew=.ok nv w.drew:=⟨runA.1,(hnrun w.drew (fun _=>rfl)).1⟩
            split at h
            · -- nothing is appended
              have hnv:nv=#[]:=by
                apply Array.eq_empty_of_size_eq_zero
                rw [hnr.1,hnl]; simp
              have same:∀ {base:Option Addr} {len ca:Nat},len≤ca→(Builtin.append_ #[t,t2] ty #[.slice base len ca,vx]).run P w=.ok (.slice base len ca) w:=by
                intro base len ca hle
                have:=run_append_fits (P:=P) (ty:=ty) (base:=base) hu hu2 hni hi runA.1 runA.2 (sLen:=len) (sCap:=ca) (by omega) (w':=w) (by
                  intro a _; rw [hnv]; simp [storeCells]) (fun _=>rfl)
                simpa using this
              split at h
              · cases h; cases hs; exact Tells.yields r ⟨_,same (Nat.le_refl _),.nils⟩
              · cases h
                obtain ⟨a,b,o,ca,rfl,h1,h2,_⟩:=hs.sl_inv
                exact Tells.yields r ⟨_,same h2,hs⟩
              · cases h
                cases hs with
                | isl _ _ _ _ _ b o ca g hcl hF h2 h3 h4 hc hh=>exact Tells.yields r ⟨_,same h2,.isl _ _ _ _ _ b o ca g hcl hF h2 h3 h4 hc hh⟩
                | isl0 _ _ _ _ a ca h1 h2=>exact Tells.yields r ⟨_,same (Nat.zero_le _),.isl0 _ _ _ _ a ca h1 h2⟩
              · cases h
            · rename_i n0 m
              split at h
              · -- onto nil
                split at h
                · rename_i hc
                  cases h; cases hs
                  have:=append_grow (P:=P) (ty:=ty) r T hu hu2 hni (s:=.nils) (base:=none) (len:=0) (ca:=0) (ol:=[]) (m:=0) .nils rfl (by omega) (by rw [Nat.zero_add]; exact hc.1) (by omega) r (Post.refl _ _ _) rfl hnr hnl runB
                  simpa using this
                · cases h
              · rename_i id off len cap sz
                split at h
                · rename_i hc
                  obtain ⟨hzz',hz0,hbb,hmm⟩:=hc
                  subst hzz'
                  cases hsc:sliceCells H te.size (.sl id off len cap te.size) with
                  | none=>rw [hsc] at h; cases h
                  | some q =>
                    obtain ⟨ol,m'⟩:=q
                    rw [hsc] at h
                    simp only at h
                    obtain ⟨a,b,o,ca,rfl,hι,hle,hle2,hcap,hpos⟩:=hs.sl_inv
                    split at h
                    · -- the capacity is not known
                      cases h
                      by_cases hroom:len + (m + 1)≤ca
                      · obtain ⟨rfl,hblk⟩:=hpos (by omega)
                        exact append_move r hu hu2 hni hi hsz hs hι hle2 hroom hblk hsc hnr hnl hone runA
                      · obtain ⟨rk,pk⟩:=kill r hι
                        exact append_grow (P:=P) r T hu hu2 hni hs hsc (by omega) hbb hmm rk pk (by simp) hnr hnl runB
                    · rename_i cp
                      have hca:=hcap cp rfl
                      subst hca
                      split at h
                      · rename_i hroom
                        obtain ⟨rfl,hblk⟩:=hpos (by omega)
                        split at h
                        · rename_i vs0 ty0 hH
                          split at h
                          · rename_i hfit
                            cases h
                            have hfit':off + len * te.size + news.length≤vs0.length:=by rw [hnl,Nat.add_assoc,← Nat.add_mul]; exact hfit
                            obtain ⟨w',hst,r',p'⟩:=store_row (P:=P) r hH hι (news:=news) (nv:=nv.toList) (by simp [hnr.1]) (fun j a v ha hv=>hnr.2 j a v ha (by rw [← Array.getElem?_toList]; exact hv)) hone hfit'
                            have hrun2:=run_append_fits (P:=P) (ty:=ty) (base:=some ⟨b,o + off,none⟩) hu hu2 hni hi runA.1 runA.2 (sLen:=len) (sCap:=ca) hroom (w':=w') (by
                              intro a' ha'; cases ha'; rw [add_none,hsz,Nat.add_assoc]; exact hst) (by intro h; cases h)
                            refine ⟨_,w',c,hrun2,r',p',?_⟩
                            obtain ⟨arr,e',fz,hb,hfb⟩:=hblk
                            obtain ⟨arr',e'',fz',hb',hsb⟩:=p'.siz b arr e' fz hb
                            exact .sl id off (len + (m + 1)) _ te.size b o ca hι hroom hle2 (fun n hn=>by cases hn; rfl) ⟨arr',e'',fz',hb',by omega⟩
                          · cases h
                        · cases h
                      · rename_i hroom
                        cases h
                        exact append_grow (P:=P) r T hu hu2 hni hs hsc (by omega) hbb hmm r (Post.refl _ _ _) rfl hnr hnl runB
                · cases h
              · rename_i cells off len cap cl
                split at h
                · cases h
                · rename_i cp
                  split at h
                  · rename_i hc
                    obtain ⟨hlt,hbb,hmm⟩:=hc
                    cases hsc:sliceCells H te.size (.isl cells off len (some cp) cl) with
                    | none=>rw [hsc] at h; cases h
                    | some q =>
                      obtain ⟨ol,m'⟩:=q
                      rw [hsc] at h
                      cases h
                      cases hs with
                      | isl _ _ _ _ _ b o ca g hcl hF h2 h3 h4 hc hh =>
                        have:=h4 cp rfl
                        exact append_grow (P:=P) r T hu hu2 hni (.isl _ _ _ _ _ b o ca g hcl hF h2 h3 h4 hc hh) hsc (by omega) hbb hmm r (Post.refl _ _ _) rfl hnr hnl runB
                      | isl0 _ _ _ _ a ca h1 h2 =>
                        have:=h2 cp rfl
                        exact append_grow (P:=P) r T hu hu2 hni (.isl0 _ _ _ _ a ca h1 h2) hsc (by omega) hbb hmm r (Post.refl _ _ _) rfl hnr hnl runB
                  · cases h
              · cases h
  · cases h
end Go.AM
namespace Go.AM
variable {P:Program}
theorem take_take_le {cs:List AVal} {a b:Nat} (h:a≤b):(cs.take b).take a=cs.take a:=by rw [List.take_take]; congr 1; omega
theorem denCopy_ok {S:Sg} (hS:SgOK P S) {c:Ctx} {w:World} {H H':Heap} (r:Rel c w H) {t ty:TypeId} {ats:Array TypeId} {d x v:AVal} {vd vx:Value} (h:denCopy S H t d x=some (v,H')) (hd:VR c w d vd) (hx:VR c w x vx)
    (hat:ats[0]?=some t):Yields P c w H (Builtin.copy_ ats ty #[vd,vx]) v H':=by
  unfold denCopy at h
  split at h
  · rename_i e _ _ _ _ _ _ _ ht
    have hu:=(hS.ty _ _ ht).und
    simp only at hu
    split at h
    · cases h
    · rename_i te hte
      have T:=hS.ty _ _ hte
      obtain ⟨inf,hi,hsz,_⟩:=T.info
      cases hxc:sliceCells H te.size x with
      | none=>rw [hxc] at h; cases h
      | some q =>
        obtain ⟨news,n⟩:=q
        rw [hxc] at h
        simp only at h
        split at h
        · cases h
        · rename_i hcell
          have hcell':news.all AVal.cell=true:=by simpa using hcell
          have hnl:=(sliceCells_ok hxc hx r).1
          split at h
          · cases h; cases hd
            obtain ⟨nv,hnr,hnrun⟩:=first_ok (P:=P) hxc hx r (Nat.zero_le n)
            refine Tells.yields r ⟨.int .i64 0,?_,.int _ _⟩
            have h1:=hnrun w (fun _=>rfl)
            have hm:Nat.min n 0=0:=Nat.min_zero n
            simp [Builtin.copy_,hat,run_und hu,h1.2,hm,T.sizeOf,h1.1,goInt]
          · rename_i id off len cap sz
            split at h
            · rename_i hc
              obtain ⟨hzz,hz0⟩:=hc
              subst hzz
              split at h
              · rename_i vs0 ty0 hH
                rw [fNat_eq] at h
                split at h
                · rename_i hfit
                  cases h
                  obtain ⟨a,b,o,ca,rfl,hι,hle,hle2,hcap,hpos⟩:=hd.sl_inv
                  obtain ⟨nv,hnr,hnrun⟩:=first_ok (P:=P) hxc hx r (Nat.min_le_left n len)
                  have h1:=hnrun w (fun _=>rfl)
                  have hkl:(news.take (min n len * te.size)).length=min n len * te.size:=by
                    rw [List.length_take,hnl]
                    have:min n len * te.size≤n * te.size:=Nat.mul_le_mul_right _ (Nat.min_le_left n len)
                    omega
                  have hone:∀ u∈nv.toList,u.oneCell'=true:=by
                    intro u hm
                    obtain ⟨j,hj,he⟩:=List.getElem_of_mem hm
                    have hj':j < nv.size:=by simpa using hj
                    have hjc:j < (news.take (min n len * te.size)).length:=by rw [← hnr.1]; exact hj'
                    have hmem:=List.mem_of_mem_take (List.getElem_mem hjc)
                    exact oneCell_of (List.all_eq_true.1 hcell' _ hmem) (hnr.2 j _ u (List.getElem?_eq_getElem hjc) (by rw [← Array.getElem?_toList,List.getElem?_eq_getElem hj,he]))
                  by_cases h0:ca=0
                  · -- nothing to copy to
                    have hl0:len=0:=by omega
                    subst hl0
                    have hm:min n 0=0:=Nat.min_zero n
                    have hm':Nat.min n 0=0:=Nat.min_zero n
                    have hnv:nv=#[]:=Array.eq_empty_of_size_eq_zero (by rw [hnr.1,hkl,hm]; simp)
                    have hH':H.set id (.cells (setRange vs0 off (news.take (min n 0 * te.size))) ty0)=H:=by
                      rw [hm]
                      have:setRange vs0 off (news.take (0 * te.size))=vs0:=by simp [setRange]
                      rw [this]
                      apply List.ext_getElem?
                      intro i
                      by_cases hi:id=i
                      · subst hi
                        rw [hH,List.getElem?_set_self (List.getElem?_eq_some_iff.1 hH).1]
                      · rw [List.getElem?_set_ne hi]
                    rw [hH',hm]
                    refine Tells.yields r ⟨.int .i64 0,?_,.int _ _⟩
                    rw [hm] at h1
                    simp [Builtin.copy_,hat,run_und hu,h1.2,hm',T.sizeOf,h1.1,goInt,hnv,storeCells]
                  · obtain ⟨rfl,hblk⟩:=hpos (by omega)
                    obtain ⟨w',hst,r',p'⟩:=store_row (P:=P) r hH hι (news:=news.take (min n len * te.size)) (nv:=nv.toList) (off:=off) (by simp [hnr.1]) (fun j a v ha hv=>hnr.2 j a v ha (by rw [← Array.getElem?_toList]; exact hv)) hone (by rw [hkl]; exact hfit)
                    refine ⟨.int .i64 (min n len:Nat),w',c,?_,r',p',.int _ _⟩
                    have hm':Nat.min n len=min n len:=rfl
                    simp [Builtin.copy_,hat,run_und hu,h1.2,hm',T.sizeOf,h1.1,goInt,hst]
                · cases h
              · cases h
            · cases h
          · cases h
  · cases h
theorem sameKey_ok {c:Ctx} {w:World} {d:TypeDesc} {k x:AVal} {vk vx:Value} {b:Bool} (hd:keyOk d k=true) (h:sameKey k x=some b) (hk:VR c w k vk) (hx:VR c w x vx):Instr.sameNow d vk vx=some b:=by
  unfold keyOk at hd
  split at hd
  · cases hk
    unfold sameKey at h
    split at h
    · rename_i heq; cases heq; cases hx
      split at h
      · rename_i hkk; cases h; subst hkk; simp [Instr.sameNow,BEq.beq]
      · cases h
    · rename_i heq; cases heq
    · cases h
  · cases hk with
    | str l s hs =>
      unfold sameKey at h
      split at h
      · rename_i heq; cases heq
      · rename_i heq; cases heq
        cases hx with
        | str l' s' hs' =>
          cases h
          subst hs; subst hs'
          simp only [Instr.sameNow]
          rw [beq_toListBytes,ByteArray.toList_eq,ByteArray.toList_eq,beq_dec]
      · cases h
  · cases hd
theorem findKey_ok {c:Ctx} {w:World} {d:TypeDesc} {k:AVal} {vk:Value} (hd:keyOk d k=true) (hk:VR c w k vk):∀ (es:List (AVal×AVal)) (ms:List MapEntry) (i:Nat) (res:Option (Nat×AVal)),ms.length=es.length →
    (∀ (j:Nat) (a:AVal×AVal) (m:MapEntry),es[j]?=some a→ms[j]?=some m→VR c w a.1 m.key∧VR c w a.2 m.val)→findKeyA k es i=some res →
    (res=none∧Instr.findNow d vk ms i=some none)∨(∃ j a v,res=some (j,a)∧i≤j∧j < i + es.length∧Instr.findNow d vk ms i=some (some (j,v))∧VR c w a v∧(∃ e,es[j - i]?=some e∧sameKey k e.1=some true))
  | [],ms,i,res,hl,_,h=>by
    have:ms=[]:=List.eq_nil_of_length_eq_zero (by simpa using hl)
    subst this
    simp only [findKeyA,Option.some.injEq] at h
    exact .inl ⟨h.symm,rfl⟩
  | e :: es,[],i,res,hl,_,h=>by simp at hl
  | e :: es,m :: ms,i,res,hl,hv,h=>by
    obtain ⟨h1,h2⟩:=hv 0 e m rfl rfl
    unfold findKeyA at h
    cases hs:sameKey k e.1 with
    | none=>rw [hs] at h; cases h
    | some b =>
      rw [hs] at h
      have hn:=sameKey_ok hd hs hk h1
      cases b with
      | true =>
        cases h
        refine .inr ⟨i,e.2,m.val,rfl,Nat.le_refl _,by simp,?_,h2,e,by simp,hs⟩
        simp [Instr.findNow,hn]
      | false =>
        simp only at h
        rcases findKey_ok hd hk es ms (i + 1) res (by simpa using hl) (fun j a m' ha hm=>hv (j + 1) a m' (by simpa using ha) (by simpa using hm)) h with ⟨h3,h4⟩ | ⟨j,a,v,h3,h4,h5,h6,h7,e',h8,h9⟩
        · exact .inl ⟨h3,by simp [Instr.findNow,hn,h4]⟩
        · refine .inr ⟨j,a,v,h3,by omega,by simp; omega,by simp [Instr.findNow,hn,h6],h7,e',?_,h9⟩
          have:j - i=(j - (i + 1)) + 1:=by omega
          rw [this,List.getElem?_cons_succ]; exact h8
theorem checkKey_ok {kt:TypeId} {d:TypeDesc} {k:AVal} {vk:Value} {c:Ctx} {w:World} (hu:P.underlying kt=some d) (hd:keyOk d k=true) (hk:VR c w k vk) (b:Bool) (n:Nat):(Instr.checkKey b (n + 1) kt vk).run P w=.ok () w:=by
  unfold keyOk at hd
  split at hd
  · cases hk; simp [Instr.checkKey,run_und hu]
  · cases hk; simp [Instr.checkKey,run_und hu]
  · cases hd
theorem tup2 {c:Ctx} {w:World} {a b:AVal} {x y:Value} (h1:VR c w a x) (h2:VR c w b y):VR c w (.tup [a,b]) (.tuple #[x,y]):=by
  refine .tup _ _ rfl fun j a v ha hv=>?_
  match j with
  | 0=>simp at ha hv; subst ha; subst hv; exact h1
  | 1=>simp at ha hv; subst ha; subst hv; exact h2
  | j + 2=>simp at ha
theorem run_lookup {mt kt et:TypeId} {d:TypeDesc} {vm vk:Value} {es:Array MapEntry} {w:World} {ok:Bool} {res:Option (Nat×Value)} {z:Value} (hu:P.underlying mt=some (.map kt et)) (hk:P.underlying kt=some d)
    (hck:(Instr.checkKey es.isEmpty 10000 kt vk).run P w=.ok () w) (hm:(vm=.map none∧es=#[])∨(∃ b clk,vm=.map (some b)∧w.heap[b]?=some (.map es clk)))
    (hf:Instr.findNow d vk es.toList 0=some res) (hz:res=none→(zeroValue et).run P w=.ok z w) :
    (Instr.lookup mt vm vk ok).run P w=.ok (let v:=match res with | some (_,v)=>v | none=>z; if ok then .tuple #[v,.bool res.isSome] else v) w:=by
  have hfk:(Instr.findKey kt vk es.toList).run P w=.ok res w:=by simp [Instr.findKey,run_und hk,hf]
  rcases hm with ⟨rfl,rfl⟩ | ⟨b,clk,rfl,hb⟩
  · cases res with
    | none=>simp only [Instr.lookup,Sem.run_bind,run_und hu,Result.andThen_ok,Sem.run_pure,hck,hfk,hz rfl]; cases ok <;> rfl
    | some q=>simp only [Instr.lookup,Sem.run_bind,run_und hu,Result.andThen_ok,Sem.run_pure,hck,hfk]; cases ok <;> rfl
  · have hg:(getObj b).run P w=.ok (.map es clk) w:=by simp [getObj,Sem.run,hb]
    cases res with
    | none=>simp only [Instr.lookup,Sem.run_bind,run_und hu,Result.andThen_ok,Sem.run_pure,hg,hck,hfk,hz rfl]; cases ok <;> rfl
    | some q=>simp only [Instr.lookup,Sem.run_bind,run_und hu,Result.andThen_ok,Sem.run_pure,hg,hck,hfk]; cases ok <;> rfl
theorem findKeyA_of {k:AVal}:∀ (es:List (AVal×AVal)) (i:Nat),(∀ e∈es,(sameKey k e.1).isSome=true) →
    findKeyA k es i=some (match es.filter fun e=>(sameKey k e.1).getD false with | []=>none | e :: _=>some (i + (es.findIdx fun e=>(sameKey k e.1).getD false),e.2))
  | [],i,_=>rfl
  | e :: es,i,h=>by
    have he:=h e (by simp)
    unfold findKeyA
    cases hs:sameKey k e.1 with
    | none=>rw [hs] at he; cases he
    | some b =>
      cases b with
      | true=>simp [hs,List.filter_cons,List.findIdx_cons]
      | false =>
        simp only
        rw [findKeyA_of es (i + 1) fun e' h'=>h e' (by simp [h'])]
        simp only [List.filter_cons,hs,Option.getD_some,Bool.false_eq_true,if_false,List.findIdx_cons,cond_false]
        cases es.filter fun e=>(sameKey k e.1).getD false with
        | nil=>rfl
        | cons x l=>simp; omega
theorem zip_hv {c:Ctx} {w:World} {ks vs:List AVal} {mes:Array MapEntry} (h3:∀ (j:Nat) (a:AVal) (m:MapEntry),ks[j]?=some a→mes[j]?=some m→VR c w a m.key) (h4:∀ (j:Nat) (a:AVal) (m:MapEntry),vs[j]?=some a→mes[j]?=some m→VR c w a m.val) :
    ∀ (j:Nat) (a:AVal×AVal) (m:MapEntry),(ks.zip vs)[j]?=some a→mes[j]?=some m→VR c w a.1 m.key∧VR c w a.2 m.val:=by
  intro j a m ha hm
  obtain ⟨h5,h6⟩:=List.getElem?_zip_eq_some.1 ha
  exact ⟨h3 j _ m h5 hm,h4 j _ m h6 hm⟩
theorem lookI_find {k:AVal} {es es':List (AVal×AVal)} (hp:es'.Perm es) {res:Option (Nat×AVal)} (h:lookI k es=some res):∃ res',findKeyA k es' 0=some res'∧res'.map (·.2)=res.map (·.2):=by
  unfold lookI at h
  split at h
  · rename_i hall
    have hall':∀ e∈es',(sameKey k e.1).isSome=true:=fun e he=>List.all_eq_true.1 hall e (hp.mem_iff.1 he)
    have hf:=hp.filter fun e=>(sameKey k e.1).getD false
    rw [findKeyA_of es' 0 hall']
    refine ⟨_,rfl,?_⟩
    split at h
    · rename_i hnil
      cases h
      rw [hnil] at hf
      rw [hf.eq_nil]
    · rename_i e hone
      cases h
      rw [hone] at hf
      rw [List.perm_singleton.1 hf]
      rfl
    · cases h
  · cases h
theorem denLookup_ok {S:Sg} (hS:SgOK P S) {c:Ctx} {w:World} {H:Heap} (r:Rel c w H) {t:TypeId} {x k v:AVal} {ok:Bool} {vx vk:Value} (h:denLookup S H t x k ok=some v) (hx:VR c w x vx) (hk:VR c w k vk) :
    Tells P c w (Instr.lookup t vx vk ok) v:=by
  unfold denLookup at h
  split at h
  · rename_i kt et _ _ _ _ _ _ _ ht
    have hu:=(hS.ty _ _ ht).und
    simp only at hu
    split at h
    · rename_i tk te htk hte
      have huk:=(hS.ty _ _ htk).und
      split at h
      · rename_i hkey
        have fin:∀ (es:List (AVal×AVal)) (ms:Array MapEntry),((vx=.map none∧ms=#[])∨(∃ b clk,vx=.map (some b)∧w.heap[b]?=some (.map ms clk)))→ms.size=es.length →
            (∀ (j:Nat) (a:AVal×AVal) (m:MapEntry),es[j]?=some a→ms[j]?=some m→VR c w a.1 m.key∧VR c w a.2 m.val)→∀ res,findKeyA k es 0=some res →
            (match (some res:Option (Option (Nat×AVal))) with
              | none=>none
              | some (some (_,v))=>some (if ok then .tup [v,.bool true] else v)
              | some none=>match zeroOf te with
                | some z=>some (if ok then .tup [z,.bool false] else z)
                | none=>none)=some v→Tells P c w (Instr.lookup t vx vk ok) v:=by
          intro es ms hm hl hv res hr hfin
          rcases findKey_ok hkey hk es ms.toList 0 res (by simpa using hl) (fun j a m ha hm=>hv j a m ha (by rw [← Array.getElem?_toList]; exact hm)) hr with ⟨rfl,h4⟩ | ⟨j,a,u,rfl,_,_,h6,h7,_⟩
          · simp only at hfin
            cases hz:zeroOf te with
            | none=>rw [hz] at hfin; cases hfin
            | some z =>
              rw [hz] at hfin; cases hfin
              obtain ⟨cz,hzr,hzv⟩:=zeroOf_ok (c:=c) (w:=w) (hS.ty _ _ hte) hz
              refine ⟨_,run_lookup hu huk (checkKey_ok (P:=P) huk hkey hk _ 9999) hm h4 (fun _=>hzr),?_⟩
              cases ok with
              | true=>exact tup2 hzv (.bool false)
              | false=>exact hzv
          · cases hfin
            refine ⟨_,run_lookup (z:=.nilIface) hu huk (checkKey_ok (P:=P) huk hkey hk _ 9999) hm h6 (fun h=>by cases h),?_⟩
            cases ok with
            | true=>exact tup2 h7 (.bool true)
            | false=>exact h7
        split at h
        · cases h
        · rename_i res hr
          cases x with
          | nilm =>
            simp only at hr; cases hr
          | map id =>
            simp only at hr
            split at hr
            · rename_i es hH
              cases hx with
              | map _ b o hι =>
                obtain ⟨mes,clk,_,hb,hl,hv⟩:=r.obj id _ b o hH hι
                exact fin es mes (.inr ⟨b,clk,rfl,hb⟩) hl hv _ hr h
            · cases hr
          | imap ks vs cl =>
            simp only at hr
            cases hx with
            | imap _ _ _ ks' vs' b mes clk _ _ _ hb h1 h2 hp h3 h4 =>
              obtain ⟨res',hr',hres⟩:=lookI_find hp hr
              have hzl:mes.size=(ks'.zip vs').length:=by rw [List.length_zip,h2,Nat.min_self]; exact h1
              cases res' with
              | none=>simp at hres
              | some q =>
                obtain ⟨j,y⟩:=q
                simp only [Option.map_some,Option.some.injEq] at hres
                subst hres
                exact fin (ks'.zip vs') mes (.inr ⟨b,clk,rfl,hb⟩) hzl (zip_hv h3 h4) _ hr' h
          | _=>cases hr
        · rename_i hr
          cases x with
          | nilm =>
            cases hx
            exact fin [] #[] (.inl ⟨rfl,rfl⟩) rfl (fun j a m ha=>by simp at ha) none rfl h
          | map id =>
            simp only at hr
            split at hr
            · rename_i es hH
              cases hx with
              | map _ b o hι =>
                obtain ⟨mes,clk,_,hb,hl,hv⟩:=r.obj id _ b o hH hι
                exact fin es mes (.inr ⟨b,clk,rfl,hb⟩) hl hv _ hr h
            · cases hr
          | imap ks vs cl =>
            simp only at hr
            cases hx with
            | imap _ _ _ ks' vs' b mes clk _ _ _ hb h1 h2 hp h3 h4 =>
              obtain ⟨res',hr',hres⟩:=lookI_find hp hr
              have hzl:mes.size=(ks'.zip vs').length:=by rw [List.length_zip,h2,Nat.min_self]; exact h1
              cases res' with
              | some q=>simp at hres
              | none=>exact fin (ks'.zip vs') mes (.inr ⟨b,clk,rfl,hb⟩) hzl (zip_hv h3 h4) none hr' h
          | _=>cases hr
      · cases h
    · cases h
  · cases h
theorem sameBits_of {c:Ctx} {w:World} {d:TypeDesc} {k x:AVal} {vk vx:Value} (hd:keyOk d k=true) (h:sameKey k x=some true) (hk:VR c w k vk) (hx:VR c w x vx) (n:Nat):Instr.sameBits n vx vk=true:=by
  unfold keyOk at hd
  split at hd
  · cases hk
    unfold sameKey at h
    split at h
    · rename_i heq; cases heq; cases hx
      split at h
      · rename_i hkk; subst hkk; simp at h; subst h; simp [Instr.sameBits]
      · cases h
    · rename_i heq; cases heq
    · cases h
  · cases hk with
    | str l s hs =>
      unfold sameKey at h
      split at h
      · rename_i heq; cases heq
      · rename_i heq; cases heq
        cases hx with
        | str l' s' hs' =>
          simp at h; subst hs; subst hs'
          simp only [Instr.sameBits]
          rw [beq_toListBytes,ByteArray.toList_eq,ByteArray.toList_eq,h]; simp
      · cases h
  · cases hd
theorem denMapUpdate_ok {S:Sg} (hS:SgOK P S) {c:Ctx} {w:World} {H H':Heap} (r:Rel c w H) {t:TypeId} {x k v:AVal} {vx vk vv:Value} (h:denMapUpdate S H t x k v=some H') (hx:VR c w x vx) (hk:VR c w k vk) (hv:VR c w v vv) :
    ∃ w',(Instr.mapUpdate t vx vk vv).run P w=.ok () w'∧Rel c w' H'∧Post c w H c w' H':=by
  unfold denMapUpdate at h
  split at h
  · rename_i kt et _ _ _ _ _ _ _ id ht
    have hu:=(hS.ty _ _ ht).und
    simp only at hu
    split at h
    · rename_i tk es htk hH
      have huk:=(hS.ty _ _ htk).und
      split at h
      · rename_i hkey
        cases hx with
        | map _ b o hι =>
          obtain ⟨mes,clk,hst,hb,hl,hvv⟩:=r.obj id _ b o hH hι
          have hlt:b < w.heap.size:=(r.dom id b o hι).2
          have hck:=checkKey_ok (P:=P) huk hkey hk false 9999
          have hg:(getObj b).run P w=.ok (.map mes clk) w:=by simp [getObj,Sem.run,hb]
          have wr:∀ (mes':Array MapEntry) (clk':Nat) (es':List (AVal×AVal)),Stamps mes' clk'→mes'.size=es'.length →
              (∀ (j:Nat) (a:AVal×AVal) (m:MapEntry),es'[j]?=some a→mes'[j]?=some m→VR c w a.1 m.key∧VR c w a.2 m.val) →
              ∃ w',(setObj b (.map mes' clk')).run P w=.ok () w'∧Rel c w' (H.set id (.map es'))∧Post c w H c w' (H.set id (.map es')):=by
            intro mes' clk' es' hst' hl' hv'
            refine ⟨{ w with heap:=w.heap.setIfInBounds b (.map mes' clk') },by simp [setObj,Sem.run,hb],?_⟩
            refine upd r hH rfl hι rfl (by simp) (fun j hj=>by simp [Array.getElem?_setIfInBounds,Ne.symm hj]) (fun arr e fz he=>by rw [hb] at he; cases he) rfl rfl rfl fun l=>?_
            exact ⟨mes',clk',hst',by simp [hlt],hl',fun j a m ha hm=>⟨(hv' j a m ha hm).1.mono l,(hv' j a m ha hm).2.mono l⟩⟩
          split at h
          · rename_i i old hf
            cases h
            rcases findKey_ok hkey hk es mes.toList 0 _ (by simpa using hl) (fun j a m ha hm=>hvv j a m ha (by rw [← Array.getElem?_toList]; exact hm)) hf with ⟨h3,_⟩ | ⟨j,a,u,h3,_,hj,h6,h7,e',h8,h9⟩
            · cases h3
            · cases h3
              simp only [Nat.zero_add,Nat.sub_zero] at hj h8
              have hjm:i < mes.size:=by omega
              have hkeep:=sameBits_of hkey h9 hk (hvv i e' mes[i] h8 (Array.getElem?_eq_getElem hjm)).1 10000
              have hfk:(Instr.findKey kt vk mes.toList).run P w=.ok (some (i,u)) w:=by simp [Instr.findKey,run_und huk,h6]
              obtain ⟨w',hw,r',p'⟩:=wr (mes.modify i fun e=>{ e with key:=vk,val:=vv }) clk (es.set i (k,v)) (hst.modify i _ fun _=>rfl) (by simp [hl]) (by
                intro j a m ha hm
                rw [Array.getElem?_modify] at hm
                by_cases hji:i=j
                · subst hji
                  rw [List.getElem?_set_self (by omega)] at ha
                  rw [if_pos rfl,Array.getElem?_eq_getElem hjm] at hm
                  cases ha; cases hm
                  exact ⟨hk,hv⟩
                · rw [List.getElem?_set_ne hji] at ha
                  rw [if_neg hji] at hm
                  exact hvv j a m ha hm)
              refine ⟨w',?_,r',p'⟩
              simp only [Instr.mapUpdate,Sem.run_bind,run_und hu,Result.andThen_ok,hg,hck,hfk,Array.getElem?_eq_getElem hjm,Option.map_some,Option.getD_some,Instr.keyThatStays,hkeep,if_true,Sem.run_pure]
              exact hw
          · rename_i hf
            cases h
            rcases findKey_ok hkey hk es mes.toList 0 _ (by simpa using hl) (fun j a m ha hm=>hvv j a m ha (by rw [← Array.getElem?_toList]; exact hm)) hf with ⟨_,h4⟩ | ⟨j,a,u,h3,_⟩
            · have hfk:(Instr.findKey kt vk mes.toList).run P w=.ok none w:=by simp [Instr.findKey,run_und huk,h4]
              obtain ⟨w',hw,r',p'⟩:=wr (mes.push { key:=vk,val:=vv,born:=clk }) (clk + 1) (es ++ [(k,v)]) (hst.push _ _) (by simp [hl]) (by
                intro j a m ha hm
                rw [Array.getElem?_push] at hm
                by_cases hj:j < es.length
                · rw [List.getElem?_append_left hj] at ha
                  rw [if_neg (by omega)] at hm
                  exact hvv j a m ha hm
                · rw [List.getElem?_append_right (by omega)] at ha
                  have:j - es.length=0:=by
                    cases hd:j - es.length with
                    | zero=>rfl
                    | succ n=>rw [hd] at ha; simp at ha
                  rw [this] at ha
                  rw [if_pos (by omega)] at hm
                  cases ha; cases hm
                  exact ⟨hk,hv⟩)
              refine ⟨w',?_,r',p'⟩
              simp only [Instr.mapUpdate,Sem.run_bind,run_und hu,Result.andThen_ok,hg,hck,hfk]
              exact hw
            · cases h3
          · cases h
      · cases h
    · cases h
  · cases h
theorem map_write {c:Ctx} {w:World} {H:Heap} (r:Rel c w H) {id b o:Nat} {es:List (AVal×AVal)} {mes:Array MapEntry} {clk:Nat} (hH:H[id]?=some (.map es)) (hι:c.ι id=some (b,o)) (hb:w.heap[b]?=some (.map mes clk))
    (mes':Array MapEntry) (clk':Nat) (es':List (AVal×AVal)) (hst':Stamps mes' clk') (hl':mes'.size=es'.length)
    (hv':∀ (j:Nat) (a:AVal×AVal) (m:MapEntry),es'[j]?=some a→mes'[j]?=some m→VR c w a.1 m.key∧VR c w a.2 m.val) :
    ∃ w',(setObj b (.map mes' clk')).run P w=.ok () w'∧Rel c w' (H.set id (.map es'))∧Post c w H c w' (H.set id (.map es')):=by
  have hlt:b < w.heap.size:=(r.dom id b o hι).2
  refine ⟨{ w with heap:=w.heap.setIfInBounds b (.map mes' clk') },by simp [setObj,Sem.run,hb],?_⟩
  refine upd r hH rfl hι rfl (by simp) (fun j hj=>by simp [Array.getElem?_setIfInBounds,Ne.symm hj]) (fun arr e fz he=>by rw [hb] at he; cases he) rfl rfl rfl fun l=>?_
  exact ⟨mes',clk',hst',by simp [hlt],hl',fun j a m ha hm=>⟨(hv' j a m ha hm).1.mono l,(hv' j a m ha hm).2.mono l⟩⟩
theorem VR.pair2 {c:Ctx} {w:World} {a b:AVal} {x y:Value} (h1:VR c w a x) (h2:VR c w b y):VR c w (.tup [a,b]) (.tuple #[x,y]):=by
  refine .tup _ _ rfl fun j a v ha hv=>?_
  match j with
  | 0=>simp at ha hv; subst ha; subst hv; exact h1
  | 1=>simp at ha hv; subst ha; subst hv; exact h2
  | j + 2=>simp at ha
theorem findKey_le {k old:AVal} {i:Nat}:∀ (es:List (AVal×AVal)) (j:Nat),findKeyA k es j=some (some (i,old))→j≤i
  | [],j,h=>by simp [findKeyA] at h
  | e :: es,j,h=>by
    unfold findKeyA at h
    split at h
    · cases h; exact Nat.le_refl _
    · have:=findKey_le es (j + 1) h; omega
    · cases h
theorem findKey_val {k old:AVal} {i:Nat}:∀ (es:List (AVal×AVal)) (j:Nat),findKeyA k es j=some (some (i,old))→∃ e,es[i - j]?=some e∧e.2=old
  | [],j,h=>by simp [findKeyA] at h
  | e :: es,j,h=>by
    unfold findKeyA at h
    split at h
    · cases h; exact ⟨e,by simp,rfl⟩
    · obtain ⟨e',h1,h2⟩:=findKey_val es (j + 1) h
      refine ⟨e',?_,h2⟩
      have hij:j + 1≤i:=findKey_le es (j + 1) h
      have:i - j=(i - (j + 1)) + 1:=by omega
      rw [this]
      simpa using h1
    · cases h
theorem denMapEntry_ok {S:Sg} (hS:SgOK P S) {c:Ctx} {w:World} {H H':Heap} (r:Rel c w H) {t:TypeId} {x k v:AVal} {vx vk:Value} (h:denMapEntry S H t x k=some (v,H')) (hx:VR c w x vx) (hk:VR c w k vk) :
    Yields P c w H (Instr.mapEntry t vx vk) v H':=by
  unfold denMapEntry at h
  split at h
  · rename_i kt et _ _ _ _ _ _ _ id ht
    have hu:=(hS.ty _ _ ht).und
    simp only at hu
    split at h
    · rename_i tk te es htk hte hH
      have huk:=(hS.ty _ _ htk).und
      split at h
      · rename_i hkey
        cases hx with
        | map _ b o hι =>
          obtain ⟨mes,clk,hst,hb,hl,hvv⟩:=r.obj id _ b o hH hι
          have hck:=checkKey_ok (P:=P) huk hkey hk false 9999
          have hg:(getObj b).run P w=.ok (.map mes clk) w:=by simp [getObj,Sem.run,hb]
          split at h
          · rename_i i old hf
            cases h
            rcases findKey_ok hkey hk es mes.toList 0 _ (by simpa using hl) (fun j a m ha hm=>hvv j a m ha (by rw [← Array.getElem?_toList]; exact hm)) hf with ⟨h3,_⟩ | ⟨j,a,u,h3,_,hj,h6,h7,e',h8,h9⟩
            · cases h3
            · cases h3
              simp only [Nat.zero_add,Nat.sub_zero] at hj h8
              have hjm:i < mes.size:=by omega
              have hkeep:=sameBits_of hkey h9 hk (hvv i e' mes[i] h8 (Array.getElem?_eq_getElem hjm)).1 10000
              have hfk:(Instr.findKey kt vk mes.toList).run P w=.ok (some (i,u)) w:=by simp [Instr.findKey,run_und huk,h6]
              have hu2:VR c w old u:=h7
              have hmu:VR c w old mes[i].val:=by
                have hold:=findKey_val es 0 hf
                rw [Nat.sub_zero] at hold
                obtain ⟨e2,he2,rfl⟩:=hold
                exact (hvv i e2 mes[i] he2 (Array.getElem?_eq_getElem hjm)).2
              obtain ⟨w',hw,r',p'⟩:=map_write (P:=P) r hH hι hb (mes.modify i fun e=>{ e with key:=vk }) clk (es.set i (k,old)) (hst.modify i _ fun _=>rfl) (by simp [hl]) (by
                intro j a m ha hm
                rw [Array.getElem?_modify] at hm
                by_cases hji:i=j
                · subst hji
                  rw [List.getElem?_set_self (by omega)] at ha
                  rw [if_pos rfl,Array.getElem?_eq_getElem hjm] at hm
                  cases ha; cases hm
                  exact ⟨hk,hmu⟩
                · rw [List.getElem?_set_ne hji] at ha
                  rw [if_neg hji] at hm
                  exact hvv j a m ha hm)
              refine ⟨.tuple #[u,.int .i64 i],w',c,?_,r',p',VR.pair2 (hu2.mono (p'.le r)) (.int _ _)⟩
              have hborn:mes[i].born=i:=hst.born i _ (Array.getElem?_eq_getElem hjm)
              simp only [Instr.mapEntry,Sem.run_bind,run_und hu,Result.andThen_ok,hg,hck,hfk,Array.getElem?_eq_getElem hjm,Option.map_some,Option.getD_some,Instr.keyThatStays,hkeep,if_true,Sem.run_pure,hw,hborn]
              rfl
          · rename_i hf
            split at h
            · rename_i z hz
              cases h
              rcases findKey_ok hkey hk es mes.toList 0 _ (by simpa using hl) (fun j a m ha hm=>hvv j a m ha (by rw [← Array.getElem?_toList]; exact hm)) hf with ⟨_,h4⟩ | ⟨j,a,u,h3,_⟩
              · have hfk:(Instr.findKey kt vk mes.toList).run P w=.ok none w:=by simp [Instr.findKey,run_und huk,h4]
                obtain ⟨zv,hzr,hzv⟩:=zeroOf_ok (c:=c) (w:=w) (hS.ty _ _ hte) hz
                obtain ⟨w',hw,r',p'⟩:=map_write (P:=P) r hH hι hb (mes.push { key:=vk,val:=zv,born:=clk }) (clk + 1) (es ++ [(k,z)]) (hst.push _ _) (by simp [hl]) (by
                  intro j a m ha hm
                  rw [Array.getElem?_push] at hm
                  by_cases hj:j < es.length
                  · rw [List.getElem?_append_left hj] at ha
                    rw [if_neg (by omega)] at hm
                    exact hvv j a m ha hm
                  · rw [List.getElem?_append_right (by omega)] at ha
                    have:j - es.length=0:=by
                      cases hd:j - es.length with
                      | zero=>rfl
                      | succ n=>rw [hd] at ha; simp at ha
                    rw [this] at ha
                    rw [if_pos (by omega)] at hm
                    cases ha; cases hm
                    exact ⟨hk,hzv⟩)
                refine ⟨.tuple #[zv,.int .i64 clk],w',c,?_,r',p',VR.pair2 (hzv.mono (p'.le r)) (by rw [hst.clk,hl]; exact .int _ _)⟩
                simp only [Instr.mapEntry,Sem.run_bind,run_und hu,Result.andThen_ok,hg,hck,hfk,hzr,hw]
                rfl
              · cases h3
            · cases h
          · cases h
      · cases h
    · cases h
  · cases h
theorem denEntryStore_ok {c:Ctx} {w:World} {H H':Heap} (r:Rel c w H) {t:TypeId} {x s v:AVal} {vx vs vv:Value} (h:denEntryStore H x s v=some H') (hx:VR c w x vx) (hs:VR c w s vs) (hv:VR c w v vv) :
    ∃ w',(Instr.entryStore t vx vs vv).run P w=.ok () w'∧Rel c w' H'∧Post c w H c w' H':=by
  unfold denEntryStore at h
  split at h
  · rename_i id k n
    split at h
    · rename_i es hH
      split at h
      · rename_i hn
        split at h
        · rename_i e he
          cases h
          cases hx with
          | map _ b o hι =>
            cases hs
            obtain ⟨mes,clk,hst,hb,hl,hvv⟩:=r.obj id _ b o hH hι
            have hg:(getObj b).run P w=.ok (.map mes clk) w:=by simp [getObj,Sem.run,hb]
            have hlt:n.toNat < mes.size:=by rw [hl]; exact (List.getElem?_eq_some_iff.1 he).1
            have hfi:mes.findIdx? (fun e=>(e.born:Int) == n)=some n.toNat:=by
              rw [Array.findIdx?_eq_some_iff_getElem]
              refine ⟨hlt,?_,fun j hj=>?_⟩
              · have:=hst.born n.toNat _ (Array.getElem?_eq_getElem hlt)
                rw [this]; simp; omega
              · have:=hst.born j _ (Array.getElem?_eq_getElem (by omega))
                rw [this]; simp; omega
            obtain ⟨w',hw,r',p'⟩:=map_write (P:=P) r hH hι hb (mes.modify n.toNat fun e=>{ e with val:=vv }) clk (es.set n.toNat (e.1,v)) (hst.modify _ _ fun _=>rfl) (by simp [hl]) (by
              intro j a m ha hm
              rw [Array.getElem?_modify] at hm
              by_cases hji:n.toNat=j
              · subst hji
                rw [List.getElem?_set_self (by omega)] at ha
                rw [if_pos rfl,Array.getElem?_eq_getElem hlt] at hm
                cases ha; cases hm
                exact ⟨(hvv n.toNat e _ he (Array.getElem?_eq_getElem hlt)).1,hv⟩
              · rw [List.getElem?_set_ne hji] at ha
                rw [if_neg hji] at hm
                exact hvv j a m ha hm)
            refine ⟨w',?_,r',p'⟩
            simp only [Instr.entryStore,Sem.run_bind,hg,Result.andThen_ok,asInt,asIntOf,Sem.run_pure,hfi]
            exact hw
        · cases h
      · cases h
    · cases h
  · cases h
end Go.AM
namespace Go.AM
variable {P:Program}
theorem range_ok {S:Sg} (hS:SgOK P S) {c:Ctx} {w:World} {H:Heap} (r:Rel c w H) {t:TypeId} {s:ByteArray} (hu:P.underlying t=some .string) :
    Yields P c w H (Instr.range t (.string s)) (.ptr H.length 0) (H ++ [.siter s.data.toList 0]):=by
  obtain ⟨c',r',p',hι⟩:=new_mut r (.stringIter s 0) (.siter s.data.toList 0) fun c' w' l hb=>⟨rfl,s,rfl,hb⟩
  exact ⟨.pointer (some ⟨w.heap.size,0,none⟩),_,c',by simp [Instr.range,run_und hu],r',p',.ptr _ _ _ 0 hι⟩
theorem tup1 {c:Ctx} {w:World} {a:AVal} {x:Value} (h1:VR c w a x):VR c w (.tup [a]) (.tuple #[x]):=by
  refine .tup _ _ rfl fun j a v ha hv=>?_
  match j with
  | 0=>simp at ha hv; subst ha; subst hv; exact h1
  | j + 1=>simp at ha
theorem tup3 {c:Ctx} {w:World} {a b d:AVal} {x y z:Value} (h1:VR c w a x) (h2:VR c w b y) (h3:VR c w d z):VR c w (.tup [a,b,d]) (.tuple #[x,y,z]):=by
  refine .tup _ _ rfl fun j a v ha hv=>?_
  match j with
  | 0=>simp at ha hv; subst ha; subst hv; exact h1
  | 1=>simp at ha hv; subst ha; subst hv; exact h2
  | 2=>simp at ha hv; subst ha; subst hv; exact h3
  | j + 3=>simp at ha
theorem decode_low (s:ByteArray) (pos:Nat) (b:UInt8) (hb:s.data.toList[pos]?=some b) (h:b.toNat < 128):pos < s.size∧Utf8.decode s pos=(b.toNat,1):=by
  have hlt:pos < s.data.toList.length:=(List.getElem?_eq_some_iff.1 hb).1
  have hsz:s.data.toList.length=s.size:=Array.length_toList
  have hp:pos < s.size:=by omega
  refine ⟨hp,?_⟩
  have hg:s.get! (pos + 0)=b:=by
    have h1:s.data[pos]?=some b:=by rw [← Array.getElem?_toList]; exact hb
    simp only [Nat.add_zero]
    unfold ByteArray.get!
    cases s with
    | mk d =>
      simp only at h1 ⊢
      rw [getElem!_def,h1]
  simp only [Utf8.decode,hg]
  rw [if_pos h]
theorem next_ok {c:Ctx} {w:World} {H:Heap} (r:Rel c w H) {id pos:Nat} {s:List UInt8} {vi:Value} {ty:TypeId} (hi:VR c w (.ptr id 0) vi) (hH:H[id]?=some (.siter s pos)) :
    (s[pos]?=none→Yields P c w H (Instr.next vi true ty) (.tup [.bool false]) H) ∧
    (∀ b,s[pos]?=some b→b.toNat < 128→Yields P c w H (Instr.next vi true ty) (.tup [.bool true,.int .i64 pos,.int .i32 b.toNat]) (H.set id (.siter s (pos + 1)))):=by
  cases hi with
  | ptr _ _ b o hι =>
    obtain ⟨rfl,bs,hbs,hb⟩:=r.obj id _ b o hH hι
    subst hbs
    have hsz:bs.data.toList.length=bs.size:=Array.length_toList
    have hg:(getObj b).run P w=.ok (.stringIter bs pos) w:=by simp [getObj,Sem.run,hb]
    have hlt:b < w.heap.size:=(r.dom id b 0 hι).2
    constructor
    · intro hn
      have:¬ pos < bs.size:=by have:=List.getElem?_eq_none_iff.1 hn; omega
      exact Tells.yields r ⟨.tuple #[.bool false],by simp [Instr.next,hg,this],tup1 (.bool false)⟩
    · intro x hx hx128
      obtain ⟨hp,hd⟩:=decode_low bs pos x hx hx128
      have hset:(setObj b (.stringIter bs (pos + 1))).run P w=.ok () { w with heap:=w.heap.setIfInBounds b (.stringIter bs (pos + 1)) }:=by simp [setObj,Sem.run,hb]
      obtain ⟨r',p'⟩:=upd (w':={ w with heap:=w.heap.setIfInBounds b (.stringIter bs (pos + 1)) }) r hH rfl hι (o:=.siter bs.data.toList (pos + 1)) rfl (by simp) (fun j hj=>by simp [Array.getElem?_setIfInBounds,Ne.symm hj]) (fun arr e fz he=>by rw [hb] at he; cases he) rfl rfl rfl
        fun l=>⟨rfl,bs,rfl,by simp [hlt]⟩
      refine ⟨.tuple #[.bool true,.int .i64 pos,.int .i32 x.toNat],_,c,?_,r',p',tup3 (.bool true) (.int _ _) (.int _ _)⟩
      simp only [Instr.next,Sem.run_bind,hg,Result.andThen_ok,if_pos hp,hd,hset,Sem.run_pure,goInt]
theorem denLen_ok {S:Sg} (hS:SgOK P S) {c:Ctx} {w:World} {H:Heap} (r:Rel c w H) {t ty:TypeId} {ats:Array TypeId} {x v:AVal} {vx:Value} (h:denLen H S t x=some v) (hx:VR c w x vx) (hat:ats[0]?=some t) :
    Tells P c w (Builtin.len_ ats ty #[vx]) v:=by
  unfold denLen at h
  split at h
  · rename_i ht
    have hu:=(hS.ty _ _ ht).und
    simp only at hu
    cases hx with
    | str l s hs =>
      subst hs; rw [fNat_eq] at h; cases h
      have hsz:s.data.toList.length=s.size:=Array.length_toList
      exact ⟨.int .i64 s.size,by simp [Builtin.len_,hat,run_und hu,goInt],by rw [hsz]; exact .int _ _⟩
  · rename_i ht
    have hu:=(hS.ty _ _ ht).und
    simp only at hu
    cases h; cases hx
    exact ⟨.int .i64 0,by simp [Builtin.len_,hat,run_und hu,goInt],.int _ _⟩
  · rename_i ht
    have hu:=(hS.ty _ _ ht).und
    simp only at hu
    cases h
    obtain ⟨a,b,o,ca,rfl,_⟩:=hx.sl_inv
    exact ⟨_,by simp [Builtin.len_,hat,run_und hu,goInt],.int _ _⟩
  · rename_i ht
    have hu:=(hS.ty _ _ ht).und
    simp only at hu
    cases h
    cases hx with
    | isl=>exact ⟨_,by simp [Builtin.len_,hat,run_und hu,goInt],.int _ _⟩
    | isl0=>exact ⟨_,by simp [Builtin.len_,hat,run_und hu,goInt],.int _ _⟩
  · rename_i ht
    have hu:=(hS.ty _ _ ht).und
    simp only at hu
    cases h
    exact ⟨_,by simp [Builtin.len_,hat,run_und hu,goInt],.int _ _⟩
  · rename_i ht
    have hu:=(hS.ty _ _ ht).und
    simp only at hu
    cases h; cases hx
    exact ⟨.int .i64 0,by simp [Builtin.len_,hat,run_und hu,goInt],.int _ _⟩
  · rename_i ht
    have hu:=(hS.ty _ _ ht).und
    simp only at hu
    split at h
    · rename_i es hH
      rw [fNat_eq] at h; cases h
      cases hx with
      | map _ b o hι =>
        obtain ⟨mes,clk,_,hb,hl,_⟩:=r.obj _ _ b o hH hι
        have hg:(getObj b).run P w=.ok (.map mes clk) w:=by simp [getObj,Sem.run,hb]
        exact ⟨.int .i64 mes.size,by simp [Builtin.len_,hat,run_und hu,goInt,hg],by rw [hl]; exact .int _ _⟩
    · cases h
  · cases h
theorem denMinMax_ok {c:Ctx} {w:World} {ats:Array TypeId} {ty:TypeId} {xs:List AVal} {vs:Array Value} {v:AVal} {mn:Bool} (h:denMinMax mn xs=some v) (hx:VRs c w xs vs) :
    Tells P c w (if mn then Builtin.min_ ats ty vs else Builtin.max_ ats ty vs) v:=by
  unfold denMinMax at h
  split at h
  · rename_i k a k' b
    split at h
    · rename_i hk
      subst hk
      rw [mkI_eq] at h; cases h
      have hs:vs.size=2:=hx.1
      have h0:=hx.2 0 _ vs[0] rfl (Array.getElem?_eq_getElem (by omega))
      have h1:=hx.2 1 _ vs[1] rfl (Array.getElem?_eq_getElem (by omega))
      have hv:vs=#[vs[0],vs[1]]:=by
        apply Array.ext (by simp [hs])
        intro i hi _
        match i with
        | 0=>rfl
        | 1=>rfl
        | i + 2=>omega
      generalize e0:vs[0]=v0 at *
      generalize e1:vs[1]=v1 at *
      subst hv
      cases h0; cases h1
      cases mn with
      | true=>exact ⟨.int k (if b < a then b else a),by simp [Builtin.min_,Builtin.min2],.int _ _⟩
      | false=>exact ⟨.int k (if a < b then b else a),by simp [Builtin.max_,Builtin.max2],.int _ _⟩
    · cases h
  · cases h
def Serves (P:Program) (f:FuncId) (cargs:Array Value) (w:World) (post:Value→World→Prop):Prop :=
  ((∀ w1,(callFunc f cargs).run P w1=.ok (.enter f cargs) w1)∧Calls P f cargs w fun e w'=>∃ cv,e=.returned cv∧post cv w') ∨
  ∃ cv w',(callFunc f cargs).run P w=.ok (.value cv) w'∧post cv w'
def CallOK (P:Program) (S:Sg) (call:Calling):Prop :=
  ∀ f args H v H',call f args H=some (v,H')→∀ c w cargs,Rel c w H→Glob S c w→VRs c w args cargs →
    Serves P f cargs w fun cv w'=>∃ c',Rel c' w' H'∧Post c w H c' w' H'∧VR c' w' v cv
theorem wp_of_yields {c:Ctx} {w:World} {H H':Heap} {s:Sem Value} {v:AVal} {o:Oper} {a:Act} {next:Act→World→Prop} {Q:Exit→Act→World→Prop}
    (hx:execOp a.eval o=(do pure (.value (← s)))) (y:Yields P c w H s v H') (hn:∀ cv c' w',Rel c' w' H'→Post c w H c' w' H'→VR c' w' v cv→next (a.put o.dst cv) w'):o.wp P a w next Q:=by
  obtain ⟨cv,w',c',hr,r',p',hv⟩:=y
  unfold Oper.wp
  rw [hx,Sem.run_bind,hr]
  exact hn cv c' w' r' p' hv
theorem wp_of_unit {w:World} {s:Sem Unit} {o:Oper} {a:Act} {next:Act→World→Prop} {Q:Exit→Act→World→Prop}
    (hx:execOp a.eval o=(do s; pure .skip)) {w':World} (hr:s.run P w=.ok () w') (hn:next (a.put o.dst undef) w'):o.wp P a w next Q:=by
  unfold Oper.wp
  rw [hx,Sem.run_bind,hr]
  exact hn
theorem VR.undef (c:Ctx) (w:World):VR c w undefA Go.undef:=.tup [] #[] rfl fun j a v h=>by simp at h
theorem wp_of_call {c:Ctx} {w:World} {H H':Heap} {f:FuncId} {cargs:Array Value} {v:AVal} {o:Oper} {a:Act} {next:Act→World→Prop} {Q:Exit→Act→World→Prop}
    (hx:(execOp a.eval o).run P w=(callFunc f cargs).run P w) (y:Serves P f cargs w fun cv w'=>∃ c',Rel c' w' H'∧Post c w H c' w' H'∧VR c' w' v cv)
    (hn:∀ cv c' w',Rel c' w' H'→Post c w H c' w' H'→VR c' w' v cv→next (a.put o.dst cv) w'):o.wp P a w next Q:=by
  unfold Oper.wp
  rcases y with ⟨hcf,y⟩ | ⟨cv,w',hr,c',r',p',hv⟩
  · rw [hx,hcf w,Oper.upon_enter]
    refine y.mono ?_
    rintro e w' ⟨cv,rfl,c',r',p',hv⟩
    exact hn cv c' w' r' p' hv
  · rw [hx,hr]
    exact hn cv c' w' r' p' hv
theorem opds_ok {S:Sg} {c:Ctx} {w:World} {e:Tr} {a:Act} (he:EnvR c w e a.tmps) (hg:Glob S c w) (xs:Array Operand):VRs c w (xs.toList.map (opd S e)) (xs.map a.eval):=by
  refine ⟨by simp,fun j x v hx hv=>?_⟩
  rw [List.getElem?_map,Array.getElem?_toList] at hx
  rw [Array.getElem?_map] at hv
  cases hj:xs[j]? with
  | none=>rw [hj] at hx; cases hx
  | some y=>rw [hj] at hx hv; cases hx; cases hv; exact opd_ok he hg y
theorem VRs.append {c:Ctx} {w:World} {as bs:List AVal} {xs ys:Array Value} (h:VRs c w as xs) (k:VRs c w bs ys):VRs c w (as ++ bs) (xs ++ ys):=RowR.append h k
theorem VRs.cons {c:Ctx} {w:World} {a:AVal} {as:List AVal} {x:Value} {xs:Array Value} (h:VR c w a x) (k:VRs c w as xs):VRs c w (a :: as) (#[x] ++ xs):=by
  refine VRs.append (as:=[a]) ⟨rfl,fun j b v hb hv=>?_⟩ k
  match j with
  | 0=>simp at hb hv; subst hb; subst hv; exact h
  | j + 1=>simp at hb
theorem optR {S:Sg} {c:Ctx} {w:World} {e:Tr} {a:Act} (he:EnvR c w e a.tmps) (hg:Glob S c w) (x:Option Operand):OptR c w (x.map (opd S e)) (x.map a.eval):=by
  cases x with
  | none=>exact ⟨fun a h=>(by cases h),fun _=>rfl⟩
  | some x=>exact ⟨fun y h=>(by cases h; exact ⟨_,rfl,opd_ok he hg x⟩),fun h=>(by cases h)⟩
theorem parts_ok {S:Sg} {c:Ctx} {w:World} {e:Tr} {a:Act} (he:EnvR c w e a.tmps) (hg:Glob S c w) (ps:Array (Nat×Operand)) :
    (ps.map fun (i,x)=>(i,a.eval x)).size=(ps.toList.map fun p=>(p.1,opd S e p.2)).length ∧
    ∀ (j:Nat) (x:Nat×AVal) (y:Nat×Value),(ps.toList.map fun p=>(p.1,opd S e p.2))[j]?=some x→(ps.map fun (i,x)=>(i,a.eval x)).toList[j]?=some y→x.1=y.1∧VR c w x.2 y.2:=by
  refine ⟨by simp,fun j x y hx hy=>?_⟩
  rw [List.getElem?_map,Array.getElem?_toList] at hx
  rw [Array.getElem?_toList,Array.getElem?_map] at hy
  cases hj:ps[j]? with
  | none=>rw [hj] at hx; cases hx
  | some p=>rw [hj] at hx hy; cases hx; cases hy; exact ⟨rfl,opd_ok he hg p.2⟩
theorem withH_some {H H':Heap} {x:Option AVal} {v:AVal} (h:withH H x=some (v,H')):x=some v∧H'=H:=by
  cases x with
  | none=>cases h
  | some y=>cases h; exact ⟨rfl,rfl⟩
theorem denOp_ok {S:Sg} (hS:SgOK P S) {call:Calling} (hc:CallOK P S call) {draw:Bool} {o:Oper} {a:Act} {e:Tr} {H H':Heap} {v:AVal} {c:Ctx} {w:World}
    (h:denOp S call draw e H o.op=some (v,H')) (he:EnvR c w e a.tmps) (hg:Glob S c w) (r:Rel c w H) {next:Act→World→Prop} {Q:Exit→Act→World→Prop}
    (hn:∀ cv c' w',Rel c' w' H'→Post c w H c' w' H'→VR c' w' v cv→next (a.put o.dst cv) w'):o.wp P a w next Q:=by
  have V:=fun x=>opd_ok (S:=S) (a:=a) he hg x
  cases ho:o.op with
  | move x =>
    rw [ho] at h; simp only [denOp,Option.some.injEq,Prod.mk.injEq] at h; obtain ⟨rfl,rfl⟩:=h
    exact wp_of_yields (s:=pure (a.eval x)) (by simp [execOp,ho]) (Tells.yields r ⟨_,rfl,V x⟩) hn
  | assign x =>
    rw [ho] at h; simp only [denOp,Option.some.injEq,Prod.mk.injEq] at h; obtain ⟨rfl,rfl⟩:=h
    exact wp_of_yields (s:=pure (a.eval x)) (by simp [execOp,ho]) (Tells.yields r ⟨_,rfl,V x⟩) hn
  | pick p x y =>
    rw [ho] at h
    simp only [denOp] at h
    have hp:=V p
    split at h
    · rename_i hb; cases h
      rw [hb] at hp
      have hb':a.eval p=.bool true:=by generalize a.eval p=q at hp; cases hp; rfl
      exact wp_of_yields (s:=pure (a.eval x)) (by simp [execOp,ho,hb',asBool]) (Tells.yields r ⟨_,rfl,V x⟩) hn
    · rename_i hb; cases h
      rw [hb] at hp
      have hb':a.eval p=.bool false:=by generalize a.eval p=q at hp; cases hp; rfl
      exact wp_of_yields (s:=pure (a.eval y)) (by simp [execOp,ho,hb',asBool]) (Tells.yields r ⟨_,rfl,V y⟩) hn
    · cases h
  | alloc t =>
    rw [ho] at h
    simp only [denOp] at h
    split at h
    · rename_i ti ht; cases h
      exact wp_of_yields (by simp only [execOp,ho]) (alloc_ok r (hS.ty _ _ ht)) hn
    · cases h
  | box t x =>
    rw [ho] at h
    simp only [denOp] at h
    split at h
    · rename_i cs hcs
      have hb:=box_ok (P:=P) r (t:=t) (V x) hcs (S.mutT t)
      simp only [Option.some.injEq] at h
      have e1:v=(newRowA (S.mutT t) H cs t).1:=by rw [h]
      have e2:H'=(newRowA (S.mutT t) H cs t).2:=by rw [h]
      subst e1; subst e2
      exact wp_of_yields (by simp only [execOp,ho]) hb hn
    · cases h
  | build t ps =>
    rw [ho] at h
    simp only [denOp] at h
    obtain ⟨hl,hv⟩:=parts_ok (S:=S) (a:=a) he hg ps
    split at h
    · rename_i ti ht
      split at h
      · rename_i fs hd
        split at h
        · rename_i cs hf; cases h
          exact wp_of_yields (by simp only [execOp,ho]) (Tells.yields r (build_ok hS ht hd hl hv hf)) hn
        · cases h
      · rename_i n el hd
        split at h
        · rename_i te hte
          split at h
          · rename_i cs hf; cases h
            exact wp_of_yields (by simp only [execOp,ho]) (Tells.yields r (build_arr_ok hS ht hd hte hl hv hf)) hn
          · cases h
        · cases h
      · cases h
    · cases h
  | buildSlice t n ps =>
    rw [ho] at h
    simp only [denOp] at h
    obtain ⟨hl,hv⟩:=parts_ok (S:=S) (a:=a) he hg ps
    split at h
    · rename_i el _ _ _ _ _ _ _ ht
      have hu:=(hS.ty _ _ ht).und
      simp only at hu
      split at h
      · rename_i te hte
        split at h
        · rename_i hb
          split at h
          · rename_i cs hf
            have hn':n≤9223372036854775807:=by omega
            have y:=buildSlice_ok hS r hu hte hl hv hb.1 hn' hf draw
            cases draw with
            | true=>cases h; exact wp_of_yields (by simp only [execOp,ho]) y hn
            | false=>cases h; exact wp_of_yields (by simp only [execOp,ho]) y hn
          · cases h
        · cases h
      · cases h
    · cases h
  | load t x =>
    rw [ho] at h
    simp only [denOp] at h
    split at h
    · rename_i ti row off ht hrow
      obtain ⟨hgv,rfl⟩:=withH_some h
      obtain ⟨b,off',hva,hcells⟩:=rowAt_ok hrow (V x) r
      obtain ⟨cv,hr,hv⟩:=loadVar_ok (hS.ty _ _ ht) hgv hcells
      exact wp_of_yields (s:=Instr.loadAt t (a.eval x)) (by simp [execOp,ho]) (Tells.yields r ⟨cv,by simp [Instr.loadAt,hva,Instr.sureAddr,hr],hv⟩) hn
    · cases h
  | store t x y =>
    rw [ho] at h
    simp only [denOp] at h
    split at h
    · rename_i ti id off cs ht hx hcs
      split at h
      · rename_i vs ty hH
        split at h
        · rename_i hcnd
          cases h
          have hvx:=V x
          rw [hx] at hvx
          obtain ⟨w',hr,r',p'⟩:=store_ok hS r ht hvx (V y) hcs hH hcnd.1 hcnd.2.1 hcnd.2.2
          exact wp_of_unit (by simp only [execOp,ho]) hr (hn _ c w' r' p' (VR.undef _ _))
        · cases h
      · cases h
    · cases h
  | nilCheck x =>
    rw [ho] at h
    simp only [denOp] at h
    have hv:=V x
    have same:∀ {y:AVal},(∀ v,VR c w y v→v≠.pointer none∧v≠.nilIface∧v≠.nilFunc∧∀ m f g,v≠.func (.method m) f g)→opd S e x=y→some (y,H)=some (v,H')→o.wp P a w next Q:=by
      intro y hy hxy hh
      cases hh
      rw [hxy] at hv
      obtain ⟨h1,h2,h3,h4⟩:=hy _ hv
      refine wp_of_yields (s:=pure (a.eval x)) ?_ (Tells.yields r ⟨_,rfl,hv⟩) hn
      simp only [execOp,ho]
      first | rfl | (split <;> simp_all)
    split at h
    · rename_i hx; exact same (fun v hv=>by cases hv; simp) hx h
    · rename_i hx; exact same (fun v hv=>by cases hv; simp) hx h
    · rename_i ob hx
      exact same (fun v hv=>by cases hv with | obj _ _ hv=>cases ob <;> (simp only [expand] at hv; cases hv; simp)) hx h
    · rename_i hx; exact same (fun v hv=>by cases hv; simp) hx h
    · rename_i hx; exact same (fun v hv=>by cases hv; simp) hx h
    · cases h
  | binOp op t x y yt =>
    rw [ho] at h
    simp only [denOp] at h
    obtain ⟨hb,rfl⟩:=withH_some h
    exact wp_of_yields (by simp only [execOp,ho]) (Tells.yields r (denBin_ok hS hb (V x) (V y))) hn
  | unOp op t x =>
    rw [ho] at h
    simp only [denOp] at h
    obtain ⟨hb,rfl⟩:=withH_some h
    exact wp_of_yields (by simp only [execOp,ho]) (Tells.yields r (denUn_ok hb (V x))) hn
  | convert s d x =>
    rw [ho] at h
    simp only [denOp] at h
    obtain ⟨hb,rfl⟩:=withH_some h
    exact wp_of_yields (by simp only [execOp,ho]) (denConvert_ok hS r hb (V x)) hn
  | makeInterface t x =>
    rw [ho] at h
    simp only [denOp] at h
    split at h
    · rename_i ti ht
      split at h
      · cases h
      · rename_i hni
        cases h
        have hu:=(hS.ty _ _ ht).und
        refine wp_of_yields (s:=Instr.makeInterface t (a.eval x)) (by simp [execOp,ho]) (Tells.yields r ⟨.iface t (a.eval x),?_,.iface _ _ _ (V x)⟩) hn
        simp only [Instr.makeInterface,Sem.run_bind,run_und hu,Result.andThen_ok]
        rfl
    · cases h
  | makeFunc fn first cap =>
    rw [ho] at h
    cases fn with
    | func f =>
      simp only [denOp,Option.some.injEq,Prod.mk.injEq] at h
      obtain ⟨rfl,rfl⟩:=h
      have h1:=opds_ok (S:=S) (a:=a) he hg first
      have h2:=opds_ok (S:=S) (a:=a) he hg cap
      exact wp_of_yields (s:=pure (.func (.func f) (first.map a.eval) (cap.map a.eval))) (by simp [execOp,ho,Instr.makeFunc]) (Tells.yields r ⟨_,rfl,.fn f _ _ _ _ h1.1 h2.1 h1.2 h2.2⟩) hn
    | _=>simp [denOp] at h
  | makeMap t q =>
    rw [ho] at h
    simp only [denOp] at h
    cases q with
    | none =>
      cases h
      exact wp_of_yields (by simp only [execOp,ho]; rfl) (makeMap_ok r t) hn
    | some q =>
      simp only at h
      split at h
      · rename_i kt et _ _ _ _ _ _ _ k n ht hq
        cases h
        have hu:=(hS.ty _ _ ht).und
        simp only at hu
        have hv:=V q
        rw [hq] at hv
        have hq':a.eval q=.int k n:=by generalize a.eval q=q' at hv; cases hv; rfl
        obtain ⟨cv,w',c',hr,r',p',hv'⟩:=makeMap_ok (P:=P) r t
        refine wp_of_yields (s:=Instr.makeMap t (some (a.eval q))) (by simp [execOp,ho]) ⟨cv,w',c',?_,r',p',hv'⟩ hn
        rw [← hr]
        simp [Instr.makeMap,run_und hu,hq',asInt,asIntOf]
      · cases h
  | makeSlice t l k =>
    rw [ho] at h
    simp only [denOp] at h
    exact wp_of_yields (by simp only [execOp,ho]) (denMakeSlice_ok hS r h (V l) (V k)) hn
  | slice t x lo hi mx =>
    rw [ho] at h
    simp only [denOp] at h
    obtain ⟨hb,rfl⟩:=withH_some h
    exact wp_of_yields (by simp only [execOp,ho]) (Tells.yields r (denSlice_ok hS r hb (V x) (optR he hg lo) (optR he hg hi) (optR he hg mx))) hn
  | fieldAddr t x i =>
    rw [ho] at h
    simp only [denOp] at h
    split at h
    · rename_i ti ht
      split at h
      · rename_i fs off size ag hd hf
        split at h
        · cases h
        · rename_i m
          obtain ⟨hb,rfl⟩:=withH_some h
          obtain ⟨b,o',hva,hv⟩:=ptrAdd_ok hb (V x)
          have T:=hS.ty _ _ ht
          have hu:=T.und
          rw [hd] at hu
          obtain ⟨hfl,hff⟩:=T.flds fs hd
          have hi:i < fs.size:=by rw [hfl]; exact (List.getElem?_eq_some_iff.1 hf).1
          obtain ⟨h1,inf,h2,h3,_⟩:=hff i fs[i] _ (Array.getElem?_eq_getElem hi) hf
          refine wp_of_yields (s:=Instr.fieldAt t (a.eval x) i) (by simp [execOp,ho]) (Tells.yields r ⟨_,?_,hv⟩) hn
          have hne:¬ (inf.size=0):=by rw [h3]; simp
          simp only at h1
          simp [Instr.fieldAt,run_und hu,Array.getElem?_eq_getElem hi,hva,Instr.sureAddr,fieldPlace,run_sizeOf h2,hne,add_none,h1]
      · cases h
    · cases h
  | field t x i =>
    rw [ho] at h
    simp only [denOp] at h
    split at h
    · rename_i ti ht
      split at h
      · rename_i fs off size ag cs hd hf hx
        have T:=hS.ty _ _ ht
        have hu:=T.und
        rw [hd] at hu
        obtain ⟨hfl,hff⟩:=T.flds fs hd
        have hi:i < fs.size:=by rw [hfl]; exact (List.getElem?_eq_some_iff.1 hf).1
        obtain ⟨h1,inf,h2,h3,d,h4,h5⟩:=hff i fs[i] _ (Array.getElem?_eq_getElem hi) hf
        simp only at h1 h3 h5
        have hvx:=V x
        rw [hx] at hvx
        obtain ⟨vs,hvs⟩:∃ vs,a.eval x=.agg vs:=by generalize a.eval x=q' at hvx; cases hvx; exact ⟨_,rfl⟩
        rw [hvs] at hvx
        have hh:(if ag then (if off + size≤cs.length then some (.agg ((cs.drop off).take size)) else none) else cs[off]?)=some v∧H'=H:=by
          cases ag with
          | true =>
            simp only [if_true] at h ⊢
            split at h
            · cases h; rename_i hle; exact ⟨by rw [if_pos hle],rfl⟩
            · cases h
          | false=>simp only [Bool.false_eq_true,if_false] at h ⊢; exact withH_some h
        obtain ⟨hh,rfl⟩:=hh
        cases hvx with
        | agg _ _ hs hv =>
          obtain ⟨cv,hr,hv'⟩:=part_ok (P:=P) (c:=c) (w:=w) (t:=fs[i].type) (fun w=>by rw [run_sizeOf h2 w,h3]) (fun w=>by rw [run_isAgg h4 w,← h5]) hs hv hh
          refine wp_of_yields (s:=Instr.field t (a.eval x) i) (by simp [execOp,ho]) (Tells.yields r ⟨cv,?_,hv'⟩) hn
          simp [Instr.field,run_und hu,Array.getElem?_eq_getElem hi,hvs,asAgg,h1,hr]
      · cases h
    · cases h
  | indexAddr t x i =>
    rw [ho] at h
    simp only [denOp] at h
    split at h
    · rename_i k n hi
      obtain ⟨hb,rfl⟩:=withH_some h
      have hvi:=V i
      rw [hi] at hvi
      have hi':a.eval i=.int k n:=by generalize a.eval i=q' at hvi; cases hvi; rfl
      exact wp_of_yields (s:=Instr.indexAt t (a.eval x) (a.eval i)) (by simp [execOp,ho]) (Tells.yields r (by rw [hi']; exact elemAddr_ok hS hb (V x))) hn
    · cases h
  | index t x i =>
    rw [ho] at h
    simp only [denOp] at h
    split at h
    · rename_i k n hi
      obtain ⟨hb,rfl⟩:=withH_some h
      have hvi:=V i
      rw [hi] at hvi
      have hi':a.eval i=.int k n:=by generalize a.eval i=q' at hvi; cases hvi; rfl
      exact wp_of_yields (s:=Instr.index t (a.eval x) (a.eval i)) (by simp [execOp,ho]) (Tells.yields r (by rw [hi']; exact denIndex_ok hS hb (V x))) hn
    · cases h
  | lookup t x k ok =>
    rw [ho] at h
    simp only [denOp] at h
    obtain ⟨hb,rfl⟩:=withH_some h
    exact wp_of_yields (by simp only [execOp,ho]) (Tells.yields r (denLookup_ok hS r hb (V x) (V k))) hn
  | mapUpdate t m k x =>
    rw [ho] at h
    simp only [denOp] at h
    split at h
    · rename_i H1 hb; cases h
      obtain ⟨w',hr,r',p'⟩:=denMapUpdate_ok hS r hb (V m) (V k) (V x)
      exact wp_of_unit (by simp only [execOp,ho]) hr (hn _ c w' r' p' (VR.undef _ _))
    · cases h
  | insert t m k x =>
    rw [ho] at h
    simp only [denOp] at h
    split at h
    · rename_i H1 hb; cases h
      obtain ⟨w',hr,r',p'⟩:=denMapUpdate_ok hS r hb (V m) (V k) (V x)
      exact wp_of_unit (by simp only [execOp,ho]) hr (hn _ c w' r' p' (VR.undef _ _))
    · cases h
  | mapEntry t m k =>
    rw [ho] at h
    simp only [denOp] at h
    exact wp_of_yields (by simp only [execOp,ho]) (denMapEntry_ok hS r h (V m) (V k)) hn
  | entryStore t m s x =>
    rw [ho] at h
    simp only [denOp] at h
    split at h
    · rename_i H1 hb; cases h
      obtain ⟨w',hr,r',p'⟩:=denEntryStore_ok (P:=P) (t:=t) r hb (V m) (V s) (V x)
      exact wp_of_unit (by simp only [execOp,ho]) hr (hn _ c w' r' p' (VR.undef _ _))
    · cases h
  | range t x =>
    rw [ho] at h
    simp only [denOp,denRange] at h
    split at h
    · rename_i s ht hx
      cases h
      have hu:=(hS.ty _ _ ht).und
      simp only at hu
      have hvx:=V x
      rw [hx] at hvx
      obtain ⟨bs,hbs,rfl⟩:∃ bs:ByteArray,a.eval x=.string bs∧bs.data.toList=s:=by generalize a.eval x=q' at hvx; cases hvx with | str l s h=>exact ⟨s,rfl,h⟩
      exact wp_of_yields (s:=Instr.range t (a.eval x)) (by simp [execOp,ho]) (by rw [hbs]; exact range_ok hS r hu) hn
    · rename_i ht hx
      cases h
      have hu:=(hS.ty _ _ ht).und
      simp only at hu
      have hvx:=V x
      rw [hx] at hvx
      have hx':a.eval x=.map none:=by generalize a.eval x=q' at hvx; cases hvx; rfl
      obtain ⟨c',r',p',hι⟩:=new_mut r (.mapIter none 0 #[] 0) .niter fun c' w' l hb=>⟨rfl,hb⟩
      exact wp_of_yields (s:=Instr.range t (a.eval x)) (by simp [execOp,ho]) ⟨.pointer (some ⟨w.heap.size,0,none⟩),_,c',by simp [Instr.range,run_und hu,hx'],r',p',.ptr _ _ _ 0 hι⟩ hn
    · rename_i mid ht hx
      have hu:=(hS.ty _ _ ht).und
      simp only at hu
      have hvx:=V x
      rw [hx] at hvx
      split at h
      · rename_i es hH
        cases h
        obtain ⟨bm,om,hιm,hx'⟩:∃ bm om,c.ι mid=some (bm,om)∧a.eval x=.map (some bm):=by generalize a.eval x=q' at hvx; cases hvx with | map _ b o hι=>exact ⟨b,o,hι,rfl⟩
        obtain ⟨mes,clk,hst,hb,hl,hvv⟩:=r.obj _ _ bm om hH hιm
        have hclk:clk=es.length:=by rw [hst.clk,hl]
        subst hclk
        obtain ⟨c',r',p',hι⟩:=new_mut r (.mapIter (some bm) es.length #[] es.length) (.miter _ es.length []) fun c' w' l hb'=>⟨rfl,bm,om,#[],l.ι _ _ hιm,rfl,hb'⟩
        have hg:(getObj bm).run P w=.ok (.map mes es.length) w:=by simp [getObj,Sem.run,hb]
        exact wp_of_yields (s:=Instr.range t (a.eval x)) (by simp [execOp,ho]) ⟨.pointer (some ⟨w.heap.size,0,none⟩),_,c',by simp [Instr.range,run_und hu,hx',hg],r',p',.ptr _ _ _ 0 hι⟩ hn
      · cases h
    · cases h
  | next it st =>
    rw [ho] at h
    cases st with
    | false=>simp [denOp] at h
    | true =>
      simp only [denOp] at h
      split at h
      · rename_i id hit
        have hvi:=V it
        rw [hit] at hvi
        split at h
        · rename_i s pos hH
          obtain ⟨n1,n2⟩:=next_ok (P:=P) (ty:=o.type) r hvi hH
          split at h
          · rename_i hnone; cases h
            exact wp_of_yields (by simp only [execOp,ho]) (n1 hnone) hn
          · rename_i b hb
            split at h
            · rename_i hlt
              rw [fNat_eq,fNat_eq] at h; cases h
              exact wp_of_yields (by simp only [execOp,ho]) (n2 b hb hlt) hn
            · cases h
        · cases h
      · cases h
  | typeAssert x xt t ok =>
    rw [ho] at h
    simp only [denOp] at h
    obtain ⟨hb,rfl⟩:=withH_some h
    exact wp_of_yields (by simp only [execOp,ho]) (Tells.yields r (denAssert_ok (xt:=xt) hS hb (V x))) hn
  | extract x i =>
    rw [ho] at h
    simp only [denOp] at h
    split at h
    · rename_i vs hx
      obtain ⟨hb,rfl⟩:=withH_some h
      have hvx:=V x
      rw [hx] at hvx
      obtain ⟨us,hus⟩:∃ us,a.eval x=.tuple us:=by generalize a.eval x=q' at hvx; cases hvx; exact ⟨_,rfl⟩
      rw [hus] at hvx
      cases hvx with
      | tup _ _ hs hv =>
        have hi:i < us.size:=by rw [hs]; exact (List.getElem?_eq_some_iff.1 hb).1
        refine wp_of_yields (s:=Instr.extract (a.eval x) i) (by simp [execOp,ho]) (Tells.yields r ⟨us[i],?_,hv i v _ hb (Array.getElem?_eq_getElem hi)⟩) hn
        rw [hus]
        simp [Instr.extract,Array.getElem?_eq_getElem hi]
    · cases h
  | call k =>
    rw [ho] at h
    simp only [denOp] at h
    have hargs:=opds_ok (S:=S) (a:=a) he hg k.args
    split at h
    · rename_i f hk
      split at h
      · rename_i g first cap hf
        have hvf:=V f
        rw [hf] at hvf
        obtain ⟨vf,vc,hvf',h1,h2⟩:∃ vf vc,a.eval f=.func (.func g) vf vc∧VRs c w first vf∧VRs c w cap vc:=by
          generalize a.eval f=q' at hvf; cases hvf with | fn _ _ _ vf vc s1 s2 h1 h2=>exact ⟨vf,vc,rfl,⟨s1,h1⟩,⟨s2,h2⟩⟩
        have hcalls:=hc _ _ _ _ _ h c w _ r hg ((h1.append hargs).append h2)
        refine wp_of_call ?_ hcalls hn
        simp only [execOp,ho,resolve,hk,hvf',Deferred.ofValue,Sem.run_bind,Sem.run_pure,Result.andThen_ok,invoke]
      · cases h
    · rename_i q m hk
      split at h
      · rename_i t x hq
        split at h
        · rename_i g hm
          have hvq:=V q
          rw [hq] at hvq
          obtain ⟨u,hu,hvu⟩:∃ u,a.eval q=.iface t u∧VR c w x u:=by generalize a.eval q=q' at hvq; cases hvq with | iface _ _ u h=>exact ⟨u,rfl,h⟩
          have hcalls:=hc _ _ _ _ _ h c w _ r hg (VRs.cons hvu hargs)
          refine wp_of_call ?_ hcalls hn
          have hmm:=hS.meth t m g hm u (k.args.map a.eval) w
          simp only [execOp,ho,resolve,hk,hu,Sem.run_bind,Sem.run_pure,Result.andThen_ok,invoke]
          have e0:(#[Value.iface t u] ++ k.args.map a.eval)[0]?=some (.iface t u):=by rw [Array.getElem?_append_left (Nat.zero_lt_one)]; rfl
          have e1:(#[Value.iface t u] ++ k.args.map a.eval).extract 1 (#[Value.iface t u] ++ k.args.map a.eval).size=k.args.map a.eval:=by simp
          simp only [e0,e1]
          rw [hmm]
        · cases h
      · cases h
    · rename_i b hk
      have run:∀ {s:Sem Value} {v:AVal} {H':Heap},builtin b k.argTypes o.type (k.args.map fun | .const _=>true | _=>false) (k.args.map a.eval)=(do pure (.value (← s)))→Yields P c w H s v H' →
          (∀ cv c' w',Rel c' w' H'→Post c w H c' w' H'→VR c' w' v cv→next (a.put o.dst cv) w')→o.wp P a w next Q:=by
        intro s v H' hb y hn
        refine wp_of_yields (s:=s) ?_ y hn
        simp only [execOp,ho,resolve,hk,invoke]
        exact hb
      have two:∀ {x y:AVal},k.args.toList.map (opd S e)=[x,y]→∃ vx vy,k.args.map a.eval=#[vx,vy]∧VR c w x vx∧VR c w y vy:=by
        intro x y hxy
        rw [hxy] at hargs
        have hs:(k.args.map a.eval).size=2:=hargs.1
        refine ⟨(k.args.map a.eval)[0],(k.args.map a.eval)[1],?_,hargs.2 0 _ _ rfl (Array.getElem?_eq_getElem (by omega)),hargs.2 1 _ _ rfl (Array.getElem?_eq_getElem (by omega))⟩
        apply Array.ext (by simp [hs])
        intro i hi _
        match i with
        | 0=>rfl
        | 1=>rfl
        | i + 2=>omega
      have one:∀ {x:AVal},k.args.toList.map (opd S e)=[x]→∃ vx,k.args.map a.eval=#[vx]∧VR c w x vx:=by
        intro x hxy
        rw [hxy] at hargs
        have hs:(k.args.map a.eval).size=1:=hargs.1
        refine ⟨(k.args.map a.eval)[0],?_,hargs.2 0 _ _ rfl (Array.getElem?_eq_getElem (by omega))⟩
        apply Array.ext (by simp [hs])
        intro i hi _
        match i with
        | 0=>rfl
        | i + 1=>omega
      split at h
      · rename_i s x t t2 hxs hts
        obtain ⟨vx,vy,hv,h1,h2⟩:=two hxs
        have hat:k.argTypes=#[t,t2]:=by rw [← hts]
        exact run (s:=Builtin.append_ k.argTypes o.type (k.args.map a.eval)) (by simp [builtin]) (by rw [hv,hat]; exact denAppend_ok hS r h h1 h2) hn
      · rename_i d x t ts hxs hts
        obtain ⟨vx,vy,hv,h1,h2⟩:=two hxs
        have hat:k.argTypes[0]?=some t:=by rw [← Array.getElem?_toList,hts]; rfl
        exact run (s:=Builtin.copy_ k.argTypes o.type (k.args.map a.eval)) (by simp [builtin]) (by rw [hv]; exact denCopy_ok hS r h h1 h2 hat) hn
      · rename_i x t ts hxs hts
        obtain ⟨vx,hv,h1⟩:=one hxs
        obtain ⟨hb,rfl⟩:=withH_some h
        have hat:k.argTypes[0]?=some t:=by rw [← Array.getElem?_toList,hts]; rfl
        exact run (s:=Builtin.len_ k.argTypes o.type (k.args.map a.eval)) (by simp [builtin]) (by rw [hv]; exact Tells.yields r (denLen_ok hS r hb h1 hat)) hn
      · obtain ⟨hb,rfl⟩:=withH_some h
        exact run (s:=Builtin.min_ k.argTypes o.type (k.args.map a.eval)) (by simp [builtin]) (Tells.yields r (denMinMax_ok (mn:=true) (ats:=k.argTypes) (ty:=o.type) hb hargs)) hn
      · obtain ⟨hb,rfl⟩:=withH_some h
        exact run (s:=Builtin.max_ k.argTypes o.type (k.args.map a.eval)) (by simp [builtin]) (Tells.yields r (denMinMax_ok (mn:=false) (ats:=k.argTypes) (ty:=o.type) hb hargs)) hn
      · cases h
  | _=>rw [ho] at h; simp [denOp] at h
end Go.AM
namespace Go.AM
variable {P:Program}
structure St (S:Sg) (n:Nat) (c:Ctx) (w:World) (e:Tr) (H:Heap) (a:Act):Prop where
  rel:Rel c w H
  glob:Glob S c w
  env:EnvR c w e a.tmps
  size:a.tmps.size=n
  defers:a.defers=[]
theorem put_ok {S:Sg} {n:Nat} {c:Ctx} {w:World} {e e':Tr} {H:Heap} {a:Act} {dst:Option Tmp} {v:AVal} {cv:Value} (st:St S n c w e H a) (h:putA n e dst v=some e') (hv:VR c w v cv):St S n c w e' H (a.put dst cv):=by
  unfold putA at h
  cases dst with
  | none=>cases h; exact st
  | some d =>
    simp only at h
    split at h
    · rename_i hd
      cases h
      refine ⟨st.rel,st.glob,fun t=>?_,by simp [Act.put,st.size],st.defers⟩
      simp only [Act.put,Tr.get_set]
      by_cases ht:t=d
      · subst ht
        rw [if_pos rfl]
        have:(a.tmps.setIfInBounds t cv).getD t undef=cv:=by
          rw [Array.getD_eq_getD_getElem?,Array.getElem?_setIfInBounds,if_pos rfl,if_pos (by rw [st.size]; exact hd)]; rfl
        rw [this]; exact hv
      · rw [if_neg ht]
        have:(a.tmps.setIfInBounds d cv).getD t undef=a.tmps.getD t undef:=by
          rw [Array.getD_eq_getD_getElem?,Array.getElem?_setIfInBounds,if_neg (fun e=>ht e.symm),← Array.getD_eq_getD_getElem?]
        rw [this]; exact st.env t
    · cases h
theorem St.later {S:Sg} {n:Nat} {c c':Ctx} {w w':World} {e:Tr} {H H':Heap} {a:Act} (st:St S n c w e H a) (r':Rel c' w' H') (p:Post c w H c' w' H'):St S n c' w' e H' a :=
  ⟨r',st.glob.mono (p.le st.rel),st.env.mono (p.le st.rel),st.size,st.defers⟩
theorem wanted_ok {c:Ctx} {w:World} {e:Tr} {a:Act} {ops:Array Oper} {o:Oper} {b:Bool} (he:EnvR c w e a.tmps) (h:wantedA ops e o=some b):Region.wanted o (yielded ops a.tmps)=b:=by
  unfold wantedA at h
  unfold Region.wanted
  split at h
  · rename_i hg; rw [hg]; cases h; rfl
  · rename_i j want hg
    rw [hg]
    simp only
    split at h
    · rename_i hd
      cases h
      have:yielded ops a.tmps j=none:=by unfold yielded; rw [hd]; rfl
      rw [this]; rfl
    · rename_i d hd
      have hv:=he d
      split at h
      · rename_i x hx
        cases h
        rw [hx] at hv
        have hv':a.tmps.getD d undef=.bool x:=by generalize a.tmps.getD d undef=q at hv; cases hv; rfl
        have:a.tmps[d]?=some (.bool x):=by
          rw [Array.getD_eq_getD_getElem?] at hv'
          cases hq:a.tmps[d]? with
          | none=>rw [hq] at hv'; cases hv'
          | some y=>rw [hq] at hv'; simp at hv'; rw [hv']
        have:yielded ops a.tmps j=some x:=by unfold yielded; rw [hd]; simp [this]
        rw [this]
        cases x <;> cases want <;> rfl
      · rename_i vs hx
        cases h
        rw [hx] at hv
        obtain ⟨us,hv'⟩:∃ us,a.tmps.getD d undef=.tuple us:=by generalize a.tmps.getD d undef=q at hv; cases hv; exact ⟨_,rfl⟩
        have:yielded ops a.tmps j=none:=by
          unfold yielded; rw [hd]
          rw [Array.getD_eq_getD_getElem?] at hv'
          cases hq:a.tmps[d]? with
          | none=>simp [hq]
          | some y=>rw [hq] at hv'; simp at hv'; subst hv'; simp [hq]
        rw [this]; rfl
      · cases h
theorem denOps_ok {S:Sg} (hS:SgOK P S) {call:Calling} (hc:CallOK P S call) {n:Nat} {draw:Bool} {ops:Array Oper}:∀ (rest:List Oper) (i:Nat) (e e':Tr) (H H':Heap) (c:Ctx) (w:World) (a:Act) {Q:Exit→Act→World→Prop},
    rest=ops.toList.drop i→denOps S call n draw ops rest e H=some (e',H')→St S n c w e H a →
    (∀ c' w' a',St S n c' w' e' H' a'→Post c w H c' w' H'→Q .normal a' w')→wpOps P ops Q (List.range' i rest.length) a w
  | [],i,e,e',H,H',c,w,a,Q,_,h,st,hq=>by
    simp only [denOps_nil,Option.some.injEq,Prod.mk.injEq] at h
    obtain ⟨rfl,rfl⟩:=h
    exact hq c w a st (Post.refl c w H)
  | o :: rest,i,e,e',H,H',c,w,a,Q,hr,h,st,hq=>by
    have ho:ops[i]?=some o:=by
      have:(ops.toList.drop i)[0]?=some o:=by rw [← hr]; rfl
      rw [List.getElem?_drop,Nat.add_zero,Array.getElem?_toList] at this
      exact this
    have hr':rest=ops.toList.drop (i + 1):=by
      have:=congrArg List.tail hr
      simpa [List.tail_drop] using this
    simp only [List.length_cons,List.range'_succ,wpOps,ho]
    rw [denOps_cons] at h
    unfold denOpsS at h
    split at h
    · cases h
    · rename_i hw
      rw [wanted_ok st.env hw]
      simp only [Bool.false_eq_true,if_false]
      split at h
      · rename_i e1 hp
        exact denOps_ok hS hc rest (i + 1) e1 e' H H' c w _ hr' h (put_ok st hp (VR.undef c w)) hq
      · cases h
    · rename_i hw
      rw [wanted_ok st.env hw]
      simp only [if_true]
      split at h
      · cases h
      · rename_i v H1 hop
        rw [opF_eq] at hop
        rw [force_eq] at h
        split at h
        · rename_i e1 hp
          refine .inl (denOp_ok hS hc hop st.env st.glob st.rel fun cv c1 w1 r1 p1 hv=>?_)
          exact denOps_ok hS hc rest (i + 1) e1 e' H1 H' c1 w1 _ hr' h (put_ok (st.later r1 p1) hp hv) fun c2 w2 a2 st2 p2=>hq c2 w2 a2 st2 (p1.trans st.rel p2)
        · cases h
def exOf:Ex→Exit
  | .normal=>.normal
  | .exit id=>.exit id
  | .ret=>.ret
def LoopWp (P:Program) (c:Code) (Q:Exit→Act→World→Prop) (a:Act) (w:World):Prop :=
  ∀ (b:Frame) (k:List Item) (cs:List Frame),∃ e a' w',Q e a' w'∧Arrives P (lone (b.at a (.code c :: .inLoop c :: k)) cs w) b k cs e a' w'
theorem LoopWp.wp {c:Code} {Q:Exit→Act→World→Prop} {a:Act} {w:World} (h:LoopWp P c Q a w):(Code.loop c).wp P Q a w :=
  fun b k cs=>let ⟨e,a',w',q,r⟩:=h b k cs; ⟨e,a',w',q,.of_steps (.one step_loop) r⟩
theorem LoopWp.of {c:Code} {Q:Exit→Act→World→Prop} {a:Act} {w:World} (h:c.wp P (Exit.then (LoopWp P c Q) Q) a w):LoopWp P c Q a w:=by
  intro b k cs
  obtain ⟨e,a₁,w₁,hq,harr⟩:=h b (.inLoop c :: k) cs
  cases e with
  | normal =>
    obtain ⟨e₂,a₂,w₂,hq₂,harr₂⟩:=hq b k cs
    exact ⟨e₂,a₂,w₂,hq₂,.of_steps (Steps.trans harr (.one step_inLoop)) harr₂⟩
  | exit id=>exact ⟨_,a₁,w₁,hq,.pass (x:=.inLoop c) rfl (fun _ _=>.inl (by simp)) harr⟩
  | goto l=>exact ⟨_,a₁,w₁,hq,.pass (x:=.inLoop c) rfl (fun _ _=>.inl (by simp)) harr⟩
  | ret=>exact ⟨_,a₁,w₁,hq,.pass (x:=.inLoop c) rfl (fun _ _=>.inl (by simp)) harr⟩
  | panic ch=>exact ⟨_,a₁,w₁,hq,.pass (x:=.inLoop c) rfl (fun _ _=>.inl (by simp)) harr⟩
  | outgrown=>exact ⟨_,a₁,w₁,hq,.pass (x:=.inLoop c) rfl (fun _ _=>.inl (by simp)) harr⟩
def Good (P:Program) (code:Code) (Q:Exit→Act→World→Prop) (a:Act) (w:World):Prop :=
  match code with
  | .loop c=>LoopWp P c Q a w
  | c=>c.wp P Q a w
theorem Good.wp {code:Code} {Q:Exit→Act→World→Prop} {a:Act} {w:World} (h:Good P code Q a w):code.wp P Q a w:=by
  cases code with
  | loop c=>exact LoopWp.wp h
  | _=>exact h
def RunOK (P:Program) (S:Sg) (n:Nat) (run:Run):Prop :=
  ∀ (code:Code) (e e':Tr) (H H':Heap) (x:Ex) (c:Ctx) (w:World) (a:Act) (Q:Exit→Act→World→Prop),run code e H=some (x,e',H')→St S n c w e H a →
    (∀ c' w' a',St S n c' w' e' H' a'→Post c w H c' w' H'→Q (exOf x) a' w')→Good P code Q a w
def CallQ (S:Sg) (call:Calling):Prop:=∀ f args H v H',S.quiet f=true→call f args H=some (v,H')→H'=H
def DrawOK (P:Program) (S:Sg) (dr:Drawing):Prop :=
  ∀ (call:Calling),CallOK P S call→CallQ S call→∀ (n id:Nat) (ops:Array Oper) (e e':Tr) (H H':Heap) (c:Ctx) (w:World) (a:Act) (Q:Exit→Act→World→Prop),dr call n ops e H=some (e',H')→St S n c w e H a →
    (∀ c' w' a',St S n c' w' e' H' a'→Post c w H c' w' H'→Q .normal a' w')→(Code.region id ops true).wp P Q a w
theorem stepCode_ok {S:Sg} (hS:SgOK P S) {dr:Drawing} (hdr:DrawOK P S dr) {call:Calling} (hc:CallOK P S call) (hcq:CallQ S call) {n:Nat} {rec:Run} (hrec:RunOK P S n rec):RunOK P S n (stepCode S dr call n rec):=by
  intro code e e' H H' x c w a Q h st hq
  cases code with
  | skip=>simp only [stepCode,Option.some.injEq,Prod.mk.injEq] at h; obtain ⟨rfl,rfl,rfl⟩:=h; exact wp_skip (hq c w a st (Post.refl _ _ _))
  | label l=>simp only [stepCode,Option.some.injEq,Prod.mk.injEq] at h; obtain ⟨rfl,rfl,rfl⟩:=h; exact wp_label (hq c w a st (Post.refl _ _ _))
  | exit id=>simp only [stepCode,Option.some.injEq,Prod.mk.injEq] at h; obtain ⟨rfl,rfl,rfl⟩:=h; exact wp_exit (hq c w a st (Post.refl _ _ _))
  | ret=>simp only [stepCode,Option.some.injEq,Prod.mk.injEq] at h; obtain ⟨rfl,rfl,rfl⟩:=h; exact wp_ret (hq c w a st (Post.refl _ _ _))
  | region id ops draw =>
    cases draw with
    | false =>
      simp only [stepCode] at h
      split at h
      · rename_i e1 H1 hd
        cases h
        refine wp_region ?_
        have:=denOps_ok hS hc ops.toList 0 e e' H H' c w a (by simp) hd st hq
        rwa [Array.length_toList,← List.range_eq_range'] at this
      · cases h
    | true =>
      simp only [stepCode] at h
      split at h
      · rename_i e1 H1 hd
        cases h
        exact hdr call hc hcq n id ops e e' H H' c w a Q hd st hq
      · cases h
  | seq p q =>
    simp only [stepCode] at h
    split at h
    · rename_i e1 H1 h1
      refine wp_seq (Good.wp (hrec p e e1 H H1 .normal c w a _ h1 st fun c1 w1 a1 st1 p1=>?_))
      exact Good.wp (hrec q e1 e' H1 H' x c1 w1 a1 Q h st1 fun c2 w2 a2 st2 p2=>hq c2 w2 a2 st2 (p1.trans st.rel p2))
    · rename_i hne
      refine wp_seq (Good.wp (hrec p e e' H H' x c w a _ h st fun c1 w1 a1 st1 p1=>?_))
      have hq1:=hq c1 w1 a1 st1 p1
      cases x with
      | normal=>exact absurd h (hne e' H')
      | exit id=>exact hq1
      | ret=>exact hq1
  | cond p y z =>
    simp only [stepCode] at h
    have hv:=opd_ok (S:=S) (a:=a) st.env st.glob p
    split at h
    · rename_i hb
      rw [hb] at hv
      have hb':a.eval p=.bool true:=by generalize a.eval p=q at hv; cases hv; rfl
      exact wp_cond_true hb' (Good.wp (hrec y e e' H H' x c w a Q h st hq))
    · rename_i hb
      rw [hb] at hv
      have hb':a.eval p=.bool false:=by generalize a.eval p=q at hv; cases hv; rfl
      exact wp_cond_false hb' (Good.wp (hrec z e e' H H' x c w a Q h st hq))
    · cases h
  | block id body =>
    simp only [stepCode] at h
    split at h
    · rename_i id' e1 H1 h1
      refine wp_block (Good.wp (hrec body e e1 H H1 (.exit id') c w a _ h1 st fun c1 w1 a1 st1 p1=>?_))
      show (if id'=id then Q .normal a1 w1 else Q (.exit id') a1 w1)
      split at h
      · rename_i hid; cases h; rw [if_pos hid]; exact hq c1 w1 a1 st1 p1
      · rename_i hid; cases h; rw [if_neg hid]; exact hq c1 w1 a1 st1 p1
    · rename_i hne
      refine wp_block (Good.wp (hrec body e e' H H' x c w a _ h st fun c1 w1 a1 st1 p1=>?_))
      have hq1:=hq c1 w1 a1 st1 p1
      cases x with
      | normal=>exact hq1
      | exit id'=>exact absurd h (hne id' e' H')
      | ret=>exact hq1
  | loop body =>
    simp only [stepCode] at h
    split at h
    · rename_i e1 H1 h1
      refine LoopWp.of (Good.wp (hrec body e e1 H H1 .normal c w a _ h1 st fun c1 w1 a1 st1 p1=>?_))
      exact hrec (.loop body) e1 e' H1 H' x c1 w1 a1 Q h st1 fun c2 w2 a2 st2 p2=>hq c2 w2 a2 st2 (p1.trans st.rel p2)
    · rename_i hne
      refine LoopWp.of (Good.wp (hrec body e e' H H' x c w a _ h st fun c1 w1 a1 st1 p1=>?_))
      have hq1:=hq c1 w1 a1 st1 p1
      cases x with
      | normal=>exact absurd h (hne e' H')
      | exit id=>exact hq1
      | ret=>exact hq1
  | _=>simp [stepCode] at h
def resOne (tmps:Array Value):ResultVar→Sem Value
  | .tmp t=>pure (tmps.getD t undef)
  | .cell p t=>do loadVar t (← asAddr (tmps.getD p undef))
theorem results_eq (fn:Func) (tmps:Array Value):results fn tmps=(do let vs ← fn.results.mapM (resOne tmps); pure (if h:vs.size=1 then vs[0] else .tuple vs)):=by
  unfold results
  congr 1
theorem oneRes_ok {S:Sg} (hS:SgOK P S) {n:Nat} {c:Ctx} {w:World} {e:Tr} {H:Heap} {a:Act} (st:St S n c w e H a) {r:ResultVar} {v:AVal} (h:oneRes S e H r=some v) :
    ∃ cv,(resOne a.tmps r).run P w=.ok cv w∧VR c w v cv:=by
  cases r with
  | tmp t=>simp only [oneRes,Option.some.injEq] at h; subst h; exact ⟨_,rfl,st.env t⟩
  | cell p t =>
    simp only [oneRes] at h
    split at h
    · rename_i ti row off ht hrow
      obtain ⟨b,o,hva,hcells⟩:=rowAt_ok hrow (st.env p) st.rel
      obtain ⟨cv,hr,hv⟩:=loadVar_ok (hS.ty _ _ ht) h hcells
      exact ⟨cv,by simp [resOne,hva,asAddr,hr],hv⟩
    · cases h
theorem allRes_ok {S:Sg} (hS:SgOK P S) {n:Nat} {c:Ctx} {w:World} {e:Tr} {H:Heap} {a:Act} (st:St S n c w e H a):∀ (rs:List ResultVar) (vs:List AVal),allRes S e H rs=some vs →
    ∃ cvs:List Value,(rs.mapM (resOne a.tmps)).run P w=.ok cvs w∧VRs c w vs cvs.toArray
  | [],vs,h=>by
    simp only [allRes,Option.some.injEq] at h; subst h
    exact ⟨[],by simp,rfl,fun j a v h=>by simp at h⟩
  | r :: rs,vs,h=>by
    unfold allRes at h
    split at h
    · rename_i v vs' h1 h2
      cases h
      obtain ⟨cv,hr,hv⟩:=oneRes_ok hS st h1
      obtain ⟨cvs,hrs,hvs⟩:=allRes_ok hS st rs vs' h2
      refine ⟨cv :: cvs,?_,?_⟩
      · rw [List.mapM_cons]
        simp only [Sem.run_bind,hr,Result.andThen_ok,hrs,Sem.run_pure]
      · have:=VRs.cons hv hvs
        simpa using this
    · cases h
theorem results_ok {S:Sg} (hS:SgOK P S) {n:Nat} {c:Ctx} {w:World} {e:Tr} {H:Heap} {a:Act} (st:St S n c w e H a) {fn:Func} {v:AVal} (h:denResults S fn e H=some v) :
    ∃ cv,(results fn a.tmps).run P w=.ok cv w∧VR c w v cv:=by
  unfold denResults at h
  cases ha:allRes S e H fn.results.toList with
  | none=>rw [ha] at h; cases h
  | some vs =>
    rw [ha] at h
    obtain ⟨cvs,hr,hv⟩:=allRes_ok hS st _ _ ha
    have hrun:(results fn a.tmps).run P w=.ok (if h:cvs.toArray.size=1 then cvs.toArray[0] else .tuple cvs.toArray) w:=by
      rw [results_eq,Array.mapM_eq_mapM_toList,Sem.run_bind,Sem.run_map,hr]
      rfl
    refine ⟨_,hrun,?_⟩
    have hs:cvs.toArray.size=vs.length:=hv.1
    match vs,h with
    | [x],h =>
      simp only [Option.some.injEq] at h; subst h
      have h0:0 < cvs.toArray.size:=by rw [hs]; simp
      rw [dif_pos (show cvs.toArray.size=1 from hs)]
      exact hv.2 0 _ _ rfl (Array.getElem?_eq_getElem h0)
    | [],h =>
      simp only [Option.some.injEq] at h; subst h
      rw [dif_neg (by rw [hs]; simp)]
      exact .tup _ _ hv.1 hv.2
    | x :: y :: vs,h =>
      simp only [Option.some.injEq] at h; subst h
      rw [dif_neg (by rw [hs]; simp)]
      exact .tup _ _ hv.1 hv.2
theorem sealL_get {f:AVal→Option AVal}:∀ (as bs:List AVal),sealL f as=some bs→bs.length=as.length∧∀ (j:Nat) (b:AVal),bs[j]?=some b→∃ a,as[j]?=some a∧f a=some b
  | [],bs,h=>by simp only [sealL,Option.some.injEq] at h; subst h; exact ⟨rfl,fun j b h=>by simp at h⟩
  | a :: as,bs,h=>by
    unfold sealL at h
    split at h
    · rename_i b bs' h1 h2
      cases h
      obtain ⟨hl,hg⟩:=sealL_get as bs' h2
      refine ⟨by simp [hl],fun j x hx=>?_⟩
      cases j with
      | zero=>simp at hx; subst hx; exact ⟨a,rfl,h1⟩
      | succ j=>exact hg j x (by simpa using hx)
    · cases h
def Ctx.shut (c:Ctx) (H:Heap):Ctx:=⟨c.ι,fun b=>c.F b∨∃ id o,Live H id∧c.ι id=some (b,o)⟩
theorem Ctx.shut_le (c:Ctx) (w:World) (H:Heap):Le c w (c.shut H) w :=
  ⟨fun _ _ h=>h,fun _ h=>.inl h,fun _ _=>rfl,fun _ arr e fz h=>⟨arr,e,fz,h,rfl⟩⟩
theorem seal_ok {c:Ctx} {w:World} {H:Heap} (r:Rel c w H):∀ (n:Nat) (a a':AVal) (v:Value),sealV H n a=some a'→VR c w a v→VR (c.shut H) w a' v
  | 0,a,a',v,h,_=>by cases h
  | n + 1,a,a',v,h,hv=>by
    unfold sealV at h
    split at h
    · cases h; exact hv.mono (c.shut_le w H)
    · split at h
      · rename_i id off hcl
        split at h
        · rename_i vs ty hH
          split at h
          · rename_i cs hcs
            split at h
            · rename_i hall
              cases h
              obtain ⟨hl,hg⟩:=sealL_get _ _ hcs
              cases hv with
              | ptr _ _ b o hι =>
                obtain ⟨arr,e,hb,hlen,hh⟩:=r.obj id _ b o hH hι
                refine .ip cs off true b o (fun j=>arr[o + j]?.getD default) (fun _=>List.all_eq_true.1 hall) (.inr ⟨id,o,⟨_,hH,rfl⟩,hι⟩) (fun j hj=>?_) fun j x hx=>?_
                · have:o + j < arr.size:=by omega
                  simp [World.cell?,hb,this]
                · obtain ⟨y,hy,hs⟩:=hg j x hx
                  have hj:j < vs.length:=(List.getElem?_eq_some_iff.1 hy).1
                  have hlt:o + j < arr.size:=by omega
                  simp only [Array.getElem?_eq_getElem hlt,Option.getD_some]
                  exact seal_ok r n y x _ hs (hh j y _ hy (Array.getElem?_eq_getElem hlt))
            · cases h
          · cases h
        · cases h
      · rename_i id off len cap sz hcl
        split at h
        · rename_i vs ty hH
          split at h
          · rename_i hfit
            split at h
            · rename_i cs hcs
              split at h
              · rename_i hall
                cases h
                obtain ⟨hl,hg⟩:=sealL_get _ _ hcs
                cases hv with
                | sl _ _ _ _ _ b o ca hι h2 h3 h4 h5 =>
                  obtain ⟨arr,e,hb,hlen,hh⟩:=r.obj id _ b o hH hι
                  have hcl':cs.length=len * sz:=by rw [hl]; simp; omega
                  have:=VR.isl (c:=c.shut H) (w:=w) cs 0 len cap true b (o + off) ca (fun j=>arr[o + off + j]?.getD default) (fun _=>List.all_eq_true.1 hall) (.inr ⟨id,o,⟨_,hH,rfl⟩,hι⟩) h2 h3 h4 (fun j hj=>by
                    have:o + off + j < arr.size:=by omega
                    simp [World.cell?,hb,this]) fun j x hx=>by
                    obtain ⟨y,hy,hs⟩:=hg j x hx
                    rw [List.getElem?_take] at hy
                    split at hy
                    · rw [List.getElem?_drop] at hy
                      have hj:off + j < vs.length:=(List.getElem?_eq_some_iff.1 hy).1
                      have hlt:o + off + j < arr.size:=by omega
                      simp only [Array.getElem?_eq_getElem hlt,Option.getD_some]
                      exact seal_ok r n y x _ hs (hh (off + j) y _ hy (by rw [← Nat.add_assoc]; exact Array.getElem?_eq_getElem hlt))
                    · cases hy
                  exact this
                | sl0 _ _ _ _ b o a hι hc=>exact .isl0 _ _ _ _ _ _ (by omega) fun m hm=>(hc m hm).symm
              · cases h
            · cases h
          · cases h
        · cases h
      · -- a map
        rename_i id hcl
        split at h
        · rename_i es hH
          split at h
          · rename_i ks vs hks hvs
            split at h
            · rename_i hall
              cases h
              rw [Bool.and_eq_true] at hall
              obtain ⟨hl1,hg1⟩:=sealL_get _ _ hks
              obtain ⟨hl2,hg2⟩:=sealL_get _ _ hvs
              cases hv with
              | map _ b o hι =>
                obtain ⟨mes,clk,hst,hb,hms,hent⟩:=r.obj id _ b o hH hι
                refine .imap ks vs true ks vs b mes clk (fun _=>⟨List.all_eq_true.1 hall.1,List.all_eq_true.1 hall.2⟩) hst (.inr ⟨id,o,⟨_,hH,rfl⟩,hι⟩) hb (by rw [hl1]; simpa using hms) (by rw [hl1,hl2]; simp) (List.Perm.refl _) (fun j x m hx hm=>?_) (fun j x m hx hm=>?_)
                · obtain ⟨y,hy,hs⟩:=hg1 j x hx
                  rw [List.getElem?_map] at hy
                  cases he:es[j]? with
                  | none=>rw [he] at hy; cases hy
                  | some e=>rw [he] at hy; cases hy; exact seal_ok r n _ x _ hs (hent j e m he hm).1
                · obtain ⟨y,hy,hs⟩:=hg2 j x hx
                  rw [List.getElem?_map] at hy
                  cases he:es[j]? with
                  | none=>rw [he] at hy; cases hy
                  | some e=>rw [he] at hy; cases hy; exact seal_ok r n _ x _ hs (hent j e m he hm).2
            · cases h
          · cases h
        · cases h
      · rename_i cells off cl hcl
        split at h
        · rename_i cs hcs
          split at h
          · rename_i hall
            cases h
            obtain ⟨hl,hg⟩:=sealL_get _ _ hcs
            cases hv with
            | ip _ _ _ b o g h1 hF hc hh =>
              refine .ip cs off true b o g (fun _=>List.all_eq_true.1 hall) (.inl hF) (fun j hj=>hc j (by omega)) fun j x hx=>?_
              obtain ⟨y,hy,hs⟩:=hg j x hx
              exact seal_ok r n y x _ hs (hh j y hy)
          · cases h
        · cases h
      · rename_i cells off len cap cl hcl
        split at h
        · rename_i cs hcs
          split at h
          · rename_i hall
            cases h
            obtain ⟨hl,hg⟩:=sealL_get _ _ hcs
            cases hv with
            | isl _ _ _ _ _ b o ca g h1 hF h2 h3 h4 hc hh =>
              refine .isl cs off len cap true b o ca g (fun _=>List.all_eq_true.1 hall) (.inl hF) h2 h3 h4 (fun j hj=>hc j (by omega)) fun j x hx=>?_
              obtain ⟨y,hy,hs⟩:=hg j x hx
              exact seal_ok r n y x _ hs (hh j y hy)
            | isl0 _ _ _ _ a ca h1 h2=>exact .isl0 _ _ _ _ a ca h1 h2
          · cases h
        · cases h
      · rename_i t x hcl
        split at h
        · rename_i x' hx
          cases h
          cases hv with
          | iface _ _ u hu=>exact .iface t x' u (seal_ok r n x x' u hx hu)
        · cases h
      · rename_i cs hcl
        split at h
        · rename_i cs' hcs
          cases h
          obtain ⟨hl,hg⟩:=sealL_get _ _ hcs
          cases hv with
          | agg _ vs hs hh =>
            refine .agg cs' vs (by omega) fun j x u hx hu=>?_
            obtain ⟨y,hy,hsv⟩:=hg j x hx
            exact seal_ok r n y x u hsv (hh j y u hy hu)
        · cases h
      · rename_i cs hcl
        split at h
        · rename_i cs' hcs
          cases h
          obtain ⟨hl,hg⟩:=sealL_get _ _ hcs
          cases hv with
          | tup _ vs hs hh =>
            refine .tup cs' vs (by omega) fun j x u hx hu=>?_
            obtain ⟨y,hy,hsv⟩:=hg j x hx
            exact seal_ok r n y x u hsv (hh j y u hy hu)
        · cases h
      · cases h
theorem argTr_get:∀ (as:List AVal) (i:Nat) (e:Tr) (t:Nat),(argTr as i e).get t=if i≤t∧t < i + as.length then as.getD (t - i) .any else e.get t
  | [],i,e,t=>by rw [if_neg (by simp only [List.length_nil]; omega)]; rfl
  | a :: as,i,e,t=>by
    unfold argTr
    rw [argTr_get as (i + 1) _ t,Tr.get_set]
    simp only [List.length_cons]
    by_cases h:i + 1≤t∧t < i + 1 + as.length
    · rw [if_pos h,if_pos (by omega)]
      have:t - i=(t - (i + 1)) + 1:=by omega
      rw [this,List.getD_cons_succ]
    · rw [if_neg h]
      by_cases h2:t=i
      · subst h2
        rw [if_pos rfl,if_pos (by omega),Nat.sub_self]; rfl
      · rw [if_neg h2,if_neg (by omega)]
theorem St.start {S:Sg} {n d:Nat} {c:Ctx} {w:World} {H:Heap} {args:List AVal} {cargs:Array Value} (r:Rel c w H) (hg:Glob S c w) (ha:VRs c w args cargs) (hn:args.length≤n) :
    St S n c w (argTr args 0 (Tr.full d)) H { tmps:=cargs ++ Array.replicate (n - cargs.size) undef,defers:=[] }:=by
  refine ⟨r,hg,fun t=>?_,by simp [ha.1]; omega,rfl⟩
  rw [argTr_get]
  split
  · rename_i h
    have ht:t < args.length:=by omega
    have htc:t < cargs.size:=by rw [ha.1]; exact ht
    have e1:args.getD (t - 0) .any=args[t]:=by simp [ht]
    have e2:(cargs ++ Array.replicate (n - cargs.size) undef).getD t undef=cargs[t]:=by
      rw [Array.getD_eq_getD_getElem?,Array.getElem?_append_left htc,Array.getElem?_eq_getElem htc]; rfl
    rw [e1,e2]
    exact ha.2 t _ _ (List.getElem?_eq_getElem ht) (Array.getElem?_eq_getElem htc)
  · rw [Tr.get_full]; exact .any _
def ExtOK (P:Program) (S:Sg):Prop :=
  ∀ f x,S.ext f=some x→∀ args H v H',x args H=some (v,H')→∀ c w cargs,Rel c w H→Glob S c w→VRs c w args cargs →
    Serves P f cargs w fun cv w'=>∃ c',Rel c' w' H'∧Post c w H c' w' H'∧VR c' w' v cv
theorem pure_post {c c1:Ctx} {w w':World} {H H1:Heap} (r:Rel c w H) (r1:Rel c1 w' H1) (p:Post ⟨fun _=>none,c.F⟩ w [] c1 w' H1) :
    Rel ⟨c.ι,(c1.shut H1).F⟩ w' H∧Post c w H ⟨c.ι,(c1.shut H1).F⟩ w' H:=by
  have nolive:∀ i,¬ Live ([]:Heap) i:=fun i ⟨o,ho,_⟩=>by simp at ho
  have old:∀ b,b < w.heap.size→w'.heap[b]?=w.heap[b]?:=fun b hb=>p.frame b hb fun i o hl=>absurd hl (nolive i)
  have hF:∀ b,(c1.shut H1).F b→c.F b∨w.heap.size≤b:=by
    rintro b (h | ⟨id,o,hl,hi⟩)
    · rcases p.Fnew b h with h | h | ⟨i,o,hl,_⟩
      · exact .inl h
      · exact .inr h
      · exact absurd hl (nolive i)
    · rcases p.new id b o hi with h | ⟨_,h | ⟨i,o,hl,_⟩⟩
      · cases h
      · exact .inr h
      · exact absurd hl (nolive i)
  have l:Le c w ⟨c.ι,(c1.shut H1).F⟩ w':=⟨fun _ _ h=>h,fun b h=>.inl (p.F b h),fun b h=>old b (r.fr b h),p.siz⟩
  refine ⟨⟨fun id o b off h hi=>(r.obj id o b off h hi).mono l (old b (r.dom id b off hi).2),r.inj,fun id b off h=>⟨(r.dom id b off h).1,Nat.lt_of_lt_of_le (r.dom id b off h).2 p.size⟩,fun id b off hl hi h=>?_,fun b h=>?_⟩,
    ⟨fun _ _ h=>h,fun _ _ _ h=>.inl h,fun b h=>.inl (p.F b h),fun b h=>?_,fun b hb _=>old b hb,fun _ _ _=>rfl,fun _ _ h=>h,Nat.le_refl _,p.size,p.siz,p.os,p.tape,p.output⟩⟩
  · rcases hF b h with h | h
    · exact r.sep id b off hl hi h
    · have:=(r.dom id b off hi).2; omega
  · rcases h with h | ⟨id,o,hl,hi⟩
    · exact r1.fr b h
    · exact (r1.dom id b o hi).2
  · rcases hF b h with h | h
    · exact .inl h
    · exact .inr (.inl h)
theorem stepCall_ok {S:Sg} (hS:SgOK P S) (hx:ExtOK P S) (hglob:∀ g,(S.glob g).closed=true∨S.glob g=.any) {rec:FuncId→Func→Code→Tr→Heap→Option (Ex×Tr×Heap)} (hrec:∀ f fn,RunOK P S fn.ntmps (rec f fn)):CallOK P S (stepCall S rec):=by
  intro f args H v H' h c w cargs r hg ha
  unfold stepCall at h
  split at h
  · rename_i rr hxf
    cases h
    unfold extRun at hxf
    split at hxf
    · rename_i x hxe
      exact hx f x hxe args H v H' hxf c w cargs r hg ha
    · cases hxf
  · split at h
    · cases h
    · rename_i fn hfn
      refine .inl ⟨fun w=>hS.call f (by rw [hfn]; rfl) cargs w,?_⟩
      split at h
      · cases h
      · rename_i code hcode
        split at h
        · rename_i hn
          split at h
          · -- pure
              rename_i hpc
              have hcl:args.all AVal.closed=true:=(Bool.and_eq_true _ _ ▸ hpc:_∧_).2
              split at h
              · cases h
              · rename_i y e1 H1 hne hrun
                split at h
                · rename_i u hu
                  split at h
                  · rename_i u' hs
                    split at h
                    · rename_i hc2
                      cases h
                      have r0:Rel ⟨fun _=>none,c.F⟩ w []:=⟨fun id o b off h=>(by simp at h),fun i j b o1 o2 ⟨o,ho,_⟩=>(by simp at ho),fun id b off h=>(by cases h),fun id b off ⟨o,ho,_⟩=>(by simp at ho),r.fr⟩
                      have g0:Glob S ⟨fun _=>none,c.F⟩ w:=fun g=>by
                        refine ⟨?_,(hg g).2⟩
                        rcases hglob g with h | h
                        · exact (hg g).1.shut h _
                        · rw [h]; exact .any _
                      have a0:VRs ⟨fun _=>none,c.F⟩ w args cargs:=⟨ha.1,fun j x y hx hy=>(ha.2 j x y hx hy).shut (List.all_eq_true.1 hcl x (List.mem_of_getElem? hx)) _⟩
                      have st:=St.start (n:=fn.ntmps) (d:=Nat.succ (Nat.log2 fn.ntmps)) r0 g0 a0 hn
                      refine calls_of_wp (hS.fn f fn hfn) hcode (Good.wp (hrec f fn code _ e1 [] H1 y _ w _ _ hrun st fun c1 w1 a1 st1 p1=>?_))
                      obtain ⟨cv,hr,hv⟩:=results_ok hS st1 hu
                      have hv':=(seal_ok st1.rel _ _ _ _ hs hv).shut hc2 c.ι
                      obtain ⟨rr,pp⟩:=pure_post r st1.rel p1
                      have fin:bodyPost P fn (fun e w'=>∃ cv,e=.returned cv∧∃ c',Rel c' w' H∧Post c w H c' w' H∧VR c' w' v cv) (exOf y) a1 w1:=by
                        cases y with
                        | normal=>exact ⟨st1.defers,cv,hr,cv,rfl,_,rr,pp,hv'⟩
                        | ret=>exact ⟨st1.defers,cv,hr,cv,rfl,_,rr,pp,hv'⟩
                        | exit id=>exact absurd rfl (hne id)
                      exact fin
                    · cases h
                  · cases h
                · cases h
              · cases h
          · split at h
            · cases h
            · split at h
              · cases h
              · rename_i y e1 H1 hne hrun
                obtain ⟨hres,rfl⟩:=withH_some h
                have st:=St.start (n:=fn.ntmps) (d:=Nat.succ (Nat.log2 fn.ntmps)) r hg ha hn
                refine calls_of_wp (hS.fn f fn hfn) hcode (Good.wp (hrec f fn code _ e1 H _ y _ w _ _ hrun st fun c1 w1 a1 st1 p1=>?_))
                obtain ⟨cv,hr,hv⟩:=results_ok hS st1 hres
                cases y with
                | normal=>exact ⟨st1.defers,cv,hr,cv,rfl,_,st1.rel,p1,hv⟩
                | ret=>exact ⟨st1.defers,cv,hr,cv,rfl,_,st1.rel,p1,hv⟩
                | exit id=>exact absurd rfl (hne id)
              · cases h
        · cases h
def QuietOK (S:Sg):Prop:=∀ f,S.quiet f=true→∀ x,S.ext f=some x→∀ args H v H',x args H=some (v,H')→H'=H
theorem stepCall_q {S:Sg} (hq:QuietOK S) {rec:FuncId→Func→Code→Tr→Heap→Option (Ex×Tr×Heap)}:CallQ S (stepCall S rec):=by
  intro f args H v H' hf h
  unfold stepCall at h
  split at h
  · rename_i rr hxf
    cases h
    unfold extRun at hxf
    split at hxf
    · rename_i x hxe
      exact hq f hf x hxe args H v H' hxf
    · cases hxf
  · split at h
    · cases h
    · split at h
      · cases h
      · split at h
        · split at h
          · split at h
            · cases h
            · split at h
              · split at h
                · split at h
                  · cases h; rfl
                  · cases h
                · cases h
              · cases h
            · cases h
          · cases h
        · cases h
theorem denR_ok {S:Sg} (hS:SgOK P S) (hx:ExtOK P S) (hqt:QuietOK S) (hglob:∀ g,(S.glob g).closed=true∨S.glob g=.any) {dr:Drawing} (hdr:DrawOK P S dr):∀ (n:Nat) (f:FuncId) (fn:Func),RunOK P S fn.ntmps (denR S dr n f fn)
  | 0,f,fn=>fun code e e' H H' x c w a Q h=>by cases h
  | n + 1,f,fn=>by
    have h:=stepCode_ok hS hdr (stepCall_ok hS hx hglob fun f fn=>denR_ok hS hx hqt hglob hdr n f fn) (stepCall_q hqt) (denR_ok hS hx hqt hglob hdr n f fn)
    intro code e e' H H' x c w a Q hr
    exact h code e e' H H' x c w a Q (by rw [← stepF_eq]; exact hr)
theorem denC_ok {S:Sg} (hS:SgOK P S) (hx:ExtOK P S) (hqt:QuietOK S) (hglob:∀ g,(S.glob g).closed=true∨S.glob g=.any) {dr:Drawing} (hdr:DrawOK P S dr) (n:Nat):CallOK P S (denC S dr n) :=
  stepCall_ok hS hx hglob fun f fn=>denR_ok hS hx hqt hglob hdr n f fn
end Go.AM
namespace Go.AM
variable {P:Program}
def beqL (f:AVal→AVal→Bool):List AVal→List AVal→Bool
  | [],[]=>true
  | a :: as,b :: bs=>f a b && beqL f as bs
  | _,_=>false
theorem beqL_eq {f:AVal→AVal→Bool} (hf:∀ a b,f a b=true→a=b):∀ as bs,beqL f as bs=true→as=bs
  | [],[],_=>rfl
  | a :: as,b :: bs,h=>by
    simp only [beqL,Bool.and_eq_true] at h
    rw [hf a b h.1,beqL_eq hf as bs h.2]
  | [],b :: bs,h=>by simp [beqL] at h
  | a :: as,[],h=>by simp [beqL] at h
def beqA:Nat→AVal→AVal→Bool
  | 0,_,_=>false
  | n + 1,a,b=>match a,b with
    | .bool a,.bool b=>a == b
    | .int k a,.int k' b=>decide (k=k') && decide (a=b)
    | .str a,.str b=>decide (a=b)
    | .nilp,.nilp | .nils,.nils | .nilm,.nilm | .nilfn,.nilfn | .nili,.nili=>true
    | .ptr i o,.ptr i' o'=>decide (i=i') && decide (o=o')
    | .ip c o l,.ip c' o' l'=>decide (o=o') && (l == l') && beqL (beqA n) c c'
    | .sl i o l c s,.sl i' o' l' c' s'=>decide (i=i') && decide (o=o') && decide (l=l') && decide (c=c') && decide (s=s')
    | .isl c o l k cl,.isl c' o' l' k' cl'=>decide (o=o') && decide (l=l') && decide (k=k') && (cl == cl') && beqL (beqA n) c c'
    | .map i,.map i'=>decide (i=i')
    | .imap k v cl,.imap k' v' cl'=>(cl == cl') && beqL (beqA n) k k' && beqL (beqA n) v v'
    | .iface t v,.iface t' v'=>decide (t=t') && beqA n v v'
    | .agg c,.agg c'=>beqL (beqA n) c c'
    | .tup c,.tup c'=>beqL (beqA n) c c'
    | .obj o,.obj o'=>decide (o=o')
    | _,_=>false
theorem beqA_eq:∀ (n:Nat) (a b:AVal),beqA n a b=true→a=b
  | 0,a,b,h=>by simp [beqA] at h
  | n + 1,a,b,h=>by
    have ih:=beqA_eq n
    unfold beqA at h
    split at h
    case h_1=>rw [beq_iff_eq] at h; subst h; rfl
    case h_2=>simp only [Bool.and_eq_true,decide_eq_true_eq] at h; obtain ⟨rfl,rfl⟩:=h; rfl
    case h_3=>simp only [decide_eq_true_eq] at h; subst h; rfl
    case h_4=>rfl
    case h_5=>rfl
    case h_6=>rfl
    case h_7=>rfl
    case h_8=>rfl
    case h_9=>simp only [Bool.and_eq_true,decide_eq_true_eq] at h; obtain ⟨rfl,rfl⟩:=h; rfl
    case h_10=>simp only [Bool.and_eq_true,decide_eq_true_eq,beq_iff_eq] at h; obtain ⟨⟨h1,h2⟩,h3⟩:=h; have:=beqL_eq ih _ _ h3; subst h1; subst h2; subst this; rfl
    case h_11=>simp only [Bool.and_eq_true,decide_eq_true_eq] at h; obtain ⟨⟨⟨⟨rfl,rfl⟩,rfl⟩,rfl⟩,rfl⟩:=h; rfl
    case h_12=>simp only [Bool.and_eq_true,decide_eq_true_eq,beq_iff_eq] at h; obtain ⟨⟨⟨⟨h1,h2⟩,h3⟩,h4⟩,h5⟩:=h; have:=beqL_eq ih _ _ h5; subst h1; subst h2; subst h3; subst h4; subst this; rfl
    case h_13=>simp only [decide_eq_true_eq] at h; subst h; rfl
    case h_14=>simp only [Bool.and_eq_true,beq_iff_eq] at h; obtain ⟨⟨h1,h2⟩,h3⟩:=h; have:=beqL_eq ih _ _ h2; have h4:=beqL_eq ih _ _ h3; subst h1; subst this; subst h4; rfl
    case h_15=>simp only [Bool.and_eq_true,decide_eq_true_eq] at h; obtain ⟨h1,h2⟩:=h; have:=ih _ _ h2; subst h1; subst this; rfl
    case h_16=>have:=beqL_eq ih _ _ h; subst this; rfl
    case h_17=>have:=beqL_eq ih _ _ h; subst this; rfl
    case h_18=>simp only [decide_eq_true_eq] at h; subst h; rfl
    case h_19=>cases h
def maskOf (acc:List Nat) (o:Oper):Nat :=
  o.after.toList.foldl (fun s e=>if Region.binds .any e then s ||| (2 ^ e.on ||| acc.getD e.on 0) else s) 0
def masks:List Oper→List Nat→List Nat
  | [],acc=>acc
  | o :: rest,acc=>masks rest (acc ++ [maskOf acc o])
def bit (m:List Nat) (i j:Nat):Bool:=(m.getD i 0).testBit j
theorem masks_keep:∀ (os:List Oper) (acc:List Nat) (i:Nat),i < acc.length→(masks os acc).getD i 0=acc.getD i 0
  | [],acc,i,_=>rfl
  | o :: os,acc,i,h=>by
    unfold masks
    rw [masks_keep os _ i (by simp; omega)]
    rw [List.getD_eq_getElem?_getD,List.getD_eq_getElem?_getD,List.getElem?_append_left h]
theorem masks_at:∀ (os:List Oper) (acc:List Nat) (k:Nat) (o:Oper),os[k]?=some o→∃ acc':List Nat,(masks os acc).getD (acc.length + k) 0=maskOf acc' o∧acc'.length=acc.length + k∧∀ i,i < acc.length + k→acc'.getD i 0=(masks os acc).getD i 0
  | [],acc,k,o,h=>by simp at h
  | p :: os,acc,0,o,h=>by
    simp at h; subst h
    refine ⟨acc,?_,rfl,fun i hi=>?_⟩
    · unfold masks
      rw [Nat.add_zero,masks_keep os _ acc.length (by simp)]
      simp
    · unfold masks
      rw [masks_keep os _ i (by simp; omega),List.getD_eq_getElem?_getD,List.getD_eq_getElem?_getD,List.getElem?_append_left (by simpa using hi)]
  | p :: os,acc,k + 1,o,h=>by
    unfold masks
    obtain ⟨acc',h1,h2,h3⟩:=masks_at os (acc ++ [maskOf acc p]) k o (by simpa using h)
    have hl:(acc ++ [maskOf acc p]).length + k=acc.length + (k + 1):=by simp; omega
    rw [hl] at h1 h2 h3
    exact ⟨acc',h1,h2,h3⟩
theorem mask_mem (acc:List Nat):∀ (es:List Edge) (s j:Nat),(es.foldl (fun s e=>if Region.binds .any e then s ||| (2 ^ e.on ||| acc.getD e.on 0) else s) s).testBit j=true →
    s.testBit j=true∨∃ e∈es,Region.binds .any e=true∧(e.on=j∨(acc.getD e.on 0).testBit j=true)
  | [],s,j,h=>.inl h
  | e :: es,s,j,h=>by
    simp only [List.foldl_cons] at h
    rcases mask_mem acc es _ j h with h | ⟨x,hx,h⟩
    · split at h
      · rename_i hb
        rw [Nat.testBit_or,Nat.testBit_or,Bool.or_eq_true,Bool.or_eq_true] at h
        rcases h with h | h | h
        · exact .inl h
        · refine .inr ⟨e,by simp,hb,.inl ?_⟩
          rw [Nat.testBit_two_pow] at h
          simpa using h
        · exact .inr ⟨e,by simp,hb,.inr h⟩
      · exact .inl h
    · exact .inr ⟨x,by simp [hx],h⟩
def ClosedSet (ops:Array Oper) (D:Nat→Prop):Prop:=∀ i o,ops[i]?=some o→D i→∀ e∈o.after,Region.binds .any e=true→D e.on
theorem bit_mem {ops:Array Oper} {D:Nat→Prop} (hD:ClosedSet ops D) (hlt:∀ i o,ops[i]?=some o→∀ e∈o.after,Region.binds .any e=true→e.on < i) :
    ∀ (i:Nat) (o:Oper),ops[i]?=some o→(∀ e∈o.after,Region.binds .any e=true→D e.on)→∀ j,bit (masks ops.toList []) i j=true→D j:=by
  intro i
  induction i using Nat.strongRecOn with
  | _ i ih =>
    intro o ho hp j hb
    obtain ⟨acc',h1,h2,h3⟩:=masks_at ops.toList [] i o (by rw [Array.getElem?_toList]; exact ho)
    simp only [List.length_nil,Nat.zero_add] at h1 h2 h3
    unfold bit at hb
    rw [h1] at hb
    unfold maskOf at hb
    rcases mask_mem acc' _ 0 j hb with h | ⟨e,he,hbe,h⟩
    · simp at h
    · have hem:e∈o.after:=by simpa using he
      have hon:=hp e hem hbe
      rcases h with rfl | h
      · exact hon
      · have hei:=hlt i o ho e hem hbe
        rw [h3 e.on hei] at h
        have hlen:e.on < ops.size:=by
          have:=(Array.getElem?_eq_some_iff.1 ho).1
          omega
        have ho':ops[e.on]?=some ops[e.on]:=Array.getElem?_eq_getElem hlen
        exact ih e.on hei _ ho' (fun e' he' hb'=>hD e.on _ ho' hon e' he' hb') j h
def effOp (S:Sg):Op→Bool
  | .store .. | .mapUpdate .. | .mapEntry .. | .entryStore .. | .insert .. | .makeSlice .. | .makeMap .. | .range .. | .next ..=>true
  | .box t _=>S.mutT t
  | .call c=>match c.callee with
    | .builtin .len | .builtin .min | .builtin .max=>false
    | _=>true
  | _=>false
def readOp:Op→Bool
  | .load .. | .lookup .. | .convert .. | .slice ..=>true
  | .call c=>match c.callee with
    | .builtin .len=>true
    | _=>false
  | _=>false
def isAlloc:Op→Bool
  | .alloc _=>true
  | _=>false
theorem some_same {H H' H2:Heap} {v0 v:AVal} (h:some (v0,H)=some (v,H')):H'=H∧some (v0,H2)=some (v,H2):=by
  cases h; exact ⟨rfl,rfl⟩
theorem withH_same {H H' H2:Heap} {x:Option AVal} {v:AVal} (h:withH H x=some (v,H')):H'=H∧withH H2 x=some (v,H2):=by
  obtain ⟨h1,h2⟩:=withH_some h
  exact ⟨h2,by rw [h1]; rfl⟩
theorem denOp_still {S:Sg} {call:Calling} {e:Tr} {H H' H2:Heap} {op:Op} {v:AVal} (h:denOp S call true e H op=some (v,H')) (h1:effOp S op=false) (h2:readOp op=false) (h3:isAlloc op=false) :
    H'=H∧denOp S call true e H2 op=some (v,H2):=by
  cases op with
  | box t x =>
    simp only [effOp] at h1
    simp only [denOp,newRowA,h1] at h ⊢
    split at h
    · rename_i cs hcs
      exact some_same h
    · cases h
  | call c =>
    cases hk:c.callee with
    | value f=>simp [effOp,hk] at h1
    | invoke r m=>simp [effOp,hk] at h1
    | builtin b =>
      cases b <;> simp only [effOp,hk,reduceCtorEq] at h1
      case len=>simp [readOp,hk] at h2
      case min =>
        simp only [denOp,hk] at h ⊢
        exact withH_same h
      case max =>
        simp only [denOp,hk] at h ⊢
        exact withH_same h
  | alloc t=>simp [isAlloc] at h3
  | store=>simp [effOp] at h1
  | mapUpdate=>simp [effOp] at h1
  | mapEntry=>simp [effOp] at h1
  | entryStore=>simp [effOp] at h1
  | insert=>simp [effOp] at h1
  | makeSlice=>simp [effOp] at h1
  | makeMap=>simp [effOp] at h1
  | range=>simp [effOp] at h1
  | next=>simp [effOp] at h1
  | load=>simp [readOp] at h2
  | lookup=>simp [readOp] at h2
  | convert=>simp [readOp] at h2
  | slice=>simp [readOp] at h2
  | move x=>simp only [denOp] at h ⊢; exact some_same h
  | assign x=>simp only [denOp] at h ⊢; exact some_same h
  | pick p x y =>
    simp only [denOp] at h ⊢
    split at h
    · exact some_same h
    · exact some_same h
    · cases h
  | build t ps =>
    simp only [denOp] at h ⊢
    split at h
    · split at h
      · split at h
        · exact some_same h
        · cases h
      · split at h
        · split at h
          · exact some_same h
          · cases h
        · cases h
      · cases h
    · cases h
  | buildSlice t n ps =>
    simp only [denOp] at h ⊢
    split at h
    · split at h
      · split at h
        · rename_i hb
          split at h
          · rename_i cs hcs
            rw [if_pos hb]
            exact some_same h
          · cases h
        · cases h
      · cases h
    · cases h
  | nilCheck x =>
    simp only [denOp] at h ⊢
    split at h <;> first | exact some_same h | cases h
  | binOp op t x y yt=>simp only [denOp] at h ⊢; exact withH_same h
  | unOp op t x=>simp only [denOp] at h ⊢; exact withH_same h
  | makeInterface t x =>
    simp only [denOp] at h ⊢
    split at h
    · split at h
      · cases h
      · exact some_same h
    · cases h
  | makeFunc fn first cap =>
    cases fn <;> simp only [denOp,reduceCtorEq] at h ⊢
    exact some_same h
  | fieldAddr t x i =>
    simp only [denOp] at h ⊢
    split at h
    · split at h
      · split at h
        · cases h
        · exact withH_same h
      · cases h
    · cases h
  | field t x i =>
    simp only [denOp] at h ⊢
    split at h
    · split at h
      · split at h
        · rename_i ha
          split at h
          · rename_i hl
            rw [if_pos ha,if_pos hl]
            exact some_same h
          · cases h
        · rename_i ha
          rw [if_neg ha]
          exact withH_same h
      · cases h
    · cases h
  | indexAddr t x i =>
    simp only [denOp] at h ⊢
    split at h
    · exact withH_same h
    · cases h
  | index t x i =>
    simp only [denOp] at h ⊢
    split at h
    · exact withH_same h
    · cases h
  | typeAssert x xt t ok=>simp only [denOp] at h ⊢; exact withH_same h
  | extract x i =>
    simp only [denOp] at h ⊢
    split at h
    · exact withH_same h
    · cases h
  | _=>simp [denOp] at h
theorem denOp_reads {S:Sg} {call:Calling} {e:Tr} {H H':Heap} {op:Op} {v:AVal} (h:denOp S call true e H op=some (v,H')) (h2:readOp op=true):H'=H:=by
  cases op with
  | load t a =>
    simp only [denOp] at h
    split at h
    · exact (withH_some h).2
    · cases h
  | lookup=>simp only [denOp] at h; exact (withH_some h).2
  | convert=>simp only [denOp] at h; exact (withH_some h).2
  | slice=>simp only [denOp] at h; exact (withH_some h).2
  | call c =>
    cases hk:c.callee with
    | value f=>simp [readOp,hk] at h2
    | invoke r m=>simp [readOp,hk] at h2
    | builtin b =>
      cases b <;> simp only [readOp,hk,reduceCtorEq] at h2
      simp only [denOp,hk] at h
      split at h <;> first | exact (withH_some h).2 | cases h | (rename_i hh _ _; cases hh) | (rename_i hh; cases hh)
  | _=>simp [readOp] at h2
theorem denOp_congr {S:Sg} {call:Calling} {d:Bool} {e1 e2:Tr} {H:Heap} {op:Op} (h:∀ x∈op.operands,opd S e1 x=opd S e2 x):denOp S call d e1 H op=denOp S call d e2 H op:=by
  have lst:∀ (xs:Array Operand),(∀ x∈xs,opd S e1 x=opd S e2 x)→xs.toList.map (opd S e1)=xs.toList.map (opd S e2):=by
    intro xs hx
    exact List.map_congr_left fun x hm=>hx x (by simpa using hm)
  have prt:∀ (ps:Array (Nat×Operand)),(∀ p∈ps,opd S e1 p.2=opd S e2 p.2)→(ps.toList.map fun p=>(p.1,opd S e1 p.2))=(ps.toList.map fun p=>(p.1,opd S e2 p.2)):=by
    intro ps hx
    exact List.map_congr_left fun p hm=>by rw [hx p (by simpa using hm)]
  have opt:∀ (x:Option Operand),(∀ y∈x.toArray,opd S e1 y=opd S e2 y)→x.map (opd S e1)=x.map (opd S e2):=by
    intro x hx
    cases x with
    | none=>rfl
    | some y=>simp only [Option.map_some]; rw [hx y (by simp)]
  cases op <;> simp only [Op.operands,Array.mem_append,List.mem_toArray,List.mem_map] at h <;> simp only [denOp]
  case move x=>rw [h x (by simp)]
  case assign x=>rw [h x (by simp)]
  case pick p x y=>rw [h p (by simp),h x (by simp),h y (by simp)]
  case box t x=>rw [h x (by simp)]
  case build t ps=>rw [prt ps fun p hp=>h p.2 ⟨p,by simpa using hp,rfl⟩]
  case buildSlice t n ps=>rw [prt ps fun p hp=>h p.2 ⟨p,by simpa using hp,rfl⟩]
  case load t x=>rw [h x (by simp)]
  case store t x y=>rw [h x (by simp),h y (by simp)]
  case nilCheck x=>rw [h x (by simp)]
  case binOp op t x y yt=>rw [h x (by simp),h y (by simp)]
  case unOp op t x=>rw [h x (by simp)]
  case convert s d x=>rw [h x (by simp)]
  case makeInterface t x=>rw [h x (by simp)]
  case makeFunc fn first cap =>
    cases fn <;> simp only [denOp]
    rw [lst first fun x hx=>h x (.inl hx),lst cap fun x hx=>h x (.inr hx)]
  case makeMap t r =>
    cases r with
    | none=>rfl
    | some r=>simp only; rw [h r (by simp)]
  case makeSlice t l c=>rw [h l (by simp),h c (by simp)]
  case slice t x lo hi mx =>
    rw [h x (by simp),opt lo fun y hy=>h y (by simp [hy]),opt hi fun y hy=>h y (by simp [hy]),opt mx fun y hy=>h y (by simp [hy])]
  case fieldAddr t x i=>rw [h x (by simp)]
  case field t x i=>rw [h x (by simp)]
  case indexAddr t x i=>rw [h x (by simp),h i (by simp)]
  case index t x i=>rw [h x (by simp),h i (by simp)]
  case lookup t x i ok=>rw [h x (by simp),h i (by simp)]
  case mapUpdate t m k x=>rw [h m (by simp),h k (by simp),h x (by simp)]
  case mapEntry t m k=>rw [h m (by simp),h k (by simp)]
  case entryStore t m s x=>rw [h m (by simp),h s (by simp),h x (by simp)]
  case insert t m k x=>rw [h m (by simp),h k (by simp),h x (by simp)]
  case range t x=>rw [h x (by simp)]
  case next it st=>cases st <;> simp only [denOp]; rw [h it (by simp)]
  case typeAssert x xt t ok=>rw [h x (by simp)]
  case extract x i=>rw [h x (by simp)]
  case call c =>
    cases hk:c.callee with
    | value f =>
      simp only
      rw [h f (by simp [Call.operands,hk]),lst c.args fun x hx=>h x (by simp [Call.operands,hx])]
    | invoke r m =>
      simp only
      rw [h r (by simp [Call.operands,hk]),lst c.args fun x hx=>h x (by simp [Call.operands,hx])]
    | builtin b =>
      simp only
      rw [lst c.args fun x hx=>h x (by simp [Call.operands,hx])]
end Go.AM
namespace Go.AM
variable {P:Program}
structure En where
  o:Oper
  e:Tr
  G:Heap
  w:Bool
  v:AVal
  G':Heap
def slotsOf (S:Sg):List Oper→Option Heap
  | []=>some []
  | o :: rest=>match o.op with
    | .alloc t=>match S.ty t,slotsOf S rest with
      | some ti,some r=>some (.cells ti.zero t :: r)
      | _,_=>none
    | _=>slotsOf S rest
def traceD (S:Sg) (call:Calling) (n:Nat) (ops:Array Oper):List Oper→Nat→Tr→Heap→Option (List En×Tr×Heap)
  | [],_,e,H=>some ([],e,H)
  | o :: rest,k,e,H =>
    match wantedA ops e o with
    | none=>none
    | some false=>match isAlloc o.op with
      | true=>none
      | false=>match putA n e o.dst undefA with
      | none=>none
      | some e'=>match traceD S call n ops rest k e' H with
        | some (es,e2,H2)=>some (⟨o,e,H,false,undefA,H⟩ :: es,e2,H2)
        | none=>none
    | some true=>match isAlloc o.op with
      | true=>match putA n e o.dst (.ptr k 0) with
        | none=>none
        | some e'=>match traceD S call n ops rest (k + 1) e' H with
          | some (es,e2,H2)=>some (⟨o,e,H,true,.ptr k 0,H⟩ :: es,e2,H2)
          | none=>none
      | false=>match opF o.op S call true e H with
        | none=>none
        | some (v,H')=>force S.eager v fun v=>match putA n e o.dst v with
          | none=>none
          | some e'=>match traceD S call n ops rest k e' H' with
            | some (es,e2,H2)=>some (⟨o,e,H,true,v,H'⟩ :: es,e2,H2)
            | none=>none
def okS (S:Sg) (ops:Array Oper) (m:List Nat):Bool :=
  let l:=ops.toList.zipIdx
  (l.all fun x=>x.1.after.toList.all fun e=>!Region.binds .any e || decide (e.on < x.2)) &&
  (l.all fun x=>l.all fun y=>(match x.1.dst,y.1.dst with | some d,some d'=>d != d' || x.2 == y.2 | _,_=>true)) &&
  (l.all fun x=>(Oper.looksAt ops x.1).all fun t=>l.all fun y=>y.1.dst != some t || (x.2 != y.2 && (bit m x.2 y.2 || bit m y.2 x.2))) &&
  (l.all fun x=>l.all fun y=>!(effOp S x.1.op && effOp S y.1.op && decide (y.2 < x.2)) || bit m x.2 y.2) &&
  (l.all fun x=>!isAlloc x.1.op || x.1.guard.isNone)
def quietE (S:Sg) (x:En):Bool :=
  match x.o.op with
  | .call c=>match c.callee with
    | .value f=>match opd S x.e f with
      | .fn g _ _=>S.quiet g
      | _=>false
    | _=>false
  | _=>false
def again (S:Sg) (call:Calling) (x:En) (G:Heap):Bool :=
  match opF x.o.op S call true x.e G with
  | some (v,_)=>beqA 9 v x.v
  | none=>false
def pairOK (S:Sg) (call:Calling) (m:List Nat) (i:Nat) (x:En) (j:Nat) (y:En):Bool :=
  (if readOp x.o.op && x.w && effOp S y.o.op && y.w && !quietE S y && !bit m j i then again S call x y.G' else true) &&
  (if effOp S x.o.op && x.w && !quietE S x && readOp y.o.op && y.w && !bit m j i then again S call y x.G else true)
def checkR (S:Sg) (call:Calling) (m:List Nat) (i:Nat) (x:En):Nat→List En→Bool
  | _,[]=>true
  | j,y :: r=>pairOK S call m i x j y && checkR S call m i x (j + 1) r
def checkT (S:Sg) (call:Calling) (m:List Nat):Nat→List En→Bool
  | _,[]=>true
  | i,x :: rest=>checkR S call m i x (i + 1) rest && checkT S call m (i + 1) rest
def denDraw (S:Sg):Drawing:=fun call n ops e H =>
  match slotsOf S ops.toList with
  | none=>none
  | some sl=>match traceD S call n ops ops.toList H.length e (H ++ sl) with
    | none=>none
    | some (es,e',H')=>match okS S ops (masks ops.toList []) && checkT S call (masks ops.toList []) 0 es with
      | true=>some (e',H')
      | false=>none
structure OkS (S:Sg) (ops:Array Oper) (m:List Nat):Prop where
  on_lt:∀ (i:Nat) (o:Oper),ops[i]?=some o→∀ e∈o.after,Region.binds .any e=true→e.on < i
  uniq:∀ (i j:Nat) (o p:Oper) (d:Nat),ops[i]?=some o→ops[j]?=some p→o.dst=some d→p.dst=some d→i=j
  rw':∀ (i:Nat) (o:Oper),ops[i]?=some o→∀ t∈Oper.looksAt ops o,∀ (j:Nat) (p:Oper),ops[j]?=some p→p.dst=some t→i≠j∧(bit m i j=true∨bit m j i=true)
  chain:∀ (i j:Nat) (o p:Oper),ops[i]?=some o→ops[j]?=some p→effOp S o.op=true→effOp S p.op=true→j < i→bit m i j=true
  noG:∀ (i:Nat) (o:Oper),ops[i]?=some o→isAlloc o.op=true→o.guard=none
theorem okS_ok {S:Sg} {ops:Array Oper} {m:List Nat} (h:okS S ops m=true):OkS S ops m:=by
  unfold okS at h
  simp only [Bool.and_eq_true,List.all_eq_true] at h
  obtain ⟨⟨⟨⟨h1,h2⟩,h3⟩,h4⟩,h5⟩:=h
  have mem:∀ i o,ops[i]?=some o→(o,i)∈ops.toList.zipIdx:=fun i o ho=>by
    rw [List.mem_zipIdx_iff_getElem?,Array.getElem?_toList]; exact ho
  refine ⟨fun i o ho e he hb=>?_,fun i j o p d ho hp hd hd'=>?_,fun i o ho t ht j p hp hd=>?_,fun i j o p ho hp h6 h7 hlt=>?_,fun i o ho ha=>?_⟩
  · have:=h1 _ (mem i o ho) e (by simpa using he)
    simpa [hb] using this
  · have:=h2 _ (mem i o ho) _ (mem j p hp)
    simp only [hd,hd'] at this
    simpa using this
  · have:=h3 _ (mem i o ho) t ht _ (mem j p hp)
    simpa [hd] using this
  · have:=h4 _ (mem i o ho) _ (mem j p hp)
    simpa [h6,h7,hlt] using this
  · have:=h5 _ (mem i o ho)
    simpa [ha] using this
def eAt (es:List En) (e2:Tr) (p:Nat):Tr:=match es[p]? with | some x=>x.e | none=>e2
def hAt (es:List En) (H2:Heap) (p:Nat):Heap:=match es[p]? with | some x=>x.G | none=>H2
def cnt (ops:List Oper) (p:Nat):Nat:=(ops.take p).countP fun o=>isAlloc o.op
structure EnOK (S:Sg) (call:Calling) (n:Nat) (ops:Array Oper) (slot:Nat) (x:En) (e':Tr):Prop where
  want:wantedA ops x.e x.o=some x.w
  skip:x.w=false→x.v=undefA∧x.G'=x.G
  alloc:x.w=true→isAlloc x.o.op=true→x.v=.ptr slot 0∧x.G'=x.G
  den:x.w=true→isAlloc x.o.op=false→denOp S call true x.e x.G x.o.op=some (x.v,x.G')
  put:putA n x.e x.o.dst x.v=some e'
theorem trace_ok {S:Sg} {call:Calling} {n:Nat} {ops:Array Oper}:∀ (rest:List Oper) (k:Nat) (e:Tr) (H:Heap) (es:List En) (e2:Tr) (H2:Heap),traceD S call n ops rest k e H=some (es,e2,H2) →
    es.length=rest.length∧eAt es e2 0=e∧hAt es H2 0=H ∧
    ∀ p x,es[p]?=some x→rest[p]?=some x.o∧EnOK S call n ops (k + cnt rest p) x (eAt es e2 (p + 1))∧x.G'=hAt es H2 (p + 1)
  | [],k,e,H,es,e2,H2,h=>by
    simp only [traceD,Option.some.injEq,Prod.mk.injEq] at h
    obtain ⟨rfl,rfl,rfl⟩:=h
    exact ⟨rfl,rfl,rfl,fun p x hx=>by simp at hx⟩
  | o :: rest,k,e,H,es,e2,H2,h=>by
    have go:∀ (y:En) (k':Nat) (e':Tr) (H':Heap) (es':List En),traceD S call n ops rest k' e' H'=some (es',e2,H2)→es=y :: es'→y.o=o→y.e=e→y.G=H→y.G'=H'→EnOK S call n ops k y e' →
        (∀ p,k' + cnt rest p=k + cnt (o :: rest) (p + 1)) →
        es.length=(o :: rest).length∧eAt es e2 0=e∧hAt es H2 0=H ∧
        ∀ p x,es[p]?=some x→(o :: rest)[p]?=some x.o∧EnOK S call n ops (k + cnt (o :: rest) p) x (eAt es e2 (p + 1))∧x.G'=hAt es H2 (p + 1):=by
      intro y k' e' H' es' ht he ho hye hyG hyG' hy hk
      obtain ⟨h1,h2,h3,h4⟩:=trace_ok rest k' e' H' es' e2 H2 ht
      subst he
      refine ⟨by simp [h1],by simp [eAt,hye],by simp [hAt,hyG],fun p x hx=>?_⟩
      cases p with
      | zero =>
        simp at hx; subst hx
        refine ⟨by simp [ho],?_,?_⟩
        · have e1:eAt (y :: es') e2 (0 + 1)=e':=by rw [← h2]; simp [eAt]
          have e2:k + cnt (o :: rest) 0=k:=by simp [cnt]
          rw [e1,e2]; exact hy
        · have e1:hAt (y :: es') H2 (0 + 1)=H':=by rw [← h3]; simp [hAt]
          rw [e1]; exact hyG'
      | succ p =>
        obtain ⟨h5,h6,h7⟩:=h4 p x (by simpa using hx)
        refine ⟨by simpa using h5,?_,?_⟩
        · have e1:eAt (y :: es') e2 (p + 1 + 1)=eAt es' e2 (p + 1):=by simp [eAt]
          rw [e1,← hk p]; exact h6
        · have e1:hAt (y :: es') H2 (p + 1 + 1)=hAt es' H2 (p + 1):=by simp [hAt]
          rw [e1]; exact h7
    unfold traceD at h
    split at h
    · cases h
    · rename_i hw
      split at h
      · cases h
      · rename_i ha
        split at h
        · cases h
        · rename_i e' hp
          split at h
          · rename_i es' e2' H2' ht
            simp only [Option.some.injEq,Prod.mk.injEq] at h
            obtain ⟨rfl,rfl,rfl⟩:=h
            exact go _ k e' H es' ht rfl rfl rfl rfl rfl ⟨hw,fun _=>⟨rfl,rfl⟩,fun h=>(by cases h),fun h=>(by cases h),hp⟩ (fun p=>by simp [cnt,ha])
          · cases h
    · rename_i hw
      split at h
      · rename_i ha
        split at h
        · cases h
        · rename_i e' hp
          split at h
          · rename_i es' e2' H2' ht
            simp only [Option.some.injEq,Prod.mk.injEq] at h
            obtain ⟨rfl,rfl,rfl⟩:=h
            exact go _ (k + 1) e' H es' ht rfl rfl rfl rfl rfl ⟨hw,fun h=>(by cases h),fun _ _=>⟨rfl,rfl⟩,fun _ h=>(by rw [ha] at h; cases h),hp⟩ (fun p=>by simp [cnt,ha]; omega)
          · cases h
      · rename_i ha
        split at h
        · cases h
        · rename_i v H' hd
          rw [opF_eq] at hd
          rw [force_eq] at h
          split at h
          · cases h
          · rename_i e' hp
            split at h
            · rename_i es' e2' H2' ht
              simp only [Option.some.injEq,Prod.mk.injEq] at h
              obtain ⟨rfl,rfl,rfl⟩:=h
              exact go _ k e' H' es' ht rfl rfl rfl rfl rfl ⟨hw,fun h=>(by cases h),fun _ h=>(by rw [ha] at h; cases h),fun _ _=>hd,hp⟩ (fun p=>by simp [cnt,ha])
            · cases h
theorem slots_ok {S:Sg}:∀ (ops:List Oper) (sl:Heap),slotsOf S ops=some sl→∀ p o t,ops[p]?=some o→o.op=.alloc t→∃ ti,S.ty t=some ti∧sl[cnt ops p]?=some (.cells ti.zero t)
  | [],sl,h,p,o,t,hp,_=>by simp at hp
  | q :: ops,sl,h,p,o,t,hp,ho=>by
    unfold slotsOf at h
    split at h
    · rename_i t' hq
      split at h
      · rename_i ti r hti hr
        cases h
        cases p with
        | zero =>
          simp at hp; subst hp
          rw [hq] at ho; cases ho
          exact ⟨ti,hti,by simp [cnt]⟩
        | succ p =>
          obtain ⟨ti',h1,h2⟩:=slots_ok ops r hr p o t (by simpa using hp) ho
          refine ⟨ti',h1,?_⟩
          have:cnt (q :: ops) (p + 1)=cnt ops p + 1:=by simp [cnt,hq,isAlloc]
          rw [this]; simpa using h2
      · cases h
    · rename_i hne
      cases p with
      | zero =>
        simp at hp; subst hp
        exact absurd ho (hne t)
      | succ p =>
        obtain ⟨ti',h1,h2⟩:=slots_ok ops sl h p o t (by simpa using hp) ho
        refine ⟨ti',h1,?_⟩
        have ha:isAlloc q.op=false:=by
          cases hqq:q.op <;> simp only [isAlloc]
          exact absurd hqq (hne _)
        have:cnt (q :: ops) (p + 1)=cnt ops p:=by simp [cnt,ha]
        rw [this]; exact h2
theorem checkR_ok {S:Sg} {call:Calling} {m:List Nat} {i:Nat} {x:En}:∀ (r:List En) (j:Nat),checkR S call m i x j r=true→∀ k y,r[k]?=some y→pairOK S call m i x (j + k) y=true
  | [],j,h,k,y,hy=>by simp at hy
  | z :: r,j,h,k,y,hy=>by
    simp only [checkR,Bool.and_eq_true] at h
    cases k with
    | zero=>simp at hy; subst hy; exact h.1
    | succ k =>
      have:=checkR_ok r (j + 1) h.2 k y (by simpa using hy)
      rwa [show j + (k + 1)=j + 1 + k by omega]
theorem checkT_ok {S:Sg} {call:Calling} {m:List Nat}:∀ (es:List En) (i:Nat),checkT S call m i es=true→∀ p q x y,p < q→es[p]?=some x→es[q]?=some y→pairOK S call m (i + p) x (i + q) y=true
  | [],i,h,p,q,x,y,_,hx,_=>by simp at hx
  | z :: es,i,h,p,q,x,y,hpq,hx,hy=>by
    simp only [checkT,Bool.and_eq_true] at h
    obtain ⟨q,rfl⟩:∃ q',q=q' + 1:=⟨q - 1,by omega⟩
    have hy':es[q]?=some y:=by simpa using hy
    cases p with
    | zero =>
      simp at hx; subst hx
      have:=checkR_ok es (i + 1) h.1 q y hy'
      rwa [show i + (q + 1)=i + 1 + q by omega]
    | succ p =>
      have:=checkT_ok es (i + 1) h.2 p q x y (by omega) (by simpa using hx) hy'
      rwa [show i + (p + 1)=i + 1 + p by omega,show i + (q + 1)=i + 1 + q by omega]
end Go.AM
namespace Go.AM
variable {P:Program}
def chg (S:Sg) (x:En):Bool:=effOp S x.o.op && x.w && !quietE S x
structure TD (S:Sg) (call:Calling) (n:Nat) (ops:Array Oper) (m:List Nat) (e0:Tr) (k:Nat) (es:List En) (e2:Tr) (H2:Heap):Prop where
  len:es.length=ops.size
  at0:eAt es e2 0=e0
  ent:∀ (p:Nat) (x:En),es[p]?=some x→ops[p]?=some x.o∧EnOK S call n ops (k + cnt ops.toList p) x (eAt es e2 (p + 1))∧x.G'=hAt es H2 (p + 1)
  ok:OkS S ops m
  pair:∀ (i j:Nat) (x y:En),i < j→es[i]?=some x→es[j]?=some y→pairOK S call m i x j y=true
theorem readOp_eff {S:Sg} {op:Op} (h:readOp op=true):effOp S op=false:=by
  cases op <;> simp only [readOp,effOp,reduceCtorEq] at h ⊢
  split at h <;> simp_all
theorem quietE_den {S:Sg} {call:Calling} (hq:CallQ S call) {x:En} (h:quietE S x=true) {v:AVal} {H H':Heap} (hd:denOp S call true x.e H x.o.op=some (v,H')):H'=H:=by
  unfold quietE at h
  split at h
  · rename_i c hop
    split at h
    · rename_i f hc
      split at h
      · rename_i g fi ca hg
        rw [hop] at hd
        simp only [denOp,hc,hg] at hd
        exact hq g _ _ _ _ h hd
      · cases h
    · cases h
  · cases h
theorem TD.keep {S:Sg} {call:Calling} {n:Nat} {ops:Array Oper} {m:List Nat} {e0:Tr} {k:Nat} {es:List En} {e2:Tr} {H2:Heap} (T:TD S call n ops m e0 k es e2 H2) (hq:CallQ S call) {p:Nat} {x:En} (hx:es[p]?=some x) (hc:chg S x=false):x.G'=x.G:=by
  obtain ⟨_,K,_⟩:=T.ent p x hx
  cases hw:x.w with
  | false=>exact (K.skip hw).2
  | true =>
    cases ha:isAlloc x.o.op with
    | true=>exact (K.alloc hw ha).2
    | false =>
      have hd:=K.den hw ha
      cases he:effOp S x.o.op with
      | true =>
        simp only [chg,he,hw,Bool.true_and,Bool.not_eq_false'] at hc
        exact quietE_den hq hc hd
      | false =>
        cases hr:readOp x.o.op with
        | true=>exact denOp_reads hd hr
        | false=>exact (denOp_still (H2:=x.G) hd he hr ha).1
theorem hAt_some {es:List En} {H2:Heap} {p:Nat} {x:En} (hx:es[p]?=some x):hAt es H2 p=x.G:=by simp [hAt,hx]
theorem eAt_some {es:List En} {e2:Tr} {p:Nat} {x:En} (hx:es[p]?=some x):eAt es e2 p=x.e:=by simp [eAt,hx]
theorem TD.one {S:Sg} {call:Calling} {n:Nat} {ops:Array Oper} {m:List Nat} {e0:Tr} {k:Nat} {es:List En} {e2:Tr} {H2:Heap} (T:TD S call n ops m e0 k es e2 H2) (hq:CallQ S call) (p:Nat)
    (h:∀ x,es[p]?=some x→chg S x=false):hAt es H2 (p + 1)=hAt es H2 p:=by
  cases hx:es[p]? with
  | some x=>rw [← (T.ent p x hx).2.2,T.keep hq hx (h x hx),hAt_some hx]
  | none =>
    have h1:es[p + 1]?=none:=by rw [List.getElem?_eq_none_iff] at hx ⊢; omega
    simp [hAt,hx,h1]
theorem TD.first {S:Sg} {call:Calling} {n:Nat} {ops:Array Oper} {m:List Nat} {e0:Tr} {k:Nat} {es:List En} {e2:Tr} {H2:Heap} (T:TD S call n ops m e0 k es e2 H2) (hq:CallQ S call):∀ (d q:Nat),
    hAt es H2 (q + d)=hAt es H2 q∨∃ (j:Nat) (x:En),q≤j∧j < q + d∧es[j]?=some x∧chg S x=true∧hAt es H2 q=x.G
  | 0,q=>.inl rfl
  | d + 1,q=>by
    by_cases h:∃ x,es[q]?=some x∧chg S x=true
    · obtain ⟨x,hx,hc⟩:=h
      exact .inr ⟨q,x,Nat.le_refl _,by omega,hx,hc,hAt_some hx⟩
    · have h1:=T.one hq q fun x hx=>by
        cases hc:chg S x with
        | false=>rfl
        | true=>exact absurd ⟨x,hx,hc⟩ h
      rcases T.first hq d (q + 1) with h2 | ⟨j,x,h2,h3,h4,h5,h6⟩
      · refine .inl ?_
        rw [show q + (d + 1)=q + 1 + d by omega,h2,h1]
      · exact .inr ⟨j,x,by omega,by omega,h4,h5,by rw [← h1,h6]⟩
theorem TD.last {S:Sg} {call:Calling} {n:Nat} {ops:Array Oper} {m:List Nat} {e0:Tr} {k:Nat} {es:List En} {e2:Tr} {H2:Heap} (T:TD S call n ops m e0 k es e2 H2) (hq:CallQ S call) (i:Nat):∀ (d:Nat),
    hAt es H2 (i + d)=hAt es H2 i∨∃ (j:Nat) (x:En),i≤j∧j < i + d∧es[j]?=some x∧chg S x=true∧hAt es H2 (i + d)=x.G'
  | 0=>.inl rfl
  | d + 1=>by
    by_cases h:∃ x,es[i + d]?=some x∧chg S x=true
    · obtain ⟨x,hx,hc⟩:=h
      exact .inr ⟨i + d,x,by omega,by omega,hx,hc,(T.ent _ x hx).2.2.symm⟩
    · have h1:=T.one hq (i + d) fun x hx=>by
        cases hc:chg S x with
        | false=>rfl
        | true=>exact absurd ⟨x,hx,hc⟩ h
      rcases T.last hq i d with h2 | ⟨j,x,h2,h3,h4,h5,h6⟩
      · exact .inl (by rw [show i + (d + 1)=i + d + 1 by omega,h1,h2])
      · exact .inr ⟨j,x,h2,by omega,h4,h5,by rw [show i + (d + 1)=i + d + 1 by omega,h1,h6]⟩
theorem putA_get {n:Nat} {e e':Tr} {dst:Option Tmp} {v:AVal} (h:putA n e dst v=some e') :
    (∀ d,dst=some d→d < n∧e'.get d=v)∧∀ t,dst≠some t→e'.get t=e.get t:=by
  unfold putA at h
  cases dst with
  | none=>cases h; exact ⟨fun d h=>(by cases h),fun t _=>rfl⟩
  | some d =>
    simp only at h
    split at h
    · rename_i hd
      cases h
      refine ⟨fun d' h=>?_,fun t ht=>?_⟩
      · cases h; exact ⟨hd,by rw [Tr.get_set,if_pos rfl]⟩
      · rw [Tr.get_set,if_neg (fun e=>ht (by rw [e]))]
    · cases h
theorem putA_of {n:Nat} {e e1 e':Tr} {dst:Option Tmp} {v:AVal} (h:putA n e dst v=some e'):∃ e2,putA n e1 dst v=some e2:=by
  unfold putA at h ⊢
  cases dst with
  | none=>exact ⟨_,rfl⟩
  | some d =>
    simp only at h ⊢
    split at h
    · rename_i hd; exact ⟨_,by rw [if_pos hd]⟩
    · cases h
theorem TD.env {S:Sg} {call:Calling} {n:Nat} {ops:Array Oper} {m:List Nat} {e0:Tr} {k:Nat} {es:List En} {e2:Tr} {H2:Heap} (T:TD S call n ops m e0 k es e2 H2):∀ p,p≤ops.size →
    (∀ (j:Nat) (x:En) (t:Nat),j < p→es[j]?=some x→x.o.dst=some t→(eAt es e2 p).get t=x.v) ∧
    (∀ t:Nat,(∀ (j:Nat) (x:En),j < p→es[j]?=some x→x.o.dst≠some t)→(eAt es e2 p).get t=e0.get t)
  | 0,_=>⟨fun j x t h=>absurd h (Nat.not_lt_zero _),fun t _=>by rw [T.at0]⟩
  | p + 1,hp=>by
    obtain ⟨h1,h2⟩:=T.env p (by omega)
    have hlt:p < es.length:=by rw [T.len]; omega
    have hx:es[p]?=some es[p]:=List.getElem?_eq_getElem hlt
    obtain ⟨hop,K,_⟩:=T.ent p _ hx
    have hpe:eAt es e2 p=es[p].e:=eAt_some hx
    obtain ⟨g1,g2⟩:=putA_get K.put
    refine ⟨fun j y t hj hy hd=>?_,fun t ht=>?_⟩
    · by_cases hjp:j=p
      · subst hjp
        rw [hx] at hy; cases hy
        exact (g1 t hd).2
      · have hne:es[p].o.dst≠some t:=fun h=>hjp (T.ok.uniq j p _ _ t (T.ent j y hy).1 hop hd h)
        rw [g2 t hne,← hpe]
        exact h1 j y t (by omega) hy hd
    · rw [g2 t (ht p _ (by omega) hx),← hpe]
      exact h2 t fun j x hj hx=>ht j x (by omega) hx
theorem materialize {c:Ctx} {w:World} {H:Heap} (r:Rel c w H) (arr:Array Value) (e:TypeId) (cs:List AVal) (ty:TypeId) {id:Nat} (hid:H[id]?=some (.cells cs ty)) (hno:c.ι id=none)
    (hs:cs.length≤arr.size) (hv:∀ (j:Nat) (a:AVal) (v:Value),cs[j]?=some a→arr[j]?=some v→VR c w a v) :
    Rel (c.bind id (w.heap.size,0)) (w.alloc (.cells arr e)) H∧Le c w (c.bind id (w.heap.size,0)) (w.alloc (.cells arr e)) ∧
    (∀ (c0:Ctx) (w0:World) (H0:Heap),Post c0 w0 H0 c w H→H0.length≤id→Post c0 w0 H0 (c.bind id (w.heap.size,0)) (w.alloc (.cells arr e)) H):=by
  have p1:=Post.alloc c w H (.cells arr e)
  have fresh:∀ i p,c.ι i=some p→i≠id:=fun i p h e=>by subst e; rw [hno] at h; cases h
  have l:Le c w (c.bind id (w.heap.size,0)) (w.alloc (.cells arr e)):=by
    refine ⟨fun i p h=>?_,fun _ h=>h,fun b h=>heap_alloc_lt w _ (r.fr b h),p1.siz⟩
    simp [Ctx.bind,fresh i p h,h]
  have hlt:id < H.length:=(List.getElem?_eq_some_iff.1 hid).1
  have bnd:∀ i b off,(c.bind id (w.heap.size,0)).ι i=some (b,off)→(i=id∧b=w.heap.size∧off=0)∨(i≠id∧c.ι i=some (b,off)):=by
    intro i b off h
    simp only [Ctx.bind] at h
    split at h
    · rename_i hid; cases h; exact .inl ⟨hid,rfl,rfl⟩
    · rename_i hne; exact .inr ⟨hne,h⟩
  refine ⟨⟨?_,?_,?_,?_,?_⟩,l,fun c0 w0 H0 p hge=>?_⟩
  · intro i y b off h hi
    rcases bnd i b off hi with ⟨rfl,rfl,rfl⟩ | ⟨_,hi⟩
    · rw [hid] at h; cases h
      exact ⟨arr,e,heap_alloc_at w _,by omega,fun j a v ha hv'=>(hv j a v ha (by simpa using hv')).mono l⟩
    · exact (r.obj i y b off h hi).mono l (heap_alloc_lt w _ (r.dom i b off hi).2)
  · intro i j b o1 o2 hi hj h1 h2
    rcases bnd i b o1 h1 with ⟨e1,e2,e3⟩ | ⟨_,k1⟩ <;> rcases bnd j _ o2 h2 with ⟨f1,f2,f3⟩ | ⟨_,k2⟩
    · rw [e1,f1]
    · exact absurd (r.dom j _ o2 k2).2 (by omega)
    · exact absurd (r.dom i _ o1 k1).2 (by omega)
    · exact r.inj i j b o1 o2 hi hj k1 k2
  · intro i b off h
    rcases bnd i b off h with ⟨rfl,rfl,rfl⟩ | ⟨_,h⟩
    · exact ⟨hlt,by simp⟩
    · have:=r.dom i b off h; exact ⟨this.1,Nat.lt_of_lt_of_le this.2 (by simp)⟩
  · intro i b off hl h hF
    rcases bnd i b off h with ⟨rfl,rfl,rfl⟩ | ⟨_,h⟩
    · exact absurd (r.fr _ hF) (by omega)
    · exact r.sep i b off hl h hF
  · intro b h; exact Nat.lt_of_lt_of_le (r.fr b h) (by simp)
  · have hsz:=p.size
    refine ⟨fun i q h=>l.ι i q (p.ι i q h),fun i b off h=>?_,p.F,p.Fnew,fun b hb hn=>?_,p.unm,p.dead,p.len,Nat.le_trans hsz p1.size,fun b ar en fz h=>?_,p.os,p.tape,p.output⟩
    · rcases bnd i b off h with ⟨rfl,rfl,rfl⟩ | ⟨_,h⟩
      · exact .inr ⟨hge,.inl hsz⟩
      · exact p.new i b off h
    · rw [heap_alloc_lt w _ (Nat.lt_of_lt_of_le hb hsz)]
      exact p.frame b hb hn
    · obtain ⟨a1,e1,f1,h1,h2⟩:=p.siz b ar en fz h
      obtain ⟨a2,e2,f2,h3,h4⟩:=p1.siz b a1 e1 f1 h1
      exact ⟨a2,e2,f2,h3,by omega⟩
def On (listed:Array Bool) (i:Nat):Prop:=listed.getD i false=true
structure Inv (S:Sg) (n:Nat) (ops:Array Oper) (e0:Tr) (k:Nat) (es:List En) (H2:Heap) (c0:Ctx) (w0:World) (H0:Heap) (q:Nat) (e:Tr) (listed:Array Bool) (c:Ctx) (w:World) (a:Act):Prop where
  size:listed.size=ops.size
  cl:ClosedSet ops (On listed)
  eff:∀ (j:Nat) (x:En),es[j]?=some x→effOp S x.o.op=true→(On listed j↔j < q)
  st:St S n c w e (hAt es H2 q) a
  post:Post c0 w0 H0 c w (hAt es H2 q)
  env1:∀ (j:Nat) (x:En) (t:Nat),On listed j→es[j]?=some x→x.o.dst=some t→e.get t=x.v
  env0:∀ t:Nat,(∀ (j:Nat) (x:En),On listed j→es[j]?=some x→x.o.dst≠some t)→e.get t=e0.get t
  slots:∀ (p:Nat) (x:En) (t:TypeId),es[p]?=some x→x.o.op=.alloc t→¬ On listed p →
    c.ι (k + cnt ops.toList p)=none∧∃ ti,S.ty t=some ti∧(hAt es H2 q)[k + cnt ops.toList p]?=some (.cells ti.zero t)
  low:H0.length≤k
theorem On.set {listed:Array Bool} {i j:Nat} (hi:i < listed.size):On (listed.setIfInBounds i true) j↔On listed j∨j=i:=by
  unfold On
  rw [Array.getD_eq_getD_getElem?,Array.getElem?_setIfInBounds]
  by_cases h:i=j
  · subst h; simp [hi]
  · rw [if_neg h,← Array.getD_eq_getD_getElem?]
    exact ⟨.inl,fun h'=>h'.resolve_right (fun e=>h e.symm)⟩
structure Turn (ops:Array Oper) (listed:Array Bool) (i:Nat):Prop where
  lt:i < ops.size
  no:¬ On listed i
  pre:∀ o,ops[i]?=some o→∀ e∈o.after,Region.binds .any e=true→On listed e.on
theorem turn_of {ops:Array Oper} {listed:Array Bool} {i:Nat} (hs:listed.size=ops.size) (h:i∈Region.ready .any ops listed):Turn ops listed i:=by
  unfold Region.ready at h
  rw [List.mem_filter,List.mem_range] at h
  obtain ⟨h1,h2⟩:=h
  rw [Bool.and_eq_true] at h2
  obtain ⟨h2,h3⟩:=h2
  refine ⟨h1,fun ho=>?_,fun o ho e he hb=>?_⟩
  · unfold On at ho
    have hl:i < listed.size:=by omega
    simp [Array.getD_eq_getD_getElem?,hl] at h2 ho
    rw [h2] at ho; cases ho
  · rw [ho] at h3
    simp only [Option.map_some,Option.getD_some] at h3
    have:=(Array.all_eq_true'.1 h3) e he
    rw [hb] at this
    simpa [On] using this
theorem ready_of {ops:Array Oper} {listed:Array Bool} {i:Nat} (hs:listed.size=ops.size) (h:Turn ops listed i):i∈Region.ready .any ops listed:=by
  unfold Region.ready
  rw [List.mem_filter,List.mem_range]
  refine ⟨h.lt,?_⟩
  rw [Bool.and_eq_true]
  have hl:i < listed.size:=by have:=h.lt; omega
  refine ⟨?_,?_⟩
  · have:=h.no
    unfold On at this
    simp [Array.getD_eq_getD_getElem?,hl] at this ⊢
    exact this
  · have ho:ops[i]?=some ops[i]:=Array.getElem?_eq_getElem h.lt
    rw [ho]
    simp only [Option.map_some,Option.getD_some]
    refine Array.all_eq_true'.2 fun e he=>?_
    by_cases hb:Region.binds .any e=true
    · have:=h.pre _ ho e he hb
      unfold On at this
      simp [this]
    · simp [hb]
theorem bit_lt {ops:Array Oper} (hlt:∀ (i:Nat) (o:Oper),ops[i]?=some o→∀ e∈o.after,Region.binds .any e=true→e.on < i) {i j:Nat} {o:Oper} (ho:ops[i]?=some o) (h:bit (masks ops.toList []) i j=true):j < i :=
  bit_mem (D:=fun x=>x < i) (fun i' o' ho' hi' e he hb=>Nat.lt_trans (hlt i' o' ho' e he hb) hi') hlt i o ho (fun e he hb=>hlt i o ho e he hb) j h
section
variable {S:Sg} {call:Calling} {n:Nat} {ops:Array Oper} {e0:Tr} {k:Nat} {es:List En} {e2:Tr} {H2:Heap} {c0:Ctx} {w0:World} {H0:Heap} {q:Nat} {e:Tr} {listed:Array Bool} {c:Ctx} {w:World} {a:Act}
theorem Inv.bit_on (T:TD S call n ops (masks ops.toList []) e0 k es e2 H2) (I:Inv S n ops e0 k es H2 c0 w0 H0 q e listed c w a) {i j:Nat} {o:Oper} (ho:ops[i]?=some o) (hp:∀ e∈o.after,Region.binds .any e=true→On listed e.on) (h:bit (masks ops.toList []) i j=true):On listed j :=
  bit_mem I.cl T.ok.on_lt i o ho hp j h
theorem Inv.looks (T:TD S call n ops (masks ops.toList []) e0 k es e2 H2) (I:Inv S n ops e0 k es H2 c0 w0 H0 q e listed c w a) {i:Nat} {x:En} (hx:es[i]?=some x) (ht:Turn ops listed i):∀ t∈Oper.looksAt ops x.o,e.get t=x.e.get t:=by
  intro t hl
  have ho:=(T.ent i x hx).1
  obtain ⟨g1,g2⟩:=T.env i (Nat.le_of_lt ht.lt)
  rw [eAt_some hx] at g1 g2
  by_cases hw:∃ (j:Nat) (y:En),es[j]?=some y∧y.o.dst=some t
  · obtain ⟨j,y,hy,hd⟩:=hw
    have hoj:=(T.ent j y hy).1
    obtain ⟨hne,hb | hb⟩:=T.ok.rw' i x.o ho t hl j y.o hoj hd
    · have hj:On listed j:=I.bit_on T ho (fun e he hb=>ht.pre x.o ho e he hb) hb
      have hlt:j < i:=bit_lt T.ok.on_lt ho hb
      rw [I.env1 j y t hj hy hd,g1 j y t hlt hy hd]
    · have hlt:i < j:=bit_lt T.ok.on_lt hoj hb
      have hj:¬ On listed j:=fun hj=>ht.no (I.bit_on T hoj (fun e he hb=>I.cl j y.o hoj hj e he hb) hb)
      have un:∀ j' y',es[j']?=some y'→y'.o.dst=some t→j'=j:=fun j' y' hy' hd'=>T.ok.uniq j' j _ _ t (T.ent j' y' hy').1 hoj hd' hd
      rw [I.env0 t fun j' y' hj' hy' hd'=>hj (by rw [← un j' y' hy' hd']; exact hj'),g2 t fun j' y' hj' hy' hd'=>by rw [un j' y' hy' hd'] at hj'; omega]
  · rw [I.env0 t fun j y _ hy hd=>hw ⟨j,y,hy,hd⟩,g2 t fun j y _ hy hd=>hw ⟨j,y,hy,hd⟩]
theorem Inv.opds (T:TD S call n ops (masks ops.toList []) e0 k es e2 H2) (I:Inv S n ops e0 k es H2 c0 w0 H0 q e listed c w a) {i:Nat} {x:En} (hx:es[i]?=some x) (ht:Turn ops listed i):∀ y∈x.o.op.operands,opd S e y=opd S x.e y:=by
  intro y hy
  cases y with
  | tmp t =>
    have:t∈Oper.looksAt ops x.o:=by
      unfold Oper.looksAt
      rw [List.mem_append]
      refine .inl (List.mem_filterMap.2 ⟨.tmp t,by simpa using hy,rfl⟩)
    exact I.looks T hx ht t this
  | _=>rfl
theorem Inv.want (T:TD S call n ops (masks ops.toList []) e0 k es e2 H2) (I:Inv S n ops e0 k es H2 c0 w0 H0 q e listed c w a) {i:Nat} {x:En} (hx:es[i]?=some x) (ht:Turn ops listed i):wantedA ops e x.o=some x.w:=by
  rw [← (T.ent i x hx).2.1.want]
  unfold wantedA
  cases hg:x.o.guard with
  | none=>rfl
  | some g =>
    obtain ⟨j,want⟩:=g
    simp only
    cases hd:(ops[j]?).bind (·.dst) with
    | none=>rfl
    | some d =>
      have:d∈Oper.looksAt ops x.o:=by
        unfold Oper.looksAt
        rw [List.mem_append]
        refine .inr ?_
        rw [hg]
        simp [hd]
      simp only [I.looks T hx ht d this]
theorem Inv.still (T:TD S call n ops (masks ops.toList []) e0 k es e2 H2) (hcq:CallQ S call) (I:Inv S n ops e0 k es H2 c0 w0 H0 q e listed c w a) {i:Nat} {x:En} (hx:es[i]?=some x) (ht:Turn ops listed i) (he:effOp S x.o.op=true):q≤i∧hAt es H2 q=x.G:=by
  have hq:q≤i:=by
    have:¬ i < q:=(fun h=>ht.no ((I.eff i x hx he).2 h):¬ i < q)
    omega
  refine ⟨hq,?_⟩
  have ho:=(T.ent i x hx).1
  rcases T.first hcq (i - q) q with h | ⟨j,y,h1,h2,h3,h4,_⟩
  · rw [show q + (i - q)=i by omega] at h
    rw [← h,hAt_some hx]
  · simp only [chg,Bool.and_eq_true] at h4
    have hb:=T.ok.chain i j _ _ ho (T.ent j y h3).1 he h4.1.1 (by omega)
    have:=(I.eff j y h3 h4.1.1).1 (I.bit_on T ho (fun e he hb=>ht.pre x.o ho e he hb) hb)
    omega
theorem Inv.next (T:TD S call n ops (masks ops.toList []) e0 k es e2 H2) (I:Inv S n ops e0 k es H2 c0 w0 H0 q e listed c w a) {i:Nat} {x:En} (hx:es[i]?=some x) (ht:Turn ops listed i)
    {q':Nat} (hq':q'=if effOp S x.o.op then i + 1 else q) {e':Tr} (hput:putA n e x.o.dst x.v=some e') {c':Ctx} {w':World} {a':Act} (st':St S n c' w' e' (hAt es H2 q') a') (p':Post c0 w0 H0 c' w' (hAt es H2 q'))
    (sl':∀ (p:Nat) (y:En) (t:TypeId),es[p]?=some y→y.o.op=.alloc t→p≠i→¬ On listed p →
      c'.ι (k + cnt ops.toList p)=none∧∃ ti,S.ty t=some ti∧(hAt es H2 q')[k + cnt ops.toList p]?=some (.cells ti.zero t)) :
    Inv S n ops e0 k es H2 c0 w0 H0 q' e' (listed.setIfInBounds i true) c' w' a':=by
  have hi:i < listed.size:=by rw [I.size]; exact ht.lt
  have ho:=(T.ent i x hx).1
  obtain ⟨g1,g2⟩:=putA_get hput
  refine ⟨by simp [I.size],?_,?_,st',p',?_,?_,?_,I.low⟩
  · intro j o hoj hj ed hed hb
    rw [On.set hi] at hj ⊢
    rcases hj with hj | rfl
    · exact .inl (I.cl j o hoj hj ed hed hb)
    · exact .inl (ht.pre o hoj ed hed hb)
  · intro j y hy hey
    rw [On.set hi]
    subst hq'
    by_cases hex:effOp S x.o.op=true
    · rw [if_pos hex]
      have h1:¬ i < q:=(fun h=>ht.no ((I.eff i x hx hex).2 h):¬ i < q)
      constructor
      · rintro (h | rfl)
        · have:=(I.eff j y hy hey).1 h; omega
        · omega
      · intro h
        by_cases hji:j=i
        · exact .inr hji
        · have hb:=T.ok.chain i j _ _ ho (T.ent j y hy).1 hex hey (by omega)
          exact .inl (I.bit_on T ho (fun e he hb=>ht.pre x.o ho e he hb) hb)
    · rw [if_neg hex,I.eff j y hy hey]
      constructor
      · rintro (h | rfl)
        · exact h
        · rw [hx] at hy; cases hy; exact absurd hey hex
      · exact .inl
  · intro j y t hj hy hd
    rw [On.set hi] at hj
    by_cases hji:j=i
    · subst hji
      rw [hx] at hy; cases hy
      exact (g1 t hd).2
    · have hne:x.o.dst≠some t:=fun h=>hji (T.ok.uniq j i _ _ t (T.ent j y hy).1 ho hd h)
      rw [g2 t hne]
      exact I.env1 j y t (hj.resolve_right hji) hy hd
  · intro t h
    have hne:x.o.dst≠some t:=h i x ((On.set hi).2 (.inr rfl)) hx
    rw [g2 t hne]
    exact I.env0 t fun j y hj hy=>h j y ((On.set hi).2 (.inl hj)) hy
  · intro p y t hy hop hn
    rw [On.set hi] at hn
    exact sl' p y t hy hop (fun h=>hn (.inr h)) (fun h=>hn (.inl h))
theorem Inv.slots_step (I:Inv S n ops e0 k es H2 c0 w0 H0 q e listed c w a) {c':Ctx} {w':World} {H':Heap} (p1:Post c w (hAt es H2 q) c' w' H') :
    ∀ (p:Nat) (y:En) (t:TypeId),es[p]?=some y→y.o.op=.alloc t→¬ On listed p →
      c'.ι (k + cnt ops.toList p)=none∧∃ ti,S.ty t=some ti∧H'[k + cnt ops.toList p]?=some (.cells ti.zero t):=by
  intro p y t hy hop hn
  obtain ⟨h1,ti,h2,h3⟩:=I.slots p y t hy hop hn
  have hlt:=(List.getElem?_eq_some_iff.1 h3).1
  refine ⟨?_,ti,h2,by rw [p1.unm _ hlt h1]; exact h3⟩
  cases h:c'.ι (k + cnt ops.toList p) with
  | none=>rfl
  | some bo =>
    rcases p1.new _ bo.1 bo.2 h with h | ⟨h,_⟩
    · rw [h1] at h; cases h
    · omega
theorem cnt_mono (l:List Oper):∀ (p q:Nat),p≤q→cnt l p≤cnt l q:=by
  intro p q h
  unfold cnt
  obtain ⟨d,rfl⟩:=Nat.le.dest h
  rw [List.take_add,List.countP_append]
  omega
theorem cnt_lt {l:List Oper} {p q:Nat} {o:Oper} (ho:l[p]?=some o) (ha:isAlloc o.op=true) (h:p < q):cnt l p < cnt l q:=by
  have h1:cnt l (p + 1)=cnt l p + 1:=by
    unfold cnt
    rw [List.take_add_one,ho]
    simp [ha]
  have:=cnt_mono l (p + 1) q h
  omega
theorem step_ok (hS:SgOK P S) (hc:CallOK P S call) (hcq:CallQ S call) (T:TD S call n ops (masks ops.toList []) e0 k es e2 H2) (I:Inv S n ops e0 k es H2 c0 w0 H0 q e listed c w a) (r0:Rel c0 w0 H0) {i:Nat} (ht:Turn ops listed i)
    {K:Act→World→Prop} {Q:Exit→Act→World→Prop} (hK:∀ q' e' c' w' a',Inv S n ops e0 k es H2 c0 w0 H0 q' e' (listed.setIfInBounds i true) c' w' a'→K a' w'):wpOp P ops Q i K a w:=by
  have hlt:i < es.length:=by rw [T.len]; exact ht.lt
  obtain ⟨x,hx⟩:∃ x,es[i]?=some x:=⟨_,List.getElem?_eq_getElem hlt⟩
  obtain ⟨ho,E,hG'⟩:=T.ent i x hx
  obtain ⟨e',hput⟩:=putA_of (e1:=e) E.put
  unfold wpOp
  rw [ho]
  simp only
  rw [wanted_ok I.st.env (I.want T hx ht)]
  cases hw:x.w with
  | false =>
    simp only [Bool.false_eq_true,if_false]
    have hsame:hAt es H2 (if effOp S x.o.op then i + 1 else q)=hAt es H2 q:=by
      split
      · rename_i he
        rw [← hG',(E.skip hw).2]
        exact (I.still T hcq hx ht he).2.symm
      · rfl
    refine hK _ e' c w _ (I.next T hx ht rfl hput ?_ ?_ ?_)
    · rw [hsame]
      have hv:VR c w x.v undef:=by rw [(E.skip hw).1]; exact VR.undef c w
      exact put_ok I.st hput hv
    · rw [hsame]; exact I.post
    · rw [hsame]
      exact fun p y t hy hop _ hn=>I.slots p y t hy hop hn
  | true =>
    simp only [if_true]
    refine .inl ?_
    cases ha:isAlloc x.o.op with
    | true =>
      obtain ⟨t,hop⟩:∃ t,x.o.op=.alloc t:=by
        cases h:x.o.op <;> rw [h] at ha <;> simp only [isAlloc,reduceCtorEq] at ha
        exact ⟨_,rfl⟩
      have heff:effOp S x.o.op=false:=by rw [hop]; rfl
      obtain ⟨h1,ti,h2,h3⟩:=I.slots i x t hx hop ht.no
      obtain ⟨z,hz,_,hr⟩:=(hS.ty _ _ h2).zeroRun c w
      obtain ⟨r',l',pp⟩:=materialize I.st.rel z.cells t ti.zero t h3 h1 (by rw [hr.1]; exact Nat.le_refl _) hr.2
      have hrun:(Instr.alloc t true (.tuple #[])).run P w=.ok (.pointer (some ⟨w.heap.size,0,none⟩)) (w.alloc (.cells z.cells t)):=by simp [Instr.alloc,hz,newVar,newRow]
      unfold Oper.wp
      have hex:execOp a.eval x.o=(do pure (.value (← Instr.alloc t true (.tuple #[])))):=by simp only [execOp,hop]
      rw [hex,Sem.run_bind,hrun]
      show K (a.put x.o.dst _) _
      have hq':q=if effOp S x.o.op then i + 1 else q:=by rw [heff]; rfl
      refine hK q e' (c.bind (k + cnt ops.toList i) (w.heap.size,0)) _ _ (I.next T hx ht hq' hput ?_ ?_ ?_)
      · have st1:St S n (c.bind (k + cnt ops.toList i) (w.heap.size,0)) (w.alloc (.cells z.cells t)) e (hAt es H2 q) a:=⟨r',I.st.glob.mono l',I.st.env.mono l',I.st.size,I.st.defers⟩
        refine put_ok st1 hput ?_
        rw [(E.alloc hw ha).1]
        exact .ptr _ _ _ 0 (by simp [Ctx.bind])
      · exact pp c0 w0 H0 I.post (by have:=I.low; omega)
      · intro p y t' hy hop' hpi hn
        obtain ⟨g1,ti',g2,g3⟩:=I.slots p y t' hy hop' hn
        refine ⟨?_,ti',g2,g3⟩
        have hne:k + cnt ops.toList p≠k + cnt ops.toList i:=by
          have hoi:ops.toList[i]?=some x.o:=by rw [Array.getElem?_toList]; exact ho
          have hop2:ops.toList[p]?=some y.o:=by rw [Array.getElem?_toList]; exact (T.ent p y hy).1
          have hay:isAlloc y.o.op=true:=by rw [hop']; rfl
          rcases Nat.lt_or_gt_of_ne hpi with h | h
          · have:=cnt_lt hop2 hay h; omega
          · have:=cnt_lt hoi ha h; omega
        show (if k + cnt ops.toList p=k + cnt ops.toList i then _ else c.ι (k + cnt ops.toList p))=none
        rw [if_neg hne]; exact g1
    | false =>
      have hd:=E.den hw ha
      have hden:denOp S call true e (hAt es H2 q) x.o.op=some (x.v,hAt es H2 (if effOp S x.o.op then i + 1 else q)):=by
        rw [denOp_congr (I.opds T hx ht)]
        cases he:effOp S x.o.op with
        | true =>
          rw [(I.still T hcq hx ht he).2,if_pos rfl,← hG']; exact hd
        | false =>
          rw [if_neg (by simp)]
          cases hr:readOp x.o.op with
          | false=>exact (denOp_still hd he hr ha).2
          | true =>
            have hG:=denOp_reads hd hr
            have fin:∀ G,again S call x G=true→denOp S call true x.e G x.o.op=some (x.v,G):=by
              intro G h
              unfold again at h
              split at h
              · rename_i v G1 hv
                rw [opF_eq] at hv
                rw [beqA_eq _ _ _ h] at hv
                rw [hv,denOp_reads hv hr]
              · cases h
            by_cases hqi:q≤i
            · rcases T.first hcq (i - q) q with h | ⟨j,y,h1,h2,h3,h4,h5⟩
              · rw [show q + (i - q)=i by omega,hAt_some hx] at h
                rw [← h,hd,hG]
              · have hp:=T.pair j i y x (by omega) h3 hx
                simp only [pairOK,Bool.and_eq_true] at hp
                have hcy:=h4
                simp only [chg,Bool.and_eq_true] at h4
                have hnb:bit (masks ops.toList []) i j=false:=by
                  cases hb:bit (masks ops.toList []) i j with
                  | false=>rfl
                  | true =>
                    have:=(I.eff j y h3 h4.1.1).1 (I.bit_on T ho (fun e he hb=>ht.pre x.o ho e he hb) hb)
                    omega
                have:=hp.2
                rw [h4.1.1,h4.1.2,h4.2,hr,hw,hnb] at this
                simp only [Bool.true_and,Bool.not_false,if_true] at this
                rw [h5]
                exact fin _ this
            · obtain ⟨d,rfl⟩:∃ d,q=i + d:=⟨q - i,by omega⟩
              rcases T.last hcq i d with h | ⟨j,y,h1,h2,h3,h4,h5⟩
              · rw [h,hAt_some hx,hd,hG]
              · simp only [chg,Bool.and_eq_true] at h4
                have hji:i≠j:=fun h=>by
                  subst h
                  rw [hx] at h3; cases h3
                  rw [he] at h4; exact absurd h4.1.1 (by simp)
                have hp:=T.pair i j x y (by omega) hx h3
                simp only [pairOK,Bool.and_eq_true] at hp
                have hnb:bit (masks ops.toList []) j i=false:=by
                  cases hb:bit (masks ops.toList []) j i with
                  | false=>rfl
                  | true =>
                    have hoj:=(T.ent j y h3).1
                    have hj:=(I.eff j y h3 h4.1.1).2 h2
                    exact absurd (I.bit_on T hoj (fun e he hb=>I.cl j y.o hoj hj e he hb) hb) ht.no
                have:=hp.1
                rw [h4.1.1,h4.1.2,h4.2,hr,hw,hnb] at this
                simp only [Bool.true_and,Bool.not_false,if_true] at this
                rw [h5]
                exact fin _ this
      refine denOp_ok hS hc hden I.st.env I.st.glob I.st.rel fun cv c1 w1 r1 p1 hv=>?_
      exact hK _ e' c1 w1 _ (I.next T hx ht rfl hput (put_ok (I.st.later r1 p1) hput hv) (I.post.trans r0 p1) fun p y t hy hop _ hn=>I.slots_step p1 p y t hy hop hn)
end
theorem all_listed {ops:Array Oper} {m:List Nat} {S:Sg} (ok:OkS S ops m) {listed:Array Bool} (hs:listed.size=ops.size) (h:Region.ready .any ops listed=[]):∀ i,i < ops.size→On listed i:=by
  intro i
  induction i using Nat.strongRecOn with
  | _ i ih =>
    intro hi
    refine Classical.byContradiction fun hn=>?_
    have:Turn ops listed i:=⟨hi,hn,fun o ho e he hb=>ih e.on (ok.on_lt i o ho e he hb) (Nat.lt_trans (ok.on_lt i o ho e he hb) hi)⟩
    have:=ready_of hs this
    rw [h] at this; simp at this
def rest (listed:Array Bool):Nat:=listed.toList.countP fun b=>!b
theorem rest_set {listed:Array Bool} {i:Nat} (hi:i < listed.size) (hn:¬ On listed i):rest (listed.setIfInBounds i true) + 1=rest listed:=by
  unfold rest On at *
  have hf:listed[i]=false:=by
    simpa [Array.getD_eq_getD_getElem?,hi] using hn
  have:(listed.setIfInBounds i true).toList=listed.toList.set i true:=by simp
  rw [this,List.countP_set (by simpa using hi)]
  have hpos:0 < listed.toList.countP (fun b=>!b):=by
    rw [List.countP_pos_iff]
    exact ⟨listed[i],by simp,by simp [hf]⟩
  have hg:(listed.toList)[i]'(by simpa using hi)=false:=by simpa using hf
  rw [hg]
  simp only [Bool.not_false,Bool.not_true,if_true,Bool.false_eq_true,if_false]
  omega
theorem rest_zero {listed:Array Bool} (h:rest listed=0):∀ i,i < listed.size→On listed i:=by
  intro i hi
  unfold rest at h
  rw [List.countP_eq_zero] at h
  have:=h listed[i] (by simp)
  unfold On
  simp [Array.getD_eq_getD_getElem?,hi]
  simpa using this
theorem any_ok {S:Sg} (hS:SgOK P S) {call:Calling} (hc:CallOK P S call) (hcq:CallQ S call) {n:Nat} {ops:Array Oper} {e0:Tr} {k:Nat} {es:List En} {e2:Tr} {H2:Heap} (T:TD S call n ops (masks ops.toList []) e0 k es e2 H2)
    {c0:Ctx} {w0:World} {H0:Heap} (r0:Rel c0 w0 H0) {Q:Exit→Act→World→Prop} (hq:∀ c' w' a',St S n c' w' e2 H2 a'→Post c0 w0 H0 c' w' H2→Q .normal a' w') :
    ∀ (fuel q:Nat) (e:Tr) (listed:Array Bool) (c:Ctx) (w:World) (a:Act),Inv S n ops e0 k es H2 c0 w0 H0 q e listed c w a→rest listed≤fuel→wpAny P .any ops Q fuel listed a w:=by
  have fin:∀ (q:Nat) (e:Tr) (listed:Array Bool) (c:Ctx) (w:World) (a:Act),Inv S n ops e0 k es H2 c0 w0 H0 q e listed c w a→(∀ i,i < ops.size→On listed i)→Q .normal a w:=by
    intro q e listed c w a I hall
    have hend:hAt es H2 ops.size=H2:=by
      have:es[ops.size]?=none:=List.getElem?_eq_none (by rw [T.len]; exact Nat.le_refl _)
      simp [hAt,this]
    have hH:hAt es H2 q=H2:=by
      by_cases hqn:q≤ops.size
      · rcases T.first hcq (ops.size - q) q with h | ⟨j,y,h1,h2,h3,h4,_⟩
        · rw [show q + (ops.size - q)=ops.size by omega,hend] at h
          exact h.symm
        · simp only [chg,Bool.and_eq_true] at h4
          have:=(I.eff j y h3 h4.1.1).1 (hall j (by omega))
          omega
      · have:es[q]?=none:=List.getElem?_eq_none (by rw [T.len]; omega)
        simp [hAt,this]
    have hee:∀ t:Nat,e.get t=e2.get t:=by
      intro t
      obtain ⟨g1,g2⟩:=T.env ops.size (Nat.le_refl _)
      have he2:eAt es e2 ops.size=e2:=by
        have:es[ops.size]?=none:=List.getElem?_eq_none (by rw [T.len]; exact Nat.le_refl _)
        simp [eAt,this]
      rw [he2] at g1 g2
      by_cases hw:∃ (j:Nat) (y:En),es[j]?=some y∧y.o.dst=some t
      · obtain ⟨j,y,hy,hd⟩:=hw
        have hj:j < ops.size:=by rw [← T.len]; exact (List.getElem?_eq_some_iff.1 hy).1
        rw [I.env1 j y t (hall j hj) hy hd,g1 j y t hj hy hd]
      · rw [I.env0 t fun j y _ hy hd=>hw ⟨j,y,hy,hd⟩,g2 t fun j y _ hy hd=>hw ⟨j,y,hy,hd⟩]
    have st:=I.st
    have p:=I.post
    rw [hH] at st p
    exact hq c w a ⟨st.rel,st.glob,fun t=>by rw [← hee t]; exact st.env t,st.size,st.defers⟩ p
  intro fuel
  induction fuel with
  | zero =>
    intro q e listed c w a I hr
    have hall:∀ i,i < ops.size→On listed i:=fun i hi=>rest_zero (by omega) i (by rw [I.size]; exact hi)
    refine ⟨?_,fin q e listed c w a I hall⟩
    cases hrd:Region.ready .any ops listed with
    | nil=>rfl
    | cons i l =>
      have:=turn_of I.size (i:=i) (by rw [hrd]; simp)
      exact absurd (hall i this.lt) this.no
  | succ fuel ih =>
    intro q e listed c w a I hr
    refine ⟨fun h=>fin q e listed c w a I (all_listed T.ok I.size h),fun i hi=>?_⟩
    have ht:=turn_of I.size hi
    refine step_ok hS hc hcq T I r0 ht fun q' e' c' w' a' I'=>ih q' e' _ c' w' a' I' ?_
    have:=rest_set (by rw [I.size]; exact ht.lt) ht.no
    omega
theorem denDraw_ok {S:Sg} (hS:SgOK P S):DrawOK P S (denDraw S):=by
  intro call hc hcq n id ops e e' H H' c w a Q h st hq
  unfold denDraw at h
  split at h
  · cases h
  · rename_i sl hsl
    split at h
    · cases h
    · rename_i es e2 H2 htr
      split at h
      · rename_i hchk
        cases h
        rw [Bool.and_eq_true] at hchk
        obtain ⟨h1,h2,h3,h4⟩:=trace_ok ops.toList H.length e (H ++ sl) es e' H' htr
        have T:TD S call n ops (masks ops.toList []) e H.length es e' H' :=
          ⟨by simpa using h1,h2,fun p x hx=>by
            obtain ⟨g1,g2,g3⟩:=h4 p x hx
            exact ⟨by rw [← Array.getElem?_toList]; exact g1,g2,g3⟩,okS_ok hchk.1,fun i j x y hij hx hy=>by
            have:=checkT_ok es 0 hchk.2 i j x y hij hx hy
            simpa using this⟩
        have old:∀ i,i < H.length→(H ++ sl)[i]?=H[i]?:=fun i hi=>List.getElem?_append_left hi
        have liv:∀ i b o,c.ι i=some (b,o)→(Live (H ++ sl) i↔Live H i):=fun i b o hi=>by unfold Live; rw [old i (st.rel.dom i b o hi).1]
        have r0:Rel c w (H ++ sl):=⟨fun i o b off ho hi=>st.rel.obj i o b off (by rw [← old i (st.rel.dom i b off hi).1]; exact ho) hi,
          fun i j b o1 o2 hi hj h1 h2=>st.rel.inj i j b o1 o2 ((liv i b o1 h1).1 hi) ((liv j b o2 h2).1 hj) h1 h2,
          fun i b off hi=>⟨by have:=(st.rel.dom i b off hi).1; simp; omega,(st.rel.dom i b off hi).2⟩,
          fun i b off hl hi=>st.rel.sep i b off ((liv i b off hi).1 hl) hi,st.rel.fr⟩
        have p0:Post c w H c w (H ++ sl):=⟨fun _ _ h=>h,fun _ _ _ h=>.inl h,fun _ h=>h,fun _ h=>.inl h,fun _ _ _=>rfl,fun i hi _=>old i hi,
          fun i hi hn hl=>hn (by unfold Live at hl ⊢; rw [← old i hi]; exact hl),by simp,Nat.le_refl _,fun _ arr e fz h=>⟨arr,e,fz,h,rfl⟩,rfl,rfl,rfl⟩
        have r1:Rel c w.drew (H ++ sl):=r0.drew
        have p1:Post c w H c w.drew (H ++ sl):=p0.trans st.rel (Post.drew c w (H ++ sl))
        have off:∀ i,¬ On (Array.replicate ops.size false) i:=by
          intro i h
          unfold On at h
          rw [Array.getD_eq_getD_getElem?,Array.getElem?_replicate] at h
          split at h <;> simp at h
        have hl0:(Post.drew c w H).le st.rel=(Post.drew c w H).le st.rel:=rfl
        have I:Inv S n ops e H.length es H' c w H 0 e (Array.replicate ops.size false) c w.drew a:=by
          refine ⟨by simp,fun i o _ hi=>absurd hi (off i),fun j x _ _=>⟨fun h=>absurd h (off j),fun h=>absurd h (Nat.not_lt_zero _)⟩,?_,?_,fun j x t hj=>absurd hj (off j),fun t _=>rfl,?_,Nat.le_refl _⟩
          · rw [h3]
            exact ⟨r1,st.glob.mono ((Post.drew c w H).le st.rel),st.env.mono ((Post.drew c w H).le st.rel),st.size,st.defers⟩
          · rw [h3]; exact p1
          · intro p x t hx hop _
            rw [h3]
            obtain ⟨ti,g1,g2⟩:=slots_ok ops.toList sl hsl p x.o t (h4 p x hx).1 hop
            refine ⟨?_,ti,g1,?_⟩
            · cases hi:c.ι (H.length + cnt ops.toList p) with
              | none=>rfl
              | some bo=>have:=(st.rel.dom _ bo.1 bo.2 hi).1; omega
            · rw [List.getElem?_append_right (by omega)]
              simpa using g2
        refine wp_region_any hS.mixed ?_
        refine any_ok hS hc hcq T st.rel hq ops.size 0 e _ c w.drew a I ?_
        unfold rest
        refine Nat.le_trans List.countP_le_length (by simp)
      · cases h
def den (S:Sg) (n:Nat):Calling:=denC S (denDraw S) n
theorem den_ok {S:Sg} (hS:SgOK P S) (hx:ExtOK P S) (hqt:QuietOK S) (hglob:∀ g,(S.glob g).closed=true∨S.glob g=.any) (n:Nat):CallOK P S (den S n) :=
  denC_ok hS hx hqt hglob (denDraw_ok hS) n
end Go.AM
namespace Go.AM
def fldOf (P:Program) (f:Field):Option (Nat×Nat×Bool) :=
  match P.info? f.type,P.underlying f.type with
  | some ti,some d=>some (f.offset,ti.size,aggD d)
  | _,_=>none
def fldsOf (P:Program):TypeDesc→Option (List (Nat×Nat×Bool))
  | .struct fs=>fs.toList.mapM (fldOf P)
  | _=>some []
def isAggV:Value→Bool
  | .agg _=>true
  | _=>false
def tiOf (P:Program) (t:TypeId):Option TI :=
  match P.info? t with
  | none=>none
  | some inf=>match P.underlying t with
    | none=>none
    | some d=>match inf.zero with
      | none=>none
      | some z=>match fldsOf P d with
        | none=>none
        | some fl =>
          if z.cells.size=inf.size∧aggD d=isAggV z then
            some { desc:=d,size:=inf.size,bytes:=inf.bytes,zero:=z.cells.toList.map ofV1,agg:=aggD d,flds:=fl,cmp:=inf.comparable,meths:=inf.methods }
          else none
theorem mapM_get {α β:Type} (f:α→Option β):∀ (l:List α) (r:List β),l.mapM f=some r→r.length=l.length∧∀ (j:Nat) (a:α) (b:β),l[j]?=some a→r[j]?=some b→f a=some b
  | [],r,h=>by
    simp at h; subst h
    exact ⟨rfl,fun j a b h=>by simp at h⟩
  | x :: l,r,h=>by
    rw [List.mapM_cons] at h
    cases hx:f x with
    | none=>rw [hx] at h; cases h
    | some y =>
      rw [hx] at h
      cases hl:l.mapM f with
      | none=>rw [hl] at h; cases h
      | some ys =>
        rw [hl] at h
        cases h
        obtain ⟨h1,h2⟩:=mapM_get f l ys hl
        refine ⟨by simp [h1],fun j a b ha hb=>?_⟩
        cases j with
        | zero=>simp at ha hb; subst ha; subst hb; exact hx
        | succ j=>exact h2 j a b (by simpa using ha) (by simpa using hb)
theorem tiOf_ok {P:Program} {t:TypeId} {i:TI} (h:tiOf P t=some i):TyOK P t i:=by
  unfold tiOf at h
  split at h
  · cases h
  · rename_i inf hinf
    split at h
    · cases h
    · rename_i d hd
      split at h
      · cases h
      · rename_i z hz
        split at h
        · cases h
        · rename_i fl hfl
          split at h
          · rename_i hc
            cases h
            refine ⟨hd,⟨inf,hinf,rfl,rfl,z,hz,rfl,by simpa using hc.1,fun ha=>?_,fun ha=>?_⟩,fun inf' h'=>?_,rfl,fun fs hfs=>?_⟩
            · have h2:=hc.2
              simp only at ha
              rw [ha] at h2
              cases z <;> simp [isAggV] at h2
              exact ⟨_,rfl⟩
            · have h2:=hc.2
              simp only at ha
              rw [ha] at h2
              cases z <;> simp [isAggV] at h2 <;> rfl
            · rw [hinf] at h'; cases h'
              exact ⟨rfl,rfl⟩
            · simp only at hfs
              subst hfs
              unfold fldsOf at hfl
              obtain ⟨h1,h2⟩:=mapM_get _ _ _ hfl
              refine ⟨by simpa using h1.symm,fun j f g hf hg=>?_⟩
              have:=h2 j f g (by simpa using hf) hg
              unfold fldOf at this
              split at this
              · rename_i ti d hti hdd
                cases this
                exact ⟨rfl,ti,hti,rfl,d,hdd,rfl⟩
              · cases this
          · cases h
def fnOf (P:Program) (f:FuncId):Option Func :=
  match P.funcs[f]? with
  | none=>none
  | some fn=>match fn.body with
    | none=>none
    | some _ => if fn.name == "runtime.NumGoroutine" then none else some fn
theorem fnOf_ok {P:Program} {f:FuncId} {fn:Func} (h:fnOf P f=some fn):P.funcs[f]?=some fn∧∀ args w,(callFunc f args).run P w=.ok (.enter f args) w:=by
  unfold fnOf at h
  split at h
  · cases h
  · rename_i fn' hf
    split at h
    · cases h
    · rename_i b hb
      split at h
      · cases h
      · rename_i hn
        cases h
        refine ⟨hf,fun args w=>?_⟩
        simp only [beq_iff_eq] at hn
        simp [callFunc,hf,hn,hb]
def methOf (P:Program) (t:TypeId) (name:String):Option FuncId :=
  match P.info? t with
  | none=>none
  | some inf=>match inf.methods.find? (·.name == name) with
    | none=>none
    | some m=>if m.path.isEmpty then
        (match m.func,P.underlying t with
        | some (f,true),some (.pointer _)=>some f
        | some (f,false),some d=>(match d with | .pointer _=>none | _=>some f)
        | _,_=>none)
      else none
theorem methOf_ok {P:Program} {t:TypeId} {name:String} {g:FuncId} (h:methOf P t name=some g) (v:Value) (args:Array Value) (w:World) :
    (callMethod (.iface t v) name args).run P w=(callFunc g (#[v] ++ args)).run P w:=by
  unfold methOf at h
  split at h
  · cases h
  · rename_i inf hinf
    split at h
    · cases h
    · rename_i m hm
      split at h
      · rename_i hp
        have hpl:m.path.toList=[]:=by simpa using hp
        have key:∀ n:Nat,(method (n + 1) t v name).run P w=.ok (g,v) w:=by
          intro n
          split at h
          · rename_i f e hf hu
            cases h
            simp [method,typeInfo,hinf,hm,hpl,follow,hf,receiverAt,run_und hu,Place.get]
          · rename_i f d hf hu
            split at h
            · cases h
            · rename_i hne
              cases h
              have hrec:∀ wr w,(receiverAt t (.val v) false wr).run P w=.ok v w:=by
                intro wr w
                unfold receiverAt
                simp only [Sem.run_bind,run_und hu,Result.andThen_ok]
                rfl
              simp only [method,typeInfo,Sem.run_bind]
              simp [hinf,hm,hpl,follow,hf]
              rw [hrec]; rfl
          · cases h
        unfold callMethod
        have hs:∃ n,P.types.size + Made.depth=n + 1:=⟨P.types.size + 99,rfl⟩
        obtain ⟨n,hn⟩:=hs
        simp [hn,key]
      · cases h
def cksOf (P:Program):Nat→List Field→Option (List CK)
  | _,[]=>some []
  | j,f :: r =>
    if f.name == "_" then none else if f.offset = j then
      match P.underlying f.type,cksOf P (j + 1) r with
      | some (.int _),some l=>some (.i :: l)
      | some .string,some l=>some (.s :: l)
      | some .bool,some l=>some (.b :: l)
      | _,_=>none
    else none
def eqTOf (P:Program) (t:TypeId):Option (List CK) :=
  match P.underlying t with
  | some (.struct fs)=>if P.stoodInHeld t || P.eqGuardType P.depth t then none else cksOf P 0 fs.toList
  | _=>none
theorem part_cell {P:Program} {t:TypeId} {d:TypeDesc} (hu:P.underlying t=some d) (hd:aggD d=false) {cs:Array Value} {off:Nat} {v:Value} (h:cs[off]?=some v) (w:World):(part t cs off).run P w=.ok v w:=by
  have:=run_isAgg hu w
  rw [hd] at this
  simp only [part,Sem.run_bind,this,Result.andThen_ok,h]
  rfl
theorem eqCell_i {a b:AVal} {q:Bool} (h:eqCell .i a b=some q):∃ k x y,a=.int k x∧b=.int k y∧(x == y)=q:=by
  unfold eqCell at h
  split at h
  · split at h
    · rename_i hk; subst hk; cases h; exact ⟨_,_,_,rfl,rfl,rfl⟩
    · cases h
  · rename_i e; cases e
  · rename_i e; cases e
  · cases h
theorem eqCell_s {a b:AVal} {q:Bool} (h:eqCell .s a b=some q):∃ x y,a=.str x∧b=.str y∧decide (x=y)=q:=by
  unfold eqCell at h
  split at h
  · rename_i e; cases e
  · cases h; exact ⟨_,_,rfl,rfl,rfl⟩
  · rename_i e; cases e
  · cases h
theorem eqCell_b {a b:AVal} {q:Bool} (h:eqCell .b a b=some q):∃ x y,a=.bool x∧b=.bool y∧(x == y)=q:=by
  unfold eqCell at h
  split at h
  · rename_i e; cases e
  · rename_i e; cases e
  · cases h; exact ⟨_,_,rfl,rfl,rfl⟩
  · cases h
theorem cks_ok {P:Program} {c:Ctx} {w:World} {xs ys:Array Value}:∀ (fs:List Field) (j:Nat) (cks:List CK) (as bs:List AVal) (b:Bool) (d:Nat),cksOf P j fs=some cks→eqCells cks as bs=some b →
    (∀ (i:Nat) (a:AVal),as[i]?=some a→∃ v,xs[j + i]?=some v∧VR c w a v)→(∀ (i:Nat) (a:AVal),bs[i]?=some a→∃ v,ys[j + i]?=some v∧VR c w a v) →
    (Op.eqFields (d + 1) xs ys fs).run P w=.ok b w
  | [],j,cks,as,bs,b,d,h,he,hx,hy=>by
    cases h
    cases as <;> cases bs <;> simp [eqCells] at he
    subst he
    simp [Op.eqFields]
  | f :: r,j,cks,as,bs,b,d,h,he,hx,hy=>by
    unfold cksOf at h
    split at h
    · cases h
    · rename_i hn
      have hn' : f.name ≠ "_" := fun e => hn (by rw [e]; rfl)
      split at h
      · rename_i ho
        have next:∀ (l:List CK) (ck:CK) (dd:TypeDesc),cksOf P (j + 1) r=some l→cks=ck :: l→P.underlying f.type=some dd→aggD dd=false →
            (∀ (a1 b1:AVal) (va vb:Value) (q:Bool),eqCell ck a1 b1=some q→VR c w a1 va→VR c w b1 vb→(Op.equalIn (d + 1) f.type va vb).run P w=.ok q w) →
            (Op.eqFields (d + 1) xs ys (f :: r)).run P w=.ok b w:=by
          intro l ck dd hl hck hu hag hstep
          subst hck
          cases as with
          | nil=>simp [eqCells] at he
          | cons a as=>cases bs with
            | nil=>simp [eqCells] at he
            | cons b1 bs =>
              obtain ⟨va,hva,hra⟩:=hx 0 a rfl
              obtain ⟨vb,hvb,hrb⟩:=hy 0 b1 rfl
              rw [Nat.add_zero] at hva hvb
              have h1:=part_cell hu hag hva w
              have h2:=part_cell hu hag hvb w
              simp only [eqCells] at he
              simp only [Op.eqFields,hn',if_true,ne_eq,not_false_eq_true,Sem.run_bind,Sem.run_ite,ho,h1,h2,Result.andThen_ok]
              split at he
              · rename_i hq
                rw [hstep a b1 va vb true hq hra hrb]
                simp only [Result.andThen_ok,if_true]
                exact cks_ok r (j + 1) l as bs b d hl he (fun i a' ha'=>by have:=hx (i + 1) a' (by simpa using ha'); rwa [show j + (i + 1)=j + 1 + i by omega] at this)
                  (fun i a' ha'=>by have:=hy (i + 1) a' (by simpa using ha'); rwa [show j + (i + 1)=j + 1 + i by omega] at this)
              · rename_i hq
                cases he
                rw [hstep a b1 va vb false hq hra hrb]
                simp
              · cases he
        split at h
        · rename_i k l hu hl
          cases h
          refine next l .i _ hl rfl hu rfl fun a1 b1 va vb q hq h1 h2=>?_
          obtain ⟨k,x,y,rfl,rfl,rfl⟩:=eqCell_i hq
          cases h1; cases h2
          exact run_equalIn_int w d f.type _ _ _ _ hu
        · rename_i l hu hl
          cases h
          refine next l .s _ hl rfl hu rfl fun a1 b1 va vb q hq h1 h2=>?_
          obtain ⟨x,y,rfl,rfl,rfl⟩:=eqCell_s hq
          cases h1 with
          | str _ s1 e1=>cases h2 with
            | str _ s2 e2 =>
              rw [run_equalIn_string w d f.type _ _ hu,ByteArray.toList_eq,ByteArray.toList_eq,e1,e2,beq_dec]
        · rename_i l hu hl
          cases h
          refine next l .b _ hl rfl hu rfl fun a1 b1 va vb q hq h1 h2=>?_
          obtain ⟨x,y,rfl,rfl,rfl⟩:=eqCell_b hq
          cases h1; cases h2
          exact run_equalIn_bool' w d f.type _ _ hu
        · cases h
      · cases h
theorem eqTOf_ok {P:Program} {t:TypeId} {ks:List CK} (h:eqTOf P t=some ks):P.eqGuardType P.depth t=false∧∀ (c:Ctx) (w:World) (as bs:List AVal) (b:Bool) (xs ys:Array Value),
    eqCells ks as bs=some b→VRs c w as xs→VRs c w bs ys→(Op.equal t (.agg xs) (.agg ys)).run P w=.ok b w:=by
  unfold eqTOf at h
  split at h
  · rename_i fs hu
    split at h
    · cases h
    · rename_i hg
      simp only [Bool.or_eq_true,not_or,Bool.not_eq_true] at hg
      refine ⟨hg.2,fun c w as bs b xs ys he hx hy=>?_⟩
      have hf:P.fieldsOf t=fs:=by simp [Program.fieldsOf,hu]
      have:=run_equalIn_struct w 9999 t xs ys (by rw [hf]; exact hu) hg.1
      unfold Op.equal
      show (Op.equalIn (9999 + 1) t (.agg xs) (.agg ys)).run P w=_
      rw [this,hf]
      have get:∀ {as:List AVal} {xs:Array Value},VRs c w as xs→∀ (i:Nat) (a:AVal),as[i]?=some a→∃ v,xs[0 + i]?=some v∧VR c w a v:=by
        intro as xs hx i a ha
        have hi:i < xs.size:=by rw [hx.1]; exact (List.getElem?_eq_some_iff.1 ha).1
        exact ⟨xs[i],by rw [Nat.zero_add]; exact Array.getElem?_eq_getElem hi,hx.2 i a _ ha (Array.getElem?_eq_getElem hi)⟩
      exact cks_ok fs.toList 0 ks as bs b 9998 h he (get hx) (get hy)
  · cases h
structure Ad where
  ext:FuncId→Option (List AVal→Heap→Option (AVal×Heap))
  pure:FuncId→Bool
  quiet:FuncId→Bool
  mutT:TypeId→Bool
  glob:Nat→AVal
  eager:Bool:=true
def Ad.sg (A:Ad) (P:Program):Sg :=
  { ty:=tiOf P,fn:=fnOf P,ext:=A.ext,pure:=A.pure,quiet:=A.quiet,mutT:=A.mutT,eqT:=eqTOf P,meth:=methOf P,glob:=A.glob,pin:=fun _=>none,eager:=A.eager }
def Ad.nil:Ad:={ ext:=fun _=>none,pure:=fun _=>false,quiet:=fun _=>false,mutT:=fun _=>false,glob:=fun _=>.any }
theorem Ad.sg_ok (A:Ad) {P:Program} (hm:P.follows .mixedOrders=true):SgOK P (A.sg P):=by
  refine ⟨fun t i h=>tiOf_ok h,fun f fn h=>(fnOf_ok h).1,fun f h args w=>?_,hm,fun t ks h=>eqTOf_ok h,fun t m g h=>methOf_ok h⟩
  have:(fnOf P f).isSome=true:=h
  cases hf:fnOf P f with
  | none=>rw [hf] at this; cases this
  | some fn=>exact (fnOf_ok hf).2 args w
theorem den_calls {P:Program} {S:Sg} (hS:SgOK P S) (hx:ExtOK P S) (hqt:QuietOK S) (hglob:∀ g,(S.glob g).closed=true∨S.glob g=.any) {n:Nat} {f:FuncId} (hf:(S.fn f).isSome=true) {args:List AVal} {H H':Heap} {v:AVal}
    (h:den S n f args H=some (v,H')) {c:Ctx} {w:World} {cargs:Array Value} (r:Rel c w H) (hg:Glob S c w) (ha:VRs c w args cargs) :
    Calls P f cargs w fun e w'=>∃ cv,e=.returned cv∧∃ c',Rel c' w' H'∧Post c w H c' w' H'∧VR c' w' v cv:=by
  rcases den_ok hS hx hqt hglob n f args H v H' h c w cargs r hg ha with ⟨_,h⟩ | ⟨cv,w',h,_⟩
  · exact h
  · rw [hS.call f hf cargs w] at h; cases h
end Go.AM
