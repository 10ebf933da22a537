import Derived.Laws.BytesArg
import Derived.Lib.Strings
import Derived.Test.YtjlmihjhakfchaaGreatDoorA1
set_option linter.unusedVariables false
set_option linter.unusedSimpArgs false
noncomputable section
namespace Go.AM
variable {P:Program}
def Yields (P:Program) (c:Ctx) (w:World) (H:Heap) (s:Sem Value) (v:AVal) (H':Heap):Prop :=
  ∃ cv w' c',s.run P w=.ok cv w'∧Rel c' w' H'∧Post c w H c' w' H'∧VR c' w' v cv
theorem Tells.yields {c:Ctx} {w:World} {H:Heap} {s:Sem Value} {v:AVal} (r:Rel c w H) (h:Tells P c w s v):Yields P c w H s v H:=by
  obtain ⟨cv,h,hv⟩:=h
  exact ⟨cv,w,c,h,r,Post.refl c w H,hv⟩
theorem freeze_alloc (w:World) (arr:Array Value) (e:TypeId) (n:Nat) :
    (w.alloc (.cells arr e)).freeze ⟨w.heap.size,n,none⟩ 1=w.alloc (.cells arr e (n,n + 1)):=by
  have h:(w.alloc (.cells arr e)).heap.modify w.heap.size (fun
      | .cells c elem (lo,hi)=>.cells c elem (if lo == hi then (n,n + 1) else (min lo n,max hi (n + 1)))
      | o=>o)=(w.alloc (.cells arr e (n,n + 1))).heap:=by
    apply Array.ext_getElem?
    intro i
    rw [Array.getElem?_modify]
    by_cases hi:w.heap.size=i
    · subst hi
      rw [if_pos rfl,heap_alloc_at,heap_alloc_at]
      rfl
    · rw [if_neg hi]
      rcases Nat.lt_or_ge i w.heap.size with hl | hl
      · rw [heap_alloc_lt w _ hl,heap_alloc_lt w _ hl]
      · rw [Array.getElem?_eq_none (by simp; omega),Array.getElem?_eq_none (by simp; omega)]
  unfold World.freeze
  simp only [Nat.one_ne_zero,if_false]
  exact congrArg (fun h=>{ (w.alloc (.cells arr e)) with heap:=h }) h
theorem toBytes_get (l:List UInt8) (j:Nat):(toBytes l)[j]?=(l[j]?).map fun b=>.int .u8 b.toNat:=by simp [toBytes]
theorem toBytes_len (l:List UInt8):(toBytes l).length=l.length:=by simp [toBytes]
theorem sliceCells_ok {c:Ctx} {w:World} {H:Heap} {sz:Nat} {x:AVal} {v:Value} {cs:List AVal} {n:Nat} (h:sliceCells H sz x=some (cs,n)) (hv:VR c w x v) (r:Rel c w H) :
    cs.length=n * sz ∧
    ((∃ a ca,v=.slice a n ca∧n≤ca∧ca≤9223372036854775807∧(0 < n→∃ b o,a=some ⟨b,o,none⟩∧∀ (j:Nat) (a:AVal),cs[j]?=some a→∃ u,w.cell? ⟨b,o + j,none⟩=some u∧VR c w a u)) ∨
     (∃ s:ByteArray,v=.string s∧sz=1∧cs=toBytes s.data.toList∧n=s.size)):=by
  cases hv with
  | nils=>simp only [sliceCells,Option.some.injEq,Prod.mk.injEq] at h; obtain ⟨rfl,rfl⟩:=h; exact ⟨by simp,.inl ⟨none,0,rfl,by omega,by omega,by omega⟩⟩
  | str l s hs =>
    simp only [sliceCells] at h
    split at h
    · rename_i hz
      cases h
      subst hs
      exact ⟨by rw [toBytes_len,hz]; omega,.inr ⟨s,rfl,hz,rfl,Array.length_toList⟩⟩
    · cases h
  | sl id off len cap sz' b o ca h1 h2 h3 h4 h5 =>
    simp only [sliceCells] at h
    split at h
    · rename_i vs ty hH
      split at h
      · rename_i hle
        cases h
        refine ⟨by simp; omega,.inl ⟨_,ca,rfl,h2,h3,fun hn=>⟨b,o + off,rfl,fun j a ha=>?_⟩⟩⟩
        rw [List.getElem?_take] at ha
        split at ha
        · rw [List.getElem?_drop] at ha
          obtain ⟨arr,e,hb,hl,hh⟩:=r.obj id _ b o hH h1
          have hj:off + j < vs.length:=(List.getElem?_eq_some_iff.1 ha).1
          have hlt:o + off + j < arr.size:=by omega
          refine ⟨arr[o + off + j],by simp [World.cell?,hb,hlt],hh (off + j) a _ ha ?_⟩
          rw [← Nat.add_assoc,Array.getElem?_eq_getElem hlt]
        · cases ha
      · cases h
    · cases h
  | sl0 id off cap sz' b o a h1 hc =>
    have hn:n=0∧cs=[]:=by
      simp only [sliceCells] at h
      split at h
      · split at h
        · cases h; simp
        · cases h
      · cases h
    obtain ⟨rfl,rfl⟩:=hn
    exact ⟨by simp,.inl ⟨some a,0,rfl,by omega,by omega,by omega⟩⟩
  | isl cells off len cap cl b o ca g hcl hF h2 h3 h4 hc hh =>
    simp only [sliceCells] at h
    split at h
    · rename_i hle
      cases h
      refine ⟨by simp; omega,.inl ⟨_,ca,rfl,h2,h3,fun hn=>⟨b,o + off,rfl,fun j a ha=>?_⟩⟩⟩
      rw [List.getElem?_take] at ha
      split at ha
      · rw [List.getElem?_drop] at ha
        have hj:off + j < cells.length:=(List.getElem?_eq_some_iff.1 ha).1
        exact ⟨g (off + j),by rw [Nat.add_assoc]; exact hc _ hj,hh _ a ha⟩
      · cases ha
    · cases h
  | isl0 cells off cap cl a ca h1 h2 =>
    simp only [sliceCells] at h
    split at h
    · cases h; exact ⟨by simp,.inl ⟨a,ca,rfl,by omega,h1,by omega⟩⟩
    · cases h
  | _=>simp [sliceCells] at h
theorem bytesOf_ok:∀ (cs:List AVal) (l:List UInt8),bytesOf cs=some l→∃ ns:List Int,cs=ns.map (AVal.int .u8)∧l=ns.map fun n=>UInt8.ofNat n.toNat
  | [],l,h=>by simp only [bytesOf,Option.some.injEq] at h; subst h; exact ⟨[],rfl,rfl⟩
  | a :: cs,l,h=>by
    unfold bytesOf at h
    split at h
    · rename_i heq; cases heq
    · rename_i n rest heq
      cases heq
      split at h
      · rename_i l' hl'
        cases h
        obtain ⟨ns,h1,h2⟩:=bytesOf_ok _ _ hl'
        exact ⟨n :: ns,by simp [h1],by simp [h2]⟩
      · cases h
    · cases h
theorem conv_bytes {c:Ctx} {w:World} {H:Heap} (r:Rel c w H) {src dst e:TypeId} {d:TypeDesc} (hs:P.underlying src=some d) (hd:P.underlying dst=some (.slice e))
    (he:P.underlying e=some (.int .u8)) (s:ByteArray) (hl:s.size≤4611686018427387904) :
    Yields P c w H (convert src dst (.string s)) (.isl (toBytes s.data.toList) 0 s.size none true) H:=by
  generalize hcap:Question.cut (.appendCap s.size 0 e) (w.tape w.drawn (.appendCap s.size 0 e))=cap
  have hge:s.size≤cap:=by rw [← hcap]; simp [Question.cut]
  have hle:cap≤9223372036854775807:=by
    have hlt:=Nat.mod_lt (w.tape w.drawn (.appendCap s.size 0 e)) (show 0 < 2 ^ 63 - s.size by omega)
    rw [← hcap]; simp only [Question.cut] at hlt ⊢; omega
  let arr:Array Value:=s.data.map (fun b=>.int .u8 b.toNat) ++ Array.replicate (cap - s.size) (.int .u8 0)
  have hrun:(convert src dst (.string s)).run P w=.ok (.slice (some ⟨w.heap.size,0,none⟩) s.size cap) (w.drew.alloc (.cells arr e (arr.size,arr.size + 1))):=by
    have h1:(markStringish ⟨w.heap.size,0,none⟩).run P (w.drew.alloc (.cells arr e))=.ok () (w.drew.alloc (.cells arr e (arr.size,arr.size + 1))):=by
      have hsh:(w.drew.alloc (.cells arr e)).shape? w.heap.size=some (e,arr.size):=by
        have:=heap_alloc_at w.drew (.cells arr e)
        rw [World.size_drew] at this
        unfold World.shape?
        rw [this]
      have hf:=freeze_alloc w.drew arr e arr.size
      rw [World.size_drew] at hf
      simp only [markStringish,Sem.run_bind,run_shape,hsh,Result.andThen_ok,run_freeze]
      rw [hf]
    have h2:(Conv.stringToBytes e s).run P w=.ok (.slice (some ⟨w.heap.size,0,none⟩) s.size cap) (w.drew.alloc (.cells arr e (arr.size,arr.size + 1))):=by
      simp only [Conv.stringToBytes,Sem.run_bind,run_choose,Question.forced,Bool.false_eq_true,if_false,hcap,Result.andThen_ok,newRow,run_newObj,Sem.run_pure,World.drew_eq,World.alloc_eq,World.size_drew]
      rw [h1]
      rfl
    rw [← h2]
    cases d <;> simp [convert,run_und hs,run_und hd,run_und he]
  have r1:=r.drew
  have harr:(toBytes s.data.toList).length≤arr.size:=by rw [toBytes_len]; simp [arr]
  obtain ⟨c',r2,p2,hF,g,hg1,hg2⟩:=new_imm r1 arr e (arr.size,arr.size + 1) (toBytes s.data.toList) harr (by
    intro j a v ha hv
    rw [toBytes_get] at ha
    cases hb:s.data.toList[j]? with
    | none=>rw [hb] at ha; cases ha
    | some b =>
      rw [hb] at ha; cases ha
      have hj:j < s.data.size:=by simpa using (List.getElem?_eq_some_iff.1 hb).1
      have hbb:s.data[j]?=some b:=by rw [← Array.getElem?_toList]; exact hb
      have:arr[j]?=some (.int .u8 b.toNat):=by
        show (s.data.map (fun b=>Value.int .u8 b.toNat) ++ Array.replicate (cap - s.size) (.int .u8 0))[j]?=_
        rw [Array.getElem?_append_left (by simpa using hj),Array.getElem?_map,hbb]; rfl
      rw [this] at hv; cases hv
      exact .int _ _)
  refine ⟨_,_,c',hrun,r2,(Post.drew c w H).trans r p2,?_⟩
  rw [World.size_drew] at hF hg1
  have:=VR.isl (c:=c') (w:=w.drew.alloc (.cells arr e (arr.size,arr.size + 1))) (toBytes s.data.toList) 0 s.size none true w.heap.size 0 cap g (by
    intro _ a ha
    simp only [toBytes,List.mem_map] at ha
    obtain ⟨b,_,rfl⟩:=ha
    rfl) hF hge hle (by simp) hg1 hg2
  exact this
theorem denConvert_ok {S:Sg} (hS:SgOK P S) {c:Ctx} {w:World} {H:Heap} (r:Rel c w H) {src dst:TypeId} {x v:AVal} {vx:Value}
    (h:denConvert S H src dst x=some v) (hx:VR c w x vx):Yields P c w H (convert src dst vx) v H:=by
  unfold denConvert at h
  split at h
  · rename_i hs hd
    cases hx
    rw [mkI_eq] at h; cases h
    refine Tells.yields r ⟨_,?_,.int _ _⟩
    simp [convert,run_und (hS.ty _ _ hs).und,run_und (hS.ty _ _ hd).und,Conv.intToInt,wrapI_eq]
  · rename_i hs hd
    cases h
    cases hx with
    | str l s hl =>
      refine Tells.yields r ⟨.string s,?_,.str _ _ hl⟩
      simp [convert,run_und (hS.ty _ _ hs).und,run_und (hS.ty _ _ hd).und]
  · rename_i hs hd
    split at h
    · rename_i he
      split at h
      · rename_i hl
        cases h
        cases hx with
        | str l s hsl =>
          subst hsl
          have hsz:s.data.toList.length=s.size:=Array.length_toList
          rw [hsz] at hl ⊢
          exact conv_bytes r (hS.ty _ _ hs).und (hS.ty _ _ hd).und (hS.ty _ _ he).und s hl
      · cases h
    · cases h
  · rename_i hs hd hns
    split at h
    · rename_i he
      split at h
      · cases h
      · split at h
        · rename_i cs n hcs
          split at h
          · rename_i l hl
            cases h
            obtain ⟨hlen,hk⟩:=sliceCells_ok hcs hx r
            rcases hk with ⟨a,ca,rfl,hle,hle2,hcell⟩ | ⟨s,rfl,_⟩
            · obtain ⟨ns,rfl,rfl⟩:=bytesOf_ok _ _ hl
              rw [List.length_map,Nat.mul_one] at hlen
              cases n with
              | zero =>
                have:ns=[]:=List.eq_nil_of_length_eq_zero hlen
                subst this
                refine Tells.yields r ⟨.string ByteArray.empty,?_,.str _ _ rfl⟩
                rw [run_convert_bytes_string w src dst _ a 0 ca (hS.ty _ _ hs).und (hS.ty _ _ he).und (hS.ty _ _ hd).und]
                cases a with
                | none=>rfl
                | some a=>simp [Conv.bytesToString,loadCells,loadCellsFrom]
              | succ n =>
                obtain ⟨b,o,rfl,hc⟩:=hcell (by omega)
                refine Tells.yields r ⟨.string (ns.foldl (fun r n=>r.push (UInt8.ofNat n.toNat)) ByteArray.empty),?_,.str _ _ ?_⟩
                · rw [run_convert_bytes_string w src dst _ _ _ ca (hS.ty _ _ hs).und (hS.ty _ _ he).und (hS.ty _ _ hd).und]
                  refine run_bytesToString w _ _ _ ns ?_
                  rw [run_loadCells (P:=P) w b o (fun k=>.int .u8 (ns.getD k 0)) (n + 1)]
                  · congr 2
                    apply List.ext_getElem?
                    intro i
                    by_cases hi:i < n + 1
                    · have:i < ns.length:=by omega
                      simp [hi,this]
                    · have:ns.length≤i:=by omega
                      simp [this]; omega
                  · intro k hk
                    have hk':k < ns.length:=by omega
                    obtain ⟨u,hu,hvu⟩:=hc k (.int .u8 ns[k]) (by simp [hk'])
                    cases hvu
                    rw [hu]; simp [hk']
                · rw [foldl_push_bytes]; simp [ByteArray.empty,ByteArray.emptyWithCapacity]; rfl
            · cases hx with
              | any=>simp [sliceCells] at hcs
              | str l s hs=>exact absurd rfl (hns _)
              | obj o v h'=>simp [sliceCells] at hcs
          · cases h
        · cases h
    · cases h
  · cases h
theorem bound_ok {x:AVal} {v:Value} {most n:Nat} {c:Ctx} {w:World} (h:bound x most=some n) (hx:VR c w x v) (y:Nat) (hy:most≤y) (code:BoundsCode) :
    (Instr.sliceBound v y code).run P w=.ok n w∧n≤most:=by
  cases x <;> simp only [bound,reduceCtorEq] at h
  rename_i k n
  cases hx
  split at h
  · rename_i hb
    cases h
    have hy':n≤(y:Int):=by omega
    exact ⟨by simp [Instr.sliceBound,asIntOf,hb.1,hy'],by omega⟩
  · cases h
theorem bounds_ok {c:Ctx} {w:World} {len most l h:Nat} {low high:Option AVal} {lo hi:Option Value} (hb:bounds len most low high=some (l,h))
    (h1:∀ x,low=some x→∃ v,lo=some v∧VR c w x v) (h1':low=none→lo=none) (h2:∀ x,high=some x→∃ v,hi=some v∧VR c w x v) (h2':high=none→hi=none)
    (isSl:Bool) (cap:Nat) (hm:most≤cap) (hlm:len≤most) :
    (Instr.sliceBounds isSl len cap lo hi none).run P w=.ok (l,h,cap) w∧l≤h∧h≤most:=by
  unfold bounds at hb
  cases high with
  | none =>
    rw [h2' rfl]
    cases low with
    | none =>
      rw [h1' rfl]
      simp only [fNat_eq,Option.some.injEq,Prod.mk.injEq] at hb
      obtain ⟨rfl,rfl⟩:=hb
      exact ⟨by simp [Instr.sliceBounds],by omega,hlm⟩
    | some x =>
      obtain ⟨v,rfl,hv⟩:=h1 x rfl
      simp only at hb
      cases hx:bound x len with
      | none=>rw [hx] at hb; cases hb
      | some n =>
        rw [hx] at hb
        simp only [fNat_eq,Option.some.injEq,Prod.mk.injEq] at hb
        obtain ⟨rfl,rfl⟩:=hb
        have:=bound_ok (P:=P) hx hv len (Nat.le_refl _) .sliceB
        exact ⟨by simp [Instr.sliceBounds,this.1],this.2,hlm⟩
  | some y =>
    obtain ⟨u,rfl,hu⟩:=h2 y rfl
    simp only at hb
    cases hy:bound y most with
    | none=>rw [hy] at hb; cases hb
    | some m =>
      rw [hy] at hb
      have hm':=bound_ok (P:=P) hy hu cap hm (if isSl then .sliceAcap else .sliceAlen)
      cases low with
      | none =>
        rw [h1' rfl]
        simp only [fNat_eq,Option.some.injEq,Prod.mk.injEq] at hb
        obtain ⟨rfl,rfl⟩:=hb
        exact ⟨by simp [Instr.sliceBounds,hm'.1],by omega,hm'.2⟩
      | some x =>
        obtain ⟨v,rfl,hv⟩:=h1 x rfl
        simp only at hb
        cases hx:bound x m with
        | none=>rw [hx] at hb; cases hb
        | some n =>
          rw [hx] at hb
          simp only [fNat_eq,Option.some.injEq,Prod.mk.injEq] at hb
          obtain ⟨rfl,rfl⟩:=hb
          have:=bound_ok (P:=P) hx hv m (Nat.le_refl _) .sliceB
          exact ⟨by simp [Instr.sliceBounds,hm'.1,this.1],this.2,hm'.2⟩
end Go.AM
namespace Go.AM
variable {P:Program}
def OptR (c:Ctx) (w:World) (x:Option AVal) (v:Option Value):Prop :=
  (∀ a,x=some a→∃ u,v=some u∧VR c w a u)∧(x=none→v=none)
theorem slice_str {c:Ctx} {w:World} {t:TypeId} (hu:P.underlying t=some .string) {low high:Option AVal} {lo hi:Option Value} {s:ByteArray} {l h:Nat}
    (hb:bounds s.size s.size low high=some (l,h)) (hlo:OptR c w low lo) (hhi:OptR c w high hi) :
    (Instr.sliceAt t (.string s) lo hi none).run P w=.ok (.string (s.extract l h)) w:=by
  obtain ⟨h1,h2,h3⟩:=bounds_ok (P:=P) (w:=w) hb hlo.1 hlo.2 hhi.1 hhi.2 false s.size (Nat.le_refl _) (Nat.le_refl _)
  simp [Instr.sliceAt,run_und hu,Instr.slice,h1]
theorem slice_sl {c:Ctx} {w:World} {t e:TypeId} {te:TI} (hu:P.underlying t=some (.slice e)) (he:TyOK P e te) {low high:Option AVal} {lo hi:Option Value} {a:Option Addr} {len ca most l h:Nat}
    (hb:bounds len most low high=some (l,h)) (hm:most≤ca) (hlm:len≤most) (hlo:OptR c w low lo) (hhi:OptR c w high hi) :
    (Instr.sliceAt t (.slice a len ca) lo hi none).run P w=.ok (.slice (if ca=l then a else a.map (·.add (l * te.size))) (h - l) (ca - l)) w∧l≤h∧h≤most:=by
  obtain ⟨h1,h2,h3⟩:=bounds_ok (P:=P) (w:=w) hb hlo.1 hlo.2 hhi.1 hhi.2 true ca hm hlm
  refine ⟨?_,h2,h3⟩
  simp [Instr.sliceAt,run_und hu,Instr.slice,h1,he.sizeOf]
theorem slice_arr {c:Ctx} {w:World} {t e:TypeId} {te:TI} {n:Nat} (hu:P.underlying t=some (.array n e)) (he:TyOK P e te) {low high:Option AVal} {lo hi:Option Value} {a:Addr} {l h:Nat}
    (hb:bounds n n low high=some (l,h)) (hlo:OptR c w low lo) (hhi:OptR c w high hi) :
    (Instr.sliceAt t (.pointer (some a)) lo hi none).run P w=.ok (.slice (some (if n=l then a else a.add (l * te.size))) (h - l) (n - l)) w∧l≤h∧h≤n:=by
  obtain ⟨h1,h2,h3⟩:=bounds_ok (P:=P) (w:=w) hb hlo.1 hlo.2 hhi.1 hhi.2 false n (Nat.le_refl _) (Nat.le_refl _)
  refine ⟨?_,h2,h3⟩
  simp [Instr.sliceAt,run_und hu,Instr.sureAddr,h1,he.sizeOf]
theorem denSlice_ok {S:Sg} (hS:SgOK P S) {c:Ctx} {w:World} {H:Heap} (r:Rel c w H) {t:TypeId} {x v:AVal} {low high mx:Option AVal} {vx:Value} {lo hi vm:Option Value}
    (h:denSlice S H t x low high mx=some v) (hx:VR c w x vx) (hlo:OptR c w low lo) (hhi:OptR c w high hi) (hmx:OptR c w mx vm):Tells P c w (Instr.sliceAt t vx lo hi vm) v:=by
  unfold denSlice at h
  cases mx with
  | some m=>cases h
  | none =>
    rw [hmx.2 rfl]
    simp only at h
    split at h
    · -- string
      rename_i ht
      have hu:=(hS.ty _ _ ht).und
      simp only at hu
      cases hx with
      | str l s hl =>
        subst hl
        have hsz:s.data.toList.length=s.size:=Array.length_toList
        rw [hsz] at h
        cases hb:bounds s.size s.size low high with
        | none=>rw [hb] at h; cases h
        | some lh =>
          obtain ⟨l,h'⟩:=lh
          rw [hb] at h; cases h
          exact ⟨.string (s.extract l h'),slice_str hu hb hlo hhi,.str _ _ (Lib.extract_data s l h')⟩
    · rename_i ht
      have hu:=(hS.ty _ _ ht).und
      simp only at hu
      split at h
      · rename_i te he
        cases hx
        cases hb:bounds 0 0 low high with
        | none=>rw [hb] at h; cases h
        | some lh =>
          obtain ⟨l,h'⟩:=lh
          rw [hb] at h; cases h
          obtain ⟨h1,h2,h3⟩:=slice_sl (c:=c) (w:=w) (a:=none) hu (hS.ty _ _ he) hb (Nat.le_refl _) (Nat.le_refl _) hlo hhi
          obtain rfl:h'=0:=by omega
          obtain rfl:l=0:=by omega
          exact ⟨_,h1,by simpa using VR.nils⟩
      · cases h
    · rename_i id off len cap sz ht
      have hu:=(hS.ty _ _ ht).und
      simp only at hu
      split at h
      · rename_i te he
        split at h
        · rename_i hz
          cases hb:bounds len (cap.getD len) low high with
          | none=>rw [hb] at h; cases h
          | some lh =>
            obtain ⟨l,h'⟩:=lh
            rw [hb] at h; cases h
            cases hx with
            | sl _ _ _ _ _ b o ca h1 h2 h3 h4 h5 =>
              have hm:cap.getD len≤ca:=by
                cases cap with
                | none=>simpa using h2
                | some n=>simp [h4 n rfl]
              have hlm:len≤cap.getD len:=by
                cases cap with
                | none=>simp
                | some n=>rw [h4 n rfl] at h2; simpa using h2
              obtain ⟨g1,g2,g3⟩:=slice_sl (c:=c) (w:=w) (a:=some ⟨b,o + off,none⟩) hu (hS.ty _ _ he) hb hm hlm hlo hhi
              refine ⟨_,g1,?_⟩
              by_cases hcl:ca=l
              · rw [if_pos hcl]
                obtain rfl:h'=l:=by omega
                have e1:h' - h'=0:=Nat.sub_self _
                have e2:ca - h'=0:=by omega
                rw [e1,e2]
                refine .sl0 _ _ _ _ b o _ h1 fun n hn=>?_
                cases cap with
                | none=>cases hn
                | some m=>simp at hn; have:=h4 m rfl; omega
              · rw [if_neg hcl]
                simp only [Option.map_some,add_none]
                obtain ⟨arr,e',fz,hq,hle⟩:=h5
                have hmul:l * sz + (ca - l) * sz=ca * sz:=by rw [← Nat.add_mul]; congr 1; omega
                rw [hz,Nat.add_assoc]
                refine .sl id (off + l * sz) (h' - l) _ sz b o (ca - l) h1 (by omega) (by omega) (fun n hn=>?_) ⟨arr,e',fz,hq,by omega⟩
                cases cap with
                | none=>cases hn
                | some m=>simp at hn; have:=h4 m rfl; omega
            | sl0 _ _ _ _ b o a h1 hc =>
              have hg:cap.getD 0=0:=by cases cap with | none=>rfl | some n=>exact hc n rfl
              rw [hg] at hb
              obtain ⟨g1,g2,g3⟩:=slice_sl (c:=c) (w:=w) (a:=some a) hu (hS.ty _ _ he) hb (Nat.le_refl _) (Nat.le_refl _) hlo hhi
              obtain rfl:h'=0:=by omega
              obtain rfl:l=0:=by omega
              refine ⟨_,g1,?_⟩
              simp only [if_true,Nat.sub_self]
              refine .sl0 _ _ _ _ b o _ h1 fun n hn=>?_
              cases cap with
              | none=>cases hn
              | some m=>simp at hn; have:=hc m rfl; omega
        · cases h
      · cases h
    · rename_i cells off len cap cl ht
      have hu:=(hS.ty _ _ ht).und
      simp only at hu
      split at h
      · rename_i te he
        cases hb:bounds len len low high with
        | none=>rw [hb] at h; cases h
        | some lh =>
          obtain ⟨l,h'⟩:=lh
          rw [hb] at h; cases h
          have hcap:∀ {ca:Nat},(∀ n,cap=some n→ca=n)→∀ n,cap.map (· - l)=some n→ca - l=n:=by
            intro ca hc n hn
            cases cap with
            | none=>cases hn
            | some m=>simp at hn; have:=hc m rfl; omega
          cases hx with
          | isl _ _ _ _ _ b o ca g hcl hF h2 h3 h4 hc hh =>
            obtain ⟨g1,g2,g3⟩:=slice_sl (c:=c) (w:=w) (a:=some ⟨b,o + off,none⟩) hu (hS.ty _ _ he) hb h2 (Nat.le_refl _) hlo hhi
            refine ⟨_,g1,?_⟩
            by_cases hcl':ca=l
            · rw [if_pos hcl']
              obtain rfl:h'=l:=by omega
              rw [Nat.sub_self]
              exact .isl0 _ _ _ _ _ _ (by omega) (hcap h4)
            · rw [if_neg hcl']
              simp only [Option.map_some,add_none]
              rw [Nat.add_assoc]
              exact .isl cells (off + l * te.size) (h' - l) _ cl b o (ca - l) g hcl hF (by omega) (by omega) (hcap h4) hc hh
          | isl0 _ _ _ _ a ca h1 h2 =>
            obtain ⟨g1,g2,g3⟩:=slice_sl (c:=c) (w:=w) (a:=a) hu (hS.ty _ _ he) hb (Nat.zero_le _) (Nat.le_refl _) hlo hhi
            obtain rfl:h'=0:=by omega
            obtain rfl:l=0:=by omega
            refine ⟨_,g1,?_⟩
            exact .isl0 _ _ _ _ _ _ (by omega) (hcap h2)
      · cases h
    · rename_i n e _ _ _ _ _ _ _ ht
      have hu:=(hS.ty _ _ ht).und
      simp only at hu
      split at h
      · rename_i te l h' he hb
        split at h
        · rename_i id off
          cases hx with
          | ptr _ _ b o h1 =>
            obtain ⟨g1,g2,g3⟩:=slice_arr (c:=c) (w:=w) (a:=⟨b,o + off,none⟩) hu (hS.ty _ _ he) hb hlo hhi
            refine ⟨_,g1,?_⟩
            split at h
            · rename_i vs ty hH
              split at h
              · rename_i hle
                cases h
                by_cases hcl:n=l
                · rw [if_pos hcl]
                  obtain rfl:h'=l:=by omega
                  rw [Nat.sub_self,show n - h'=0 by omega]
                  exact .sl0 _ _ _ _ b o _ h1 fun m hm=>by simp at hm; omega
                · rw [if_neg hcl,add_none,Nat.add_assoc]
                  obtain ⟨arr,e',hq,hl,_⟩:=r.obj id _ b o hH h1
                  have hmul:l * te.size + (n - l) * te.size=n * te.size:=by rw [← Nat.add_mul]; congr 1; omega
                  exact .sl id (off + l * te.size) (h' - l) _ te.size b o (n - l) h1 (by omega) (by omega) (fun m hm=>by simp at hm; omega) ⟨arr,e',_,hq,by omega⟩
              · cases h
            · cases h
        · rename_i cells off cl
          cases hx with
          | ip _ _ _ b o g hcl hF hc hh =>
            obtain ⟨g1,g2,g3⟩:=slice_arr (c:=c) (w:=w) (a:=⟨b,o + off,none⟩) hu (hS.ty _ _ he) hb hlo hhi
            refine ⟨_,g1,?_⟩
            split at h
            · rename_i hle
              cases h
              by_cases hcl':n=l
              · rw [if_pos hcl']
                obtain rfl:h'=l:=by omega
                rw [Nat.sub_self]
                exact .isl0 _ _ _ _ _ _ (by omega) fun m hm=>by simp at hm; omega
              · rw [if_neg hcl',add_none,Nat.add_assoc]
                exact .isl cells (off + l * te.size) (h' - l) _ cl b o (n - l) g hcl hF (by omega) (by omega) (fun m hm=>by simp at hm; omega) hc hh
            · cases h
        · cases h
      · cases h
    · cases h
theorem elemAddr_ok {S:Sg} (hS:SgOK P S) {c:Ctx} {w:World} {t:TypeId} {x v:AVal} {i:Int} {k:IntKind} {vx:Value} (h:elemAddr S t x i=some v) (hx:VR c w x vx) :
    Tells P c w (Instr.indexAt t vx (.int k i)) v:=by
  unfold elemAddr at h
  split at h
  · rename_i n e _ _ _ _ _ _ _ ht
    have hu:=(hS.ty _ _ ht).und
    simp only at hu
    split at h
    · rename_i te he
      split at h
      · rename_i hi
        obtain ⟨b,o,rfl,hv⟩:=ptrAdd_ok h hx
        refine ⟨_,?_,hv⟩
        simp [Instr.indexAt,asIntOf,run_und hu,Instr.sureAddr,hi.1,hi.2,(hS.ty _ _ he).sizeOf,add_none]
      · cases h
    · cases h
  · rename_i e _ _ _ _ _ _ _ ht
    have hu:=(hS.ty _ _ ht).und
    simp only at hu
    split at h
    · rename_i te he
      split at h
      · rename_i id off len cap sz
        split at h
        · rename_i hi
          rw [fNat_eq] at h; cases h
          cases hx with
          | sl _ _ _ _ _ b o ca h1 h2 h3 h4 h5 =>
            refine ⟨.pointer (some ⟨b,o + (off + i.toNat * sz),none⟩),?_,.ptr _ _ b o h1⟩
            simp [Instr.indexAt,asIntOf,run_und hu,hi.2.1,hi.2.2,(hS.ty _ _ he).sizeOf,add_none,hi.1,Nat.add_assoc]
          | sl0 _ _ _ _ b o a h1 hc=>exact absurd hi.2.2 (by have:=hi.2.1; simp; omega)
        · cases h
      · rename_i cells off len cap cl
        split at h
        · rename_i hi
          rw [fNat_eq] at h; cases h
          cases hx with
          | isl _ _ _ _ _ b o ca g hcl hF h2 h3 h4 hc hh =>
            refine ⟨.pointer (some ⟨b,o + (off + i.toNat * te.size),none⟩),?_,.ip _ _ _ b o g hcl hF hc hh⟩
            simp [Instr.indexAt,asIntOf,run_und hu,hi.1,hi.2,(hS.ty _ _ he).sizeOf,add_none,Nat.add_assoc]
          | isl0 _ _ _ _ a ca h1 h2=>exact absurd hi.2 (by have:=hi.1; simp; omega)
        · cases h
      · cases h
    · cases h
  · cases h
theorem part_ok {c:Ctx} {w:World} {t:TypeId} {sz:Nat} {ag:Bool} (hs:∀ w,(sizeOf t).run P w=.ok sz w) (ha:∀ w,(isAgg t).run P w=.ok ag w) {cs:List AVal} {vs:Array Value} {off:Nat} {v:AVal}
    (hl:vs.size=cs.length) (hv:∀ (j:Nat) (a:AVal) (v:Value),cs[j]?=some a→vs[j]?=some v→VR c w a v)
    (h:(if ag then (if off + sz≤cs.length then some (.agg ((cs.drop off).take sz)) else none) else cs[off]?)=some v):Tells P c w (part t vs off) v:=by
  cases ag with
  | false =>
    simp only [Bool.false_eq_true,if_false] at h
    have ho:off < vs.size:=by rw [hl]; exact (List.getElem?_eq_some_iff.1 h).1
    refine ⟨vs[off],?_,hv off v _ h (Array.getElem?_eq_getElem ho)⟩
    simp [part,ha,Array.getElem?_eq_getElem ho]
  | true =>
    simp only [if_true] at h
    split at h
    · rename_i hle
      cases h
      refine ⟨.agg (vs.extract off (off + sz)),by simp [part,ha,hs],.agg _ _ (by simp; omega) fun j a u hja hju=>?_⟩
      rw [List.getElem?_take] at hja
      split at hja
      · rename_i hj
        rw [List.getElem?_drop] at hja
        rw [Array.getElem?_extract] at hju
        split at hju
        · exact hv _ _ _ hja hju
        · cases hju
      · cases hja
    · cases h
theorem denIndex_ok {S:Sg} (hS:SgOK P S) {c:Ctx} {w:World} {t:TypeId} {x v:AVal} {i:Int} {k:IntKind} {vx:Value} (h:denIndex S t x i=some v) (hx:VR c w x vx) :
    Tells P c w (Instr.index t vx (.int k i)) v:=by
  unfold denIndex at h
  split at h
  · rename_i ht
    have hu:=(hS.ty _ _ ht).und
    simp only at hu
    split at h
    · rename_i hi
      cases hx with
      | str l s hl =>
        subst hl
        split at h
        · rename_i b hb
          rw [fNat_eq] at h; cases h
          have hb':s[i.toNat]?=some b:=by
            rw [Array.getElem?_toList] at hb
            have hlt:i.toNat < s.data.size:=(Array.getElem?_eq_some_iff.1 hb).1
            have hlt':i.toNat < s.size:=hlt
            rw [getElem?_pos s i.toNat hlt']
            have:=(Array.getElem?_eq_some_iff.1 hb).2
            exact congrArg some this
          refine ⟨.int .u8 b.toNat,?_,.int _ _⟩
          simp [Instr.index,asIntOf,run_und hu,hi,hb']
        · cases h
    · cases h
  · rename_i n e _ _ _ _ _ _ _ cs ht
    have hu:=(hS.ty _ _ ht).und
    simp only at hu
    split at h
    · rename_i te he
      split at h
      · rename_i hi
        cases hx with
        | agg _ vs hs hh =>
          have T:=hS.ty _ _ he
          obtain ⟨cv,hr,hv⟩:=part_ok (P:=P) (t:=e) (fun w=>T.sizeOf w) (fun w=>T.isAgg w) hs hh h
          refine ⟨cv,?_,hv⟩
          simp [Instr.index,asIntOf,run_und hu,hi.1,hi.2,T.sizeOf,hr]
      · cases h
    · cases h
  · cases h
theorem zeroOf_ok {c:Ctx} {w:World} {t:TypeId} {ti:TI} (ht:TyOK P t ti) {z:AVal} (h:zeroOf ti=some z):∃ cv,(zeroValue t).run P w=.ok cv w∧VR c w z cv:=by
  obtain ⟨inf,hi,hs,hb,zv,hz,hzz,hzl,ha,ha'⟩:=ht.info
  refine ⟨zv,by simp [zeroValue,typeInfo,hi,hz],?_⟩
  unfold zeroOf at h
  cases hag:ti.agg with
  | true =>
    rw [hag] at h; simp only [if_true,Option.some.injEq] at h; subst h
    obtain ⟨cs,rfl⟩:=ha hag
    rw [hzz]
    exact .agg _ _ (by simp [Value.cells]) fun j a v hja hjv=>by
      simp only [Value.cells] at hja
      rw [List.getElem?_map,Array.getElem?_toList,hjv] at hja
      cases hja
      exact .ofV1 _ _ _
  | false =>
    rw [hag] at h; simp only [Bool.false_eq_true,if_false] at h
    rw [hzz,ha' hag] at h
    simp at h; subst h
    exact .ofV1 _ _ _
theorem missing_none {want:Array (String×TypeId)} {got:Array Method} (h:hasAll want got=true):Instr.missingMethod want got=none:=by
  unfold Instr.missingMethod
  have:(want.toList.filter fun (name,sig)=>!got.any fun m=>m.name == name && m.sig == sig)=[]:=by
    rw [List.filter_eq_nil_iff]
    intro x hx
    have:=(List.all_eq_true.1 h) x hx
    simpa using this
  rw [this]
  rfl
theorem least_some {l:List String} (h:l≠[]):∃ m,Instr.least l=some m:=by
  cases l with
  | nil=>exact absurd rfl h
  | cons s r=>exact ⟨_,rfl⟩
theorem missing_some {want:Array (String×TypeId)} {got:Array Method} (h:¬ hasAll want got=true):∃ m,Instr.missingMethod want got=some m:=by
  unfold Instr.missingMethod
  generalize hm:(want.toList.filter fun (name,sig)=>!got.any fun m=>m.name == name && m.sig == sig).map (·.1)=l
  have hl:l≠[]:=by
    intro h0
    rw [h0,List.map_eq_nil_iff,List.filter_eq_nil_iff] at hm
    refine h (List.all_eq_true.2 fun x hx=>?_)
    have:=hm x hx
    simpa using this
  simp only
  cases h1:Instr.least (l.partition (·.contains '.')).2 with
  | some m=>exact ⟨m,rfl⟩
  | none =>
    have h2:(l.partition (·.contains '.')).2=[]:=by
      cases hp:(l.partition (·.contains '.')).2 with
      | nil=>rfl
      | cons s r=>rw [hp] at h1; cases h1
    have h3:(l.partition (·.contains '.')).1≠[]:=by
      intro h3
      rw [List.partition_eq_filter_filter] at h2 h3
      simp only [List.filter_eq_nil_iff] at h2 h3
      cases l with
      | nil=>exact hl rfl
      | cons s r =>
        have a:=h2 s (by simp)
        have b:=h3 s (by simp)
        simp_all
    obtain ⟨m, hm⟩ := least_some (l := ((l.partition (·.contains '.')).1.map fun id => (id.splitOn ".").getLastD id)) (by simpa using h3)
    exact ⟨m,by rw [hm]; rfl⟩
theorem denAssert_ok {S:Sg} (hS:SgOK P S) {c:Ctx} {w:World} {x v:AVal} {xt t:TypeId} {ok:Bool} {vx:Value} (h:denAssert S x t ok=some v) (hx:VR c w x vx) :
    Tells P c w (Instr.typeAssert vx xt t ok) v:=by
  unfold denAssert at h
  cases ht:S.ty t with
  | none=>rw [ht] at h; cases h
  | some ta =>
    rw [ht] at h
    simp only at h
    have T:=hS.ty t ta ht
    have two:∀ {a b:AVal} {x y:Value},VR c w a x→VR c w b y→VR c w (.tup [a,b]) (.tuple #[x,y]):=by
      intro a b x y h1 h2
      refine .tup _ _ rfl fun j a v ha hv=>?_
      match j with
      | 0=>simp at ha hv; subst ha; subst hv; exact h1
      | 1=>simp at ha hv; subst ha; subst hv; exact h2
      | j + 2=>simp at ha
    split at h
    · -- to an interface type
      rename_i want hw
      have hu:=T.und
      rw [hw] at hu
      split at h
      · rename_i tt a
        cases hx with
        | iface _ _ v' hv' =>
          split at h
          · cases h
          · rename_i ti hti
            obtain ⟨inf,hinf,_⟩:=(hS.ty _ _ hti).info
            have hm:=((hS.ty _ _ hti).more inf hinf).2
            split at h
            · rename_i hall
              rw [← hm] at hall
              have hmi:=missing_none hall
              cases ok with
              | true =>
                simp only [if_true,Option.some.injEq] at h; subst h
                refine ⟨.tuple #[.iface tt v',.bool true],?_,two (.iface _ _ _ hv') (.bool true)⟩
                unfold Instr.typeAssert
                simp [run_und hu,typeInfo,hinf,hmi]
              | false =>
                simp only [Bool.false_eq_true,if_false,Option.some.injEq] at h; subst h
                refine ⟨.iface tt v',?_,.iface _ _ _ hv'⟩
                unfold Instr.typeAssert
                simp [run_und hu,typeInfo,hinf,hmi]
            · rename_i hall
              rw [← hm] at hall
              obtain ⟨m,hmi⟩:=missing_some hall
              cases ok with
              | false=>cases h
              | true =>
                simp only [if_true] at h
                split at h
                · rename_i z hz
                  cases h
                  obtain ⟨cz,hcz,hvz⟩:=zeroOf_ok (c:=c) (w:=w) T hz
                  refine ⟨.tuple #[cz,.bool false],?_,two hvz (.bool false)⟩
                  unfold Instr.typeAssert
                  simp [run_und hu,typeInfo,hinf,hmi,hcz]
                · cases h
      · cases hx
        cases ok with
        | false=>cases h
        | true =>
          simp only [if_true] at h
          split at h
          · rename_i z hz
            cases h
            obtain ⟨cz,hcz,hvz⟩:=zeroOf_ok (c:=c) (w:=w) T hz
            refine ⟨.tuple #[cz,.bool false],?_,two hvz (.bool false)⟩
            unfold Instr.typeAssert
            simp [run_und hu,hcz]
          · cases h
      · cases h
    · rename_i hni
      have hu:=T.und
      split at h
      · rename_i tt a
        cases hx with
        | iface _ _ v' hv' =>
          split at h
          · rename_i he
            subst he
            cases ok with
            | true =>
              simp only [if_true,Option.some.injEq] at h; subst h
              refine ⟨.tuple #[v',.bool true],?_,two hv' (.bool true)⟩
              unfold Instr.typeAssert
              simp only [Sem.run_bind,run_und hu,Result.andThen_ok]
              split <;> simp_all
            | false =>
              simp only [Bool.false_eq_true,if_false,Option.some.injEq] at h; subst h
              refine ⟨v',?_,hv'⟩
              unfold Instr.typeAssert
              simp only [Sem.run_bind,run_und hu,Result.andThen_ok]
              split <;> simp_all
          · rename_i he
            cases ok with
            | false=>cases h
            | true =>
              simp only [if_true] at h
              split at h
              · rename_i z hz
                cases h
                obtain ⟨cv,hr,hv⟩:=zeroOf_ok (c:=c) (w:=w) T hz
                refine ⟨.tuple #[cv,.bool false],?_,two hv (.bool false)⟩
                unfold Instr.typeAssert
                simp only [Sem.run_bind,run_und hu,Result.andThen_ok]
                split <;> simp_all
              · cases h
      · cases hx
        cases ok with
        | false=>cases h
        | true =>
          simp only [if_true] at h
          split at h
          · rename_i z hz
            cases h
            obtain ⟨cv,hr,hv⟩:=zeroOf_ok (c:=c) (w:=w) T hz
            refine ⟨.tuple #[cv,.bool false],?_,two hv (.bool false)⟩
            unfold Instr.typeAssert
            simp only [Sem.run_bind,run_und hu,Result.andThen_ok]
            split <;> simp_all
          · cases h
      · cases h
end Go.AM
