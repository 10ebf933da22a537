import Derived.Test.YtjlmihjhakfchaaGreatDoorA6
import Derived.Test.YtjlmihjhakfchaaGreatDoorA7
import Derived.Test.YtjlmihjhakfchaaGreatDoorN1
import Derived.Test.YtjlmihjhakfchaaGreatDoorS0
set_option linter.unusedVariables false
set_option linter.unusedSimpArgs false
noncomputable section
namespace Go.AM.C
open Go.Proofs Go.RowKit Go.Maps Go.Sort Go.Shelf
noncomputable section
def keysS (l:List (List UInt8×Int)):List (List UInt8):=(l.map (·.1)).mergeSort fun x y=>decide (x≤y)
def anyR:Value→Option (DataW Unit×List MemPlace):=fun _=>some (.nil,[])
theorem sorts (m:Nat):AnyZ.SortsIn Tryz.prog Tryz.sortedL_ren Fence.wide m :=
  ⟨fun blk off cap ss W hH hblk hsz=>callsIn_wide.2 (AnyM.slices_Sort_string Tryz.sortL blk off cap ss W hH hblk hsz),
   fun p cap W=>callsIn_wide.2 (AnyM.slices_Sort_string_none Tryz.sortL p cap W)⟩
theorem keys_call (mb:Option Nat) (W:World):Calls Tryz.prog 105 #[.map mb] W fun e w'=>e=.returned (.func (.func 196) #[] #[.pointer (some ⟨W.heap.size,0,none⟩)])∧w'=W.alloc (.cells #[.map mb] 143) :=
  callsIn_wide.1 (AnyZ.keys_in Tryz.keysL Fence.wide 5 trivial rfl mb W)
set_option maxHeartbeats 1000000 in
theorem sorted_call {H:Type} (b nn:Nat) (D0:DataW H) (R:Value→Option (DataW H×List MemPlace)) (w:World) (hown:w.ownsMap Tryz.prog 9 R b nn D0) (hmax:Maps.size D0≤maxLen) (hbytes:Maps.size D0 * 16≤140737488355328) :
    Calls Tryz.prog 104 #[.func (.func 196) #[] #[.pointer (some ⟨w.heap.size,0,none⟩)]] (w.alloc (.cells #[.map (some b)] 143)) fun e w'=>∃ (v:Value) (ss:List (List UInt8)),e=.returned v∧ss.Perm (strKeys D0) ∧
      w'.ownsRow (w.alloc (.cells #[.map (some b)] 143)).heap.size 9 1 v ss.length ((ss.mergeSort (fun x y=>decide (x≤y))).map encStr)∧(v=.slice none 0 0↔ss=[])∧Below (w.alloc (.cells #[.map (some b)] 143)).heap.size (w.alloc (.cells #[.map (some b)] 143)) w':=by
  have hbl:=hown.lt
  have hseq:SeqGives Fence.wide 2 Tryz.prog 196 #[.pointer (some ⟨w.heap.size,0,none⟩)] encStr (fun ss=>ss.Perm (strKeys D0)) (Maps.size D0) (w.alloc (.cells #[.map (some b)] 143)) :=
    AnyZ.keys_gives (ρ:=Tryz.keysL_ren) { Tryz.keysL with } Fence.wide _ trivial rfl (by omega) w.heap.size b nn D0 _ (by simp) (by simp) (by
      obtain ⟨es,clock,hb,Ft,hs,hD⟩:=hown
      exact ⟨es,clock,(Below.heap_alloc _ _ b hbl).trans hb,Ft,hs,hD⟩)
  exact callsIn_wide.1 (AnyZ.sorted_in Tryz.sortedL Fence.wide 5 trivial trivial trivial trivial rfl (by omega) (sorts _) (enters_of Tryz.func195 (by kernel_rfl) rfl) 196 #[.pointer (some ⟨w.heap.size,0,none⟩)] trivial (enters_of Tryz.func196 (by kernel_rfl) rfl) _ _ hmax hbytes _ hseq)
set_option maxHeartbeats 1000000 in
theorem sorted_nil_call (w:World) :
    Calls Tryz.prog 104 #[.func (.func 196) #[] #[.pointer (some ⟨w.heap.size,0,none⟩)]] (w.alloc (.cells #[.map none] 143)) fun e w'=>∃ (v:Value) (ss:List (List UInt8)),e=.returned v∧ss=[] ∧
      w'.ownsRow (w.alloc (.cells #[.map none] 143)).heap.size 9 1 v ss.length ((ss.mergeSort (fun x y=>decide (x≤y))).map encStr)∧(v=.slice none 0 0↔ss=[])∧Below (w.alloc (.cells #[.map none] 143)).heap.size (w.alloc (.cells #[.map none] 143)) w':=by
  have hseq:SeqGives Fence.wide 2 Tryz.prog 196 #[.pointer (some ⟨w.heap.size,0,none⟩)] encStr (fun ss:List (List UInt8)=>ss=[]) 0 (w.alloc (.cells #[.map none] 143)) :=
    AnyZ.keys_gives_nil (ρ:=Tryz.keysL_ren) { Tryz.keysL with } Fence.wide _ trivial rfl w.heap.size _ (by simp) (by simp)
  exact callsIn_wide.1 (AnyZ.sorted_in Tryz.sortedL Fence.wide 5 trivial trivial trivial trivial rfl (by omega) (sorts _) (enters_of Tryz.func195 (by kernel_rfl) rfl) 196 #[.pointer (some ⟨w.heap.size,0,none⟩)] trivial (enters_of Tryz.func196 (by kernel_rfl) rfl) _ 0 (Nat.zero_le _) (by omega) _ hseq)
theorem owns_imap {c:Ctx} {w:World} {l:List (List UInt8×Int)} {cv:Value} (h:VR c w (imapA l) cv) (hnd:(l.map (·.1)).Nodup) (hk:∀ e∈l,e.1.length≤4611686018427387904) (hl:l.length < 1073741824) :
    ∃ (b:Nat) (D0:DataW Unit),cv=.map (some b)∧w.ownsMap Tryz.prog 9 anyR b l.length D0∧Maps.size D0=l.length∧(strKeys D0).Perm (l.map (·.1)):=by
  unfold imapA at h
  cases h with
  | imap _ _ _ ks' vs' b mes clk k1 hst k3 hb h1 h2 hp h3 h4 =>
    rw [show (l.map fun e=>AVal.str e.1).zip (l.map fun e=>iA e.2)=l.map fun e=>(AVal.str e.1,iA e.2) from entsF_zip iA l] at hp
    obtain ⟨l',hpl,he⟩:=perm_map_inv (fun e:List UInt8×Int=>(AVal.str e.1,iA e.2)) hp l rfl
    have hks:ks'=l'.map fun e=>AVal.str e.1:=by
      have:=congrArg (List.map Prod.fst) he
      rw [List.map_fst_zip (by omega)] at this
      rw [this]; simp
    subst hks
    have hsz:mes.size=l.length:=by rw [h1]; simp [hpl.length_eq]
    have key:∀ (j:Nat) (m:MapEntry) (hm:mes[j]?=some m),∃ e∈l',l'[j]?=some e∧m.key=encStr e.1:=by
      intro j m hm
      have hj:j < l'.length:=by have:=(Array.getElem?_eq_some_iff.1 hm).1; simpa [h1] using this
      have hv:=h3 j (.str l'[j].1) m (by rw [List.getElem?_map,List.getElem?_eq_getElem hj]; rfl) hm
      refine ⟨l'[j],List.getElem_mem hj,List.getElem?_eq_getElem hj,?_⟩
      generalize m.key=q at hv
      cases hv with
      | str _ s hs=>rw [encStr,← hs]
    have hkeys:mes.toList.map (·.key)=l'.map fun e=>encStr e.1:=by
      apply List.ext_getElem?
      intro j
      rw [List.getElem?_map,List.getElem?_map,Array.getElem?_toList]
      cases hm:mes[j]? with
      | none =>
        have:l'[j]?=none:=by
          rw [List.getElem?_eq_none_iff]
          have:=Array.getElem?_eq_none_iff.1 hm
          simpa [h1] using this
        rw [this]; rfl
      | some m =>
        obtain ⟨e,_,hje,hke⟩:=key j m hm
        rw [hje]
        simp [hke]
    have hnd':(l'.map (·.1)).Nodup:=(hpl.map (·.1)).nodup_iff.2 hnd
    have rdOf:∀ (j:Nat) (m:MapEntry),mes[j]?=some m→∃ e,l'[j]?=some e∧WideElems.rd Tryz.prog 9 anyR m=some (.string e.1,.nil):=by
      intro j m hm
      obtain ⟨e,hel,hje,hke⟩:=key j m hm
      refine ⟨e,hje,?_⟩
      have hsz:(⟨e.1.toArray⟩:ByteArray).size≤maxLen:=by
        have:=hk e (hpl.mem_iff.1 hel)
        show e.1.toArray.size≤maxLen
        unfold maxLen
        simp; omega
      have hko:keyOf Tryz.prog 9 m.key=some (.string e.1):=by
        rw [hke]
        unfold keyOf
        rw [Tryz.underlying9]
        simp only
        unfold mapKey
        rw [Tryz.underlying9]
        simp only [encStr]
        rw [if_pos hsz]
      unfold WideElems.rd
      rw [hko]
      rfl
    have fit:WideElems.Fit Tryz.prog 9 anyR mes clk:=by
      refine ⟨by rw [hsz]; unfold maxLen; omega,⟨fun x hx=>?_,?_,?_⟩,fun x hx=>?_⟩
      · obtain ⟨j,hj,rfl⟩:=List.getElem_of_mem hx
        rw [Array.length_toList] at hj
        rw [Array.getElem_toList,hst.born j _ (Array.getElem?_eq_getElem hj),hst.clk]
        exact hj
      · rw [List.nodup_iff_pairwise_ne,List.pairwise_map,List.pairwise_iff_getElem]
        intro x y hx hy hxy
        have h1:=hst.born x mes[x] (Array.getElem?_eq_getElem (by simpa using hx))
        have h2:=hst.born y mes[y] (Array.getElem?_eq_getElem (by simpa using hy))
        simp only [Array.getElem_toList]
        omega
      · rw [hkeys]
        rw [show (l'.map fun e=>encStr e.1)=(l'.map (·.1)).map encStr by simp]
        rw [List.nodup_iff_pairwise_ne,List.pairwise_map]
        exact (List.nodup_iff_pairwise_ne.1 hnd').imp fun hne he=>hne (encStr_inj he)
      · obtain ⟨j,hj,rfl⟩:=List.getElem_of_mem hx
        rw [Array.length_toList] at hj
        obtain ⟨e,_,hr⟩:=rdOf j mes[j] (Array.getElem?_eq_getElem hj)
        exact ⟨_,by rw [Array.getElem_toList]; exact hr⟩
    refine ⟨b,_,rfl,⟨mes,clk,hb,fit,by omega,rfl⟩,?_,?_⟩
    · show (List.foldr DataW.insert [] (mes.toList.map (WideElems.rg Tryz.prog 9 anyR))).length=l.length
      rw [length_sorted]; simp [hsz]
    · show (List.map (fun p=>strOf p.1) (List.foldr DataW.insert [] (mes.toList.map (WideElems.rg Tryz.prog 9 anyR)))).Perm _
      refine ((WideShapes.sorted_perm _).map _).trans ?_
      have:(mes.toList.map (WideElems.rg Tryz.prog 9 anyR)).map (fun p=>strOf p.1)=l'.map (·.1):=by
        apply List.ext_getElem?
        intro j
        rw [List.getElem?_map,List.getElem?_map,List.getElem?_map,Array.getElem?_toList]
        cases hm:mes[j]? with
        | none =>
          have:l'[j]?=none:=by
            rw [List.getElem?_eq_none_iff]
            have:=Array.getElem?_eq_none_iff.1 hm
            simpa [h1] using this
          rw [this]; rfl
        | some m =>
          obtain ⟨e,hje,hr⟩:=rdOf j m hm
          rw [hje]
          simp [WideElems.rg,hr,strOf]
      rw [this]
      exact hpl.map (·.1)
theorem keysS_perm (l:List (List UInt8×Int)):(keysS l).Perm (l.map (·.1)):=List.mergeSort_perm _ _
theorem keysS_len (l:List (List UInt8×Int)):(keysS l).length=l.length:=by rw [(keysS_perm l).length_eq]; simp
theorem keysSorted (src:AVal) (l:List (List UInt8×Int)) (hsrc:IsM src l) (hnd:(l.map (·.1)).Nodup) (hk:∀ e∈l,e.1.length≤4611686018427387904) (hl:l.length < 1073741824) (H:Heap) :
    ∀ c w cargs,Rel c w H→Glob S0 c w→VRs c w [src] cargs→Serves Tryz.prog 105 cargs w fun cv1 w1=>Serves Tryz.prog 104 #[cv1] w1 fun cv2 w2 =>
      ∃ c2,Rel c2 w2 H∧Post c w H c2 w2 H∧VR c2 w2 (.isl (strsA (keysS l)) 0 (keysS l).length none true) cv2:=by
  intro c w cargs r hg ha
  have e1:∀ w cargs,(callFunc 105 cargs).run Tryz.prog w=.ok (.enter 105 cargs) w:=fun w cargs=>enters_of Tryz.func105 (by kernel_rfl) rfl cargs w
  have e2:∀ w cargs,(callFunc 104 cargs).run Tryz.prog w=.ok (.enter 104 cargs) w:=fun w cargs=>enters_of Tryz.func104 (by kernel_rfl) rfl cargs w
  obtain ⟨v,rfl,hv⟩:=ha.one
  have fin:∀ (x:Obj) (w2:World) (v2:Value) (ss:List (List UInt8)),ss.Perm (l.map (·.1))→w2.ownsRow (w.alloc x).heap.size 9 1 v2 ss.length ((ss.mergeSort (fun x y=>decide (x≤y))).map encStr)→Below (w.alloc x).heap.size (w.alloc x) w2 →
      ∃ c2,Rel c2 w2 H∧Post c w H c2 w2 H∧VR c2 w2 (.isl (strsA (keysS l)) 0 (keysS l).length none true) v2:=by
    intro x w2 v2 ss hss hrow hb
    have hks:ss.mergeSort (fun x y=>decide (x≤y))=keysS l:=mergeSort_of_perm hss
    have hlen:ss.length=(keysS l).length:=by rw [← hks]; simp
    rw [hks,hlen] at hrow
    have hsz:w.heap.size≤(w.alloc x).heap.size:=by simp
    have hb':Below w.heap.size w w2:=((Below.refl _ w).alloc (Nat.le_refl _) x).trans (hb.mono hsz)
    rcases hrow.2 with ⟨rfl,hz⟩ | ⟨gb,cap,cur,rfl,hbase,hgb,r1,r2,r3,r4⟩
    · obtain ⟨r',p'⟩:=below_post r hb'
      have:keysS l=[]:=List.eq_nil_of_length_eq_zero (by simpa using hz)
      rw [this]
      exact ⟨c,r',p',.isl0 _ _ _ _ _ _ (by decide) (fun n hn=>by cases hn)⟩
    · exact strs_new r hb' (by omega) hgb r1 (by unfold maxLen at r2; omega) (by simpa using r4)
  rcases hsrc with rfl | ⟨rfl,rfl⟩
  · obtain ⟨b,D0,rfl,hown,hsz,hperm⟩:=owns_imap hv hnd hk hl
    refine .inl ⟨fun w=>e1 w _,(keys_call (some b) w).mono ?_⟩
    rintro e w1 ⟨rfl,rfl⟩
    refine ⟨_,rfl,.inl ⟨fun w=>e2 w _,(sorted_call b l.length D0 anyR w hown (by rw [hsz]; unfold maxLen; omega) (by omega)).mono ?_⟩⟩
    rintro e w2 ⟨v2,ss,rfl,hss,hrow,_,hb⟩
    exact ⟨v2,rfl,fin _ w2 v2 ss (hss.trans hperm) hrow hb⟩
  · cases hv
    refine .inl ⟨fun w=>e1 w _,(keys_call none w).mono ?_⟩
    rintro e w1 ⟨rfl,rfl⟩
    refine ⟨_,rfl,.inl ⟨fun w=>e2 w _,(sorted_nil_call w).mono ?_⟩⟩
    rintro e w2 ⟨v2,ss,rfl,rfl,hrow,_,hb⟩
    exact ⟨v2,rfl,fin _ w2 v2 [] (List.Perm.refl _) hrow hb⟩
end
end Go.AM.C
namespace Go.AM.C
open Go.Proofs
noncomputable section
def allOf (ks:List (List UInt8)) (l:Posts):Posts:=(ks.map fun k=>(k,look 0 l k)).filter fun p=>!decide (p.2=0)
def allE (l:Posts):Posts:=allOf (keysS l) l
def postC (l:Posts):List AVal:=l.flatMap fun p=>[.str p.1,iA p.2]
def postsA (l:Posts):AVal:=if l=[] then .nils else .isl (postC l) 0 l.length none true
theorem postC_len (l:Posts):(postC l).length=l.length * 2:=by
  induction l with
  | nil=>rfl
  | cons p l ih=>simp only [postC,List.flatMap_cons,List.length_append,List.length_cons,List.length_nil] at ih ⊢; omega
theorem postC_app (l:Posts) (p:List UInt8×Int):postC (l ++ [p])=postC l ++ [.str p.1,iA p.2]:=by simp [postC]
theorem postC_closed (l:Posts):∀ a∈postC l,a.closed1=true:=by
  intro a h
  obtain ⟨p,_,hp⟩:=List.mem_flatMap.1 h
  simp only [List.mem_cons,List.not_mem_nil,or_false] at hp
  rcases hp with rfl | rfl <;> rfl
theorem postsA_closed (l:Posts):(postsA l).closed=true:=by unfold postsA; split <;> rfl
theorem allOf_snoc (ks:List (List UInt8)) (k:List UInt8) (l:Posts):allOf (ks ++ [k]) l=if look 0 l k=0 then allOf ks l else allOf ks l ++ [(k,look 0 l k)]:=by
  unfold allOf
  rw [List.map_append,List.filter_append,List.map_singleton]
  by_cases h:look 0 l k=0
  · rw [if_pos h]; simp [h]
  · rw [if_neg h]; simp [h]
theorem allOf_len (ks:List (List UInt8)) (l:Posts):(allOf ks l).length≤ks.length:=by
  unfold allOf
  refine Nat.le_trans (List.length_filter_le _ _) (by simp)
def OutOK (HH:Heap) (N:Nat) (v:AVal) (out:Posts):Prop:=v=.nils∧out=[]∨∃ id ty,N≤id∧v=.sl id 0 out.length none 2∧HH[id]?=some (.cells (postC out) ty)
theorem out_seal {HH:Heap} {N:Nat} {v:AVal} {out:Posts} (h:OutOK HH N v out) (hne:v=.nils∨out≠[]):SealsN N HH v (postsA out):=by
  rcases h with ⟨rfl,rfl⟩ | ⟨id,ty,hN,rfl,hH⟩
  · exact SealsN.same _ rfl
  · have hne':out≠[]:=by
      rcases hne with h | h
      · cases h
      · exact h
    unfold postsA
    rw [if_neg hne']
    refine SealsN.sl id 0 _ none 2 _ ty _ hN hH (by rw [postC_len]; omega) (postC_len out) (fun j a b ha hb=>?_) (postC_closed out)
    rw [Nat.zero_add] at ha
    rw [ha] at hb
    cases hb
    exact SealsN.same _ (closed1_ (postC_closed out a (List.mem_of_getElem? ha)))
theorem keep_set {H HH:Heap} {id:Nat} {x:AObj} (h:Ext.Keeps H HH) (hi:H.length≤id):Ext.Keeps H (HH.set id x):=fun j hj=>by rw [List.getElem?_set_ne (by omega)]; exact h j hj
theorem src_lookup {src:AVal} {l:Posts} {H:Heap} (hsrc:IsM src l) (hnd:(l.map (·.1)).Nodup) (k:List UInt8):denLookup S0 H 143 src (.str k) false=some (iA (look 0 l k)):=by
  rcases hsrc with rfl | ⟨rfl,rfl⟩
  · exact lookup_imap (f:=iA) (z:=0) tM rfl tS rfl tI rfl hnd
  · exact lookup_nilm (f:=iA) (z:=0) tM rfl tS rfl tI rfl
theorem tSs:S0.ty 52=some ti52:=rfl
set_option maxRecDepth 100000 in
theorem ledger_all (l:Posts) (src:AVal) (H:Heap) (L off:Nat) (vs0:List AVal) (ty0:TypeId) (hL:H[L]?=some (.cells vs0 ty0)) (hm:vs0[off]?=some src) (hsrc:IsM src l) (hnd:(l.map (·.1)).Nodup) (hk:∀ e∈l,e.1.length≤4611686018427387904) (hl:l.length < 1073741824) :
    Has 39 [.ptr L off] H (postsA (allE l)) H:=by
  have hLlt:L < H.length:=(List.getElem?_eq_some_iff.1 hL).1
  have hHs:H.set L (.cells vs0 ty0)=H:=set_same hL
  rw [show Has 39 [.ptr L off] H (postsA (allE l)) H=Has 39 [.ptr L off] H (postsA (allE l)) (H.set L (.cells vs0 ty0)) by rw [hHs]]
  generalize hR:postsA (allE l)=R
  refine does_mut s0 (show S0.fn 39=some Tryz.f39 by kernel_rfl) rfl (by kernel_rfl) (Nat.le_of_ble_eq_true rfl) (L:=L) (offL:=off) (by simp) hL (by rw [← hR]; exact postsA_closed _) ?_
  refine W.seq (W.region ?_)
  refine WO.op rfl rfl (WO.nil (W.seq (W.seq (W.region ?_))))
  refine WO.op rfl rfl ?_
  refine WO.op rfl rfl (WO.nil (W.cond (b:=false) rfl (fun h=>by cases h) (fun _=>W.skip (W.seq (W.region ?_)))))
  refine WO.op rfl rfl (WO.nil (W.seq (W.seq (W.region ?_))))
  iterate 3 refine WO.op rfl rfl ?_
  refine WO.op (G.load_ptr rfl tM rfl hL hm) rfl ?_
  refine WO.call2 (f2:=104) (H2:=H) (v:=.isl (strsA (keysS l)) 0 (keysS l).length none true) rfl rfl rfl rfl rfl rfl rfl (keysSorted src l hsrc hnd hk hl H) ?_
  have hn:(keysS l).length < 1073741824:=by rw [keysS_len]; exact hl
  unfold allE at hR
  generalize keysS l=ks at hn hR
  refine WO.op (G.len_isl rfl rfl rfl tSs rfl) rfl ?_
  refine WO.op rfl rfl (WO.nil (W.block ?_))
  refine W.fits (F':=fr [(0,.ptr L off),(3,.nils),(13,.isl (strsA ks) 0 ks.length none true),(14,iA (ks.length:Int)),(15,iA ((0:Nat):Int))]) (fits_fr ⟨rfl,rfl,rfl,rfl,rfl,trivial⟩) ?_
  refine W.loopI (α:=Nat×Heap×AVal) (fun x=>x.1≤ks.length∧Ext.Keeps H x.2.1∧H.length≤x.2.1.length∧OutOK x.2.1 H.length x.2.2 (allOf (ks.take x.1) l)∧(x.2.2=.nils∨allOf (ks.take x.1) l≠[])) (fun x=>ks.length - x.1)
    (fun x=>fr [(0,.ptr L off),(3,x.2.2),(13,.isl (strsA ks) 0 ks.length none true),(14,iA (ks.length:Int)),(15,iA (x.1:Int))]) (fun x=>x.2.1) ?_ (0,H,.nils) ⟨Nat.zero_le _,fun _ _=>rfl,Nat.le_refl _,.inl ⟨rfl,rfl⟩,.inl rfl⟩
  rintro ⟨j,HH,out⟩ ⟨hj,hkeep,hlen,hout,hne⟩
  simp only at hj hkeep hlen hout hne
  have hLH:∀ X,(HH ++ X)[L]?=some (.cells vs0 ty0):=fun X=>by rw [List.getElem?_append_left (by omega),hkeep L hLlt]; exact hL
  have hLH0:HH[L]?=some (.cells vs0 ty0):=(hkeep L hLlt).trans hL
  refine W.seq (W.region ?_)
  by_cases hlt:j < ks.length
  · obtain ⟨k,hkj⟩:∃ k,ks[j]?=some k:=⟨_,List.getElem?_eq_getElem hlt⟩
    have hsj:(strsA ks)[0 + (j:Int).toNat * 1]?=some (.str k):=by rw [idx0',strsA,List.getElem?_map,hkj]; rfl
    have htk:ks.take (j + 1)=ks.take j ++ [k]:=by rw [List.take_add_one,hkj]; rfl
    have hsn:=allOf_snoc (ks.take j) k l
    rw [← htk] at hsn
    refine WO.as (v':=.bool true) rfl rfl (bdT (by omega)) (WO.nil (W.seq (W.cond (b:=true) rfl (fun _=>W.skip ?_) (fun h=>by cases h))))
    refine W.seq (W.block (W.seq (W.region ?_)))
    refine WO.op (G.idx_isl rfl rfl tSs rfl tS (by omega) (by omega)) rfl ?_
    refine WO.op (G.load_ip rfl tS rfl hsj) rfl ?_
    refine WO.op rfl rfl (WO.nil (W.seq (W.region ?_)))
    iterate 3 refine WO.op rfl rfl ?_
    refine WO.op (G.load_ptr rfl tM rfl hLH0 hm) rfl ?_
    refine WO.op rfl rfl ?_
    refine WO.op (v:=iA (look 0 l k)) (congrArg (withH _) (src_lookup hsrc hnd k)) rfl ?_
    refine WO.op rfl rfl (WO.nil ?_)
    by_cases hz:look 0 l k=0
    · rw [if_pos hz] at hsn
      rw [hz]
      refine W.cond (b:=false) rfl (fun h=>by cases h) (fun _=>W.skip (W.region ?_))
      refine WO.as (v':=iA ((j + 1:Nat):Int)) rfl rfl (int_i64 (by omega) (by omega)) ?_
      refine WO.op rfl rfl (WO.nil ⟨(j + 1,HH,out),⟨by omega,hkeep,hlen,by rw [hsn]; exact hout,by rw [hsn]; exact hne⟩,by simp only; omega,fits_fr ⟨rfl,rfl,rfl,rfl,rfl,trivial⟩,rfl⟩)
    · rw [if_neg hz] at hsn
      refine W.cond (b:=!decide (look 0 l k=0)) rfl (fun _=>?_) (fun h=>by rw [decide_eq_false hz] at h; cases h)
      refine W.region ?_
      iterate 5 refine WO.op rfl rfl ?_
      refine WO.op (G.load_ptr rfl tM rfl hLH0 hm) rfl ?_
      refine WO.op rfl rfl ?_
      refine WO.op (v:=iA (look 0 l k)) (congrArg (withH _) (src_lookup hsrc hnd k)) rfl ?_
      refine WO.op (v:=.agg [.str k,iA (look 0 l k)]) (H1:=HH) rfl rfl ?_
      refine WO.op (v:=.sl HH.length 0 1 (some 1) 2) (H1:=HH ++ [.cells [.str k,iA (look 0 l k)] 70]) rfl rfl ?_
      have hnel:allOf (ks.take j) l ++ [(k,look 0 l k)]≠[]:=by simp
      have hol:(allOf (ks.take j) l).length < 1073741824:=by have:=allOf_len (ks.take j) l; simp at this; omega
      rcases hout with ⟨rfl,ho⟩ | ⟨id,ty,hN,rfl,hH⟩
      · refine WO.op (G.append_nils (ti:=ti76) (te:=ti70) (id2:=HH.length) (cap2:=some 1) rfl rfl rfl tP rfl tp (app_at rfl) rfl rfl (by decide)) rfl ?_
        refine WO.op rfl rfl (WO.nil (W.region ?_))
        refine WO.as (v':=iA ((j + 1:Nat):Int)) rfl rfl (int_i64 (by omega) (by omega)) ?_
        refine WO.op rfl rfl (WO.nil ⟨(j + 1,_,_),⟨by omega,?_,?_,?_,?_⟩,by simp only; omega,fits_fr ⟨rfl,rfl,rfl,rfl,rfl,trivial⟩,rfl⟩)
        · exact Keeps.trans (Keeps.trans hkeep (Keeps.app _ _) hlen) (Keeps.app _ _) (by simp; omega)
        · simp; omega
        · refine .inr ⟨(HH ++ [AObj.cells [.str k,iA (look 0 l k)] 70]).length,70,by simp; omega,?_,?_⟩
          · simp only [hsn,ho,List.nil_append]; rfl
          · simp only [hsn,ho,List.nil_append]
            exact app_at rfl
        · exact .inr (by simp only [hsn]; exact hnel)
      · have hidl:id < HH.length:=(List.getElem?_eq_some_iff.1 hH).1
        refine WO.op (G.append_sl (ti:=ti76) (te:=ti70) (id2:=HH.length) (cap2:=some 1) (id:=id) (len:=(allOf (ks.take j) l).length) (vs:=postC (allOf (ks.take j) l)) (ty:=ty) rfl rfl rfl tP rfl tp (app_at rfl) rfl rfl (by decide) (by decide) (by rw [app_lt hidl]; exact hH) (postC_len _) hol) rfl ?_
        refine WO.op rfl rfl (WO.nil (W.region ?_))
        refine WO.as (v':=iA ((j + 1:Nat):Int)) rfl rfl (int_i64 (by omega) (by omega)) ?_
        refine WO.op rfl rfl (WO.nil ⟨(j + 1,_,_),⟨by omega,?_,?_,?_,?_⟩,by simp only; omega,fits_fr ⟨rfl,rfl,rfl,rfl,rfl,trivial⟩,rfl⟩)
        · exact Keeps.trans (keep_set (Keeps.trans hkeep (Keeps.app _ _) hlen) hN) (Keeps.app _ _) (by simp; omega)
        · simp; omega
        · refine .inr ⟨(HH ++ [AObj.cells [.str k,iA (look 0 l k)] 70]).length,70,by simp; omega,?_,?_⟩
          · simp only [hsn,List.length_append,List.length_singleton]; rfl
          · simp only [hsn,postC_app]
            exact app_at (by simp)
        · exact .inr (by simp only [hsn]; exact hnel)
  · have hje:j=ks.length:=by omega
    subst hje
    rw [List.take_length] at hout hne
    refine WO.as (v':=.bool false) rfl rfl (bdF (by omega)) (WO.nil (W.seq (W.cond (b:=false) rfl (fun h=>by cases h) (fun _=>W.exit ?_))))
    refine W.seq (W.region ?_)
    refine WO.op rfl rfl ?_
    refine WO.op rfl rfl (WO.nil (W.ret ⟨trivial,out,vs0,ty0,rfl,by rw [← hR]; exact out_seal hout hne,hLH0,rfl,fun j a b ha hb=>.inl ⟨Option.some.inj (ha.symm.trans hb),ha⟩,fun id hid _=>hkeep id hid⟩))
end
end Go.AM.C
namespace Go.AM.C
open Go.Proofs Go.RowKit Go.Shelf
noncomputable section
theorem extra156:Builder.Extra Tryz.prog Tryz.lays156_ren where
  sizeBuilder:=by kernel_rfl
  liesBuilder:=by kernel_rfl
  t5:=Tryz.underlying5
  a5:=Tryz.isAgg5
  z5:=Tryz.sizeOf5
  v5:=Tryz.zeroValue5
  infoByte:=by kernel_rfl
  cellsByte:=by kernel_rfl
  sizeByte:=by kernel_rfl
  neB5:=by decide
theorem extra105:Builder.Extra Tryz.prog Tryz.lays105_ren where
  sizeBuilder:=by kernel_rfl
  liesBuilder:=by kernel_rfl
  t5:=Tryz.underlying5
  a5:=Tryz.isAgg5
  z5:=Tryz.sizeOf5
  v5:=Tryz.zeroValue5
  infoByte:=by kernel_rfl
  cellsByte:=by kernel_rfl
  sizeByte:=by kernel_rfl
  neB5:=by decide
def joinL (sep:List UInt8):List (List UInt8)→List UInt8
  | []=>[]
  | [x]=>x
  | x :: y :: r=>x ++ (sep ++ joinL sep (y :: r))
theorem joinL_eq (sep:List UInt8):∀ l:List (List UInt8),joinL sep l=Lib.join l sep
  | []=>by simp [joinL,Lib.join,List.intercalate]
  | [x]=>by rw [Lib.join_one]; rfl
  | x :: y :: r=>by
    have ih:=joinL_eq sep (y :: r)
    unfold joinL
    rw [ih]
    simp [Lib.join,List.intercalate,List.intersperse]
def lenB (l:List UInt8):Bool:=Nat.ble l.length 1073741824
def joinX:Ext:=fun args H=>match args with
  | [x,.str sep]=>match x with
    | .str _=>none
    | x=>match sliceCells H 1 x with
      | some (cells,k)=>match allStr cells with
        | some ss=>bif lenB (joinL sep ss) && Nat.ble k 1073741824 then some (.str (joinL sep ss),H) else none
        | none=>none
      | none=>none
  | _=>none
theorem data_toList (l:List (List UInt8)):(l.map fun s=>(⟨s.toArray⟩:ByteArray)).map (·.data.toList)=l:=by
  induction l with
  | nil=>rfl
  | cons a l ih=>simp only [List.map_cons,ih]
theorem joinX_ok (S:Sg) (hg:S.glob=S0.glob):ExtAt Tryz.prog S 68 joinX:=by
  intro args H v H' hx c w cargs r hgl ha
  unfold joinX at hx
  split at hx
  · rename_i x sep
    have hne:∀ l,x≠.str l:=by
      intro l e
      subst e
      cases hx
    have hx':(match sliceCells H 1 x with
      | some (cells,k)=>match allStr cells with
        | some ss=>bif lenB (joinL sep ss) && Nat.ble k 1073741824 then some (AVal.str (joinL sep ss),H) else none
        | none=>none
      | none=>none)=some (v,H'):=by
      cases x <;> first | exact hx | exact absurd rfl (hne _)
    clear hx
    split at hx'
    · rename_i cells k hc
      split at hx'
      · rename_i ss hs
        cases hb:lenB (joinL sep ss) && Nat.ble k 1073741824 with
        | false=>rw [hb] at hx'; cases hx'
        | true =>
          rw [hb] at hx'
          cases hx'
          rw [Bool.and_eq_true] at hb
          have hb1:(joinL sep ss).length≤1073741824:=Nat.le_of_ble_eq_true hb.1
          have hb2:k≤1073741824:=Nat.le_of_ble_eq_true hb.2
          obtain ⟨vx,vy,rfl,h1,h2⟩:=ha.two
          obtain ⟨hlen,p,ca,rfl,hca,hcells⟩:=strs_at r h1 hc hs hne
          cases h2 with
          | str _ t ht =>
            have e1:∀ w cargs,(callFunc 68 cargs).run Tryz.prog w=.ok (.enter 68 cargs) w:=fun w cargs=>enters_of Tryz.func68 (by kernel_rfl) rfl cargs w
            refine .inl ⟨fun w=>e1 w _,?_⟩
            rcases hcells with h0 | ⟨bk,o,rfl,hbk,hcell⟩
            · subst h0
              have hss:ss=[]:=List.eq_nil_of_length_eq_zero hlen
              subst hss
              refine (Any.strings_Join_none Tryz.lays156 extra156 p ca t w).mono ?_
              rintro e w' ⟨rfl,rfl⟩
              exact ⟨_,rfl,c,r,Post.refl _ _ _,.str _ _ rfl⟩
            · have hcall:=Any.strings_Join Tryz.lays156 extra156 bk o ca (ss.map fun s=>⟨s.toArray⟩) t w (fun j x hx=>by
                rw [List.getElem?_map] at hx
                cases hj:ss[j]? with
                | none=>rw [hj] at hx; cases hx
                | some s=>rw [hj] at hx; cases hx; exact hcell j s hj) hbk (by simp; omega) (by simp; omega) (by
                rw [data_toList,ht,← joinL_eq]; omega)
              rw [data_toList,ht,← joinL_eq,List.length_map,hlen] at hcall
              refine Calls.mono hcall ?_
              rintro e w' ⟨rfl,hb⟩
              obtain ⟨r',p'⟩:=below_post r hb
              exact ⟨_,rfl,c,r',p',.str _ _ rfl⟩
      · cases hx'
    · cases hx'
  · cases hx
def repX:Ext:=fun args H=>match args with
  | [.str s,.int .i64 k]=>if 0≤k∧k≤1048576∧s.length≤1048576 then some (.str (Lib.repeatL s k.toNat),H) else none
  | _=>none
theorem repX_ok (S:Sg) (hg:S.glob=S0.glob):ExtAt Tryz.prog S 292 repX:=by
  intro args H v H' hx c w cargs r hgl ha
  unfold repX at hx
  split at hx
  · rename_i s k
    split at hx
    · rename_i hk
      cases hx
      obtain ⟨vx,vy,rfl,h1,h2⟩:=ha.two
      cases h2
      cases h1 with
      | str _ t ht =>
        have e1:∀ w cargs,(callFunc 292 cargs).run Tryz.prog w=.ok (.enter 292 cargs) w:=fun w cargs=>enters_of Tryz.func292 (by kernel_rfl) rfl cargs w
        refine .inl ⟨fun w=>e1 w _,?_⟩
        have hsz:t.size=s.length:=by rw [← ht]; exact Array.length_toList.symm
        have hcall:=Any.strings_Repeat Tryz.lays105 extra105 t k.toNat w (by omega) (by
          rw [hsz]
          have:s.length * k.toNat≤1048576 * 1048576:=Nat.mul_le_mul hk.2.2 (by omega)
          omega)
        rw [Int.toNat_of_nonneg hk.1,ht] at hcall
        refine Calls.mono hcall ?_
        rintro e w' ⟨rfl,hb⟩
        obtain ⟨r',p'⟩:=below_post r hb
        exact ⟨_,rfl,c,r',p',.str _ _ rfl⟩
    · cases hx
  · cases hx
theorem cntX_ok (S:Sg):ExtAt Tryz.prog S 295 cntByteX:=cntByte_ok Tryz.func295 (by kernel_rfl) (by kernel_rfl) (by kernel_rfl) (by kernel_rfl)
theorem idxX_ok (S:Sg):ExtAt Tryz.prog S 400 idxByteX:=idxByte_ok Tryz.func400 (by kernel_rfl) (by kernel_rfl) (by kernel_rfl) (by kernel_rfl)
theorem addc_ok (S:Sg):ExtAt Tryz.prog S 109 add64X:=add64_ok Tryz.func109 (by kernel_rfl) (by kernel_rfl) (by kernel_rfl) (by kernel_rfl)
theorem subb_ok (S:Sg):ExtAt Tryz.prog S 114 sub64X:=sub64_ok Tryz.func114 (by kernel_rfl) (by kernel_rfl) (by kernel_rfl) (by kernel_rfl)
end
end Go.AM.C
