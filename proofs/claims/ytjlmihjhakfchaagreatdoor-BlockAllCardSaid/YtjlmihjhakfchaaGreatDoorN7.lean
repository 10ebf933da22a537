import Derived.Deep.RegionWith
import Derived.Test.YtjlmihjhakfchaaGreatDoorN5
import Derived.Test.YtjlmihjhakfchaaGreatDoorN6
set_option linter.unusedVariables false
set_option linter.unusedSimpArgs false
noncomputable section
namespace Go.AM.C
open Go.Proofs Go.RowKit Go.Shelf
noncomputable section
def givesA (r:Option (AVal×Heap)) (v:AVal):Bool:=match r with
  | some (u,_)=>beqA 12 u v
  | none=>false
theorem run_A {S:Sg} (hs:Sound Tryz.prog S) {n:Nat} {f:FuncId} {args:List AVal} {v:AVal} (hcl:args.all AVal.closed=true) (hv:v.closed=true) (h:givesA (den S n f args []) v=true) (H:Heap):DoesC Tryz.prog S f args H v H:=by
  unfold givesA at h
  split at h
  · rename_i u H' hd
    have:=beqA_eq _ _ _ h
    subst this
    exact DoesC.run hs hd hcl hv H
  · cases h
theorem where_den:givesA (den S2 100 27 [.iface 136 chainA] []) (.isl [.str [97],.str [98]] 0 2 none true)=true:=by kernel_rfl
theorem plain_den:givesA (den S2 100 462 [.int .i64 4] []) (.str [101,114,114,111,114,32,52])=true:=by kernel_rfl
theorem where_has (H:Heap):Has 27 [.iface 136 chainA] H (.isl [.str [97],.str [98]] 0 2 none true) H:=Has.un (run_A s2 rfl rfl where_den H)
theorem plain_has (H:Heap):Has 462 [.int .i64 4] H (.str [101,114,114,111,114,32,52]) H:=Has.un (run_A s2 rfl rfl plain_den H)
theorem calls_of {f:FuncId} {args:List AVal} {v:AVal} {H H':Heap} (hd:Has f args H v H') {c:Ctx} {w:World} {cargs:Array Value} (r:Rel c w H) (hg:Glob S0 c w) (ha:VRs c w args cargs)
    (he:(callFunc f cargs).run Tryz.prog w=.ok (.enter f cargs) w):Calls Tryz.prog f cargs w fun e w'=>∃ cv c',e=.returned cv∧Rel c' w' H'∧Post c w H c' w' H'∧VR c' w' v cv:=by
  rcases hd c w cargs r hg ha with ⟨h1,h2⟩ | ⟨cv,w',h1,h2⟩
  · refine h2.mono ?_
    rintro e w' ⟨cv,rfl,c',r',p',hv⟩
    exact ⟨cv,c',rfl,r',p',hv⟩
  · rw [he] at h1; cases h1
theorem post_below {c c':Ctx} {w w':World} (p:Post c w [] c' w' []):Below w.heap.size w w' :=
  ⟨p.os,p.tape,p.output,p.size,fun k hk=>p.frame k hk (fun i o ⟨x,hx,_⟩=>by simp at hx)⟩
theorem below_rel {c:Ctx} {w w':World} (r:Rel c w []) (hb:Below w.heap.size w w') (hι:∀ i,c.ι i=none):Rel c w' []∧Le c w c w':=by
  obtain ⟨r',p'⟩:=below_post r hb
  exact ⟨r',p'.le r⟩
def byA:ByteArray:=⟨#[97]⟩
def byB:ByteArray:=⟨#[98]⟩
theorem vr_str {c:Ctx} {w:World} {l:List UInt8} {v:Value} (h:VR c w (.str l) v):v=.string ⟨l.toArray⟩:=by
  cases h with
  | str _ s hs=>subst hs; rfl
theorem alloc_new (w:World) (o:Obj):(w.alloc o).heap[w.heap.size]?=some o:=by unfold World.alloc; exact Array.getElem?_push_size
theorem alloc_lt (w:World) (o:Obj):w.heap.size < (w.alloc o).heap.size:=by simp
theorem cell_lt {w:World} {b o:Nat} {v:Value} (h:w.cell? ⟨b,o,none⟩=some v):b < w.heap.size:=by
  rcases Nat.lt_or_ge b w.heap.size with h' | h'
  · exact h'
  · simp [World.cell?,Array.getElem?_eq_none h'] at h
theorem below_then {B:Nat} {w w1 w2:World} (h:Below B w w1) (k:Below w1.heap.size w1 w2) (hB:B≤w.heap.size):Below B w w2 :=
  ⟨k.os.trans h.os,k.tape.trans h.tape,k.output.trans h.output,Nat.le_trans h.size k.size,fun i hi=>(k.block i (by have:=h.size; omega)).trans (h.block i hi)⟩
theorem where_calls (c:Ctx) (w:World) (r:Rel c w []) (hι:∀ i,c.ι i=none) (hg:Glob S0 c w) (cv:Value) (hv:VR c w chainA cv) (w1:World) (hb:Below w.heap.size w w1) :
    Calls Tryz.prog 27 #[.iface 136 cv] w1 fun e w'=>∃ k o ca,e=.returned (.slice (some ⟨k,o,none⟩) 2 ca)∧w'.cell? ⟨k,o,none⟩=some (.string byA)∧w'.cell? ⟨k,o + 1,none⟩=some (.string byB)∧Below w1.heap.size w1 w':=by
  obtain ⟨r1,le1⟩:=below_rel r hb hι
  refine (calls_of (where_has []) r1 (hg.mono le1) ⟨rfl,fun j x y hx hy=>?_⟩ (enters_of Tryz.func27 (by kernel_rfl) rfl _ w1)).mono ?_
  · match j with
    | 0=>cases hx; cases hy; exact .iface _ _ _ (hv.mono le1)
    | j + 1=>simp at hx
  · rintro e w' ⟨u,c',rfl,r',p',hu⟩
    cases hu with
    | isl _ _ _ _ _ b o ca g hcl hF h2 h3 h4 hcell hh =>
      refine ⟨b,o,ca,rfl,?_,?_,post_below p'⟩
      · have h:=hcell 0 (by decide)
        have h':=vr_str (hh 0 _ rfl)
        rw [h'] at h
        exact h
      · have h:=hcell 1 (by decide)
        have h':=vr_str (hh 1 _ rfl)
        rw [h'] at h
        exact h
theorem plain_calls (c:Ctx) (w:World) (r:Rel c w []) (hι:∀ i,c.ι i=none) (hg:Glob S0 c w) (w1:World) (hb:Below w.heap.size w w1) :
    Calls Tryz.prog 462 #[.int .i64 4] w1 fun e w'=>e=.returned (.string ⟨#[101,114,114,111,114,32,52]⟩)∧Below w1.heap.size w1 w':=by
  obtain ⟨r1,le1⟩:=below_rel r hb hι
  refine (calls_of (plain_has []) r1 (hg.mono le1) ⟨rfl,fun j x y hx hy=>?_⟩ (enters_of Tryz.func462 (by kernel_rfl) rfl _ w1)).mono ?_
  · match j with
    | 0=>cases hx; cases hy; exact .int _ _
    | j + 1=>simp at hx
  · rintro e w' ⟨u,c',rfl,r',p',hu⟩
    rw [vr_str hu]
    exact ⟨rfl,post_below p'⟩
set_option maxHeartbeats 4000000 in
set_option maxRecDepth 100000 in
theorem err_walk (w:World) (b0 o0:Nat) (h4:w.cell? ⟨b0,o0,none⟩=some (.int .i64 4))
    (hW:∀ w1,Below w.heap.size w w1→Calls Tryz.prog 27 #[.iface 136 (.pointer (some ⟨b0,o0,none⟩))] w1 fun e w'=>∃ k o ca,e=.returned (.slice (some ⟨k,o,none⟩) 2 ca)∧w'.cell? ⟨k,o,none⟩=some (.string byA)∧w'.cell? ⟨k,o + 1,none⟩=some (.string byB)∧Below w1.heap.size w1 w')
    (hP:∀ w1,Below w.heap.size w w1→Calls Tryz.prog 462 #[.int .i64 4] w1 fun e w'=>e=.returned (.string ⟨#[101,114,114,111,114,32,52]⟩)∧Below w1.heap.size w1 w') :
    Calls Tryz.prog 459 #[.pointer (some ⟨b0,o0,none⟩)] w fun e w'=>e=.returned (.string ⟨#[97,58,32,98,58,32,101,114,114,111,114,32,52]⟩)∧Below w.heap.size w w':=by
  have e402:∀ args w,(callFunc 27 args).run Tryz.prog w=.ok (.enter 27 args) w:=fun args w=>enters_of Tryz.func27 (by kernel_rfl) rfl args w
  have e428:∀ args w,(callFunc 462 args).run Tryz.prog w=.ok (.enter 462 args) w:=fun args w=>enters_of Tryz.func462 (by kernel_rfl) rfl args w
  have e137:∀ args w,(callFunc 122 args).run Tryz.prog w=.ok (.enter 122 args) w:=fun args w=>enters_of Tryz.func122 (by kernel_rfl) rfl args w
  have e138:∀ args w,(callFunc 123 args).run Tryz.prog w=.ok (.enter 123 args) w:=fun args w=>enters_of Tryz.func123 (by kernel_rfl) rfl args w
  have hbl:b0 < w.heap.size:=by
    rcases Nat.lt_or_ge b0 w.heap.size with h | h
    · exact h
    · simp [World.cell?,Array.getElem?_eq_none h] at h4
  go_enter Tryz.func459,Tryz.ntmps459
  have hW0:=hW (w.alloc (.cells #[.pointer none,.slice none 0 0] tBld)) ((Below.refl _ w).alloc (Nat.le_refl _) _)
  go_wp2_with (go_at_fn 27; refine hW0.mono ?_)
  rintro e w1 ⟨k,o,ca,rfl,hk0,hk1,hb1⟩
  have hbB:w1.heap[w.heap.size]?=some (.cells #[.pointer none,.slice none 0 0] tBld (0,0)):=by
    rw [hb1.block _ (alloc_lt _ _)]
    exact alloc_new _ _
  have hs1:w.heap.size < w1.heap.size:=(Array.getElem?_eq_some_iff.1 hbB).1
  have hk0l:k < w1.heap.size:=cell_lt hk0
  go_wp2
  refine wp_loop_rounds 3 ?_
  rw [rounds_succ]
  go_wp2_with (go_at_fn 122; refine (write_k w1.heap.size w.heap.size (.pointer none) (.slice none 0 0) [] _ w1 (.inl rfl) hbB (World.ownsRowF_nil w1 _ _ _) (Nat.le_refl _) (by simp [Value.ownBlock]) ?hlen1).mono ?_)
  case hlen1=>exact (by decide:([]:List Value).length + (byA ++ ⟨#[58,32]⟩:ByteArray).size≤140737488355328)
  rintro e w2 ⟨rfl,v2,hb2,ho2,hn2,hk2⟩
  have hkb:k≠w.heap.size:=by
    rintro rfl
    rw [Lib.cell_of_heap hbB] at hk0
    match o,hk0 with
    | 0,h=>cases h
    | 1,h=>cases h
    | o + 2,h=>simp at h
  have hk1':w2.cell? ⟨k,o + 1,none⟩=some (.string byB):=by
    rw [← hk1]
    exact cell_of_block (hk2.block k hk0l hkb (by simp [Value.ownBlock]))
  obtain ⟨g2,hg2⟩:∃ g,v2.ownBlock=some g:=by
    rcases ho2.2 with ⟨_,h⟩ | ⟨g,cap,cur,fz,rfl,_⟩
    · exact absurd h (by decide)
    · exact ⟨g,rfl⟩
  have hgl:=ho2.lt g2 hg2
  go_wp2
  rw [rounds_succ]
  go_wp2_with (go_at_fn 122; refine (write_k w1.heap.size w.heap.size (.pointer (some ⟨w.heap.size,0,none⟩)) v2 ([] ++ Lib.strCells (byA ++ ⟨#[58,32]⟩)) _ w2 (.inr rfl) hb2 ho2 hk2.size hn2 ?hlen2).mono ?_)
  case hlen2=>exact (by decide:([] ++ Lib.strCells (byA ++ ⟨#[58,32]⟩):List Value).length + (byB ++ ⟨#[58,32]⟩:ByteArray).size≤140737488355328)
  rintro e w3 ⟨rfl,v3,hb3,ho3,hn3,hk3⟩
  go_wp2
  rw [rounds_succ]
  go_wp2
  have mixed:=AM.C.mixed
  have hl3:w.heap.size < w3.heap.size:=(Array.getElem?_eq_some_iff.1 hb3).1
  have hlay:Lib.byteCells [97,58,32,98,58,32]=([] ++ Lib.strCells (byA ++ ⟨#[58,32]⟩)) ++ Lib.strCells (byB ++ ⟨#[58,32]⟩):=by kernel_rfl
  have ho3':w3.ownsRowF w.heap.size 5 1 v3 (Lib.byteCells [97,58,32,98,58,32]).length (Lib.byteCells [97,58,32,98,58,32]):=by
    rw [hlay]
    have:=ho3
    refine ⟨by simp,?_⟩
    rcases ho3.2 with ⟨h1,h2⟩ | ⟨g,cap,cur,fz,h1,h2,h3⟩
    · exact absurd h2 (by decide)
    · refine .inr ⟨g,cap,cur,fz,?_,by omega,?_⟩
      · rw [h1]; rfl
      · exact h3
  have hS:=Any.Builder_String_f (ρ:=Tryz.lays156_ren) { Tryz.lays156 with } extra156 w.heap.size w.heap.size [97,58,32,98,58,32] w3.drew (.inr ⟨Nat.le_refl _,v3,hb3,ho3',hn3⟩) (by simp)
  have hB3:Below w.heap.size w w3:=by
    refine ⟨hk3.os.trans (hk2.os.trans (hb1.os)),hk3.tape.trans (hk2.tape.trans hb1.tape),hk3.output.trans (hk2.output.trans hb1.output),by omega,fun x hx=>?_⟩
    rw [hk3.block x (by have:=hk2.size; omega) (by omega) (by rw [hg2]; intro e; cases e; omega),hk2.block x (by omega) (by omega) (by simp [Value.ownBlock]),hb1.block x (by have:=alloc_lt w (.cells #[.pointer none,.slice none 0 0] tBld); omega)]
    exact Below.heap_alloc _ _ _ hx
  have h43:∀ w',Below w.heap.size w w'→w'.cell? ⟨b0,o0,none⟩=some (.int .i64 4):=fun w' hb=>by rw [← h4]; exact cell_of_block (hb.block b0 hbl)
  have hB3d:Below w.heap.size w w3.drew:=Below.drew hB3
  have h4d:=h43 w3.drew hB3d
  go_region_with (first
    | (go_at_call 123; refine hS.mono ?_; rintro e w4 ⟨rfl,_,hb4⟩; have hB4:Below w.heap.size w w4:=Below.trans hB3d hb4; have h44:=h43 w4 hB4)
    | (go_at_call 462; refine (hP _ (by assumption)).mono ?_; rintro e w5 ⟨rfl,hb5⟩))
  all_goals go_wp2
  all_goals go_ret
  all_goals exact ⟨by first | rfl | kernel_rfl,below_then hB4 hb5 (Nat.le_refl _)⟩
theorem err_has (H:Heap):Has 459 [chainA] H (.str [97,58,32,98,58,32,101,114,114,111,114,32,52]) H:=by
  refine DoesC.pure s0.glob rfl rfl (H':=[]) (fun c w cargs r hg ha=>?_) H
  obtain ⟨cv,rfl,hv⟩:=ha.one
  have r0:Rel ⟨fun _=>none,c.F⟩ w []:=⟨fun id o b off h=>(by simp at h),fun i j b o1 o2 ⟨o,ho,_⟩=>(by simp at ho),fun id b off h=>(by cases h),fun id b off ⟨o,ho,_⟩=>(by simp at ho),r.fr⟩
  have g0:Glob S0 ⟨fun _=>none,c.F⟩ w:=fun g=>by
    refine ⟨?_,(hg g).2⟩
    rcases s0.glob g with h | h
    · exact (hg g).1.shut h _
    · rw [h]; exact .any _
  have hv0:=hv.shut rfl (fun _=>none)
  have hW:=where_calls _ w r0 (fun _=>rfl) g0 cv hv0
  have hP:=plain_calls _ w r0 (fun _=>rfl) g0
  cases hv with
  | ip _ _ _ b0 o0 g hcl hF hcell hh =>
    have h4:w.cell? ⟨b0,o0,none⟩=some (.int .i64 4):=by
      have h1:=hcell 0 (by decide)
      have h:=hh 0 _ rfl
      generalize g 0=u at h h1
      cases h
      exact h1
    refine .inl ⟨fun w=>enters_of Tryz.func459 (by kernel_rfl) rfl _ w,(err_walk w b0 o0 h4 hW hP).mono ?_⟩
    rintro e w' ⟨rfl,hb⟩
    obtain ⟨r',p'⟩:=below_post r hb
    exact ⟨_,rfl,c,r',p',.str _ _ rfl⟩
noncomputable def errX:Ext:=fun args H=>match args with
  | [x]=>bif beqA 6 x chainA then some (.str [97,58,32,98,58,32,101,114,114,111,114,32,52],H) else none
  | _=>none
theorem errX_ok (S:Sg) (hg:S.glob=S0.glob) (hp:S.pin=S0.pin):ExtAt Tryz.prog S 459 errX:=by
  intro args H v H' hx
  unfold errX at hx
  split at hx
  · rename_i x
    cases hb:beqA 6 x chainA with
    | false=>rw [hb] at hx; cases hx
    | true =>
      rw [hb] at hx
      rw [beqA_eq _ _ _ hb]
      cases hx
      exact DoesC.glob hg hp (err_has _)
  · cases hx
noncomputable def isX:Ext:=fun args H=>match args with
  | [x,y]=>bif beqA 8 x (.iface 136 chainA) then
      (bif beqA 3 y (.iface 171 (.int .i64 4)) then some (.bool true,H) else bif beqA 3 y (.iface 171 (.int .i64 1)) then some (.bool false,H) else none) else none
  | _=>none
theorem isX_ok (S:Sg) (hg:S.glob=S0.glob) (hp:S.pin=S0.pin):ExtAt Tryz.prog S 440 isX:=by
  intro args H v H' hx
  unfold isX at hx
  split at hx
  · rename_i x y
    cases hb:beqA 8 x (.iface 136 chainA) with
    | false=>rw [hb] at hx; cases hx
    | true =>
      rw [hb] at hx
      rw [beqA_eq _ _ _ hb]
      cases h1:beqA 3 y (.iface 171 (.int .i64 4)) with
      | true =>
        rw [h1] at hx
        rw [beqA_eq _ _ _ h1]
        cases hx
        exact DoesC.glob hg hp (Is_yes _)
      | false =>
        rw [h1] at hx
        cases h2:beqA 3 y (.iface 171 (.int .i64 1)) with
        | false=>rw [h2] at hx; cases hx
        | true =>
          rw [h2] at hx
          rw [beqA_eq _ _ _ h2]
          cases hx
          exact DoesC.glob hg hp (Is_no _)
  · cases hx
end
end Go.AM.C
