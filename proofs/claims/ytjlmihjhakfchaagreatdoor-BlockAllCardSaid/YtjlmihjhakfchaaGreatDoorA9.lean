import Derived.ChangeSame
import Derived.OpenShut
import Derived.Test.YtjlmihjhakfchaaGreatDoorA4
set_option linter.unusedVariables false
set_option linter.unusedSimpArgs false
noncomputable section
namespace Go.AM
open Go.ChangeShapes Go.WideShapes
structure Kept (w w':World):Prop where
  os:w'.os=w.os
  output:w'.output=w.output
  size:w.heap.size≤w'.heap.size
  old:∀ b,b < w.heap.size→w'.heap[b]?=w.heap[b]?
theorem Kept.refl (w:World):Kept w w:=⟨rfl,rfl,Nat.le_refl _,fun _ _=>rfl⟩
theorem Kept.trans {w w1 w2:World} (h:Kept w w1) (k:Kept w1 w2):Kept w w2 :=
  ⟨by rw [k.os,h.os],by rw [k.output,h.output],Nat.le_trans h.size k.size,fun b hb=>by rw [k.old b (Nat.lt_of_lt_of_le hb h.size),h.old b hb]⟩
theorem Kept.but {w w':World} (h:Kept w w') (may:MemPlace→Prop):w.keptBut w' may:=by
  refine ⟨h.os,h.output,fun i hi=>?_⟩
  rw [h.old i hi]
  cases hw:w.heap[i]? with
  | none=>simp
  | some o=>cases o <;> simp
theorem Kept.frozen {w w':World} (h:Kept w w') {a:Addr} (ha:a.block < w.heap.size):w'.frozen? a=w.frozen? a:=by
  unfold World.frozen?
  rw [h.old _ ha]
theorem Post.kept {c c':Ctx} {w w':World} {H':Heap} (p:Post c w [] c' w' H'):Kept w w' :=
  ⟨p.os,p.output,p.size,fun b hb=>p.frame b hb fun i o hl=>by obtain ⟨x,hx,_⟩:=hl; simp at hx⟩
theorem Rel.none (F:Nat→Prop) (w:World) (h:∀ b,F b→b < w.heap.size):Rel ⟨fun _=>Option.none,F⟩ w [] where
  obj:=fun id o b off h=>(by simp at h)
  inj:=fun i j b o1 o2 ⟨x,hx,_⟩=>(by simp at hx)
  dom:=fun id b off h=>(by cases h)
  sep:=fun id b off ⟨x,hx,_⟩=>(by simp at hx)
  fr:=h
section
variable {P:Program} {H:Type} {enc:TypeId×Value→H}
theorem post_of_kept {f:Func} {s:ChangeSpec} {apart fresh handsOn again:Bool} {W W':World} {args:Array Value} {v:Value} {ds gs:List (DataW H)} {before pa pv:List MemPlace}
    (hW:DataW.Whole enc P f.params.toList s.vars apart W args.toList ds gs before)
    (hres:∀ (b:Nat) (sp:Nat→Bool) (hd:Bool),DataW.TrodAll enc P W' b sp hd f.resultTypes.toList (v.resultList f.resultTypes.size) (s.fn H (ds ++ gs)).results [])
    (hargs:∀ sp:Nat→Bool,(∀ p∈before,sp p.block=true)→DataW.TrodAll enc P W' 0 sp true f.params.toList args.toList (s.fn H (ds ++ gs)).args pa)
    (hvars:∀ sp:Nat→Bool,(∀ p∈before,sp p.block=true)→DataW.TrodVars enc P W' sp s.vars (s.fn H (ds ++ gs)).vars pv)
    (hps:before=pa ++ pv) (hk:Kept W W')
    (hok:∀ (j:Nat) (t:TypeId) (r:Value),f.resultTypes[j]?=some t→(v.resultList f.resultTypes.size)[j]?=some r→Value.okWide P W' .any 0 t r) :
    s.post enc P f apart fresh handsOn again W args v W':=by
  have hold:∀ p∈before,(fun b=>decide (b < W.heap.size)) p.block=true:=fun p hp=>by simpa using hW.lt p hp
  have hlt:=hW.lt
  refine ⟨ds,gs,before,[],pa,pv,hW,hres _ _ _,hargs _ hold,hvars _ hold,World.keptBut_mono (fun p hp=>⟨hp,?_⟩) (hk.but (·∈before)),fun _=>?_⟩
  · rw [hps,List.mem_append] at hp
    exact Or.inr hp
  · obtain ⟨_,_,_,_,_,hz,hn⟩:=hW
    refine ⟨hok,_,_,([] ++ pa) ++ pv,⟨[] ++ pa,pv,trodAll_append (hargs _ (fun _ _=>rfl)) (hres _ _ _),hvars _ (fun _ _=>rfl),rfl,?_,?_⟩,?_⟩
    · intro b off hp
      have hb:MemPlace.cell b off∈before:=by rw [hps]; simpa using hp
      rw [hk.frozen (a:=⟨b,off,none⟩) (hlt _ hb)]
      exact hz b off hb
    · intro ha
      have:=hn ha
      rw [hps] at this
      simpa using this
    · intro p hp _
      rw [hps]
      simpa using hp
end
def saysB (r:Option (AVal×Heap)) (b:Bool):Bool :=
  match r with
  | some (.bool x,_)=>x == b
  | _=>false
theorem closed_bool {P:Program} {S:Sg} (hS:SgOK P S) (hx:ExtOK P S) (hqt:QuietOK S) (hglob:∀ g,(S.glob g).closed=true∨S.glob g=.any) {n:Nat} {f:FuncId} (hf:(S.fn f).isSome=true) {b:Bool}
    (h:saysB (den S n f [] []) b=true) (w:World) (hg:Glob S ⟨fun _=>Option.none,fun _=>False⟩ w) :
    Calls P f #[] w fun e w'=>e=.returned (.bool b)∧Kept w w':=by
  unfold saysB at h
  split at h
  · rename_i x H' hd
    have hxb:x=b:=by simpa using h
    subst hxb
    refine Calls.mono (den_calls hS hx hqt hglob hf hd (Rel.none _ w (fun b h=>h.elim)) hg ⟨rfl,fun j a v ha=>by simp at ha⟩) fun e w' ⟨cv,he,c',_,p,hv⟩=>?_
    cases hv
    exact ⟨he,p.kept⟩
  · cases h
theorem Glob.any {S:Sg} (h:∀ g,S.glob g=.any) (hp:∀ g,S.pin g=none) (c:Ctx) (w:World):Glob S c w:=fun g=>⟨by rw [h]; exact .any _,fun v hv=>by rw [hp] at hv; cases hv⟩
theorem Ad.nil_ext {P:Program}:ExtOK P (Ad.nil.sg P):=fun f x h=>by cases h
theorem Ad.nil_quiet {P:Program}:QuietOK (Ad.nil.sg P):=fun f h=>by cases h
end Go.AM
