import Derived.Shelf.Strings.BuilderF
import Derived.Test.YtjlmihjhakfchaaGreatDoorA8
import Derived.Test.YtjlmihjhakfchaaGreatDoorN4
set_option linter.unusedVariables false
set_option linter.unusedSimpArgs false
noncomputable section
namespace Go.AM.C
open Go.Proofs Go.RowKit Go.Shelf
noncomputable section
abbrev tBld:TypeId:=192
structure Kept (b:Nat) (v:Value) (w w':World):Prop where
  os:w'.os=w.os
  tape:w'.tape=w.tape
  output:w'.output=w.output
  size:w.heap.size≤w'.heap.size
  block:∀ k,k < w.heap.size→k≠b→v.ownBlock≠some k→w'.heap[k]?=w.heap[k]?
set_option maxHeartbeats 2000000 in
set_option maxRecDepth 100000 in
theorem write_k (B b:Nat) (p v:Value) (bs:List Value) (s:ByteArray) (w:World) (hp:p=.pointer none∨p=.pointer (some ⟨b,0,none⟩)) (hbk:w.heap[b]?=some (.cells #[p,v] tBld (0,0))) (hown:w.ownsRowF B 5 1 v bs.length bs) (hB:B≤w.heap.size) (hne:v.ownBlock≠some b)
    (hlen:bs.length + s.size≤140737488355328) :
    Calls Tryz.prog 122 #[.pointer (some ⟨b,0,none⟩),.string s] w fun e w'=>e=.returned (.tuple #[.int .i64 s.size,.nilIface]) ∧
      ∃ v',w'.heap[b]?=some (.cells #[.pointer (some ⟨b,0,none⟩),v'] tBld (0,0))∧w'.ownsRowF B 5 1 v' (bs.length + s.size) (bs ++ Lib.strCells s)∧v'.ownBlock≠some b∧Kept b v w w':=by
  have L:Lays.n166 Tryz.prog Tryz.lays156_ren:={ Tryz.lays156 with }
  have X:=extra156
  obtain ⟨i0,hi,hz0,hz1,hz2⟩:=info_parts X.infoByte
  have hlt:b < w.heap.size:=(Array.getElem?_eq_some_iff.1 hbk).1
  have hcc:Calls Tryz.prog 209 #[.pointer (some ⟨b,0,none⟩)] w fun e w'=>e=.returned (.tuple #[])∧(w'=w∨w'=w.setCell ⟨b,0,none⟩ (.pointer (some ⟨b,0,none⟩)))∧w'.heap[b]?=some (.cells #[.pointer (some ⟨b,0,none⟩),v] tBld (0,0)):=by
    rcases hp with rfl | rfl
    · refine (Any.Builder_copyCheck_fresh (ρ:=Tryz.lays156_ren) { L with } X.toX72 b w ?_ ?_ ?_).mono ?_
      · rw [Lib.cell_of_heap hbk]; rfl
      · simp [World.shape?,hbk]; rfl
      · exact Lib.frozen_of_heap hbk 0
      · rintro e w' ⟨rfl,rfl⟩
        exact ⟨rfl,.inr rfl,by simp [World.setCell,Array.getElem?_modify,hbk]⟩
    · refine (Any.Builder_copyCheck_used (ρ:=Tryz.lays156_ren) { L with } X.toX72 b w ?_).mono ?_
      · rw [Lib.cell_of_heap hbk]; rfl
      · rintro e w' ⟨rfl,rfl⟩
        exact ⟨rfl,.inl rfl,hbk⟩
  have kc:∀ w',(w'=w∨w'=w.setCell ⟨b,0,none⟩ (.pointer (some ⟨b,0,none⟩)))→Kept b v w w':=by
    rintro w' (rfl | rfl)
    · exact ⟨rfl,rfl,rfl,Nat.le_refl _,fun _ _ _ _=>rfl⟩
    · exact ⟨rfl,rfl,rfl,by simp,fun k _ hk _=>Below.heap_setCell _ _ _ _ (by simpa using hk)⟩
  have e212:∀ args w,(callFunc 209 args).run Tryz.prog w=.ok (.enter 209 args) w:=fun args w=>enters_of Tryz.func209 (by kernel_rfl) rfl args w
  go_enter Tryz.func122,Tryz.ntmps122
  go_wp2_with (go_at_fn 209; refine hcc.mono ?_)
  rintro e w1 ⟨rfl,h1,hbk1⟩
  have k1:=kc w1 h1
  have hown1:w1.ownsRowF B 5 1 v bs.length bs:=by
    rcases h1 with rfl | rfl
    · exact hown
    · exact hown.kept (row:=some b) ⟨rfl,rfl,rfl,by simp [World.setCell],fun k _ hk=>Below.heap_setCell _ _ _ _ (fun e=>hk (by simp [e]))⟩ (Or.inr hne)
  have c0:w1.cell? ⟨b,0,none⟩=some (.pointer (some ⟨b,0,none⟩)):=by rw [Lib.cell_of_heap hbk1]; rfl
  have c1:w1.cell? ⟨b,1,none⟩=some v:=by rw [Lib.cell_of_heap hbk1]; rfl
  go_wp2_with (at_builtin; refine Lib.wpList_append_own_stringF _ rfl _ _ 190 9 rfl B 5 i0 Tryz.underlying190 Tryz.underlying9 hi hz0 hz1 hz2 _ _ _ rfl hown1 s rfl ?c3 ?c4 ?c5 ?_)
  case c3=>unfold maxLen; omega
  case c4=>omega
  case c5=>have:=k1.size; omega
  intro v' w2 hown' hgrow _
  have hlt1:b < w1.heap.size:=(Array.getElem?_eq_some_iff.1 hbk1).1
  have hb2:w2.heap[b]?=some (.cells #[.pointer (some ⟨b,0,none⟩),v] tBld (0,0)):=by
    rw [hgrow.block b hlt1 (fun e=>hne e.symm)]
    exact hbk1
  have d0:w2.cell? ⟨b,0,none⟩=some (.pointer (some ⟨b,0,none⟩)):=by rw [Lib.cell_of_heap hb2]; rfl
  have d1:w2.cell? ⟨b,1,none⟩=some v:=by rw [Lib.cell_of_heap hb2]; rfl
  have f1:w2.frozen? ⟨b,1,none⟩=false:=Lib.frozen_of_heap hb2 1
  have hne':v'.ownBlock≠some b:=Lib.ownBlock_neF hown' hb2 X.neB5
  obtain ⟨ao,n',cap,rfl⟩:∃ ao n' cap,v'=.slice ao n' cap:=by
    rcases hown'.2 with ⟨hv,_⟩ | ⟨g,cap,cur,fz,hv,_⟩
    · exact ⟨_,_,_,hv⟩
    · exact ⟨_,_,_,hv⟩
  go_wp2
  go_ret2
  refine ⟨rfl,_,by simp [World.setCell,Array.getElem?_modify,hb2],?_,hne',?_⟩
  · exact hown'.kept (row:=some b) ⟨rfl,rfl,rfl,by simp [World.setCell],fun k _ hk=>Below.heap_setCell _ _ _ _ (fun e=>hk (by simp [e]))⟩ (Or.inr hne')
  · refine ⟨hgrow.os.trans k1.os,hgrow.tape.trans k1.tape,hgrow.output.trans k1.output,by have:=hgrow.size; have:=k1.size; simp; omega,fun k hk hkb hkv=>?_⟩
    rw [Below.heap_setCell _ _ _ _ (by simpa using hkb),hgrow.block k (by have:=k1.size; omega) (fun e=>hkv e.symm)]
    exact k1.block k hk hkb hkv
end
end Go.AM.C
