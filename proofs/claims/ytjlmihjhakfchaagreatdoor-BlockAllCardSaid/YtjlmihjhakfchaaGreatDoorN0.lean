import Derived.Test.YtjlmihjhakfchaaGreatDoorProg
import Derived.KernelRfl
import Derived.Test.YtjlmihjhakfchaaGreatDoorA5
set_option linter.unusedVariables false
set_option linter.unusedSimpArgs false
noncomputable section
namespace Go.AM.C
open Go.Proofs
noncomputable section
noncomputable def ti35:TI:=⟨.slice 92,1,24,[.nils],false,[],false,msOf Tryz.prog 35⟩
theorem ti35_ok:tiOf Tryz.prog 35=some ti35:=by kernel_rfl
noncomputable def ti92:TI:=⟨.int .u64,1,8,[.int .u64 0],false,[],true,msOf Tryz.prog 92⟩
theorem ti92_ok:tiOf Tryz.prog 92=some ti92:=by kernel_rfl
noncomputable def ti264:TI:=⟨.struct (sfsOf Tryz.prog 264),1,24,[.nils],true,[(0,1,false)],false,msOf Tryz.prog 264⟩
theorem ti264_ok:tiOf Tryz.prog 264=some ti264:=by kernel_rfl
noncomputable def ti90:TI:=⟨.pointer 264,1,8,[.nilp],false,[],true,msOf Tryz.prog 90⟩
theorem ti90_ok:tiOf Tryz.prog 90=some ti90:=by kernel_rfl
noncomputable def ti3:TI:=⟨.int .i64,1,8,[.int .i64 0],false,[],true,msOf Tryz.prog 3⟩
theorem ti3_ok:tiOf Tryz.prog 3=some ti3:=by kernel_rfl
noncomputable def ti4:TI:=⟨.bool,1,1,[.bool false],false,[],true,msOf Tryz.prog 4⟩
theorem ti4_ok:tiOf Tryz.prog 4=some ti4:=by kernel_rfl
noncomputable def ti2:TI:=⟨.int .i64,1,8,[.int .i64 0],false,[],true,msOf Tryz.prog 2⟩
theorem ti2_ok:tiOf Tryz.prog 2=some ti2:=by kernel_rfl
noncomputable def ti25:TI:=⟨.interface (imsOf Tryz.prog 25),1,16,[.nili],false,[],true,msOf Tryz.prog 25⟩
theorem ti25_ok:tiOf Tryz.prog 25=some ti25:=by kernel_rfl
noncomputable def ti94:TI:=⟨.pointer 177,1,8,[.nilp],false,[],true,msOf Tryz.prog 94⟩
theorem ti94_ok:tiOf Tryz.prog 94=some ti94:=by kernel_rfl
noncomputable def ti177:TI:=⟨.struct (sfsOf Tryz.prog 177),2,16,[.bool false,.nilp],true,[(0,1,false),(1,1,false)],true,msOf Tryz.prog 177⟩
theorem ti177_ok:tiOf Tryz.prog 177=some ti177:=by kernel_rfl
noncomputable def ti171:TI:=⟨.int .i64,1,8,[.int .i64 0],false,[],true,msOf Tryz.prog 171⟩
theorem ti171_ok:tiOf Tryz.prog 171=some ti171:=by kernel_rfl
noncomputable def ti174:TI:=⟨odsOf Tryz.prog 174,1,0,[.any],false,[],false,msOf Tryz.prog 174⟩
theorem ti174_ok:tiOf Tryz.prog 174=some ti174:=by kernel_rfl
noncomputable def ti9:TI:=⟨.string,1,16,[.str []],false,[],true,msOf Tryz.prog 9⟩
theorem ti9_ok:tiOf Tryz.prog 9=some ti9:=by kernel_rfl
noncomputable def ti52:TI:=⟨.slice 9,1,24,[.nils],false,[],false,msOf Tryz.prog 52⟩
theorem ti52_ok:tiOf Tryz.prog 52=some ti52:=by kernel_rfl
noncomputable def ti31:TI:=⟨.int .i64,1,8,[.int .i64 0],false,[],true,msOf Tryz.prog 31⟩
theorem ti31_ok:tiOf Tryz.prog 31=some ti31:=by kernel_rfl
noncomputable def ti101:TI:=⟨odsOf Tryz.prog 101,1,0,[.any],false,[],false,msOf Tryz.prog 101⟩
theorem ti101_ok:tiOf Tryz.prog 101=some ti101:=by kernel_rfl
noncomputable def ti106:TI:=⟨odsOf Tryz.prog 106,1,0,[.any],false,[],false,msOf Tryz.prog 106⟩
theorem ti106_ok:tiOf Tryz.prog 106=some ti106:=by kernel_rfl
noncomputable def ti108:TI:=⟨odsOf Tryz.prog 108,1,0,[.any],false,[],false,msOf Tryz.prog 108⟩
theorem ti108_ok:tiOf Tryz.prog 108=some ti108:=by kernel_rfl
noncomputable def ti190:TI:=⟨.slice 5,1,24,[.nils],false,[],false,msOf Tryz.prog 190⟩
theorem ti190_ok:tiOf Tryz.prog 190=some ti190:=by kernel_rfl
noncomputable def ti5:TI:=⟨.int .u8,1,1,[.int .u8 0],false,[],true,msOf Tryz.prog 5⟩
theorem ti5_ok:tiOf Tryz.prog 5=some ti5:=by kernel_rfl
noncomputable def ti143:TI:=⟨.map 9 2,1,8,[.nilm],false,[],false,msOf Tryz.prog 143⟩
theorem ti143_ok:tiOf Tryz.prog 143=some ti143:=by kernel_rfl
noncomputable def ti219:TI:=⟨.map 9 94,1,8,[.nilm],false,[],false,msOf Tryz.prog 219⟩
theorem ti219_ok:tiOf Tryz.prog 219=some ti219:=by kernel_rfl
noncomputable def ti76:TI:=⟨.slice 70,1,24,[.nils],false,[],false,msOf Tryz.prog 76⟩
theorem ti76_ok:tiOf Tryz.prog 76=some ti76:=by kernel_rfl
noncomputable def ti70:TI:=⟨.struct (sfsOf Tryz.prog 70),2,24,[.str [],.int .i64 0],true,[(0,1,false),(1,1,false)],true,msOf Tryz.prog 70⟩
theorem ti70_ok:tiOf Tryz.prog 70=some ti70:=by kernel_rfl
noncomputable def ti145:TI:=⟨.struct (sfsOf Tryz.prog 145),2,16,[.nilm,.int .i64 0],true,[(0,1,false),(1,1,false)],false,msOf Tryz.prog 145⟩
theorem ti145_ok:tiOf Tryz.prog 145=some ti145:=by kernel_rfl
noncomputable def ti66:TI:=⟨.pointer 145,1,8,[.nilp],false,[],true,msOf Tryz.prog 66⟩
theorem ti66_ok:tiOf Tryz.prog 66=some ti66:=by kernel_rfl
noncomputable def ti136:TI:=⟨.pointer 139,1,8,[.nilp],false,[],true,msOf Tryz.prog 136⟩
theorem ti136_ok:tiOf Tryz.prog 136=some ti136:=by kernel_rfl
noncomputable def ti188:TI:=⟨.pointer 136,1,8,[.nilp],false,[],true,msOf Tryz.prog 188⟩
theorem ti188_ok:tiOf Tryz.prog 188=some ti188:=by kernel_rfl
noncomputable def ti139:TI:=⟨.struct (sfsOf Tryz.prog 139),3,40,[.int .i64 0,.str [],.nili],true,[(0,1,false),(1,1,false),(2,1,false)],true,msOf Tryz.prog 139⟩
theorem ti139_ok:tiOf Tryz.prog 139=some ti139:=by kernel_rfl
noncomputable def ti20:TI:=⟨.interface (imsOf Tryz.prog 20),1,16,[.nili],false,[],true,msOf Tryz.prog 20⟩
theorem ti20_ok:tiOf Tryz.prog 20=some ti20:=by kernel_rfl
noncomputable def ti486:TI:=⟨.map 3 4,1,8,[.nilm],false,[],false,msOf Tryz.prog 486⟩
theorem ti486_ok:tiOf Tryz.prog 486=some ti486:=by kernel_rfl
noncomputable def ti488:TI:=⟨.struct (sfsOf Tryz.prog 488),1,8,[.nilm],true,[(0,1,false)],false,msOf Tryz.prog 488⟩
theorem ti488_ok:tiOf Tryz.prog 488=some ti488:=by kernel_rfl
noncomputable def ti468:TI:=⟨.pointer 488,1,8,[.nilp],false,[],true,msOf Tryz.prog 468⟩
theorem ti468_ok:tiOf Tryz.prog 468=some ti468:=by kernel_rfl
noncomputable def ti492:TI:=⟨.slice 468,1,24,[.nils],false,[],false,msOf Tryz.prog 492⟩
theorem ti492_ok:tiOf Tryz.prog 492=some ti492:=by kernel_rfl
noncomputable def ti479:TI:=⟨.array 64 5,64,64,[.int .u8 0,.int .u8 0,.int .u8 0,.int .u8 0,.int .u8 0,.int .u8 0,.int .u8 0,.int .u8 0,.int .u8 0,.int .u8 0,.int .u8 0,.int .u8 0,.int .u8 0,.int .u8 0,.int .u8 0,.int .u8 0,.int .u8 0,.int .u8 0,.int .u8 0,.int .u8 0,.int .u8 0,.int .u8 0,.int .u8 0,.int .u8 0,.int .u8 0,.int .u8 0,.int .u8 0,.int .u8 0,.int .u8 0,.int .u8 0,.int .u8 0,.int .u8 0,.int .u8 0,.int .u8 0,.int .u8 0,.int .u8 0,.int .u8 0,.int .u8 0,.int .u8 0,.int .u8 0,.int .u8 0,.int .u8 0,.int .u8 0,.int .u8 0,.int .u8 0,.int .u8 0,.int .u8 0,.int .u8 0,.int .u8 0,.int .u8 0,.int .u8 0,.int .u8 0,.int .u8 0,.int .u8 0,.int .u8 0,.int .u8 0,.int .u8 0,.int .u8 0,.int .u8 0,.int .u8 0,.int .u8 0,.int .u8 0,.int .u8 0,.int .u8 0],true,[],true,msOf Tryz.prog 479⟩
theorem ti479_ok:tiOf Tryz.prog 479=some ti479:=by kernel_rfl
noncomputable def ti36:TI:=⟨.slice 92,1,24,[.nils],false,[],false,msOf Tryz.prog 36⟩
theorem ti36_ok:tiOf Tryz.prog 36=some ti36:=by kernel_rfl
noncomputable def ti38:TI:=⟨.struct (sfsOf Tryz.prog 38),2,32,[.bool false,.nils],true,[(0,1,false),(1,1,false)],false,msOf Tryz.prog 38⟩
theorem ti38_ok:tiOf Tryz.prog 38=some ti38:=by kernel_rfl
noncomputable def ti23:TI:=⟨.slice 2,1,24,[.nils],false,[],false,msOf Tryz.prog 23⟩
theorem ti23_ok:tiOf Tryz.prog 23=some ti23:=by kernel_rfl
noncomputable def ti98:TI:=⟨.slice 3,1,24,[.nils],false,[],false,msOf Tryz.prog 98⟩
theorem ti98_ok:tiOf Tryz.prog 98=some ti98:=by kernel_rfl
noncomputable def ti328:TI:=⟨.slice 76,1,24,[.nils],false,[],false,msOf Tryz.prog 328⟩
theorem ti328_ok:tiOf Tryz.prog 328=some ti328:=by kernel_rfl
noncomputable def ti48:TI:=⟨.struct (sfsOf Tryz.prog 48),19,200,[.int .i64 0,.int .i64 0,.int .i64 0,.int .i64 0,.int .i64 0,.int .i64 0,.str [],.str [],.int .i64 0,.int .i64 0,.bool false,.int .i64 0,.int .i64 0,.int .i64 0,.str [],.int .i64 0,.str [],.nils,.int .i64 0],true,[(0,1,false),(1,1,false),(2,1,false),(3,9,true),(12,1,false),(13,1,false),(14,1,false),(15,1,false),(16,1,false),(17,1,false),(18,1,false)],false,msOf Tryz.prog 48⟩
theorem ti48_ok:tiOf Tryz.prog 48=some ti48:=by kernel_rfl
noncomputable def ti46:TI:=⟨.struct (sfsOf Tryz.prog 46),9,88,[.int .i64 0,.int .i64 0,.int .i64 0,.str [],.str [],.int .i64 0,.int .i64 0,.bool false,.int .i64 0],true,[(0,1,false),(1,1,false),(2,1,false),(3,1,false),(4,1,false),(5,1,false),(6,1,false),(7,1,false),(8,1,false)],true,msOf Tryz.prog 46⟩
theorem ti46_ok:tiOf Tryz.prog 46=some ti46:=by kernel_rfl
noncomputable def ti26:TI:=⟨odsOf Tryz.prog 26,1,0,[.any],false,[],false,msOf Tryz.prog 26⟩
theorem ti26_ok:tiOf Tryz.prog 26=some ti26:=by kernel_rfl
noncomputable def tys:List (Nat×TI):=[(35,ti35),(92,ti92),(264,ti264),(90,ti90),(3,ti3),(4,ti4),(2,ti2),(25,ti25),(94,ti94),(177,ti177),(171,ti171),(174,ti174),(9,ti9),(52,ti52),(31,ti31),(101,ti101),(106,ti106),(108,ti108),(190,ti190),(5,ti5),(143,ti143),(219,ti219),(76,ti76),(70,ti70),(145,ti145),(66,ti66),(136,ti136),(188,ti188),(139,ti139),(20,ti20),(486,ti486),(488,ti488),(468,ti468),(492,ti492),(479,ti479),(36,ti36),(38,ti38),(23,ti23),(98,ti98),(328,ti328),(48,ti48),(46,ti46),(26,ti26)]
theorem tys_ok:AllT Tryz.prog tys:=⟨ti35_ok,ti92_ok,ti264_ok,ti90_ok,ti3_ok,ti4_ok,ti2_ok,ti25_ok,ti94_ok,ti177_ok,ti171_ok,ti174_ok,ti9_ok,ti52_ok,ti31_ok,ti101_ok,ti106_ok,ti108_ok,ti190_ok,ti5_ok,ti143_ok,ti219_ok,ti76_ok,ti70_ok,ti145_ok,ti66_ok,ti136_ok,ti188_ok,ti139_ok,ti20_ok,ti486_ok,ti488_ok,ti468_ok,ti492_ok,ti479_ok,ti36_ok,ti38_ok,ti23_ok,ti98_ok,ti328_ok,ti48_ok,ti46_ok,ti26_ok,trivial⟩
theorem mixed:Tryz.prog.follows .mixedOrders=true:=by kernel_rfl
def pow10:List AVal:=(List.range 20).map fun i=>.int .u64 ((10 ^ i:Nat):Int)
def bruijn:List AVal:=[0,1,56,2,57,49,28,3,61,58,42,50,38,29,17,4,62,47,59,36,45,43,51,22,53,39,33,30,24,18,12,5,63,55,48,27,60,41,37,16,46,35,44,21,52,32,23,11,54,26,40,15,34,20,31,10,25,14,19,9,13,8,7,6].map fun k=>.int .u8 ((k:Nat):Int)
def globF (g:Nat):AVal:=bif Nat.beq g 4 then .ip pow10 0 true else bif Nat.beq g 10 then .ip bruijn 0 true else .any
def pinF (g:Nat):Option Value:=bif Nat.beq g 0 then some (.iface 353 (.agg #[.pointer (some ⟨16,25,none⟩)])) else none
theorem globF_ok (g:Nat):(globF g).closed=true∨globF g=.any:=by
  unfold globF
  cases Nat.beq g 4 with
  | true=>exact .inl rfl
  | false =>
    cases Nat.beq g 10 with
    | true=>exact .inl rfl
    | false=>exact .inr rfl
abbrev mk (l:List Ent):Sg:=mkS Tryz.prog (tyOf tys) (fun _=>false) globF pinF (fun _=>false) false l
theorem mk_sound {l:List Ent} (h:AllE Tryz.prog (mk l) l):Sound Tryz.prog (mk l):=mkS_sound mixed (fun t i h=>tyOf_ok tys_ok t i h) h globF_ok
abbrev S0:Sg:=mk []
theorem s0:Sound Tryz.prog S0:=mk_sound trivial
abbrev Has (f:FuncId) (args:List AVal) (H:Heap) (v:AVal) (H':Heap):Prop:=DoesC Tryz.prog S0 f args H v H'
theorem Has.at {l:List Ent} {f:FuncId} {args:List AVal} {H H':Heap} {v:AVal} (h:Has f args H v H'):DoesC Tryz.prog (mk l) f args H v H':=DoesC.glob rfl rfl h
theorem Has.of {l:List Ent} {f:FuncId} {args:List AVal} {H H':Heap} {v:AVal} (h:DoesC Tryz.prog (mk l) f args H v H'):Has f args H v H':=DoesC.glob rfl rfl h
theorem limbs_np (n:Nat) (H:Heap):Has 108 [.obj (.np n)] H (.isl (limbs n) 0 (limbs n).length none true) H:=by
  refine does_pure s0 (show S0.fn 108=some Tryz.f108 by kernel_rfl) rfl (by kernel_rfl) (Nat.le_of_ble_eq_true rfl) rfl rfl ?_
  refine W.seq (W.region ?_)
  repeat refine WO.op rfl rfl ?_
  refine WO.nil (W.seq (W.seq (W.region ?_)))
  repeat refine WO.op rfl rfl ?_
  refine WO.nil (W.cond (b:=false) rfl (fun h=>by cases h) (fun _=>W.skip (W.seq (W.region ?_))))
  repeat refine WO.op rfl rfl ?_
  refine WO.nil (W.ret ⟨trivial,_,rfl,Seals.same _ rfl⟩)
theorem made_sl (id:Nat) (l:List Nat) (k c:Nat) (H:Heap) (ty:TypeId) (hH:H[id]?=some (.cells (u64s l) ty)) (hk:k≤l.length) (hc:k≤c) (hb:k < 9223372036854775808) :
    Has 107 [.sl id 0 k (some c) 1] H (.ip [.sl id 0 (trimN l k) (some c) 1] 0 false) H:=by
  generalize hT:trimN l k=T
  refine does_run s0 (show S0.fn 107=some Tryz.f107 by kernel_rfl) rfl (by kernel_rfl) (Nat.le_of_ble_eq_true rfl) ?_
  refine W.seq (W.region ?_)
  repeat refine WO.op rfl rfl ?_
  refine WO.nil (W.seq (W.block (W.fits (F':=fr [(0,.sl id 0 k (some c) 1)]) (fits_fr ⟨rfl,trivial⟩) ?_)))
  refine W.loopI (fun j:Nat=>j≤k∧trimN l j=T) (fun j=>j) (fun j=>fr [(0,.sl id 0 j (some c) 1)]) (fun _=>H) ?_ k ⟨Nat.le_refl _,hT⟩
  rintro j ⟨hj,htr⟩
  have ht:S0.ty 35=some ti35:=rfl
  have he:S0.ty 92=some ti92:=rfl
  by_cases hz:j=0∨l.getD (j - 1) 0≠0
  · -- it ends here
    have hend:j=T:=by
      rw [← htr]
      cases j with
      | zero=>rfl
      | succ j=>unfold trimN; rw [if_neg]; simpa using hz
    clear htr
    subst hend
    refine W.seq (W.seq (W.region ?_))
    refine WO.op rfl rfl ?_
    refine WO.op rfl rfl ?_
    cases j with
    | zero =>
      refine WO.as (v':=.bool false) rfl rfl rfl ?_
      refine WO.op rfl rfl ?_
      repeat refine WO.skip rfl ?_
      refine WO.op rfl rfl ?_
      refine WO.nil (W.cond (b:=false) rfl (fun h=>by cases h) (fun _=>W.exit ?_))
      refine W.seq (W.region ?_)
      repeat refine WO.op rfl rfl ?_
      exact WO.nil (W.ret ⟨trivial,_,rfl,Wk.refl _,rfl⟩)
    | succ j =>
      refine WO.as (v':=.bool true) rfl rfl (by simp) ?_
      iterate 4 refine WO.op rfl rfl ?_
      refine WO.as (v':=.int .i64 (j:Int)) rfl rfl (int_i64 (by omega) (by omega)) ?_
      refine WO.op (G.idx_sl rfl rfl ht rfl he rfl (by omega) (by omega)) rfl ?_
      refine WO.op (G.load_ptr rfl he rfl hH (u64s_at (by omega))) rfl ?_
      refine WO.as (v':=.bool false) rfl rfl (by simpa using hz) ?_
      repeat refine WO.op rfl rfl ?_
      refine WO.nil (W.cond (b:=false) rfl (fun h=>by cases h) (fun _=>W.exit ?_))
      refine W.seq (W.region ?_)
      repeat refine WO.op rfl rfl ?_
      exact WO.nil (W.ret ⟨trivial,_,rfl,Wk.refl _,rfl⟩)
  · -- one less
    obtain ⟨j,rfl⟩:∃ m,j=m + 1:=⟨j - 1,by omega⟩
    have h0:l.getD j 0=0:=by
      by_cases h:l.getD j 0=0
      · exact h
      · exact absurd (Or.inr (by simpa using h)) hz
    have htr':trimN l j=T:=by rw [← htr]; conv=>rhs; unfold trimN; rw [if_pos h0]
    refine W.seq (W.seq (W.region ?_))
    refine WO.op rfl rfl ?_
    refine WO.op rfl rfl ?_
    refine WO.as (v':=.bool true) rfl rfl (by simp) ?_
    iterate 4 refine WO.op rfl rfl ?_
    refine WO.as (v':=.int .i64 (j:Int)) rfl rfl (int_i64 (by omega) (by omega)) ?_
    refine WO.op (G.idx_sl rfl rfl ht rfl he rfl (by omega) (by omega)) rfl ?_
    refine WO.op (G.load_ptr rfl he rfl hH (u64s_at (by omega))) rfl ?_
    refine WO.as (v':=.bool true) rfl rfl (by rw [h0]; rfl) ?_
    repeat refine WO.op rfl rfl ?_
    refine WO.nil (W.cond (b:=true) rfl (fun _=>W.skip ?_) (fun h=>by cases h))
    refine W.block (W.region ?_)
    iterate 3 refine WO.op rfl rfl ?_
    refine WO.as (v':=.int .i64 (j:Int)) rfl rfl (int_i64 (by omega) (by omega)) ?_
    refine WO.op (G.slice_sl (l:=0) (h:=j) rfl ht rfl he rfl rfl ⟨_,rfl⟩ (by omega) (by simp; omega) (by simp; omega)) rfl ?_
    refine WO.op rfl rfl ?_
    refine WO.nil ⟨j,⟨by omega,htr'⟩,by omega,fits_fr ⟨rfl,trivial⟩,rfl⟩
end
end Go.AM.C
