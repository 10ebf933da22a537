import Derived.Stop.Asserts
import Derived.Test.YtjlmihjhakfchaaGreatDoorA8
import Derived.Test.YtjlmihjhakfchaaGreatDoorF0
set_option linter.unusedVariables false
set_option linter.unusedSimpArgs false
noncomputable section
namespace Go.AM.C
open Go.Proofs Go.RowKit Go.Extern.Stop Go.Stop Go.Extern
noncomputable section
theorem typeOf_plain (v:Value) (w:World):(callFunc 280 #[.iface 171 v]).run Tryz.prog w=.ok (.value (.iface 353 (.agg #[.pointer (some ⟨16,171,none⟩)]))) w:=by
  rw [@run_callFunc_extern Tryz.prog 280 _ ReflectliteType.typeOf Tryz.func280 (by kernel_rfl) (by kernel_rfl) (by kernel_rfl) (by kernel_rfl),as_typeOf188]
  rfl
theorem comparable_plain (w:World):(callFunc 471 #[.agg #[.pointer (some ⟨16,171,none⟩)]]).run Tryz.prog w=.ok (.value (.bool true)) w:=by
  rw [@run_callFunc_extern Tryz.prog 471 _ (ReflectliteType.method fun t => do Rtype.noPackHeld "Comparable" t; pure (.bool (← typeInfo t).comparable)) Tryz.func471 (by kernel_rfl) (by kernel_rfl) (by kernel_rfl) (by kernel_rfl)]
  have : ((ReflectliteType.method fun t => do Rtype.noPackHeld "Comparable" t; pure (.bool (← typeInfo t).comparable)) #[.agg #[.pointer (some ⟨16, 171, none⟩)]]).run Tryz.prog w = .ok (.bool true) w := by kernel_rfl
  rw [this]
  rfl
theorem is_of (t:TypeId) (a:AVal) (k:Int) (b:Bool) (hcl:(AVal.iface t a).closed=true) (h:∀ H,Has 441 [.iface t a,.iface 171 (.int .i64 k),.bool true] H (.bool b) H) (H:Heap) :
    Has 440 [.iface t a,.iface 171 (.int .i64 k)] H (.bool b) H:=by
  refine does_pure s0 (show S0.fn 440=some Tryz.f440 by kernel_rfl) rfl (by kernel_rfl) (Nat.le_of_ble_eq_true rfl) (by simp [hcl]; rfl) rfl ?_
  refine W.seq (W.region ?_)
  repeat refine WO.op rfl rfl ?_
  refine WO.nil (W.seq (W.seq (W.region ?_)))
  repeat refine WO.op rfl rfl ?_
  refine WO.nil (W.cond (b:=false) rfl (fun h=>by cases h) (fun _=>W.skip (W.seq (W.region ?_))))
  refine WO.op rfl rfl ?_
  refine WO.two (f1:=280) (args1:=[.iface 171 (.int .i64 k)]) (v:=.bool true) (H2:=[]) rfl rfl rfl rfl (fun c w cargs r hg ha=>?_) ?_
  · obtain ⟨v,rfl,hv⟩:=ha.one
    cases hv with
    | iface _ _ u hu =>
      refine .inr ⟨_,w,typeOf_plain u w,fun ev hev=>⟨471,_,invoke_run s0.sg (t:=353) (f:=471) rfl rfl rfl ev hev (by kernel_rfl) w,.inr ⟨_,w,comparable_plain w,c,r,Post.refl _ _ _,.bool _⟩⟩⟩
  refine WO.op rfl rfl (WO.nil (W.seq (W.region ?_)))
  iterate 3 refine WO.op rfl rfl ?_
  refine WO.call rfl (h _) rfl ?_
  exact WO.op rfl rfl (WO.nil (W.ret ⟨trivial,_,rfl,Seals.same _ rfl⟩))
def givesB (r:Option (AVal×Heap)) (b:Bool):Bool:=match r with
  | some (.bool c,_)=>(match b,c with | true,true=>true | false,false=>true | _,_=>false)
  | _=>false
theorem run_B {S:Sg} (hs:Sound Tryz.prog S) {n:Nat} {f:FuncId} {args:List AVal} {b:Bool} (hcl:args.all AVal.closed=true) (h:givesB (den S n f args []) b=true) (H:Heap):DoesC Tryz.prog S f args H (.bool b) H:=by
  unfold givesB at h
  split at h
  · rename_i c H' hd
    have:c=b:=by cases b <;> cases c <;> first | rfl | cases h
    subst this
    exact DoesC.run hs hd hcl rfl H
  · cases h
def chainA:AVal:=.ip [.int .i64 4,.str [97],.iface 136 (.ip [.int .i64 4,.str [98],.nili] 0 true)] 0 true
theorem is_yes:givesB (den S2 100 441 [.iface 136 chainA,.iface 171 (.int .i64 4),.bool true] []) true=true:=by kernel_rfl
theorem is_no:givesB (den S2 100 441 [.iface 136 chainA,.iface 171 (.int .i64 1),.bool true] []) false=true:=by kernel_rfl
theorem Is_yes (H:Heap):Has 440 [.iface 136 chainA,.iface 171 (.int .i64 4)] H (.bool true) H:=is_of _ _ _ _ rfl (fun H=>Has.un (run_B s2 rfl is_yes H)) H
theorem Is_no (H:Heap):Has 440 [.iface 136 chainA,.iface 171 (.int .i64 1)] H (.bool false) H:=is_of _ _ _ _ rfl (fun H=>Has.un (run_B s2 rfl is_no H)) H
end
end Go.AM.C
