import Derived.WalkKit
import Derived.LaidEql
import Derived.Stop.Asserts
import Derived.RowKitTokens
import Derived.Test.YtjlmihjhakfchaaGreatDoorA8
import Derived.Test.YtjlmihjhakfchaaGreatDoorN2
set_option linter.unusedVariables false
set_option linter.unusedSimpArgs false
namespace Go.AM.C
open Go.Proofs Go.RowKit Go.Extern.Stop Go.Stop Go.Extern
noncomputable section
theorem as_valueOf27 (t:Addr) (w:World):(ReflectliteValue.unpack (.iface 188 (.pointer (some t)))).run Tryz.prog w
    = .ok (.agg #[.pointer (some ⟨16,188,none⟩),.pointer (some ⟨w.heap.size,0,none⟩),.int .u64 150]) (w.alloc (.cells #[.pointer (some t)] 188)):=by kernel_rfl
theorem as_type27 (a : Addr) (w : World) : (ReflectliteValue.methodAny (ReflectliteValue.valueError "reflectlite.Value.Type" 0) (fun t _ _ _ => ReflectliteType.toType t) #[.agg #[.pointer (some ⟨16, 188, none⟩), .pointer (some a), .int .u64 150]]).run Tryz.prog w
    = .ok (.iface 353 (.agg #[.pointer (some ⟨16,188,none⟩)])) w:=by kernel_rfl
theorem as_methodKind (h : Value) (w : World) : (Go.method 638 353 (.agg #[h]) "Kind").run Tryz.prog w = .ok (456, h) w := by kernel_rfl
theorem as_kind27 (w:World):((ReflectliteType.abiMethod fun t=>(fun a:Nat=>Value.int IntKind.u8 (a:Int)) <$> Rtype.kind t) #[.pointer (some ⟨16,188,none⟩)]).run Tryz.prog w=.ok (.int .u8 22) w:=by kernel_rfl
theorem as_kind25 (w:World):((ReflectliteType.abiMethod fun t=>(fun a:Nat=>Value.int IntKind.u8 (a:Int)) <$> Rtype.kind t) #[.pointer (some ⟨16,136,none⟩)]).run Tryz.prog w=.ok (.int .u8 22) w:=by kernel_rfl
theorem rlm (z:Sem Value) (f:TypeId→Addr→Nat→Nat→Sem Value) (v:Value) :
    ReflectliteValue.method z f #[v]=(do match ← ReflectliteValue.parts v with | none=>z | some (t,a,fl)=>f t a fl (fl % 32)):=rfl
theorem as_parts27 (a:Addr) (w:World):(ReflectliteValue.parts (.agg #[.pointer (some ⟨16,188,none⟩),.pointer (some a),.int .u64 150])).run Tryz.prog w=.ok (some (188,a,150)) w:=by kernel_rfl
theorem as_isNil27 (a p:Addr) (W:World) (ha:W.cell? a=some (.pointer (some p))) :
    (ReflectliteValue.method (ReflectliteValue.valueError "reflectlite.Value.IsNil" 0) ReflectliteValue.isNil #[.agg #[.pointer (some ⟨16, 188, none⟩), .pointer (some a), .int .u64 150]]).run Tryz.prog W = .ok (.bool false) W := by
  rw [rlm]
  simp only [Sem.run_bind,as_parts27,Result.andThen]
  simp [ReflectliteValue.isNil,loadVar,isAgg,underlying,Tryz.underlying188,ha,Result.andThen]
theorem as_methodElem (h : Value) (w : World) : (Go.method 638 353 (.agg #[h]) "Elem").run Tryz.prog w = .ok (472, .agg #[h]) w := by kernel_rfl
theorem as_methodImplements (h : Value) (w : World) : (Go.method 638 353 (.agg #[h]) "Implements").run Tryz.prog w = .ok (473, .agg #[h]) w := by kernel_rfl
theorem as_methodAssignableTo (h : Value) (w : World) : (Go.method 638 353 (.agg #[h]) "AssignableTo").run Tryz.prog w = .ok (470, .agg #[h]) w := by kernel_rfl
theorem as_elem27 (w:World):(ReflectliteType.method ReflectliteType.elem #[.agg #[.pointer (some ⟨16,188,none⟩)]]).run Tryz.prog w=.ok (.iface 353 (.agg #[.pointer (some ⟨16,136,none⟩)])) w:=by kernel_rfl
theorem as_implements25 (w : World) : (ReflectliteType.relation "Implements" ReflectliteType.implements_ #[.agg #[.pointer (some ⟨16, 136, none⟩)], .iface 353 (.agg #[.pointer (some ⟨16, 25, none⟩)])]).run Tryz.prog w = .ok (.bool true) w := by kernel_rfl
theorem as_typeOf25 (v:Value) (w:World):(ReflectliteType.typeOf #[.iface 136 v]).run Tryz.prog w=.ok (.iface 353 (.agg #[.pointer (some ⟨16,136,none⟩)])) w:=by kernel_rfl
theorem as_assignable25 (w : World) : (ReflectliteType.relation "AssignableTo" ReflectliteType.assignableTo #[.agg #[.pointer (some ⟨16, 136, none⟩)], .iface 353 (.agg #[.pointer (some ⟨16, 136, none⟩)])]).run Tryz.prog w = .ok (.bool true) w := by kernel_rfl
theorem as_valueOf25 (e:Addr) (w:World):(ReflectliteValue.unpack (.iface 136 (.pointer (some e)))).run Tryz.prog w
    = .ok (.agg #[.pointer (some ⟨16,136,none⟩),.pointer (some ⟨w.heap.size,0,none⟩),.int .u64 150]) (w.alloc (.cells #[.pointer (some e)] 136)):=by kernel_rfl
theorem as_elemOf27 (w:World):(Rtype.elem? 188).run Tryz.prog w=.ok (some 136) w:=by kernel_rfl
theorem as_mk25 (p:Addr) (w:World):(ReflectliteValue.mk 136 p ReflectliteValue.flagAddr).run Tryz.prog w=.ok (.agg #[.pointer (some ⟨16,136,none⟩),.pointer (some p),.int .u64 406]) w:=by kernel_rfl
theorem as_elemV27 (a p:Addr) (W:World) (ha:W.cell? a=some (.pointer (some p))) :
    (ReflectliteValue.method (ReflectliteValue.valueError "reflectlite.Value.Elem" 0) ReflectliteValue.elem #[.agg #[.pointer (some ⟨16, 188, none⟩), .pointer (some a), .int .u64 150]]).run Tryz.prog W
      = .ok (.agg #[.pointer (some ⟨16,136,none⟩),.pointer (some p),.int .u64 406]) W:=by
  rw [rlm]
  simp only [Sem.run_bind,as_parts27,Result.andThen]
  simp [ReflectliteValue.elem,loadVar,isAgg,underlying,Tryz.underlying188,ha,Result.andThen,as_elemOf27,as_mk25]
theorem rls (v x:Value):ReflectliteValue.set #[v,x]=(do
    let (some (dst,a,fl),some (src,b,_)):=(← ReflectliteValue.parts v,← ReflectliteValue.parts x)
      | unsupported (.noEntry "extern/(internal/reflectlite.Value).Set.zeroValue")
    if fl / ReflectliteValue.flagAddr % 2 == 0 then unsupported (.noEntry "extern/(internal/reflectlite.Value).Set.unaddressable")
    let val ← loadVar src b
    if ← Rtype.directlyAssignable dst src then storeVar dst a val
    else if ← Rtype.implements dst src then
      if (← Rtype.kind src) == 20 then
        match val with
        | .nilIface => unsupported (.noEntry "extern/reflectlite: a nil value of one interface type handed on as a value of another")
        | _=>storeVar dst a val
      else storeVar dst a (.iface src val)
    else panicString ("reflectlite.Set: value of type " ++ (← Rtype.spelt src) ++ " is not assignable to type " ++ (← Rtype.spelt dst))
    pure (.tuple #[])):=rfl
theorem as_parts25a (a:Addr) (w:World):(ReflectliteValue.parts (.agg #[.pointer (some ⟨16,136,none⟩),.pointer (some a),.int .u64 406])).run Tryz.prog w=.ok (some (136,a,406)) w:=by kernel_rfl
theorem as_parts25 (a:Addr) (w:World):(ReflectliteValue.parts (.agg #[.pointer (some ⟨16,136,none⟩),.pointer (some a),.int .u64 150])).run Tryz.prog w=.ok (some (136,a,150)) w:=by kernel_rfl
theorem as_direct25 (w:World):(Rtype.directlyAssignable 136 136).run Tryz.prog w=.ok true w:=by kernel_rfl
theorem as_set25 (ta b e:Addr) (old:Value) (W:World) (hb:W.cell? b=some (.pointer (some e))) (ht:W.cell? ta=some old) (hf:W.frozen? ta=false) :
    (ReflectliteValue.set #[.agg #[.pointer (some ⟨16,136,none⟩),.pointer (some ta),.int .u64 406],.agg #[.pointer (some ⟨16,136,none⟩),.pointer (some b),.int .u64 150]]).run Tryz.prog W
      = .ok (.tuple #[]) (W.setCell ta (.pointer (some e))):=by
  rw [rls]
  simp only [Sem.run_bind,as_parts25a,as_parts25,Result.andThen]
  simp [ReflectliteValue.flagAddr,loadVar,isAgg,underlying,Tryz.underlying136,hb,Result.andThen,as_direct25,storeVar,Value.cells,storeCells,Addr.add]
  rw [run_store Tryz.prog W ta _ _ (by rfl)]
  simp [ht,hf]
set_option maxHeartbeats 4000000 in
theorem as_hit (e t:Addr) (old:Value) (w:World) (hg:w.cell? ⟨0,0,none⟩=some (.iface 353 (.agg #[.pointer (some ⟨16,25,none⟩)]))) (ht0:w.cell? t=some old) (hf0:w.frozen? t=false) :
    Calls Tryz.prog 120 #[.iface 136 (.pointer (some e)),.iface 188 (.pointer (some t))] w fun ev w'=>ev=.returned (.bool true)∧w'=((((w.alloc (.cells #[.pointer (some t)] 188)).alloc (.cells #[.pointer (some ⟨16,188,none⟩),.pointer (some ⟨w.heap.size,0,none⟩),.int .u64 150] 276)).alloc (.cells #[.pointer (some ⟨16,188,none⟩),.pointer (some ⟨w.heap.size,0,none⟩),.int .u64 150] 276)).alloc (.cells #[.pointer (some e)] 136)).setCell t (.pointer (some e)):=by
  have h6:=@run_callFunc_extern Tryz.prog 205 _ (fun args=>ReflectliteValue.unpack (args.getD 0 (.tuple #[]))) Tryz.func205 (by kernel_rfl) (by kernel_rfl) (by kernel_rfl) (by kernel_rfl)
  have h7 := @run_callFunc_extern Tryz.prog 206 _ (ReflectliteValue.methodAny (ReflectliteValue.valueError "reflectlite.Value.Type" 0) (fun t _ _ _ => ReflectliteType.toType t)) Tryz.func206 (by kernel_rfl) (by kernel_rfl) (by kernel_rfl) (by kernel_rfl)
  have h8 := @run_callFunc_extern Tryz.prog 207 _ (ReflectliteValue.method (ReflectliteValue.valueError "reflectlite.Value.IsNil" 0) ReflectliteValue.isNil) Tryz.func207 (by kernel_rfl) (by kernel_rfl) (by kernel_rfl) (by kernel_rfl)
  have h27:=@run_callFunc_extern Tryz.prog 456 _ (ReflectliteType.abiMethod fun t=>do pure (.int .u8 (← Rtype.kind t))) Tryz.func456 (by kernel_rfl) (by kernel_rfl) (by kernel_rfl) (by kernel_rfl)
  have h37:=@run_callFunc_extern Tryz.prog 472 _ (ReflectliteType.method ReflectliteType.elem) Tryz.func472 (by kernel_rfl) (by kernel_rfl) (by kernel_rfl) (by kernel_rfl)
  have h38 := @run_callFunc_extern Tryz.prog 473 _ (ReflectliteType.relation "Implements" ReflectliteType.implements_) Tryz.func473 (by kernel_rfl) (by kernel_rfl) (by kernel_rfl) (by kernel_rfl)
  have h10:=@run_callFunc_extern Tryz.prog 280 _ ReflectliteType.typeOf Tryz.func280 (by kernel_rfl) (by kernel_rfl) (by kernel_rfl) (by kernel_rfl)
  have h35 := @run_callFunc_extern Tryz.prog 470 _ (ReflectliteType.relation "AssignableTo" ReflectliteType.assignableTo) Tryz.func470 (by kernel_rfl) (by kernel_rfl) (by kernel_rfl) (by kernel_rfl)
  have h11 := @run_callFunc_extern Tryz.prog 281 _ (ReflectliteValue.method (ReflectliteValue.valueError "reflectlite.Value.Elem" 0) ReflectliteValue.elem) Tryz.func281 (by kernel_rfl) (by kernel_rfl) (by kernel_rfl) (by kernel_rfl)
  have h12:=@run_callFunc_extern Tryz.prog 282 _ ReflectliteValue.set Tryz.func282 (by kernel_rfl) (by kernel_rfl) (by kernel_rfl) (by kernel_rfl)
  have tO:=as_typeOf25
  have mA:=as_methodAssignableTo
  have a25:=as_assignable25
  have v25:=as_valueOf25
  have f6:=as_valueOf27
  have f7:=as_type27
  have mK:=as_methodKind
  have mE:=as_methodElem
  have mI:=as_methodImplements
  have k27:=as_kind27
  have k25:=as_kind25
  have e27:=as_elem27
  have i25:=as_implements25
  have n8:=as_isNil27 ⟨w.heap.size,0,none⟩ t ((w.alloc (.cells #[.pointer (some t)] 188)).alloc (.cells #[.pointer (some ⟨16,188,none⟩),.pointer (some ⟨w.heap.size,0,none⟩),.int .u64 150] 276)) (by simp)
  have hlt:0 < w.heap.size:=by
    rcases Nat.lt_or_ge 0 w.heap.size with h | h
    · exact h
    · simp [World.cell?,Array.getElem?_eq_none h] at hg
  have hg2:((w.alloc (.cells #[.pointer (some t)] 188)).alloc (.cells #[.pointer (some ⟨16,188,none⟩),.pointer (some ⟨w.heap.size,0,none⟩),.int .u64 150] 276)).cell? ⟨0,0,none⟩=some (.iface 353 (.agg #[.pointer (some ⟨16,25,none⟩)])):=by
    rw [World.cell?_alloc_lt _ _ ⟨0,0,none⟩ (Nat.lt_of_lt_of_le hlt (by simp)),World.cell?_alloc_lt _ _ ⟨0,0,none⟩ hlt]; exact hg
  have htl:t.block < w.heap.size:=by
    rcases Nat.lt_or_ge t.block w.heap.size with h | h
    · exact h
    · simp [World.cell?,Array.getElem?_eq_none h] at ht0
  have el:=as_elemV27 ⟨w.heap.size,0,none⟩ t (((w.alloc (.cells #[.pointer (some t)] 188)).alloc (.cells #[.pointer (some ⟨16,188,none⟩),.pointer (some ⟨w.heap.size,0,none⟩),.int .u64 150] 276)).alloc (.cells #[.pointer (some ⟨16,188,none⟩),.pointer (some ⟨w.heap.size,0,none⟩),.int .u64 150] 276)) (by rw [World.cell?_alloc_lt _ _ ⟨w.heap.size,0,none⟩ (by simp; omega)]; simp)
  have st:=as_set25 t ⟨w.heap.size + 1 + 1 + 1,0,none⟩ e old ((((w.alloc (.cells #[.pointer (some t)] 188)).alloc (.cells #[.pointer (some ⟨16,188,none⟩),.pointer (some ⟨w.heap.size,0,none⟩),.int .u64 150] 276)).alloc (.cells #[.pointer (some ⟨16,188,none⟩),.pointer (some ⟨w.heap.size,0,none⟩),.int .u64 150] 276)).alloc (.cells #[.pointer (some e)] 136))
    (by rw [World.cell?_alloc_at _ _ _ _ (by simp)]; rfl)
    (by rw [World.cell?_alloc_lt _ _ t (by simp; omega),World.cell?_alloc_lt _ _ t (by simp; omega),World.cell?_alloc_lt _ _ t (by simp; omega),World.cell?_alloc_lt _ _ t htl]; exact ht0)
    (by rw [World.frozen?_alloc_old _ _ t (by simp; omega),World.frozen?_alloc_old _ _ t (by simp; omega),World.frozen?_alloc_old _ _ t (by simp; omega),World.frozen?_alloc_old _ _ t (Nat.ne_of_lt htl)]; exact hf0)
  go_enter Tryz.func120,Tryz.ntmps120
  go_wp2
  refine wp_loop_rounds 1 ?_
  rw [rounds_succ]
  go_wp2
  go_ret
  exact ⟨rfl,rfl⟩
end
end Go.AM.C
namespace Go.AM.C
open Go.Proofs Go.RowKit Go.Extern.Stop Go.Stop Go.Extern
noncomputable section
theorem as_typeOf188 (v:Value) (w:World):(ReflectliteType.typeOf #[.iface 171 v]).run Tryz.prog w=.ok (.iface 353 (.agg #[.pointer (some ⟨16,171,none⟩)])) w:=by kernel_rfl
theorem as_assignable188 (w : World) : (ReflectliteType.relation "AssignableTo" ReflectliteType.assignableTo #[.agg #[.pointer (some ⟨16, 171, none⟩)], .iface 353 (.agg #[.pointer (some ⟨16, 136, none⟩)])]).run Tryz.prog w = .ok (.bool false) w := by kernel_rfl
theorem as_hasAs (v:Value) (xT:TypeId) (w:World):(Instr.typeAssert (.iface 171 v) xT 358 true).run Tryz.prog w=.ok (.tuple #[.iface 171 v,.bool true]) w :=
  run_typeAssert_hasB Tryz.underlying358 (by kernel_rfl) v xT w
theorem as_ta (v:Value) (xT:TypeId) (w:World):(Instr.typeAssert (.iface 188 v) xT 188 true).run Tryz.prog w=.ok (.tuple #[v,.bool true]) w:=by kernel_rfl
theorem as_methodAs (v : Value) (w : World) : (Go.method 638 171 v "As").run Tryz.prog w = .ok (463, v) w := by kernel_rfl
set_option maxHeartbeats 4000000 in
set_option maxRecDepth 20000 in
theorem as_plain (k:Int) (t:Addr) (old:Value) (w:World) (hg:w.cell? ⟨0,0,none⟩=some (.iface 353 (.agg #[.pointer (some ⟨16,25,none⟩)]))) (ht0:w.cell? t=some old) (hf0:w.frozen? t=false) :
    Calls Tryz.prog 120 #[.iface 171 (.int .i64 k),.iface 188 (.pointer (some t))] w fun ev w'=>ev=.returned (.bool true)∧w'=((((w.alloc (.cells #[.pointer (some t)] 188)).alloc (.cells #[.pointer (some ⟨16,188,none⟩),.pointer (some ⟨w.heap.size,0,none⟩),.int .u64 150] 276)).alloc (.cells #[.pointer (some ⟨16,188,none⟩),.pointer (some ⟨w.heap.size,0,none⟩),.int .u64 150] 276)).alloc (.cells #[.int .i64 k,.string ⟨#[]⟩,.nilIface] 139)).setCell t (.pointer (some ⟨w.heap.size + 1 + 1 + 1,0,none⟩)):=by
  have h6:=@run_callFunc_extern Tryz.prog 205 _ (fun args=>ReflectliteValue.unpack (args.getD 0 (.tuple #[]))) Tryz.func205 (by kernel_rfl) (by kernel_rfl) (by kernel_rfl) (by kernel_rfl)
  have h7 := @run_callFunc_extern Tryz.prog 206 _ (ReflectliteValue.methodAny (ReflectliteValue.valueError "reflectlite.Value.Type" 0) (fun t _ _ _ => ReflectliteType.toType t)) Tryz.func206 (by kernel_rfl) (by kernel_rfl) (by kernel_rfl) (by kernel_rfl)
  have h8 := @run_callFunc_extern Tryz.prog 207 _ (ReflectliteValue.method (ReflectliteValue.valueError "reflectlite.Value.IsNil" 0) ReflectliteValue.isNil) Tryz.func207 (by kernel_rfl) (by kernel_rfl) (by kernel_rfl) (by kernel_rfl)
  have h27:=@run_callFunc_extern Tryz.prog 456 _ (ReflectliteType.abiMethod fun t=>do pure (.int .u8 (← Rtype.kind t))) Tryz.func456 (by kernel_rfl) (by kernel_rfl) (by kernel_rfl) (by kernel_rfl)
  have h37:=@run_callFunc_extern Tryz.prog 472 _ (ReflectliteType.method ReflectliteType.elem) Tryz.func472 (by kernel_rfl) (by kernel_rfl) (by kernel_rfl) (by kernel_rfl)
  have h38 := @run_callFunc_extern Tryz.prog 473 _ (ReflectliteType.relation "Implements" ReflectliteType.implements_) Tryz.func473 (by kernel_rfl) (by kernel_rfl) (by kernel_rfl) (by kernel_rfl)
  have h10:=@run_callFunc_extern Tryz.prog 280 _ ReflectliteType.typeOf Tryz.func280 (by kernel_rfl) (by kernel_rfl) (by kernel_rfl) (by kernel_rfl)
  have h35 := @run_callFunc_extern Tryz.prog 470 _ (ReflectliteType.relation "AssignableTo" ReflectliteType.assignableTo) Tryz.func470 (by kernel_rfl) (by kernel_rfl) (by kernel_rfl) (by kernel_rfl)
  have h11 := @run_callFunc_extern Tryz.prog 281 _ (ReflectliteValue.method (ReflectliteValue.valueError "reflectlite.Value.Elem" 0) ReflectliteValue.elem) Tryz.func281 (by kernel_rfl) (by kernel_rfl) (by kernel_rfl) (by kernel_rfl)
  have h12:=@run_callFunc_extern Tryz.prog 282 _ ReflectliteValue.set Tryz.func282 (by kernel_rfl) (by kernel_rfl) (by kernel_rfl) (by kernel_rfl)
  have tO:=as_typeOf188
  have mA:=as_methodAssignableTo
  have a25:=as_assignable188
  have mP:=as_methodAs
  have hP:=as_hasAs
  have hT:=as_ta
  have f6:=as_valueOf27
  have f7:=as_type27
  have mK:=as_methodKind
  have mE:=as_methodElem
  have mI:=as_methodImplements
  have k27:=as_kind27
  have k25:=as_kind25
  have e27:=as_elem27
  have i25:=as_implements25
  have n8:=as_isNil27 ⟨w.heap.size,0,none⟩ t ((w.alloc (.cells #[.pointer (some t)] 188)).alloc (.cells #[.pointer (some ⟨16,188,none⟩),.pointer (some ⟨w.heap.size,0,none⟩),.int .u64 150] 276)) (by simp)
  have hlt:0 < w.heap.size:=by
    rcases Nat.lt_or_ge 0 w.heap.size with h | h
    · exact h
    · simp [World.cell?,Array.getElem?_eq_none h] at hg
  have hg2:((w.alloc (.cells #[.pointer (some t)] 188)).alloc (.cells #[.pointer (some ⟨16,188,none⟩),.pointer (some ⟨w.heap.size,0,none⟩),.int .u64 150] 276)).cell? ⟨0,0,none⟩=some (.iface 353 (.agg #[.pointer (some ⟨16,25,none⟩)])):=by
    rw [World.cell?_alloc_lt _ _ ⟨0,0,none⟩ (Nat.lt_of_lt_of_le hlt (by simp)),World.cell?_alloc_lt _ _ ⟨0,0,none⟩ hlt]; exact hg
  have htl:t.block < w.heap.size:=by
    rcases Nat.lt_or_ge t.block w.heap.size with h | h
    · exact h
    · simp [World.cell?,Array.getElem?_eq_none h] at ht0
  have ht4:((((w.alloc (.cells #[.pointer (some t)] 188)).alloc (.cells #[.pointer (some ⟨16,188,none⟩),.pointer (some ⟨w.heap.size,0,none⟩),.int .u64 150] 276)).alloc (.cells #[.pointer (some ⟨16,188,none⟩),.pointer (some ⟨w.heap.size,0,none⟩),.int .u64 150] 276)).alloc (.cells #[.int .i64 k,.string ⟨#[]⟩,.nilIface] 139)).cell? t=some old:=by
    rw [World.cell?_alloc_lt _ _ t (by simp; omega),World.cell?_alloc_lt _ _ t (by simp; omega),World.cell?_alloc_lt _ _ t (by simp; omega),World.cell?_alloc_lt _ _ t htl]; exact ht0
  have hf4:((((w.alloc (.cells #[.pointer (some t)] 188)).alloc (.cells #[.pointer (some ⟨16,188,none⟩),.pointer (some ⟨w.heap.size,0,none⟩),.int .u64 150] 276)).alloc (.cells #[.pointer (some ⟨16,188,none⟩),.pointer (some ⟨w.heap.size,0,none⟩),.int .u64 150] 276)).alloc (.cells #[.int .i64 k,.string ⟨#[]⟩,.nilIface] 139)).frozen? t=false:=by
    rw [World.frozen?_alloc_old _ _ t (by simp; omega),World.frozen?_alloc_old _ _ t (by simp; omega),World.frozen?_alloc_old _ _ t (by simp; omega),World.frozen?_alloc_old _ _ t (Nat.ne_of_lt htl)]; exact hf0
  go_enter Tryz.func120,Tryz.ntmps120
  go_wp2
  refine wp_loop_rounds 1 ?_
  rw [rounds_succ]
  go_wp2
  go_ret
  exact ⟨rfl,rfl⟩
end
end Go.AM.C
