import Derived.Laws.Strings
import Derived.Laws.StructEq
import Derived.Test.YtjlmihjhakfchaaGreatDoorA0
set_option linter.unusedVariables false
set_option linter.unusedSimpArgs false
noncomputable section
namespace Go.AM
variable {P:Program}
structure SgOK (P:Program) (S:Sg):Prop where
  ty:∀ t i,S.ty t=some i→TyOK P t i
  fn:∀ f fn,S.fn f=some fn→P.funcs[f]?=some fn
  call:∀ f,(S.fn f).isSome=true→∀ args w,(callFunc f args).run P w=.ok (.enter f args) w
  mixed:P.follows .mixedOrders=true
  eqT:∀ t ks,S.eqT t=some ks→P.eqGuardType P.depth t=false∧∀ (c:Ctx) (w:World) (as bs:List AVal) (b:Bool) (xs ys:Array Value),
    eqCells ks as bs=some b→VRs c w as xs→VRs c w bs ys→(Op.equal t (.agg xs) (.agg ys)).run P w=.ok b w
  meth:∀ t m g,S.meth t m=some g→∀ v args w,(callMethod (.iface t v) m args).run P w=(callFunc g (#[v] ++ args)).run P w
def PinOK (S:Sg) (c:Ctx) (w:World) (g:Nat):Prop:=∀ v,S.pin g=some v→c.F g∧w.cell? ⟨g,0,none⟩=some v
def Glob (S:Sg) (c:Ctx) (w:World):Prop:=∀ g,VR c w (S.glob g) (.pointer (some ⟨g,0,none⟩))∧PinOK S c w g
def EnvR (c:Ctx) (w:World) (e:Tr) (tmps:Array Value):Prop:=∀ t,VR c w (e.get t) (tmps.getD t undef)
theorem Glob.mono {S:Sg} {c c':Ctx} {w w':World} (l:Le c w c' w') (h:Glob S c w):Glob S c' w':=fun g=>⟨(h g).1.mono l,fun v hv=>⟨l.F g ((h g).2 v hv).1,by
    have:=((h g).2 v hv).2
    unfold World.cell? at this ⊢
    rw [l.blk g ((h g).2 v hv).1]
    exact this⟩⟩
theorem EnvR.mono {c c':Ctx} {w w':World} (l:Le c w c' w') {e:Tr} {tmps:Array Value} (h:EnvR c w e tmps):EnvR c' w' e tmps:=fun t=>(h t).mono l
theorem opd_ok {S:Sg} {c:Ctx} {w:World} {e:Tr} {a:Act} (he:EnvR c w e a.tmps) (hg:Glob S c w) (x:Operand):VR c w (opd S e x) (a.eval x):=by
  cases x with
  | tmp t=>exact he t
  | const v=>exact VR.ofValue c w v
  | global g=>exact (hg g).1
  | func f=>exact .fn f [] [] #[] #[] rfl rfl (fun j a v h=>by simp at h) (fun j a v h=>by simp at h)
def Tells (P:Program) (c:Ctx) (w:World) (s:Sem Value) (v:AVal):Prop:=∃ cv,s.run P w=.ok cv w∧VR c w v cv
section ints
variable {c:Ctx} {w:World}
theorem intBin_ok {op:BinOp} {k:IntKind} {a b:Int} {v:AVal} {t:TypeId} (h:intBin op k a b=some v):Tells P c w (binOp op t (.int k a) (.int k b)) v:=by
  cases op <;> simp only [intBin,mkI_eq,mkB_eq,Option.some.injEq,reduceCtorEq] at h
  case add=>subst h; exact ⟨_,by simp [binOp,Op.intArith,wrapI_eq],.int _ _⟩
  case sub=>subst h; exact ⟨_,by simp [binOp,Op.intArith,wrapI_eq],.int _ _⟩
  case mul=>subst h; exact ⟨_,by simp [binOp,Op.intArith,wrapI_eq],.int _ _⟩
  case quo => split at h; · cases h
              · rename_i hb; cases h; exact ⟨_,by simp [binOp,Op.intDiv,hb,wrapI_eq],.int _ _⟩
  case rem => split at h; · cases h
              · rename_i hb; cases h; exact ⟨_,by simp [binOp,Op.intDiv,hb],.int _ _⟩
  case and=>subst h; exact ⟨_,by simp [binOp,Op.intBits,wrapI_eq],.int _ _⟩
  case or=>subst h; exact ⟨_,by simp [binOp,Op.intBits,wrapI_eq],.int _ _⟩
  case xor=>subst h; exact ⟨_,by simp [binOp,Op.intBits,wrapI_eq],.int _ _⟩
  case andNot=>subst h; exact ⟨_,by simp [binOp,Op.intBits,wrapI_eq],.int _ _⟩
  case eql=>subst h; exact ⟨.bool (decide (a=b)),by simp [binOp,Op.intCmp]; rfl,.bool _⟩
  case neq=>subst h; exact ⟨.bool (!decide (a=b)),by simp [binOp,Op.intCmp,bne]; rfl,.bool _⟩
  case lss=>subst h; exact ⟨.bool (decide (a < b)),by simp [binOp,Op.intCmp],.bool _⟩
  case leq=>subst h; exact ⟨.bool (decide (a≤b)),by simp [binOp,Op.intCmp],.bool _⟩
  case gtr=>subst h; exact ⟨.bool (decide (b < a)),by simp [binOp,Op.intCmp],.bool _⟩
  case geq=>subst h; exact ⟨.bool (decide (b≤a)),by simp [binOp,Op.intCmp],.bool _⟩
theorem shiftBin_ok {op:BinOp} {k k':IntKind} {a b:Int} {v:AVal} {t:TypeId} (h:shiftBin op k a b=some v):Tells P c w (binOp op t (.int k a) (.int k' b)) v:=by
  unfold shiftBin at h
  split at h
  · cases h
  · rename_i hb
    cases op <;> simp only [mkI_eq,Option.some.injEq,reduceCtorEq] at h
    case shl=>subst h; exact ⟨_,by simp [binOp,Op.shift,hb,wrapI_eq],.int _ _⟩
    case shr=>subst h; exact ⟨_,by simp [binOp,Op.shift,hb],.int _ _⟩
theorem beq_dec (x y:List UInt8):(x == y)=decide (x=y):=by
  by_cases h:x=y
  · subst h; simp
  · simp [h]
theorem strBin_ok {op:BinOp} {a b:List UInt8} {v:AVal} {x y:ByteArray} {t:TypeId} (hx:x.data.toList=a) (hy:y.data.toList=b) (h:strBin op a b=some v) :
    Tells P c w (binOp op t (.string x) (.string y)) v:=by
  subst hx; subst hy
  cases op <;> simp only [strBin,mkI_eq,mkB_eq,Option.some.injEq,reduceCtorEq] at h
  case add =>
    split at h
    · rename_i hl
      cases h
      have hs:¬ (((x.size + y.size:Nat):Int) > IntKind.i64.max):=by
        have e:IntKind.i64.max=9223372036854775807:=by decide
        rw [e]
        have h1:x.data.toList.length=x.size:=Array.length_toList
        have h2:y.data.toList.length=y.size:=Array.length_toList
        omega
      refine ⟨.string (x ++ y),by simp only [binOp,Op.stringOp]; rw [if_neg hs]; rfl,.str _ _ ?_⟩
      simp [ByteArray.data_append]
    · cases h
  case eql=>subst h; exact ⟨_,by rw [binOp_string_eql,ByteArray.toList_eq,ByteArray.toList_eq,beq_dec]; rfl,.bool _⟩
  case neq=>subst h; exact ⟨_,by rw [binOp_string_neq,ByteArray.toList_eq,ByteArray.toList_eq,beq_dec]; rfl,.bool _⟩
  case lss=>subst h; exact ⟨_,by simp only [binOp,Op.stringOp,ByteArray.toList_eq,beq_dec]; rfl,.bool _⟩
  case leq=>subst h; exact ⟨_,by simp only [binOp,Op.stringOp,ByteArray.toList_eq,beq_dec]; rfl,.bool _⟩
  case gtr=>subst h; exact ⟨_,by simp only [binOp,Op.stringOp,ByteArray.toList_eq,beq_dec]; rfl,.bool _⟩
  case geq=>subst h; exact ⟨_,by simp only [binOp,Op.stringOp,ByteArray.toList_eq,beq_dec]; rfl,.bool _⟩
theorem isPtr_ok {a:AVal} {v:Value} (h:isPtr a=true) (hv:VR c w a v):∃ p,v=.pointer (some p):=by
  cases hv with
  | ptr=>exact ⟨_,rfl⟩
  | ip=>exact ⟨_,rfl⟩
  | obj o v hv'=>cases o <;> (simp only [expand] at hv'; cases hv'; exact ⟨_,rfl⟩)
  | _=>simp [isPtr] at h
theorem equal_of {t:TypeId} {x y:Value} {b:Bool} (h:∀ d,(Op.equalIn (d + 1) t x y).run P w=.ok b w):(Op.equal t x y).run P w=.ok b w:=h 9999
theorem equalIn_ptr {t e:TypeId} (hu:P.underlying t=some (.pointer e)) (p q:Option Addr) (hpq:p=none∨q=none) (d:Nat) :
    (Op.equalIn (d + 1) t (.pointer p) (.pointer q)).run P w=.ok (p.isNone && q.isNone) w:=by
  simp only [Op.equalIn,Sem.run_bind,run_und hu,Result.andThen_ok]
  cases p <;> cases q <;> first | rfl | simp at hpq
theorem equalIn_bool {t:TypeId} (hu:P.underlying t=some .bool) (p q:Bool) (d:Nat) :
    (Op.equalIn (d + 1) t (.bool p) (.bool q)).run P w=.ok (p == q) w:=by
  simp only [Op.equalIn,Sem.run_bind,run_und hu,Result.andThen_ok]
  rfl
theorem equalIn_nn {t:TypeId} {ms:Array (String×TypeId)} (hu:P.underlying t=some (.interface ms)) (d:Nat) :
    (Op.equalIn (d + 1) t .nilIface .nilIface).run P w=.ok true w:=by
  simp only [Op.equalIn,Sem.run_bind,run_und hu,Result.andThen_ok]
  rfl
theorem equalIn_ni {t u:TypeId} {ms:Array (String×TypeId)} {v:Value} (hu:P.underlying t=some (.interface ms)) (d:Nat) :
    (Op.equalIn (d + 1) t .nilIface (.iface u v)).run P w=.ok false w:=by
  simp only [Op.equalIn,Sem.run_bind,run_und hu,Result.andThen_ok]
  rfl
theorem equalIn_in {t u:TypeId} {ms:Array (String×TypeId)} {v:Value} (hu:P.underlying t=some (.interface ms)) (d:Nat) :
    (Op.equalIn (d + 1) t (.iface u v) .nilIface).run P w=.ok false w:=by
  simp only [Op.equalIn,Sem.run_bind,run_und hu,Result.andThen_ok]
  rfl
def Asks (t:TypeId) (x y:Value):Prop :=
  binOp .eql t x y=(do pure (.bool (← Op.equal t x y)))∧binOp .neq t x y=(do pure (.bool (!(← Op.equal t x y))))
theorem asks_bool {t:TypeId} {p q:Bool}:Asks t (.bool p) (.bool q):=⟨rfl,rfl⟩
theorem asks_ptr {t:TypeId} {p q:Option Addr}:Asks t (.pointer p) (.pointer q):=⟨rfl,rfl⟩
theorem asks_nn {t:TypeId}:Asks t .nilIface .nilIface:=⟨rfl,rfl⟩
theorem asks_ni {t u:TypeId} {v:Value}:Asks t .nilIface (.iface u v):=⟨rfl,rfl⟩
theorem asks_in {t u:TypeId} {v:Value}:Asks t (.iface u v) .nilIface:=⟨rfl,rfl⟩
theorem asks_agg {t:TypeId} {xs ys:Array Value}:Asks t (.agg xs) (.agg ys):=⟨rfl,rfl⟩
theorem equalIn_slice {t e:TypeId} (hu:P.underlying t=some (.slice e)) (p q:Option Addr) (l1 c1 l2 c2:Nat) (hpq:p=none∨q=none) (d:Nat) :
    (Op.equalIn (d + 1) t (.slice p l1 c1) (.slice q l2 c2)).run P w=.ok (p.isNone && q.isNone) w:=by
  simp only [Op.equalIn,Sem.run_bind,run_und hu,Result.andThen_ok]
  cases p <;> cases q <;> first | rfl | simp at hpq
theorem equalIn_ii {t u:TypeId} {ms:Array (String×TypeId)} {x y:Value} {inf:TypeInfo} {k:IntKind} {a b:Int} (hu:P.underlying t=some (.interface ms)) (hi:P.info? u=some inf) (hc:inf.comparable=true)
    (hk:P.underlying u=some (.int k)) (k':IntKind) (hx:x=.int k' a) (hy:y=.int k' b) (d:Nat):(Op.equalIn (d + 2) t (.iface u x) (.iface u y)).run P w=.ok (a == b) w:=by
  subst hx; subst hy
  rw [Op.equalIn]
  simp only [Sem.run_bind,run_und hu,Result.andThen_ok]
  simp [typeInfo,hi,hc,Op.equalIn,run_und hk]
theorem equalIn_id {t u u':TypeId} {ms:Array (String×TypeId)} {x y:Value} (hu:P.underlying t=some (.interface ms)) (hne:u≠u') (d:Nat) :
    (Op.equalIn (d + 1) t (.iface u x) (.iface u' y)).run P w=.ok false w:=by
  simp only [Op.equalIn,Sem.run_bind,run_und hu,Result.andThen_ok]
  simp [hne]
theorem asks_slice {t:TypeId} {p q:Option Addr} {l1 c1 l2 c2:Nat}:Asks t (.slice p l1 c1) (.slice q l2 c2):=⟨rfl,rfl⟩
theorem asks_ii {t u u':TypeId} {x y:Value}:Asks t (.iface u x) (.iface u' y):=⟨rfl,rfl⟩
theorem isSl_ok {a:AVal} {v:Value} (h:isSl a=true) (hv:VR c w a v):∃ p l c1,v=.slice (some p) l c1:=by
  cases hv with
  | sl=>exact ⟨_,_,_,rfl⟩
  | sl0=>exact ⟨_,_,_,rfl⟩
  | isl=>exact ⟨_,_,_,rfl⟩
  | _=>simp [isSl] at h
theorem eqA_ok {S:Sg} (hS:SgOK P S) {t:TypeId} {x y:AVal} {isC b:Bool} {vx vy:Value} (h:eqA S t x y isC=some b) (hx:VR c w x vx) (hy:VR c w y vy) :
    (Op.equal t vx vy).run P w=.ok b w∧((vx=.nilIface∧vy=.nilIface)→isC=true)∧(∀ xs ys,vx=.agg xs→vy=.agg ys→P.eqGuardType P.depth t=false)∧Asks t vx vy:=by
  unfold eqA at h
  split at h
  · -- bool,bool
    cases hx; cases hy
    split at h
    · rename_i hi
      cases h
      exact ⟨equal_of (equalIn_bool (hS.ty _ _ hi).und _ _),by simp,by simp,asks_bool⟩
    · cases h
  · -- nil pointer
    cases hx
    split at h
    · rename_i hi
      split at h
      · cases hy; cases h
        exact ⟨equal_of (equalIn_ptr (hS.ty _ _ hi).und _ _ (.inl rfl)),by simp,by simp,asks_ptr⟩
      · split at h
        · rename_i hp
          cases h
          obtain ⟨p,rfl⟩:=isPtr_ok hp hy
          exact ⟨equal_of (equalIn_ptr (hS.ty _ _ hi).und _ _ (.inl rfl)),by simp,by simp,asks_ptr⟩
        · cases h
    · cases h
  · -- nil,nil
    cases hx; cases hy
    split at h
    · rename_i hc
      split at h
      · rename_i hi
        cases h
        exact ⟨equal_of (equalIn_nn (hS.ty _ _ hi).und),fun _=>hc,by simp,asks_nn⟩
      · cases h
    · cases h
  · cases hx; cases hy
    split at h
    · rename_i hi
      cases h
      exact ⟨equal_of (equalIn_ni (hS.ty _ _ hi).und),by simp,by simp,asks_ni⟩
    · cases h
  · cases hx; cases hy
    split at h
    · rename_i hi
      cases h
      exact ⟨equal_of (equalIn_in (hS.ty _ _ hi).und),by simp,by simp,asks_in⟩
    · cases h
  · -- agg,agg
    split at h
    · rename_i ks he
      obtain ⟨hg,hq⟩:=hS.eqT t ks he
      cases hx with
      | agg _ xs hs1 hh1=>cases hy with
        | agg _ ys hs2 hh2 =>
          exact ⟨hq c w _ _ b xs ys h ⟨hs1,hh1⟩ ⟨hs2,hh2⟩,by simp,fun _ _ _ _=>hg,asks_agg⟩
    · cases h
  · -- pointer,nil
    cases hy
    split at h
    · rename_i hi
      split at h
      · rename_i hp
        cases h
        obtain ⟨p,rfl⟩:=isPtr_ok hp hx
        exact ⟨equal_of (equalIn_ptr (hS.ty _ _ hi).und _ _ (.inr rfl)),by simp,by simp,asks_ptr⟩
      · cases h
    · cases h
  · -- slice,nil
    cases hy
    split at h
    · rename_i hi
      split at h
      · cases hx; cases h
        exact ⟨equal_of (equalIn_slice (hS.ty _ _ hi).und _ _ _ _ _ _ (.inl rfl)),by simp,by simp,asks_slice⟩
      · split at h
        · rename_i hp
          cases h
          obtain ⟨p,l,c1,rfl⟩:=isSl_ok hp hx
          exact ⟨equal_of (equalIn_slice (hS.ty _ _ hi).und _ _ _ _ _ _ (.inr rfl)),by simp,by simp,asks_slice⟩
        · cases h
    · cases h
  · -- two interface values
    cases hx with
    | iface u _ ux hux=>cases hy with
      | iface u' _ uy huy =>
        split at h
        · rename_i hi
          split at h
          · rename_i hne
            cases h
            exact ⟨equal_of (equalIn_id (hS.ty _ _ hi).und hne),by simp,by simp,asks_ii⟩
          · rename_i hne
            have hne':=Classical.not_not.1 hne
            subst hne'
            split at h
            · rename_i ti' hti
              split at h
              · rename_i hc
                split at h
                · split at h
                  · rename_i hdk hkk
                    subst hkk
                    cases hux; cases huy; cases h
                    have T:=hS.ty _ _ hti
                    obtain ⟨inf,hinf,_⟩:=T.info
                    have hcmp:=T.more inf hinf
                    have hu:=T.und
                    rw [hdk] at hu
                    exact ⟨equalIn_ii (hS.ty _ _ hi).und hinf (by rw [hcmp.1]; exact hc) hu _ rfl rfl 9998,by simp,by simp,asks_ii⟩
                  · cases h
                · cases h
              · cases h
            · cases h
        · cases h
  · cases h
theorem denBin_ok {S:Sg} (hS:SgOK P S) {op:BinOp} {t:TypeId} {x y:AVal} {ox oy:Operand} {v:AVal} {vx vy:Value}
    (h:denBin S op t x y (isConstOp ox || isConstOp oy)=some v) (hx:VR c w x vx) (hy:VR c w y vy) :
    Tells P c w (do eqGuard op t ox oy vx vy; binOp op t vx vy) v:=by
  have other:∀ b,eqA S t x y (isConstOp ox || isConstOp oy)=some b→op=.eql∨op=.neq →
      Tells P c w (do eqGuard op t ox oy vx vy; binOp op t vx vy) (.bool (if op=.eql then b else !b)):=by
    intro b hb ho
    obtain ⟨he,h1,h2,h5⟩:=eqA_ok hS hb hx hy
    have hg:(eqGuard op t ox oy vx vy).run P w=.ok () w:=by
      unfold eqGuard
      rcases ho with rfl | rfl <;> simp only [Bool.not_true,Bool.false_eq_true,if_false] <;>
      · split
        · have:=h1 ⟨rfl,rfl⟩
          simp only [isConstOp] at this
          cases ox <;> cases oy <;> simp_all
        · have:=h2 _ _ rfl rfl
          simp [this]
        · simp
    refine ⟨.bool (if op=.eql then b else !b),?_,.bool _⟩
    rw [Sem.run_bind,hg,Result.andThen_ok]
    rcases ho with rfl | rfl
    · rw [h5.1]; simp [he]
    · rw [h5.2]; simp [he]
  unfold denBin at h
  split at h
  · rename_i k a k' b
    cases hx; cases hy
    have hg:(eqGuard op t ox oy (.int k a) (.int k' b)).run P w=.ok () w:=by unfold eqGuard; split <;> simp
    have go:∀ v,Tells P c w (binOp op t (.int k a) (.int k' b)) v→Tells P c w (do eqGuard op t ox oy (.int k a) (.int k' b); binOp op t (.int k a) (.int k' b)) v:=by
      rintro v ⟨cv,hr,hv⟩
      exact ⟨cv,by rw [Sem.run_bind,hg,Result.andThen_ok,hr],hv⟩
    split at h
    · exact go _ (shiftBin_ok h)
    · exact go _ (shiftBin_ok h)
    · split at h
      · rename_i hk; subst hk; exact go _ (intBin_ok h)
      · cases h
  · cases hx with
    | str l s hs=>cases hy with
      | str l' s' hs' =>
        have hg:(eqGuard op t ox oy (.string s) (.string s')).run P w=.ok () w:=by unfold eqGuard; split <;> simp
        obtain ⟨cv,hr,hv⟩:=strBin_ok (P:=P) (c:=c) (w:=w) (t:=t) hs hs' h
        exact ⟨cv,by rw [Sem.run_bind,hg,Result.andThen_ok,hr],hv⟩
  · split at h
    · split at h
      · rename_i b hb
        rw [mkB_eq] at h; cases h
        simpa using other b hb (.inl rfl)
      · cases h
    · split at h
      · rename_i b hb
        rw [mkB_eq] at h; cases h
        simpa using other b hb (.inr rfl)
      · cases h
    · cases h
theorem denUn_ok {op:UnOp} {x v:AVal} {vx:Value} (h:denUn op x=some v) (hx:VR c w x vx):Tells P c w (Op.unary op vx) v:=by
  unfold denUn at h
  split at h
  · cases hx; rw [mkI_eq] at h; cases h; exact ⟨_,by simp [Op.unary,Op.intArith,wrapI_eq],.int _ _⟩
  · cases hx; rw [mkB_eq] at h; cases h; exact ⟨_,by simp [Op.unary],.bool _⟩
  · cases hx; rw [mkI_eq] at h; cases h; exact ⟨_,by simp [Op.unary,Op.intBits,wrapI_eq],.int _ _⟩
  · cases h
end ints
end Go.AM
