import Derived.Test.YtjlmihjhakfchaaGreatDoorE0
set_option linter.unusedVariables false
set_option linter.unusedSimpArgs false
noncomputable section
namespace Go.AM.C
open Go.Proofs Go.RowKit
noncomputable section
def faultV (k:Int):AVal:=.ip [.int .i64 k,.str [],.nili] 0 true
theorem pin_of {c:Ctx} {w:World} (hg:Glob S0 c w):w.cell? ⟨0,0,none⟩=some (.iface 353 (.agg #[.pointer (some ⟨16,25,none⟩)])):=((hg 0).2 _ rfl).2
theorem as_enter:∀ w cargs,(callFunc 120 cargs).run Tryz.prog w=.ok (.enter 120 cargs) w:=fun w cargs=>enters_of Tryz.func120 (by kernel_rfl) rfl cargs w
theorem ptr_of {c:Ctx} {w:World} {t:TypeId} {id off:Nat} {v:Value} (h:VR c w (.iface t (.ptr id off)) v):∃ b o,c.ι id=some (b,o)∧v=.iface t (.pointer (some ⟨b,o + off,none⟩)):=by
  cases h with
  | iface _ _ u hu=>cases hu with | ptr _ _ b o hι=>exact ⟨b,o,hι,rfl⟩
theorem as_plain_has (k:Int) (H:Heap) (id off:Nat) (vs:List AVal) (ty:TypeId) (hH:H[id]?=some (.cells vs ty)) (hoff:off < vs.length) :
    Has 120 [.iface 171 (.int .i64 k),.iface 188 (.ptr id off)] H (.bool true) (H.set id (.cells (vs.set off (faultV k)) ty)):=by
  intro c w cargs r hg ha
  obtain ⟨v1,v2,rfl,h1,h2⟩:=ha.two
  obtain ⟨b,o,hι,rfl⟩:=ptr_of h2
  cases h1 with
  | iface _ _ u hu =>
    cases hu
    obtain ⟨old,hc,hf⟩:=cell_at r hH hι hoff
    refine .inl ⟨fun w=>as_enter w _,(as_plain k ⟨b,o + off,none⟩ old w (pin_of hg) hc hf).mono ?_⟩
    rintro e w' ⟨rfl,rfl⟩
    refine ⟨_,rfl,?_⟩
    have b3:=((((Below.refl w.heap.size w).alloc (Nat.le_refl _) (.cells #[.pointer (some ⟨b,o + off,none⟩)] 188)).alloc (by simp) (.cells #[.pointer (some ⟨16,188,none⟩),.pointer (some ⟨w.heap.size,0,none⟩),.int .u64 150] 276)).alloc (by simp; omega) (.cells #[.pointer (some ⟨16,188,none⟩),.pointer (some ⟨w.heap.size,0,none⟩),.int .u64 150] 276))
    obtain ⟨r3,p3⟩:=below_post r b3
    obtain ⟨c4,r4,p4,hF,g,hg1,hg2⟩:=new_imm r3 #[.int .i64 k,.string ⟨#[]⟩,.nilIface] 139 (0,0) [.int .i64 k,.str [],.nili] (by simp) (fun j a v ha hv=>by
      match j with
      | 0=>simp at ha hv; subst ha; subst hv; exact .int _ _
      | 1=>simp at ha hv; subst ha; subst hv; exact .str _ _ rfl
      | 2=>simp at ha hv; subst ha; subst hv; exact .nili
      | j + 3=>simp at ha)
    have hv4:=VR.ip (c:=c4) [.int .i64 k,.str [],.nili] 0 true _ 0 g (fun _ a ha=>by
      simp only [List.mem_cons,List.not_mem_nil,or_false] at ha
      rcases ha with rfl | rfl | rfl <;> rfl) hF hg1 hg2
    simp only [World.size_alloc] at hv4
    obtain ⟨r5,p5⟩:=set_cell r4 hH (p4.ι _ _ hι) (off:=off) hoff hv4
    exact ⟨c4,r5,(p3.trans r p4).trans r p5,.bool _⟩
theorem as_hit_has (cells:List AVal) (off':Nat) (cl:Bool) (H:Heap) (id off:Nat) (vs:List AVal) (ty:TypeId) (hH:H[id]?=some (.cells vs ty)) (hoff:off < vs.length) :
    Has 120 [.iface 136 (.ip cells off' cl),.iface 188 (.ptr id off)] H (.bool true) (H.set id (.cells (vs.set off (.ip cells off' cl)) ty)):=by
  intro c w cargs r hg ha
  obtain ⟨v1,v2,rfl,h1,h2⟩:=ha.two
  obtain ⟨b,o,hι,rfl⟩:=ptr_of h2
  cases h1 with
  | iface _ _ u hu =>
    obtain ⟨e,rfl⟩:∃ e,u=.pointer (some e):=by cases hu with | ip _ _ _ b o g _ _ _ _=>exact ⟨_,rfl⟩
    obtain ⟨old,hc,hf⟩:=cell_at r hH hι hoff
    refine .inl ⟨fun w=>as_enter w _,(as_hit e ⟨b,o + off,none⟩ old w (pin_of hg) hc hf).mono ?_⟩
    rintro ev w' ⟨rfl,rfl⟩
    refine ⟨_,rfl,?_⟩
    have b4:=(((((Below.refl w.heap.size w).alloc (Nat.le_refl _) (.cells #[.pointer (some ⟨b,o + off,none⟩)] 188)).alloc (by simp) (.cells #[.pointer (some ⟨16,188,none⟩),.pointer (some ⟨w.heap.size,0,none⟩),.int .u64 150] 276)).alloc (by simp; omega) (.cells #[.pointer (some ⟨16,188,none⟩),.pointer (some ⟨w.heap.size,0,none⟩),.int .u64 150] 276)).alloc (by simp; omega) (.cells #[.pointer (some e)] 136))
    obtain ⟨r4,p4⟩:=below_post r b4
    obtain ⟨r5,p5⟩:=set_cell r4 hH (p4.ι _ _ hι) (off:=off) hoff (hu.mono (p4.le r))
    exact ⟨c,r5,p4.trans r p5,.bool _⟩
theorem code_nil (H:Heap):Has 67 [.nili] H (.int .i64 0) H:=by
  refine does_pure s0 (show S0.fn 67=some Tryz.f67 by kernel_rfl) rfl (by kernel_rfl) (Nat.le_of_ble_eq_true rfl) rfl rfl ?_
  refine W.seq (W.region ?_)
  repeat refine WO.op rfl rfl ?_
  refine WO.nil (W.seq (W.region ?_))
  repeat refine WO.op rfl rfl ?_
  refine WO.nil (W.seq (W.block (W.seq (W.region ?_))))
  repeat refine WO.op rfl rfl ?_
  refine WO.nil (W.cond (b:=true) rfl (fun _=>W.seq (W.region ?_)) (fun h=>by cases h))
  exact WO.op rfl rfl (WO.nil (W.ret ⟨trivial,_,rfl,Seals.same _ rfl⟩))
theorem code_of (t : TypeId) (a : AVal) (k : Int) (rest : List AVal) (cl : Bool) (hcl : (AVal.iface t a).closed = true) (h : ∀ (H : Heap) (id off : Nat) (vs : List AVal) (ty : TypeId), H[id]? = some (.cells vs ty) → off < vs.length →
      Has 120 [.iface t a,.iface 188 (.ptr id off)] H (.bool true) (H.set id (.cells (vs.set off (.ip (.int .i64 k :: rest) 0 cl)) ty))) (H:Heap):Has 67 [.iface t a] H (.int .i64 k) H:=by
  refine does_pure s0 (show S0.fn 67=some Tryz.f67 by kernel_rfl) rfl (by kernel_rfl) (Nat.le_of_ble_eq_true rfl) (by simp [hcl]) rfl ?_
  refine W.seq (W.region ?_)
  repeat refine WO.op rfl rfl ?_
  refine WO.nil (W.seq (W.region ?_))
  refine WO.op (v:=.ptr 0 0) (H1:=[.cells [.nilp] 136]) rfl rfl (WO.nil (W.seq (W.block (W.seq (W.region ?_)))))
  repeat refine WO.op rfl rfl ?_
  refine WO.nil (W.cond (b:=false) rfl (fun h=>by cases h) (fun _=>W.seq (W.region ?_)))
  refine WO.op rfl rfl ?_
  refine WO.op rfl rfl ?_
  refine WO.call rfl (h [.cells [.nilp] 136] 0 0 _ _ rfl (by decide)) rfl ?_
  repeat refine WO.op rfl rfl ?_
  refine WO.nil (W.cond (b:=true) rfl (fun _=>W.seq (W.region ?_)) (fun h=>by cases h))
  repeat refine WO.op rfl rfl ?_
  exact WO.nil (W.ret ⟨trivial,_,rfl,Seals.same _ rfl⟩)
theorem code_plain (k:Int) (H:Heap):Has 67 [.iface 171 (.int .i64 k)] H (.int .i64 k) H:=code_of _ _ k [.str [],.nili] true rfl (fun H id off vs ty hH ho=>as_plain_has k H id off vs ty hH ho) H
theorem code_fault (k:Int) (rest:List AVal) (H:Heap):Has 67 [.iface 136 (.ip (.int .i64 k :: rest) 0 true)] H (.int .i64 k) H:=code_of _ _ k rest true rfl (fun H id off vs ty hH ho=>as_hit_has _ 0 true H id off vs ty hH ho) H
theorem code_err (k:Nat) (H:Heap):Has 67 [errA k] H (.int .i64 (k:Int)) H:=by
  unfold errA
  split
  · rename_i h; subst h; exact code_nil H
  · exact code_plain k H
def codeX:Ext:=fun args H=>match args with
  | [.nili]=>some (.int .i64 0,H)
  | [.iface t (.int .i64 k)]=>bif Nat.beq t 171 then some (.int .i64 k,H) else none
  | [.iface t (.ip (.int .i64 k :: _) 0 true)]=>bif Nat.beq t 136 then some (.int .i64 k,H) else none
  | _=>none
theorem codeX_ok (S:Sg) (hg:S.glob=S0.glob) (hp:S.pin=S0.pin):ExtAt Tryz.prog S 67 codeX:=by
  intro args H v H' hx
  unfold codeX at hx
  split at hx
  · cases hx; exact DoesC.glob hg hp (code_nil H)
  · rename_i t k
    cases hb:Nat.beq t 171 with
    | false=>rw [hb] at hx; cases hx
    | true=>rw [hb] at hx; cases hx; rw [Nat.eq_of_beq_eq_true hb]; exact DoesC.glob hg hp (code_plain k H)
  · rename_i t k rest
    cases hb:Nat.beq t 136 with
    | false=>rw [hb] at hx; cases hx
    | true=>rw [hb] at hx; cases hx; rw [Nat.eq_of_beq_eq_true hb]; exact DoesC.glob hg hp (code_fault k rest H)
  · cases hx
end
end Go.AM.C
namespace Go.AM.C
open Go.Proofs Go.RowKit Go.Shelf
noncomputable section
theorem mul64_has (x y:Nat) (hx:x < B64) (hy:y < B64) (H:Heap):Has 110 [.int .u64 (x:Int),.int .u64 (y:Int)] H (.tup [.int .u64 ((x * y / B64:Nat):Int),.int .u64 ((x * y % B64:Nat):Int)]) H:=by
  intro c w cargs r hg ha
  obtain ⟨v1,v2,rfl,h1,h2⟩:=ha.two
  cases h1; cases h2
  refine .inl ⟨fun w=>enters_of Tryz.func110 (by kernel_rfl) rfl _ w,(Any.bits_Mul64 Tryz.lays264 x y hx hy w).mono ?_⟩
  rintro e w' ⟨rfl,rfl⟩
  exact ⟨_,rfl,c,r,Post.refl _ _ _,VR.pair (.int _ _) (.int _ _)⟩
theorem val_set:∀ (l:List Nat) (j x:Nat),j < l.length→val (l.set j x) + B64 ^ j * l.getD j 0=val l + B64 ^ j * x
  | [],j,x,h=>by simp at h
  | d :: l,0,x,_=>by simp [val]; omega
  | d :: l,j + 1,x,h=>by
    have ih:=val_set l j x (by simpa using h)
    simp only [List.set_cons_succ,val,List.getD_cons_succ,Nat.pow_succ]
    have e:=congrArg (B64 * ·) ih
    simp only [Nat.mul_add] at e
    have e1:B64 * (B64 ^ j * l.getD j 0)=B64 ^ j * B64 * l.getD j 0:=by rw [← Nat.mul_assoc,Nat.mul_comm B64]
    have e2:B64 * (B64 ^ j * x)=B64 ^ j * B64 * x:=by rw [← Nat.mul_assoc,Nat.mul_comm B64]
    omega
theorem val_zeros:∀ N:Nat,val (List.replicate N 0)=0
  | 0=>rfl
  | N + 1=>by simp [List.replicate_succ,val,val_zeros N]
theorem mul64_ex (x y:Nat) (hx:x < B64) (hy:y < B64):∃ h0 lo:Nat,(∀ H,Has 110 [.int .u64 (x:Int),.int .u64 (y:Int)] H (.tup [.int .u64 (h0:Int),.int .u64 (lo:Int)]) H)∧lo < B64∧lo + B64 * h0=x * y :=
  ⟨_,_,fun H=>mul64_has x y hx hy H,Nat.mod_lt _ (show 0 < B64 by decide),Nat.mod_add_div _ _⟩
theorem add64_ex (x y c:Nat) (hc:c≤1):∃ s d:Nat,(∀ H,Has 109 [.int .u64 (x:Int),.int .u64 (y:Int),.int .u64 (c:Int)] H (.tup [.int .u64 (s:Int),.int .u64 (d:Int)]) H)∧s < B64∧s + B64 * d=x + y + c :=
  ⟨_,_,fun H=>add64_has x y c hc H,Nat.mod_lt _ (show 0 < B64 by decide),Nat.mod_add_div _ _⟩
theorem mul_limb {x y o c h0 lo s1 c1 s2 c2:Nat} (hx:x < B64) (hy:y < B64) (ho:o < B64) (hc:c < B64) (h1:lo + B64 * h0=x * y) (h2:s1 + B64 * c1=lo + o + 0) (h3:s2 + B64 * c2=s1 + c + 0) :
    h0 + c1 + c2 < B64∧s2 + B64 * (h0 + c1 + c2)=x * y + o + c:=by
  have e:s2 + B64 * (h0 + c1 + c2)=x * y + o + c:=by rw [Nat.mul_add,Nat.mul_add]; omega
  refine ⟨?_,e⟩
  have hp:x * y≤(B64 - 1) * (B64 - 1):=Nat.mul_le_mul (by omega) (by omega)
  have hq:(B64 - 1) * (B64 - 1) + (B64 - 1) + (B64 - 1) < B64 * B64:=by decide
  have:B64 * (h0 + c1 + c2) < B64 * B64:=by omega
  exact Nat.lt_of_mul_lt_mul_left this
set_option maxRecDepth 100000 in
theorem mul_np (n m:Nat) (hn:Fit n) (hm:Fit m) (H:Heap):Has 51 [.obj (.np n),.obj (.np m)] H (.obj (.np (n * m))) H:=by
  unfold Fit at hn hm
  refine does_pure s0 (show S0.fn 51=some Tryz.f51 by kernel_rfl) rfl (by kernel_rfl) (Nat.le_of_ble_eq_true rfl) rfl rfl ?_
  refine W.seq (W.region ?_)
  refine WO.op rfl rfl (WO.nil (W.seq (W.region ?_)))
  refine WO.op rfl rfl ?_
  refine WO.call rfl (limbs_np n _) rfl ?_
  refine WO.op rfl rfl ?_
  refine WO.call rfl (limbs_np m _) rfl ?_
  have tp:=slu_np n
  have tq:=slu_np m
  have hdn:=dig_lims n
  have hdm:=dig_lims m
  rw [show n * m=val (lims n) * val (lims m) by rw [val_lims,val_lims]]
  generalize hP:(AVal.isl (limbs n) 0 (limbs n).length none true)=vp at *
  generalize hQ:(AVal.isl (limbs m) 0 (limbs m).length none true)=vq at *
  generalize lims n=a at *
  generalize lims m=b at *
  refine WO.op rfl rfl ?_
  refine WO.op rfl rfl (WO.nil (W.seq (W.region ?_)))
  refine WO.op rfl rfl ?_
  refine WO.op ((tp _).lenG rfl rfl rfl) rfl ?_
  refine WO.op rfl rfl ?_
  refine WO.op ((tq _).lenG rfl rfl rfl) rfl ?_
  refine WO.as (v':=.int .i64 ((a.length + b.length:Nat):Int)) rfl rfl (int_i64 (by omega) (by omega)) ?_
  refine WO.op (G.make (l:=a.length + b.length) (c:=a.length + b.length) rfl rfl tU rfl tu rfl (by omega) (by show (a.length + b.length) * 8≤_; omega) (by omega)) rfl ?_
  refine WO.op rfl rfl (WO.nil (W.seq (W.seq (W.region ?_))))
  refine WO.op rfl rfl ?_
  refine WO.op ((tp _).lenG rfl rfl rfl) rfl ?_
  refine WO.op rfl rfl (WO.nil (W.block ?_))
  generalize hN:a.length + b.length=N at *
  refine W.heq (H':=[.cells (u64s (List.replicate N 0)) 92]) (by simp [u64s]) ?_
  refine W.fits (F':=fr [(5,vp),(6,vq),(7,.sl 0 0 N (some N) 1),(26,vp),(27,.int .i64 (a.length:Int)),(28,.int .i64 ((0:Nat):Int))]) (fits_fr ⟨rfl,rfl,rfl,rfl,rfl,rfl,trivial⟩) ?_
  refine W.loopI (α:=Nat×List Nat) (fun s=>s.1≤a.length∧s.2.length=N∧Dig s.2∧val s.2=val (a.take s.1) * val b∧∀ j,s.1 + b.length≤j→s.2.getD j 0=0) (fun s=>a.length - s.1)
    (fun s=>fr [(5,vp),(6,vq),(7,.sl 0 0 N (some N) 1),(26,vp),(27,.int .i64 (a.length:Int)),(28,.int .i64 (s.1:Int))]) (fun s=>[.cells (u64s s.2) 92]) ?_ (0,List.replicate N 0)
    ⟨Nat.zero_le _,by simp,Dig.replicate _ (by decide),?_,?_⟩
  rintro ⟨i,l⟩ ⟨hi,hl,hd,hv,hz⟩
  simp only at hi hl hd hv hz
  refine W.seq (W.region ?_)
  by_cases hia:i < a.length
  · refine WO.as (v':=.bool true) rfl rfl (bdT (by simp only; omega)) (WO.nil (W.seq (W.cond (b:=true) rfl (fun _=>W.skip ?_) (fun h=>by cases h))))
    obtain ⟨a1,a2,a3,ha1,ha2,ha3⟩:=(tp [.cells (u64s l) 92]).at_ i hia
    refine W.seq (W.block (W.seq (W.region ?_)))
    refine WO.op rfl rfl ?_
    refine WO.op (SlU.idxG rfl rfl ha1) rfl ?_
    refine WO.op (SlU.loadG rfl tu rfl ha2 ha3) rfl ?_
    refine WO.op rfl rfl ?_
    refine WO.op rfl rfl (WO.nil (W.seq (W.region ?_)))
    have hx:a.getD i 0 < B64:=hdn.getD i
    have htk:val (a.take (i + 1))=val (a.take i) + B64 ^ i * a.getD i 0:=val_take_succ hia
    generalize a.getD i 0=x at *
    refine WO.op rfl rfl (WO.nil (W.seq (W.seq (W.region ?_))))
    refine WO.op rfl rfl ?_
    refine WO.op ((tq _).lenG rfl rfl rfl) rfl ?_
    refine WO.op rfl rfl (WO.nil (W.block ?_))
    refine W.fits (F':=fr [(5,vp),(6,vq),(7,.sl 0 0 N (some N) 1),(26,vp),(27,.int .i64 (a.length:Int)),(28,.int .i64 (i:Int)),(8,.int .i64 (i:Int)),(9,.int .u64 (x:Int)),(10,.int .u64 ((0:Nat):Int)),(33,vq),(34,.int .i64 (b.length:Int)),(35,.int .i64 ((0:Nat):Int))]) (fits_fr ⟨rfl,rfl,rfl,rfl,rfl,rfl,rfl,rfl,rfl,rfl,rfl,rfl,trivial⟩) ?_
    refine W.loopI (α:=Nat×List Nat×Nat) (fun s=>s.1≤b.length∧s.2.1.length=N∧Dig s.2.1∧s.2.2 < B64∧val s.2.1 + B64 ^ (i + s.1) * s.2.2=val (a.take i) * val b + B64 ^ i * x * val (b.take s.1)∧∀ j,i + b.length≤j→s.2.1.getD j 0=0) (fun s=>b.length - s.1)
      (fun s=>fr [(5,vp),(6,vq),(7,.sl 0 0 N (some N) 1),(26,vp),(27,.int .i64 (a.length:Int)),(28,.int .i64 (i:Int)),(8,.int .i64 (i:Int)),(9,.int .u64 (x:Int)),(10,.int .u64 (s.2.2:Int)),(33,vq),(34,.int .i64 (b.length:Int)),(35,.int .i64 (s.1:Int))]) (fun s=>[.cells (u64s s.2.1) 92]) ?_ (0,l,0)
      ⟨Nat.zero_le _,hl,hd,by simp only; unfold B64; omega,by simp [val,hv],hz⟩
    rintro ⟨k,l2,c⟩ ⟨hk,hl2,hd2,hc,hv2,hz2⟩
    simp only at hk hl2 hd2 hc hv2 hz2
    refine W.seq (W.region ?_)
    by_cases hkb:k < b.length
    · refine WO.as (v':=.bool true) rfl rfl (bdT (by simp only; omega)) (WO.nil (W.seq (W.cond (b:=true) rfl (fun _=>W.skip ?_) (fun h=>by cases h))))
      obtain ⟨b1,b2,b3,hb1,hb2,hb3⟩:=(tq [.cells (u64s l2) 92]).at_ k hkb
      have hy:b.getD k 0 < B64:=hdm.getD k
      have htb:val (b.take (k + 1))=val (b.take k) + B64 ^ k * b.getD k 0:=val_take_succ hkb
      have ho:l2.getD (i + k) 0 < B64:=hd2.getD (i + k)
      obtain ⟨h0,lo,hmul,hlo,q1⟩:=mul64_ex x (b.getD k 0) hx hy
      obtain ⟨s1,c1,hadd1,hs1,q2⟩:=add64_ex lo (l2.getD (i + k) 0) 0 (by omega)
      obtain ⟨s2,c2,hadd2,hs2,q3⟩:=add64_ex s1 c 0 (by omega)
      obtain ⟨m2,m3⟩:=mul_limb hx hy ho hc q1 q2 q3
      clear q1 q2 q3
      have hB:B64=18446744073709551616:=rfl
      refine W.seq (W.block (W.seq (W.region ?_)))
      refine WO.op rfl rfl ?_
      refine WO.op (SlU.idxG rfl rfl hb1) rfl ?_
      refine WO.op (SlU.loadG rfl tu rfl hb2 hb3) rfl ?_
      refine WO.op rfl rfl ?_
      refine WO.op rfl rfl (WO.nil (W.seq (W.region ?_)))
      refine WO.op rfl rfl ?_
      refine WO.op rfl rfl ?_
      refine WO.call rfl (hmul _) rfl ?_
      iterate 4 refine WO.op rfl rfl ?_
      refine WO.op rfl rfl (WO.nil (W.seq (W.region ?_)))
      refine WO.op rfl rfl (WO.nil (W.seq (W.region ?_)))
      iterate 4 refine WO.op rfl rfl ?_
      refine WO.as (v':=.int .i64 ((i + k:Nat):Int)) rfl rfl (int_i64 (by omega) (by omega)) ?_
      refine WO.op (G.idx_sl rfl rfl tU rfl tu rfl (by omega) (by omega)) rfl ?_
      refine WO.op (G.load_ptr rfl tu rfl rfl (u64s_at (by simp only; omega))) rfl ?_
      refine WO.call rfl (hadd1 _) rfl ?_
      iterate 4 refine WO.op rfl rfl ?_
      refine WO.op rfl rfl (WO.nil (W.seq (W.region ?_)))
      refine WO.op rfl rfl ?_
      refine WO.op rfl rfl ?_
      refine WO.as (v':=.int .u64 ((h0 + c1:Nat):Int)) rfl rfl (int_u64 (by omega) (by omega)) ?_
      refine WO.op rfl rfl (WO.nil (W.seq (W.region ?_)))
      refine WO.op rfl rfl ?_
      refine WO.op rfl rfl ?_
      refine WO.call rfl (hadd2 _) rfl ?_
      iterate 4 refine WO.op rfl rfl ?_
      refine WO.op rfl rfl (WO.nil (W.region ?_))
      iterate 3 refine WO.op rfl rfl ?_
      refine WO.as (v':=.int .i64 ((i + k:Nat):Int)) rfl rfl (int_i64 (by omega) (by omega)) ?_
      iterate 3 refine WO.op rfl rfl ?_
      refine WO.as (v':=.int .u64 ((h0 + c1 + c2:Nat):Int)) rfl rfl (int_u64 (by omega) (by omega)) ?_
      refine WO.op (G.idx_sl rfl rfl tU rfl tu rfl (by omega) (by omega)) rfl ?_
      refine WO.op (G.store_u64 rfl rfl tu rfl rfl (by simp only; omega)) rfl ?_
      refine WO.op rfl rfl (WO.nil (W.region ?_))
      refine WO.as (v':=.int .i64 ((k + 1:Nat):Int)) rfl rfl (int_i64 (by omega) (by omega)) ?_
      refine WO.op rfl rfl (WO.nil ⟨(k + 1,l2.set (i + k) s2,h0 + c1 + c2),⟨by simp only; omega,by simpa using hl2,hd2.set _ hs2,m2,?_,?_⟩,by simp only; omega,fits_fr ⟨rfl,rfl,rfl,rfl,rfl,rfl,rfl,rfl,rfl,rfl,rfl,rfl,trivial⟩,rfl⟩)
      · have hs:=val_set l2 (i + k) s2 (by omega)
        simp only
        rw [htb]
        generalize h0 + c1 + c2=cc at *
        have e1:B64 ^ (i + (k + 1)) * cc=B64 ^ (i + k) * (B64 * cc):=by rw [← Nat.add_assoc,Nat.pow_succ,Nat.mul_assoc]
        have e2:=congrArg (B64 ^ (i + k) * ·) m3
        simp only [Nat.mul_add] at e2
        have e3:B64 ^ (i + k) * (x * b.getD k 0)=B64 ^ i * x * (B64 ^ k * b.getD k 0):=by
          rw [Nat.pow_add]
          simp only [Nat.mul_assoc,Nat.mul_left_comm,Nat.mul_comm]
        rw [Nat.mul_add,e1]
        omega
      · intro j hj
        simp only
        rw [List.getD_eq_getElem?_getD,List.getElem?_set_ne (by omega),← List.getD_eq_getElem?_getD]
        exact hz2 j hj
    · have hke:k=b.length:=by omega
      subst hke
      rw [List.take_length] at hv2
      refine WO.as (v':=.bool false) rfl rfl (bdF (by simp only; omega)) (WO.nil (W.seq (W.cond (b:=false) rfl (fun h=>by cases h) (fun _=>W.exit (W.region ?_)))))
      iterate 3 refine WO.op rfl rfl ?_
      refine WO.op ((tq _).lenG rfl rfl rfl) rfl ?_
      refine WO.as (v':=.int .i64 ((i + b.length:Nat):Int)) rfl rfl (int_i64 (by omega) (by omega)) ?_
      refine WO.op rfl rfl ?_
      refine WO.op (G.idx_sl rfl rfl tU rfl tu rfl (by omega) (by omega)) rfl ?_
      refine WO.op (G.store_u64 rfl rfl tu rfl rfl (by simp only; omega)) rfl (WO.nil (W.region ?_))
      refine WO.as (v':=.int .i64 ((i + 1:Nat):Int)) rfl rfl (int_i64 (by omega) (by omega)) ?_
      refine WO.op rfl rfl (WO.nil ⟨(i + 1,l2.set (i + b.length) c),⟨by simp only; omega,by simpa using hl2,hd2.set _ hc,?_,?_⟩,by simp only; omega,fits_fr ⟨rfl,rfl,rfl,rfl,rfl,rfl,trivial⟩,rfl⟩)
      · have hs:=val_set l2 (i + b.length) c (by omega)
        rw [hz2 _ (Nat.le_refl _),Nat.mul_zero,Nat.add_zero] at hs
        simp only
        rw [hs,hv2,htk,Nat.add_mul]
      · intro j hj
        simp only
        rw [List.getD_eq_getElem?_getD,List.getElem?_set_ne (by simp only at hj; omega),← List.getD_eq_getElem?_getD]
        exact hz2 j (by simp only at hj; omega)
  · have hie:i=a.length:=by omega
    subst hie
    rw [List.take_length] at hv
    refine WO.as (v':=.bool false) rfl rfl (bdF (by simp only; omega)) (WO.nil (W.seq (W.cond (b:=false) rfl (fun h=>by cases h) (fun _=>W.exit ?_))))
    refine W.seq (W.region ?_)
    refine WO.op rfl rfl ?_
    refine WO.call rfl (made_sl 0 l N N _ 92 rfl (by omega) (by omega) (by omega)) rfl ?_
    refine WO.op rfl rfl (WO.nil (W.ret ⟨trivial,_,rfl,?_⟩))
    refine seals_np rfl (by have:=trimN_le l N; simp only; omega) ?_
    exact trim_of hd hl.symm hv
  · simp only [List.take_zero,val,Nat.zero_mul]
    exact val_zeros N
  · intro j _
    simp only
    rw [List.getD_eq_getElem?_getD,List.getElem?_replicate]
    split <;> rfl
end
end Go.AM.C
