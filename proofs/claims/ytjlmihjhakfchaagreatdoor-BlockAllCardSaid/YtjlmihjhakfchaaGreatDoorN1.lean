import Derived.Test.YtjlmihjhakfchaaGreatDoorA5
import Derived.Test.YtjlmihjhakfchaaGreatDoorN0
import Derived.Test.YtjlmihjhakfchaaGreatDoorA6
import Derived.Test.YtjlmihjhakfchaaGreatDoorA8
set_option linter.unusedVariables false
set_option linter.unusedSimpArgs false
noncomputable section
namespace Go.AM.C
structure QDig (U y1 y0 u1 q r:Nat):Prop where
  ge:(U * 4294967296 + u1) / (y1 * 4294967296 + y0)≤q
  eq:q * y1 + r=U
  lt:r < 4294967296
theorem dig_y {y1 y0:Nat} (h:0 < y1):0 < y1 * 4294967296 + y0:=by omega
theorem dig_mul (q y1 y0:Nat):q * (y1 * 4294967296 + y0)=(q * y1) * 4294967296 + q * y0:=by rw [Nat.mul_add,Nat.mul_assoc]
theorem dig_init {U y1 y0 u1:Nat} (h1:0 < y1) (h2:y1 < 4294967296) (hu:u1 < 4294967296):QDig U y1 y0 u1 (U / y1) (U - (U / y1) * y1):=by
  have hm:=Nat.div_mul_le_self U y1
  refine ⟨?_,by omega,?_⟩
  · rw [Nat.le_div_iff_mul_le h1]
    have h:=Nat.div_mul_le_self (U * 4294967296 + u1) (y1 * 4294967296 + y0)
    generalize (U * 4294967296 + u1) / (y1 * 4294967296 + y0)=Q at h ⊢
    rw [dig_mul] at h
    omega
  · have:=Nat.mod_lt U h1
    have h3:=Nat.mod_add_div U y1
    rw [Nat.mul_comm y1] at h3
    omega
theorem dig_small {U y1 y0 u1:Nat} (h1:0 < y1) (hU:U < y1 * 4294967296 + y0) (hu:u1 < 4294967296):(U * 4294967296 + u1) / (y1 * 4294967296 + y0) < 4294967296:=by
  rw [Nat.div_lt_iff_lt_mul (dig_y h1)]
  omega
theorem QDig.stop {U y1 y0 u1 q r:Nat} (h:QDig U y1 y0 u1 q r) (h1:0 < y1) (hq:q * y0≤4294967296 * r + u1):q=(U * 4294967296 + u1) / (y1 * 4294967296 + y0):=by
  refine Nat.le_antisymm ?_ h.ge
  rw [Nat.le_div_iff_mul_le (dig_y h1),dig_mul]
  have:=h.eq
  omega
theorem QDig.less {U y1 y0 u1 q r:Nat} (h:QDig U y1 y0 u1 q r) (h1:0 < y1) (hU:U < y1 * 4294967296 + y0) (hu:u1 < 4294967296) (hq:4294967296≤q∨4294967296 * r + u1 < q * y0):(U * 4294967296 + u1) / (y1 * 4294967296 + y0) < q:=by
  rcases hq with hq | hq
  · exact Nat.lt_of_lt_of_le (dig_small h1 hU hu) hq
  · refine Nat.lt_of_le_of_ne h.ge fun e=>?_
    have hm:=Nat.div_mul_le_self (U * 4294967296 + u1) (y1 * 4294967296 + y0)
    rw [e,dig_mul] at hm
    have:=h.eq
    omega
theorem dig_pred {q y1 r U:Nat} (h:q * y1 + r=U) (hq:0 < q):(q - 1) * y1 + (r + y1)=U:=by
  obtain ⟨p,rfl⟩:∃ p,q=p + 1:=⟨q - 1,by omega⟩
  rw [Nat.add_sub_cancel]
  rw [Nat.add_mul,Nat.one_mul] at h
  omega
theorem QDig.next {U y1 y0 u1 q r:Nat} (h:QDig U y1 y0 u1 q r) (h1:0 < y1) (hU:U < y1 * 4294967296 + y0) (hu:u1 < 4294967296) (hq:4294967296≤q∨4294967296 * r + u1 < q * y0) (hr:r + y1 < 4294967296):QDig U y1 y0 u1 (q - 1) (r + y1):=by
  have hl:=h.less h1 hU hu hq
  exact ⟨Nat.le_sub_one_of_lt hl,dig_pred h.eq (Nat.lt_of_le_of_lt (Nat.zero_le _) hl),hr⟩
theorem QDig.brk {U y1 y0 u1 q r:Nat} (h:QDig U y1 y0 u1 q r) (h1:0 < y1) (h0:y0 < 4294967296) (hU:U < y1 * 4294967296 + y0) (hu:u1 < 4294967296) (hq:4294967296≤q∨4294967296 * r + u1 < q * y0) (hr:4294967296≤r + y1) :
    q - 1=(U * 4294967296 + u1) / (y1 * 4294967296 + y0):=by
  have hl:=h.less h1 hU hu hq
  have he:=dig_pred h.eq (Nat.lt_of_le_of_lt (Nat.zero_le _) hl)
  refine Nat.le_antisymm ?_ (Nat.le_sub_one_of_lt hl)
  clear hl hq
  rw [Nat.le_div_iff_mul_le (dig_y h1),dig_mul]
  have hp:q - 1 < 4294967296:=by
    rcases Nat.lt_or_ge (q - 1) 4294967296 with h | h
    · exact h
    · have:=Nat.mul_le_mul_right y1 h
      omega
  have h2:(q - 1) * y0≤4294967296 * y0:=Nat.mul_le_mul_right y0 (by omega)
  generalize (q - 1) * y1=a at he ⊢
  generalize (q - 1) * y0=c at h2 ⊢
  omega
theorem div_step (a b y:Nat) (hy:0 < y):(a * 4294967296 + b) / y=(a / y) * 4294967296 + ((a % y) * 4294967296 + b) / y∧(a * 4294967296 + b) % y=((a % y) * 4294967296 + b) % y:=by
  have h:=Nat.div_add_mod a y
  have e:a * 4294967296 + b=((a % y) * 4294967296 + b) + y * ((a / y) * 4294967296):=by
    have:y * ((a / y) * 4294967296)=(y * (a / y)) * 4294967296:=by rw [Nat.mul_assoc]
    rw [this]
    generalize y * (a / y)=z at h ⊢
    omega
  constructor
  · rw [e,Nat.add_mul_div_left _ _ hy]
    have:((a % y) * 4294967296 + b + y * ((a / y) * 4294967296))=a * 4294967296 + b:=e.symm
    omega
  · rw [e,Nat.add_mul_mod_self_left]
theorem or_add {u v s:Nat} (hv:v < 2 ^ s) (h:u * 2 ^ s + v < 18446744073709551616):wrapI .u64 ((BitVec.ofInt 64 ((u * 2 ^ s:Nat):Int) ||| BitVec.ofInt 64 (v:Int)).toNat:Int)=((u * 2 ^ s + v:Nat):Int):=by
  have e:(BitVec.ofInt 64 ((u * 2 ^ s:Nat):Int) ||| BitVec.ofInt 64 (v:Int)).toNat=u * 2 ^ s + v:=by
    rw [BitVec.toNat_or,BitVec.toNat_ofInt,BitVec.toNat_ofInt]
    have e1:(((u * 2 ^ s:Nat):Int) % ((2 ^ 64:Nat):Int)).toNat=u * 2 ^ s:=by
      rw [← Int.natCast_emod,Int.toNat_natCast]
      exact Nat.mod_eq_of_lt (by omega)
    have e2:((v:Int) % ((2 ^ 64:Nat):Int)).toNat=v:=by
      rw [← Int.natCast_emod,Int.toNat_natCast]
      exact Nat.mod_eq_of_lt (by omega)
    rw [e1,e2,← Nat.shiftLeft_eq,← Nat.shiftLeft_add_eq_or_of_lt hv]
  rw [e,wrap_u64 (by omega)]
theorem and_mask {x:Nat} (hx:x < 18446744073709551616):wrapI .u64 ((BitVec.ofInt 64 (x:Int) &&& BitVec.ofInt 64 4294967295).toNat:Int)=((x % 4294967296:Nat):Int):=by
  have e:(BitVec.ofInt 64 (x:Int) &&& BitVec.ofInt 64 4294967295).toNat=x % 4294967296:=by
    rw [BitVec.toNat_and,BitVec.toNat_ofInt]
    have e1:((x:Int) % ((2 ^ 64:Nat):Int)).toNat=x:=by
      rw [← Int.natCast_emod,Int.toNat_natCast]
      exact Nat.mod_eq_of_lt (by omega)
    rw [e1]
    exact Nat.and_two_pow_sub_one_eq_mod x 32
  rw [e,wrap_u64 (by omega)]
end Go.AM.C
namespace Go.AM.C
open Go.Proofs
noncomputable section
theorem tU:S0.ty 35=some ti35:=rfl
theorem tu:S0.ty 92=some ti92:=rfl
theorem of_np (n:Nat) (hn:n < B64) (H:Heap):Has 46 [.int .u64 (n:Int)] H (.obj (.np n)) H:=by
  refine does_pure s0 (show S0.fn 46=some Tryz.f46 by kernel_rfl) rfl (by kernel_rfl) (Nat.le_of_ble_eq_true rfl) rfl rfl ?_
  refine W.seq (W.region ?_)
  repeat refine WO.op rfl rfl ?_
  refine WO.nil (W.seq (W.region ?_))
  refine WO.op rfl rfl ?_
  refine WO.op rfl rfl ?_
  refine WO.call (f:=107) (args:=[.sl 0 0 1 (some 1) 1]) rfl (made_sl 0 [n] 1 1 _ 92 rfl (by simp) (by omega) (by omega)) rfl ?_
  refine WO.op rfl rfl (WO.nil (W.ret ⟨trivial,_,rfl,?_⟩))
  refine seals_np (l:=[n]) rfl (trimN_le _ _) ?_
  rw [trim_lims (Dig.mk hn .nil) (by simp)]
  simp [val]
theorem zero_np (n:Nat) (H:Heap):Has 48 [.obj (.np n)] H (.bool (decide (n=0))) H:=by
  refine does_pure s0 (show S0.fn 48=some Tryz.f48 by kernel_rfl) rfl (by kernel_rfl) (Nat.le_of_ble_eq_true rfl) rfl rfl ?_
  refine W.seq (W.region ?_)
  repeat refine WO.op rfl rfl ?_
  refine WO.nil (W.seq (W.region ?_))
  refine WO.op rfl rfl ?_
  refine WO.call rfl (limbs_np n _) rfl ?_
  refine WO.op rfl rfl ?_
  refine WO.as (v':=.bool (decide (n=0))) rfl rfl ?_ ?_
  · have:((limbs n).length:Int)=0↔n=0:=by rw [limbs_lims,u64s_len]; have:=@lims_len_zero n; omega
    exact bdE this
  refine WO.op rfl rfl (WO.nil (W.ret ⟨trivial,_,rfl,Seals.same _ rfl⟩))
theorem small_np (n:Nat) (H:Heap):Has 57 [.obj (.np n)] H (.tup [.int .u64 ((if n < B64 then n else 0:Nat):Int),.bool (decide (n < B64))]) H:=by
  refine does_pure s0 (show S0.fn 57=some Tryz.f57 by kernel_rfl) rfl (by kernel_rfl) (Nat.le_of_ble_eq_true rfl) rfl rfl ?_
  have hs:=SlU.isl (H:=[]) (l:=lims n) (cap:=none) (cl:=true) tU rfl tu rfl
  rw [show (AVal.isl (u64s (lims n)) 0 (lims n).length none true)=.isl (limbs n) 0 (limbs n).length none true by rw [limbs_lims,u64s_len]] at hs
  refine W.seq (W.region ?_)
  repeat refine WO.op rfl rfl ?_
  refine WO.nil (W.seq (W.seq (W.region ?_)))
  refine WO.op rfl rfl ?_
  refine WO.call rfl (limbs_np n _) rfl ?_
  refine WO.op rfl rfl (WO.nil (W.seq (W.region ?_)))
  refine WO.op rfl rfl ?_
  refine WO.op (hs.lenG rfl rfl rfl) rfl (WO.nil (W.block (W.seq (W.region ?_))))
  by_cases h0:n=0
  · subst h0
    refine WO.as (v':=.bool true) rfl rfl rfl ?_
    refine WO.op rfl rfl (WO.nil (W.cond (b:=true) rfl (fun _=>W.seq (W.region ?_)) (fun h=>by cases h)))
    repeat refine WO.op rfl rfl ?_
    refine WO.nil (W.ret ⟨trivial,_,rfl,Seals.same _ rfl⟩)
  · have hne:(lims n).length≠0:=fun h=>h0 (lims_len_zero.1 h)
    refine WO.as (v':=.bool false) rfl rfl (bdF (by omega)) ?_
    refine WO.op rfl rfl (WO.nil (W.cond (b:=false) rfl (fun h=>by cases h) (fun _=>W.seq (W.region ?_))))
    by_cases h1:n < B64
    · have hl:=lims_small h1 h0
      rw [hl] at hs ⊢
      refine WO.as (v':=.bool true) rfl rfl rfl ?_
      refine WO.op rfl rfl (WO.nil (W.cond (b:=true) rfl (fun _=>W.seq (W.region ?_)) (fun h=>by cases h)))
      obtain ⟨p,row,off,h2,h3,h4⟩:=hs.at_ 0 (by simp)
      refine WO.op rfl rfl ?_
      refine WO.op (SlU.idxG (j:=0) rfl rfl h2) rfl ?_
      refine WO.op (SlU.loadG rfl tu rfl h3 h4) rfl ?_
      repeat refine WO.op rfl rfl ?_
      refine WO.nil (W.ret ⟨trivial,_,rfl,?_⟩)
      rw [if_pos h1,decide_eq_true h1]
      exact Seals.same _ rfl
    · have hl:(lims n).length≠1:=fun h=>h1 (by
        have:=val_lt (dig_lims n)
        rw [h,val_lims] at this
        simpa using this)
      refine WO.as (v':=.bool false) rfl rfl (bdF (by omega)) ?_
      refine WO.op rfl rfl (WO.nil (W.cond (b:=false) rfl (fun h=>by cases h) (fun _=>W.skip ?_)))
      refine W.seq (W.region ?_)
      repeat refine WO.op rfl rfl ?_
      refine WO.nil (W.ret ⟨trivial,_,rfl,?_⟩)
      rw [if_neg h1,decide_eq_false h1]
      exact Seals.same _ rfl
end
end Go.AM.C
namespace Go.AM.C
open Go.Proofs
noncomputable section
theorem compare_sl {H:Heap} {va vb:AVal} {la lb:List Nat} (ha:SlU S0 35 H va la) (hb:SlU S0 35 H vb lb) (ba:la.length < 4611686018427387904) (bb:lb.length < 4611686018427387904) :
    Has 111 [va,vb] H (.int .i64 (cmpL la lb)) H:=by
  generalize hR:cmpL la lb=R
  refine does_run s0 (show S0.fn 111=some Tryz.f111 by kernel_rfl) rfl (by kernel_rfl) (Nat.le_of_ble_eq_true rfl) ?_
  refine W.seq (W.region ?_)
  repeat refine WO.op rfl rfl ?_
  refine WO.nil (W.seq (W.seq (W.region ?_)))
  refine WO.op rfl rfl ?_
  refine WO.op (ha.lenG rfl rfl rfl) rfl ?_
  refine WO.op rfl rfl ?_
  refine WO.op (hb.lenG rfl rfl rfl) rfl ?_
  by_cases hl:la.length=lb.length
  · refine WO.as (v':=.bool false) rfl rfl (bnT (by omega)) (WO.nil (W.cond (b:=false) rfl (fun h=>by cases h) (fun _=>W.skip ?_)))
    refine W.seq (W.seq (W.region ?_))
    refine WO.op rfl rfl ?_
    refine WO.op (ha.lenG rfl rfl rfl) rfl ?_
    refine WO.as (v':=.int .i64 ((la.length:Int) - 1)) rfl rfl (int_i64 (by omega) rfl) ?_
    refine WO.op rfl rfl (WO.nil (W.block (W.fits (F':=fr [(0,va),(1,vb),(5,.int .i64 ((la.length:Int) - 1))]) (fits_fr ⟨rfl,rfl,rfl,trivial⟩) ?_)))
    have hR':cmpTop la lb la.length=R:=by rw [← hR]; unfold cmpL; rw [if_neg (by omega),if_neg (by omega)]
    refine W.loopI (fun k:Nat=>k≤la.length∧cmpTop la lb k=R) (fun k=>k) (fun k=>fr [(0,va),(1,vb),(5,.int .i64 ((k:Int) - 1))]) (fun _=>H) ?_ la.length ⟨Nat.le_refl _,hR'⟩
    rintro k ⟨hk,hkR⟩
    refine W.seq (W.seq (W.region ?_))
    refine WO.op rfl rfl ?_
    cases k with
    | zero =>
      refine WO.as (v':=.bool false) rfl rfl (bdF (by omega)) (WO.nil (W.cond (b:=false) rfl (fun h=>by cases h) (fun _=>W.exit ?_)))
      refine W.seq (W.region ?_)
      refine WO.op rfl rfl (WO.nil (W.ret ⟨trivial,_,rfl,?_,rfl⟩))
      rw [← hkR]
      exact Wk.refl _
    | succ k =>
      refine WO.as (v':=.bool true) rfl rfl (bdT (by omega)) (WO.nil (W.cond (b:=true) rfl (fun _=>W.skip ?_) (fun h=>by cases h)))
      obtain ⟨p,row,off,h2,h3,h4⟩:=ha.at_ k (by omega)
      obtain ⟨p',row',off',h2',h3',h4'⟩:=hb.at_ k (by omega)
      have e1:((k + 1:Nat):Int) - 1=(k:Int):=by omega
      rw [e1]
      refine W.seq (W.block (W.block (W.seq (W.draw0 rfl (by kernel_rfl) ?_))))
      rw [cmpTop] at hkR
      refine WT.op rfl rfl rfl ?_
      refine WT.op rfl rfl rfl ?_
      refine WT.op (SlU.idxG rfl rfl h2) rfl rfl ?_
      refine WT.op (SlU.loadG rfl tu rfl h3 h4) rfl rfl ?_
      refine WT.op rfl rfl rfl ?_
      refine WT.op rfl rfl rfl ?_
      refine WT.op (SlU.idxG rfl rfl h2') rfl rfl ?_
      refine WT.op (SlU.loadG rfl tu rfl h3' h4') rfl rfl ?_
      refine WT.op rfl rfl rfl ?_
      refine WT.op rfl rfl rfl (WT.nil (W.cond rfl (fun hb=>?_) (fun hb=>?_)))
      · have hlt:la.getD k 0 < lb.getD k 0:=by have:=of_decide_eq_true hb; omega
        rw [if_pos hlt] at hkR
        refine W.seq (W.region ?_)
        refine WO.op rfl rfl (WO.nil (W.ret ⟨trivial,_,rfl,?_,rfl⟩))
        rw [← hkR]
        exact Wk.refl _
      · have hlt:¬ la.getD k 0 < lb.getD k 0:=by have:=of_decide_eq_false hb; omega
        rw [if_neg hlt] at hkR
        refine W.seq (W.draw0 rfl (by kernel_rfl) ?_)
        refine WT.op rfl rfl rfl ?_
        refine WT.op rfl rfl rfl ?_
        refine WT.op (SlU.idxG rfl rfl h2) rfl rfl ?_
        refine WT.op (SlU.loadG rfl tu rfl h3 h4) rfl rfl ?_
        refine WT.op rfl rfl rfl ?_
        refine WT.op rfl rfl rfl ?_
        refine WT.op (SlU.idxG rfl rfl h2') rfl rfl ?_
        refine WT.op (SlU.loadG rfl tu rfl h3' h4') rfl rfl ?_
        refine WT.op rfl rfl rfl ?_
        refine WT.op rfl rfl rfl (WT.nil (W.cond rfl (fun hb=>?_) (fun hb=>?_)))
        · have hgt:lb.getD k 0 < la.getD k 0:=by have:=of_decide_eq_true hb; omega
          rw [if_pos hgt] at hkR
          refine W.seq (W.region ?_)
          refine WO.op rfl rfl (WO.nil (W.ret ⟨trivial,_,rfl,?_,rfl⟩))
          rw [← hkR]
          exact Wk.refl _
        · have hgt:¬ lb.getD k 0 < la.getD k 0:=by have:=of_decide_eq_false hb; omega
          rw [if_neg hgt] at hkR
          refine W.skip (W.region ?_)
          refine WO.op rfl rfl ?_
          refine WO.as (v':=.int .i64 ((k:Int) - 1)) rfl rfl (int_i64 (by omega) rfl) ?_
          refine WO.op rfl rfl (WO.nil ⟨k,⟨by omega,hkR⟩,by omega,fits_fr ⟨rfl,rfl,rfl,trivial⟩,?_⟩)
          simp
  · refine WO.as (v':=.bool true) rfl rfl (bnF (by omega)) (WO.nil (W.cond (b:=true) rfl (fun _=>W.seq (W.region ?_)) (fun h=>by cases h)))
    refine WO.op rfl rfl ?_
    refine WO.op (ha.lenG rfl rfl rfl) rfl ?_
    refine WO.op rfl rfl ?_
    refine WO.op (hb.lenG rfl rfl rfl) rfl ?_
    refine WO.as (v':=.int .i64 ((la.length:Int) - lb.length)) rfl rfl (int_i64 (by omega) rfl) ?_
    refine WO.op rfl rfl ?_
    refine WO.as (v':=.int .i64 R) rfl rfl (int_eq ?_) ?_
    · rw [← hR]; unfold cmpL
      simp only [Bool.false_eq_true,if_false,if_true]
      by_cases h:la.length < lb.length
      · rw [if_pos h]; split <;> split <;> omega
      · rw [if_neg h,if_pos (show lb.length < la.length by omega)]; split <;> split <;> omega
    refine WO.op rfl rfl (WO.nil (W.ret ⟨trivial,_,rfl,Wk.refl _,rfl⟩))
theorem slu_np (n:Nat) (H:Heap):SlU S0 35 H (.isl (limbs n) 0 (limbs n).length none true) (lims n):=by
  rw [limbs_lims,u64s_len]
  exact SlU.isl tU rfl tu rfl
theorem cmp_np (n m:Nat) (hn:Fit n) (hm:Fit m) (H:Heap):Has 56 [.obj (.np n),.obj (.np m)] H (.int .i64 (cmpN n m)) H:=by
  unfold Fit at hn hm
  refine does_pure s0 (show S0.fn 56=some Tryz.f56 by kernel_rfl) rfl (by kernel_rfl) (Nat.le_of_ble_eq_true rfl) rfl rfl ?_
  refine W.seq (W.region ?_)
  repeat refine WO.op rfl rfl ?_
  refine WO.nil (W.seq (W.region ?_))
  refine WO.op rfl rfl ?_
  refine WO.call rfl (limbs_np n _) rfl ?_
  refine WO.op rfl rfl ?_
  refine WO.call rfl (limbs_np m _) rfl ?_
  refine WO.call rfl (compare_sl (slu_np n _) (slu_np m _) (by omega) (by omega)) rfl ?_
  refine WO.op rfl rfl (WO.nil (W.ret ⟨trivial,_,rfl,?_⟩))
  rw [cmpL_lims]
  exact Seals.same _ rfl
end
end Go.AM.C
namespace Go.AM.C
open Go.Proofs
noncomputable section
theorem twoI_eq (a b:Int) (H:Heap):twoI a b H=some (.tup [.int .u64 a,.int .u64 b],H):=rfl
theorem add64_has (x y c:Nat) (hc:c≤1) (H:Heap):Has 109 [.int .u64 (x:Int),.int .u64 (y:Int),.int .u64 (c:Int)] H (.tup [.int .u64 (((x + y + c) % B64:Nat):Int),.int .u64 (((x + y + c) / B64:Nat):Int)]) H:=by
  refine DoesC.of_ext (x:=add64X) (add64_ok Tryz.func109 (by kernel_rfl) (by kernel_rfl) (by kernel_rfl) (by kernel_rfl)) ?_
  show (if 0≤(x:Int)∧0≤(y:Int)∧0≤(c:Int)∧(c:Int)≤1 then twoI (((x:Int) + y + c) % 18446744073709551616) (((x:Int) + y + c) / 18446744073709551616) H else none)=_
  have e1:((x:Int) + y + c) % 18446744073709551616=((x + y + c) % 18446744073709551616:Nat):=by omega
  have e2:((x:Int) + y + c) / 18446744073709551616=((x + y + c) / 18446744073709551616:Nat):=by omega
  rw [if_pos ⟨by omega,by omega,by omega,by omega⟩,twoI_eq,e1,e2]
set_option maxRecDepth 100000 in
theorem add_np (n m:Nat) (hn:Fit n) (hm:Fit m) (H:Heap):Has 47 [.obj (.np n),.obj (.np m)] H (.obj (.np (n + m))) H:=by
  unfold Fit at hn hm
  obtain ⟨p,q,hpq,hlen,hL,hcase⟩:∃ p q,p + q=n + m∧(lims q).length≤(lims p).length∧(lims p).length≤1073741824 ∧
      ((p=n∧q=m∧¬ (lims n).length < (lims m).length)∨(p=m∧q=n∧(lims n).length < (lims m).length)):=by
    by_cases h:(lims n).length < (lims m).length
    · exact ⟨m,n,by omega,by omega,by omega,.inr ⟨rfl,rfl,h⟩⟩
    · exact ⟨n,m,by omega,by omega,by omega,.inl ⟨rfl,rfl,h⟩⟩
  rw [← hpq]
  refine does_pure s0 (show S0.fn 47=some Tryz.f47 by kernel_rfl) rfl (by kernel_rfl) (Nat.le_of_ble_eq_true rfl) rfl rfl ?_
  refine W.seq (W.region ?_)
  repeat refine WO.op rfl rfl ?_
  refine WO.nil (W.seq (W.region ?_))
  refine WO.op rfl rfl ?_
  refine WO.call rfl (limbs_np n _) rfl ?_
  refine WO.op rfl rfl ?_
  refine WO.call rfl (limbs_np m _) rfl ?_
  repeat refine WO.op rfl rfl ?_
  refine WO.nil (W.mid (H1:=[]) [(5,.isl (limbs p) 0 (limbs p).length none true),(6,.isl (limbs q) 0 (limbs q).length none true)] ?_ ?_)
  · -- the longer one first
    refine W.seq (W.region ?_)
    refine WO.op rfl rfl ?_
    refine WO.op ((slu_np n _).lenG rfl rfl rfl) rfl ?_
    refine WO.op rfl rfl ?_
    refine WO.op ((slu_np m _).lenG rfl rfl rfl) rfl ?_
    refine WO.op rfl rfl (WO.nil (W.cond rfl (fun hb=>?_) (fun hb=>?_)))
    · have h:=of_decide_eq_true hb
      rcases hcase with ⟨_,_,h'⟩ | ⟨rfl,rfl,_⟩
      · omega
      · refine W.region ?_
        repeat refine WO.op rfl rfl ?_
        exact WO.nil ⟨rfl,⟨rfl,rfl,trivial⟩,rfl⟩
    · have h:=of_decide_eq_false hb
      rcases hcase with ⟨rfl,rfl,_⟩ | ⟨_,_,h'⟩
      · exact W.skip ⟨rfl,⟨rfl,rfl,trivial⟩,rfl⟩
      · omega
  · clear hcase hpq hn hm
    have tp:=slu_np p
    have tq:=slu_np q
    generalize hP:(AVal.isl (limbs p) 0 (limbs p).length none true)=vp at *
    generalize hQ:(AVal.isl (limbs q) 0 (limbs q).length none true)=vq at *
    generalize hl:(lims p).length=L at *
    refine W.seq (W.region ?_)
    refine WO.op rfl rfl ?_
    refine WO.op ((tp _).lenG rfl rfl rfl) rfl ?_
    rw [hl]
    refine WO.as (v':=.int .i64 ((L + 1:Nat):Int)) rfl rfl (int_i64 (by omega) (by omega)) ?_
    refine WO.op (G.make (l:=L + 1) (c:=L + 1) rfl rfl tU rfl tu rfl (by omega) (by show (L + 1) * 8≤_; omega) (by omega)) rfl ?_
    refine WO.op rfl rfl (WO.nil (W.seq (W.region ?_)))
    refine WO.op rfl rfl (WO.nil (W.seq (W.seq (W.region ?_))))
    refine WO.op rfl rfl ?_
    refine WO.op ((tp _).lenG rfl rfl rfl) rfl ?_
    rw [hl]
    refine WO.op rfl rfl (WO.nil (W.block ?_))
    refine W.heq (H':=[.cells (u64s (List.replicate (L + 1) 0)) 92]) (by simp [u64s]) ?_
    refine W.fits (F':=fr [(5,vp),(6,vq),(7,.sl 0 0 (L + 1) (some (L + 1)) 1),(8,.int .u64 ((0:Nat):Int)),(27,.int .i64 (L:Int)),(28,.int .i64 ((0:Nat):Int))]) (fits_fr ⟨rfl,rfl,rfl,rfl,rfl,rfl,trivial⟩) ?_
    refine W.loopI (α:=Nat×List Nat×Nat) (fun s=>s.1≤L∧s.2.1.length=L + 1∧Dig s.2.1∧s.2.2≤1∧val (s.2.1.take s.1) + B64 ^ s.1 * s.2.2=valK (lims p) s.1 + valK (lims q) s.1) (fun s=>L - s.1)
      (fun s=>fr [(5,vp),(6,vq),(7,.sl 0 0 (L + 1) (some (L + 1)) 1),(8,.int .u64 (s.2.2:Int)),(27,.int .i64 (L:Int)),(28,.int .i64 (s.1:Int))]) (fun s=>[.cells (u64s s.2.1) 92]) ?_ (0,List.replicate (L + 1) 0,0)
      ⟨by simp,by simp,Dig.replicate _ (by decide),by simp,by simp [valK,val]⟩
    rintro ⟨i,out,c⟩ ⟨hi,hol,hod,hc,hv⟩
    simp only at hi hol hod hc hv
    refine W.seq (W.region ?_)
    by_cases hiL:i < L
    · refine WO.as (v':=.bool true) rfl rfl (bdT (by simp only; omega)) (WO.nil (W.seq (W.cond (b:=true) rfl (fun _=>W.skip ?_) (fun h=>by cases h))))
      obtain ⟨a1,a2,a3,ha1,ha2,ha3⟩:=(tp [.cells (u64s out) 92]).at_ i (by omega)
      refine W.seq (W.block (W.seq (W.region ?_)))
      repeat refine WO.op rfl rfl ?_
      refine WO.nil (W.seq (W.region ?_))
      refine WO.op rfl rfl (WO.nil ?_)
      refine W.mid (H1:=[.cells (u64s out) 92]) [(5,vp),(6,vq),(7,.sl 0 0 (L + 1) (some (L + 1)) 1),(8,.int .u64 (c:Int)),(9,.int .i64 (i:Int)),(10,.int .u64 (((lims q).getD i 0:Nat):Int)),(27,.int .i64 (L:Int)),(28,.int .i64 (i:Int))] ?_ ?_
      · refine W.seq (W.region ?_)
        refine WO.op rfl rfl ?_
        refine WO.op rfl rfl ?_
        refine WO.op ((tq _).lenG rfl rfl rfl) rfl ?_
        refine WO.op rfl rfl (WO.nil (W.cond rfl (fun hb=>?_) (fun hb=>?_)))
        · have h:i < (lims q).length:=by have:=of_decide_eq_true hb; omega
          obtain ⟨b1,b2,b3,hb1,hb2,hb3⟩:=(tq [.cells (u64s out) 92]).at_ i h
          refine W.region ?_
          refine WO.op rfl rfl ?_
          refine WO.op rfl rfl ?_
          refine WO.op (SlU.idxG rfl rfl hb1) rfl ?_
          refine WO.op (SlU.loadG rfl tu rfl hb2 hb3) rfl ?_
          refine WO.op rfl rfl (WO.nil ⟨rfl,⟨rfl,rfl,rfl,rfl,rfl,rfl,rfl,rfl,trivial⟩,rfl⟩)
        · have h:(lims q).length≤i:=by have:=of_decide_eq_false hb; omega
          refine W.skip ⟨rfl,⟨rfl,rfl,rfl,rfl,rfl,?_,rfl,rfl,trivial⟩,rfl⟩
          rw [getD_eq_zero h]
          rfl
      · refine W.region ?_
        iterate 4 refine WO.op rfl rfl ?_
        refine WO.op (SlU.idxG rfl rfl ha1) rfl ?_
        refine WO.op (SlU.loadG rfl tu rfl ha2 ha3) rfl ?_
        refine WO.op rfl rfl ?_
        refine WO.op rfl rfl ?_
        refine WO.call rfl (add64_has ((lims p).getD i 0) ((lims q).getD i 0) c hc _) rfl ?_
        iterate 3 refine WO.op rfl rfl ?_
        refine WO.op (G.idx_sl rfl rfl tU rfl tu rfl (by omega) (by omega)) rfl ?_
        refine WO.op (G.store_u64 rfl rfl tu rfl rfl (by omega)) rfl ?_
        refine WO.op rfl rfl (WO.nil (W.region ?_))
        refine WO.as (v':=.int .i64 ((i + 1:Nat):Int)) rfl rfl (int_i64 (by omega) (by omega)) ?_
        refine WO.op rfl rfl (WO.nil ⟨(i + 1,out.set i (((lims p).getD i 0 + (lims q).getD i 0 + c) % B64),((lims p).getD i 0 + (lims q).getD i 0 + c) / B64),⟨by simp only; omega,by simpa using hol,hod.set i (Nat.mod_lt _ (by decide)),?_,?_⟩,by simp only; omega,fits_fr ⟨rfl,rfl,rfl,rfl,rfl,rfl,trivial⟩,?_⟩)
        · have h1:=(dig_lims p).getD i
          have h2:=(dig_lims q).getD i
          simp only
          unfold B64 at h1 h2 ⊢
          omega
        · have:=add_step (x:=(lims p).getD i 0) (y:=(lims q).getD i 0) (by omega) hv
          simp only
          rw [this,valK,valK]
          omega
        · rfl
    · have hie:i=L:=by omega
      subst hie
      refine WO.as (v':=.bool false) rfl rfl (bdF (by simp only; omega)) (WO.nil (W.seq (W.cond (b:=false) rfl (fun h=>by cases h) (fun _=>W.exit ?_))))
      refine W.seq (W.region ?_)
      refine WO.op rfl rfl ?_
      refine WO.op rfl rfl ?_
      refine WO.op ((tp _).lenG rfl rfl rfl) rfl ?_
      rw [hl]
      refine WO.op rfl rfl ?_
      refine WO.op (G.idx_sl rfl rfl tU rfl tu rfl (by omega) (by omega)) rfl ?_
      refine WO.op (G.store_u64 rfl rfl tu rfl rfl (by simp only; omega)) rfl (WO.nil (W.seq (W.region ?_)))
      refine WO.heq (H':=[.cells (u64s (out.set i c)) 92]) rfl ?_
      refine WO.op rfl rfl ?_
      refine WO.call rfl (made_sl 0 (out.set i c) (i + 1) (i + 1) _ 92 rfl (by simp [hol]) (by omega) (by omega)) rfl ?_
      refine WO.op rfl rfl (WO.nil (W.ret ⟨trivial,_,rfl,?_⟩))
      refine seals_np rfl (by have:=trimN_le (out.set i c) (i + 1); simp only [List.length_set]; omega) ?_
      refine trim_of (hod.set i (by unfold B64; omega)) (by simp [hol]) ?_
      have h1:=val_take_succ (l:=out.set i c) (k:=i) (by simp [hol])
      rw [List.take_of_length_le (by simp [hol]),val_set_take,getD_set_at (by omega)] at h1
      rw [h1,hv,valK_all (by omega),valK_all (by omega),val_lims,val_lims]
end
end Go.AM.C
namespace Go.AM.C
open Go.Proofs
noncomputable section
def errA (k:Nat):AVal:=if k=0 then .nili else .iface 171 (.int .i64 (k:Int))
theorem errA_closed (k:Nat):(errA k).closed=true:=by unfold errA; split <;> rfl
theorem faultOf (k:Nat) (hk:k < 9223372036854775808) (H:Heap):Has 45 [.int .i64 (k:Int)] H (errA k) H:=by
  refine does_pure s0 (show S0.fn 45=some Tryz.f45 by kernel_rfl) rfl (by kernel_rfl) (Nat.le_of_ble_eq_true rfl) rfl (errA_closed k) ?_
  refine W.seq (W.region ?_)
  repeat refine WO.op rfl rfl ?_
  refine WO.nil (W.seq (W.seq (W.region ?_)))
  refine WO.op rfl rfl ?_
  refine WO.op rfl rfl (WO.nil (W.cond rfl (fun hb=>?_) (fun hb=>?_)))
  · have h:k=0:=by have:=of_decide_eq_true hb; omega
    refine W.seq (W.region ?_)
    refine WO.op rfl rfl (WO.nil (W.ret ⟨trivial,_,rfl,?_⟩))
    unfold errA
    rw [if_pos h]
    exact Seals.same _ rfl
  · have h:¬ k=0:=by have:=of_decide_eq_false hb; omega
    refine W.skip (W.seq (W.region ?_))
    refine WO.op rfl rfl ?_
    refine WO.op rfl rfl ?_
    refine WO.op rfl rfl (WO.nil (W.ret ⟨trivial,_,rfl,?_⟩))
    unfold errA
    rw [if_neg h]
    exact Seals.same _ rfl
theorem sub64_has (x y b:Nat) (hb:b≤1) (H:Heap):Has 114 [.int .u64 (x:Int),.int .u64 (y:Int),.int .u64 (b:Int)] H (.tup [.int .u64 (((x + B64 - y - b) % B64:Nat):Int),.int .u64 ((if x < y + b then 1 else 0:Nat):Int)]) H:=by
  refine DoesC.of_ext (x:=sub64X) (sub64_ok Tryz.func114 (by kernel_rfl) (by kernel_rfl) (by kernel_rfl) (by kernel_rfl)) ?_
  show (if 0≤(x:Int)∧0≤(y:Int)∧0≤(b:Int)∧(b:Int)≤1 then twoI (Int.ofNat (subA (x:Int).toNat (y:Int).toNat (b:Int).toNat)) (Int.ofNat (subB (x:Int).toNat (y:Int).toNat (b:Int).toNat)) H else none)=_
  rw [if_pos ⟨by omega,by omega,by omega,by omega⟩,twoI_eq]
  unfold subA subB
  rfl
set_option maxRecDepth 100000 in
theorem sub_np (n m:Nat) (hn:Fit n) (hm:Fit m) (H:Heap):Has 53 [.obj (.np n),.obj (.np m)] H (if n < m then .tup [.nilp,errA 2] else .tup [.obj (.np (n - m)),.nili]) H:=by
  unfold Fit at hn hm
  have hcl:(if n < m then AVal.tup [.nilp,errA 2] else .tup [.obj (.np (n - m)),.nili]).closed=true:=by split <;> rfl
  refine does_pure s0 (show S0.fn 53=some Tryz.f53 by kernel_rfl) rfl (by kernel_rfl) (Nat.le_of_ble_eq_true rfl) rfl hcl ?_
  clear hcl
  refine W.seq (W.region ?_)
  repeat refine WO.op rfl rfl ?_
  refine WO.nil (W.seq (W.region ?_))
  refine WO.op rfl rfl ?_
  refine WO.call rfl (limbs_np n _) rfl ?_
  refine WO.op rfl rfl ?_
  refine WO.call rfl (limbs_np m _) rfl ?_
  repeat refine WO.op rfl rfl ?_
  refine WO.nil (W.seq (W.seq (W.region ?_)))
  refine WO.op rfl rfl ?_
  refine WO.op rfl rfl ?_
  refine WO.call rfl (compare_sl (slu_np n _) (slu_np m _) (by omega) (by omega)) rfl ?_
  rw [cmpL_lims]
  by_cases hlt:n < m
  · rw [if_pos hlt]
    refine WO.as (v':=.bool true) rfl rfl (bdT (by unfold cmpN; rw [if_pos hlt]; decide)) (WO.nil (W.cond (b:=true) rfl (fun _=>?_) (fun h=>by cases h)))
    refine W.seq (W.region ?_)
    refine WO.call (f:=45) (args:=[.int .i64 ((2:Nat):Int)]) rfl (faultOf 2 (by omega) _) rfl ?_
    repeat refine WO.op rfl rfl ?_
    exact WO.nil (W.ret ⟨trivial,_,rfl,Seals.same _ rfl⟩)
  · rw [if_neg hlt]
    refine WO.as (v':=.bool false) rfl rfl (bdF (by unfold cmpN; rw [if_neg hlt]; split <;> omega)) (WO.nil (W.cond (b:=false) rfl (fun h=>by cases h) (fun _=>W.skip ?_)))
    have hLm:(lims m).length≤(lims n).length:=by
      by_cases h:(lims n).length < (lims m).length
      · exact absurd (lims_len_lt h) hlt
      · omega
    have tp:=slu_np n
    have tq:=slu_np m
    generalize hP:(AVal.isl (limbs n) 0 (limbs n).length none true)=vp at *
    generalize hQ:(AVal.isl (limbs m) 0 (limbs m).length none true)=vq at *
    generalize hl:(lims n).length=L at *
    refine W.seq (W.region ?_)
    refine WO.op rfl rfl ?_
    refine WO.op ((tp _).lenG rfl rfl rfl) rfl ?_
    rw [hl]
    refine WO.op (G.make (l:=L) (c:=L) rfl rfl tU rfl tu rfl (by omega) (by show L * 8≤_; omega) (by omega)) rfl ?_
    refine WO.op rfl rfl (WO.nil (W.seq (W.region ?_)))
    refine WO.op rfl rfl (WO.nil (W.seq (W.seq (W.region ?_))))
    refine WO.op rfl rfl ?_
    refine WO.op ((tp _).lenG rfl rfl rfl) rfl ?_
    rw [hl]
    refine WO.op rfl rfl (WO.nil (W.block ?_))
    refine W.heq (H':=[.cells (u64s (List.replicate L 0)) 92]) (by simp [u64s]) ?_
    refine W.fits (F':=fr [(6,vp),(7,vq),(8,.sl 0 0 L (some L) 1),(9,.int .u64 ((0:Nat):Int)),(25,.int .i64 (L:Int)),(26,.int .i64 ((0:Nat):Int))]) (fits_fr ⟨rfl,rfl,rfl,rfl,rfl,rfl,trivial⟩) ?_
    refine W.loopI (α:=Nat×List Nat×Nat) (fun s=>s.1≤L∧s.2.1.length=L∧Dig s.2.1∧s.2.2≤1∧val (s.2.1.take s.1) + valK (lims m) s.1=valK (lims n) s.1 + B64 ^ s.1 * s.2.2) (fun s=>L - s.1)
      (fun s=>fr [(6,vp),(7,vq),(8,.sl 0 0 L (some L) 1),(9,.int .u64 (s.2.2:Int)),(25,.int .i64 (L:Int)),(26,.int .i64 (s.1:Int))]) (fun s=>[.cells (u64s s.2.1) 92]) ?_ (0,List.replicate L 0,0)
      ⟨by simp,by simp,Dig.replicate _ (by decide),by simp,by simp [valK,val]⟩
    rintro ⟨i,out,c⟩ ⟨hi,hol,hod,hc,hv⟩
    simp only at hi hol hod hc hv
    refine W.seq (W.region ?_)
    by_cases hiL:i < L
    · refine WO.as (v':=.bool true) rfl rfl (bdT (by simp only; omega)) (WO.nil (W.seq (W.cond (b:=true) rfl (fun _=>W.skip ?_) (fun h=>by cases h))))
      obtain ⟨a1,a2,a3,ha1,ha2,ha3⟩:=(tp [.cells (u64s out) 92]).at_ i (by omega)
      refine W.seq (W.block (W.seq (W.region ?_)))
      repeat refine WO.op rfl rfl ?_
      refine WO.nil (W.seq (W.region ?_))
      refine WO.op rfl rfl (WO.nil ?_)
      refine W.mid (H1:=[.cells (u64s out) 92]) [(6,vp),(7,vq),(8,.sl 0 0 L (some L) 1),(9,.int .u64 (c:Int)),(10,.int .i64 (i:Int)),(11,.int .u64 (((lims m).getD i 0:Nat):Int)),(25,.int .i64 (L:Int)),(26,.int .i64 (i:Int))] ?_ ?_
      · refine W.seq (W.region ?_)
        refine WO.op rfl rfl ?_
        refine WO.op rfl rfl ?_
        refine WO.op ((tq _).lenG rfl rfl rfl) rfl ?_
        refine WO.op rfl rfl (WO.nil (W.cond rfl (fun hb=>?_) (fun hb=>?_)))
        · have h:i < (lims m).length:=by have:=of_decide_eq_true hb; omega
          obtain ⟨b1,b2,b3,hb1,hb2,hb3⟩:=(tq [.cells (u64s out) 92]).at_ i h
          refine W.region ?_
          refine WO.op rfl rfl ?_
          refine WO.op rfl rfl ?_
          refine WO.op (SlU.idxG rfl rfl hb1) rfl ?_
          refine WO.op (SlU.loadG rfl tu rfl hb2 hb3) rfl ?_
          refine WO.op rfl rfl (WO.nil ⟨rfl,⟨rfl,rfl,rfl,rfl,rfl,rfl,rfl,rfl,trivial⟩,rfl⟩)
        · have h:(lims m).length≤i:=by have:=of_decide_eq_false hb; omega
          refine W.skip ⟨rfl,⟨rfl,rfl,rfl,rfl,rfl,?_,rfl,rfl,trivial⟩,rfl⟩
          rw [getD_eq_zero h]
          rfl
      · refine W.region ?_
        iterate 4 refine WO.op rfl rfl ?_
        refine WO.op (SlU.idxG rfl rfl ha1) rfl ?_
        refine WO.op (SlU.loadG rfl tu rfl ha2 ha3) rfl ?_
        refine WO.op rfl rfl ?_
        refine WO.op rfl rfl ?_
        refine WO.call rfl (sub64_has ((lims n).getD i 0) ((lims m).getD i 0) c hc _) rfl ?_
        iterate 3 refine WO.op rfl rfl ?_
        refine WO.op (G.idx_sl rfl rfl tU rfl tu rfl (by omega) (by omega)) rfl ?_
        refine WO.op (G.store_u64 rfl rfl tu rfl rfl (by omega)) rfl ?_
        refine WO.op rfl rfl (WO.nil (W.region ?_))
        refine WO.as (v':=.int .i64 ((i + 1:Nat):Int)) rfl rfl (int_i64 (by omega) (by omega)) ?_
        have h1:=(dig_lims n).getD i
        have h2:=(dig_lims m).getD i
        refine WO.op rfl rfl (WO.nil ⟨(i + 1,out.set i (((lims n).getD i 0 + B64 - (lims m).getD i 0 - c) % B64),if (lims n).getD i 0 < (lims m).getD i 0 + c then 1 else 0),⟨by simp only; omega,by simpa using hol,hod.set i (Nat.mod_lt _ (by decide)),?_,?_⟩,by simp only; omega,fits_fr ⟨rfl,rfl,rfl,rfl,rfl,rfl,trivial⟩,rfl⟩)
        · simp only; split <;> omega
        · have:=sub_step (x:=(lims n).getD i 0) (y:=(lims m).getD i 0) (by omega) h1 h2 hc _ _ hv
          simp only
          rw [valK,valK]
          exact this
    · have hie:i=L:=by omega
      subst hie
      refine WO.as (v':=.bool false) rfl rfl (bdF (by simp only; omega)) (WO.nil (W.seq (W.cond (b:=false) rfl (fun h=>by cases h) (fun _=>W.exit ?_))))
      refine W.seq (W.region ?_)
      refine WO.op rfl rfl ?_
      refine WO.call rfl (made_sl 0 out i i _ 92 rfl (by omega) (by omega) (by omega)) rfl ?_
      refine WO.op rfl rfl ?_
      refine WO.op rfl rfl (WO.nil (W.ret ⟨trivial,_,rfl,?_⟩))
      refine seals_tup2 (seals_np rfl (by have:=trimN_le out i; simp only; omega) ?_) (Seals.same _ rfl)
      refine trim_of hod (by omega) ?_
      rw [List.take_of_length_le (by omega),valK_all (by omega),valK_all (by omega),val_lims,val_lims] at hv
      have hvl:=val_lt hod
      rw [hol] at hvl
      have hc0:c=0:=by
        by_cases hc1:c=1
        · subst hc1; omega
        · omega
      subst hc0
      omega
end
end Go.AM.C
namespace Go.AM.C
open Go.Proofs
noncomputable section
def sz (b:Bool) (n:Nat):Int:=bif b then -(n:Int) else n
theorem sz_abs (b:Bool) (n:Nat):(sz b n).natAbs=n:=by cases b <;> simp [sz]
theorem wk_zp {b:Bool} {z:Int} {n:Nat} (hb:b=decide (z < 0)) (hn:n=z.natAbs):Wk (.ip [.bool b,.obj (.np n)] 0 true) (.obj (.zp z)):=by
  subst hb; subst hn; exact Wk.to_obj (.zp z)
theorem new_zp (b:Bool) (n:Nat) (H:Heap):Has 58 [.bool b,.obj (.np n)] H (.obj (.zp (sz b n))) H:=by
  refine does_pure s0 (show S0.fn 58=some Tryz.f58 by kernel_rfl) rfl (by kernel_rfl) (Nat.le_of_ble_eq_true rfl) rfl rfl ?_
  refine W.seq (W.region ?_)
  repeat refine WO.op rfl rfl ?_
  refine WO.nil (W.seq (W.region ?_))
  refine WO.op rfl rfl ?_
  refine WO.op rfl rfl ?_
  cases b with
  | true =>
    refine WO.op rfl rfl ?_
    refine WO.call rfl (zero_np n _) rfl ?_
    repeat refine WO.op rfl rfl ?_
    refine WO.nil (W.ret ⟨trivial,_,rfl,Seals.wk' _ (.ip [.bool (!decide (n=0)),.obj (.np n)] 0 true) _ (Seals.same _ rfl) (wk_zp ?_ ?_)⟩)
    · rw [Bool.eq_iff_iff]; simp [sz]; omega
    · simp [sz]
  | false =>
    iterate 3 refine WO.skip rfl ?_
    repeat refine WO.op rfl rfl ?_
    refine WO.nil (W.ret ⟨trivial,_,rfl,Seals.wk' _ (.ip [.bool false,.obj (.np n)] 0 true) _ (Seals.same _ rfl) (wk_zp ?_ ?_)⟩)
    · symm; rw [decide_eq_false_iff_not]; simp [sz]
    · simp [sz]
theorem ofz (z:Int) (h:-9223372036854775808≤z∧z < 9223372036854775808) (H:Heap):Has 49 [.int .i64 z] H (.obj (.zp z)) H:=by
  refine does_pure s0 (show S0.fn 49=some Tryz.f49 by kernel_rfl) rfl (by kernel_rfl) (Nat.le_of_ble_eq_true rfl) rfl rfl ?_
  refine W.seq (W.region ?_)
  repeat refine WO.op rfl rfl ?_
  refine WO.nil (W.seq (W.seq (W.region ?_)))
  refine WO.op rfl rfl ?_
  refine WO.op rfl rfl (WO.nil (W.cond rfl (fun hb=>?_) (fun hb=>?_)))
  · have hz:=of_decide_eq_true hb
    have e1:wrapI .u64 z=z + 18446744073709551616:=by unfold wrapI; simp only; omega
    refine W.seq (W.region ?_)
    refine WO.op rfl rfl ?_
    refine WO.as (v':=.int .u64 (z + 18446744073709551616)) rfl rfl (int_eq e1) ?_
    refine WO.as (v':=.int .u64 ((z.natAbs:Nat):Int)) rfl rfl (int_eq (by unfold wrapI; simp only; omega)) ?_
    refine WO.call rfl (of_np z.natAbs (by unfold B64; omega) _) rfl ?_
    refine WO.call rfl (new_zp true z.natAbs _) rfl ?_
    refine WO.op rfl rfl (WO.nil (W.ret ⟨trivial,_,rfl,?_⟩))
    rw [show z=sz true z.natAbs by simp only [sz,cond_true]; omega]
    simp only [sz_abs]
    exact Seals.same _ rfl
  · have hz:=of_decide_eq_false hb
    refine W.skip (W.seq (W.region ?_))
    refine WO.op rfl rfl ?_
    refine WO.as (v':=.int .u64 ((z.natAbs:Nat):Int)) rfl rfl (int_u64 (by omega) (by omega)) ?_
    refine WO.call rfl (of_np z.natAbs (by unfold B64; omega) _) rfl ?_
    refine WO.call rfl (new_zp false z.natAbs _) rfl ?_
    refine WO.op rfl rfl (WO.nil (W.ret ⟨trivial,_,rfl,?_⟩))
    rw [show z=sz false z.natAbs by simp only [sz,cond_false]; omega]
    simp only [sz_abs]
    exact Seals.same _ rfl
def IsZ (v:AVal) (z:Int):Prop:=v=.obj (.zp z)∨v=.nilp∧z=0
theorem IsZ.cl {v:AVal} {z:Int} (h:IsZ v z):v.closed=true:=by rcases h with rfl | ⟨rfl,_⟩ <;> rfl
theorem IsZ.mk (z:Int):IsZ (.obj (.zp z)) z:=.inl rfl
theorem IsZ.nil:IsZ .nilp 0:=.inr ⟨rfl,rfl⟩
theorem absz {v:AVal} {z:Int} (h:IsZ v z) (H:Heap):Has 50 [v] H (.obj (.np z.natAbs)) H:=by
  refine does_pure s0 (show S0.fn 50=some Tryz.f50 by kernel_rfl) rfl (by kernel_rfl) (Nat.le_of_ble_eq_true rfl) (by simp [h.cl]) rfl ?_
  rcases h with rfl | ⟨rfl,rfl⟩
  · refine W.seq (W.region ?_)
    repeat refine WO.op rfl rfl ?_
    refine WO.nil (W.seq (W.seq (W.region ?_)))
    repeat refine WO.op rfl rfl ?_
    refine WO.nil (W.cond (b:=false) rfl (fun h=>by cases h) (fun _=>W.skip (W.seq (W.region ?_))))
    repeat refine WO.op rfl rfl ?_
    refine WO.nil (W.ret ⟨trivial,_,rfl,Seals.same _ rfl⟩)
  · refine W.seq (W.region ?_)
    repeat refine WO.op rfl rfl ?_
    refine WO.nil (W.seq (W.seq (W.region ?_)))
    iterate 3 refine WO.op rfl rfl ?_
    repeat refine WO.skip rfl ?_
    refine WO.op rfl rfl (WO.nil (W.cond (b:=true) rfl (fun _=>W.seq (W.region ?_)) (fun h=>by cases h)))
    refine WO.call (f:=46) (args:=[.int .u64 ((0:Nat):Int)]) rfl (of_np 0 (by decide) _) rfl ?_
    refine WO.op rfl rfl (WO.nil (W.ret ⟨trivial,_,rfl,Seals.same _ rfl⟩))
theorem signz {v:AVal} {z:Int} (h:IsZ v z) (H:Heap):Has 116 [v] H (.int .i64 z.sign) H:=by
  refine does_pure s0 (show S0.fn 116=some Tryz.f116 by kernel_rfl) rfl (by kernel_rfl) (Nat.le_of_ble_eq_true rfl) (by simp [h.cl]) rfl ?_
  refine W.seq (W.region ?_)
  repeat refine WO.op rfl rfl ?_
  refine WO.nil (W.seq (W.block (W.seq (W.region ?_))))
  refine WO.op rfl rfl ?_
  refine WO.call rfl (absz h _) rfl ?_
  refine WO.call rfl (zero_np _ _) rfl ?_
  refine WO.op rfl rfl (WO.nil (W.cond rfl (fun hb=>?_) (fun hb=>?_)))
  · have hz:z=0:=by have:=of_decide_eq_true hb; omega
    refine W.seq (W.region ?_)
    refine WO.op rfl rfl (WO.nil (W.ret ⟨trivial,_,rfl,?_⟩))
    rw [hz]
    exact Seals.same _ rfl
  · have hz:z≠0:=by have:=of_decide_eq_false hb; omega
    rcases h with rfl | ⟨_,h⟩
    · refine W.seq (W.region ?_)
      repeat refine WO.op rfl rfl ?_
      refine WO.nil (W.cond (b:=decide (z < 0)) rfl (fun hb=>?_) (fun hb=>?_))
      · have hn:=of_decide_eq_true hb
        refine W.seq (W.region ?_)
        refine WO.op rfl rfl (WO.nil (W.ret ⟨trivial,_,rfl,?_⟩))
        rw [Int.sign_eq_neg_one_of_neg hn]
        exact Seals.same _ rfl
      · have hn:=of_decide_eq_false hb
        refine W.skip (W.seq (W.region ?_))
        refine WO.op rfl rfl (WO.nil (W.ret ⟨trivial,_,rfl,?_⟩))
        rw [Int.sign_eq_one_of_pos (by omega)]
        exact Seals.same _ rfl
    · exact absurd h hz
theorem negz {v:AVal} {z:Int} (h:IsZ v z) (H:Heap):Has 152 [v] H (.obj (.zp (-z))) H:=by
  refine does_pure s0 (show S0.fn 152=some Tryz.f152 by kernel_rfl) rfl (by kernel_rfl) (Nat.le_of_ble_eq_true rfl) (by simp [h.cl]) rfl ?_
  refine W.seq (W.region ?_)
  repeat refine WO.op rfl rfl ?_
  refine WO.nil (W.seq (W.region ?_))
  refine WO.op rfl rfl ?_
  refine WO.call rfl (signz h _) rfl ?_
  refine WO.as (v':=.bool (decide (0≤z))) rfl rfl (bdE ?_) ?_
  · rcases Int.lt_trichotomy z 0 with h | h | h
    · rw [Int.sign_eq_neg_one_of_neg h]; omega
    · subst h; decide
    · rw [Int.sign_eq_one_of_pos h]; omega
  refine WO.op rfl rfl ?_
  refine WO.call rfl (absz h _) rfl ?_
  refine WO.call rfl (new_zp _ _ _) rfl ?_
  refine WO.op rfl rfl (WO.nil (W.ret ⟨trivial,_,rfl,?_⟩))
  rw [show -z=sz (decide (0≤z)) z.natAbs by
    unfold sz
    by_cases h:0≤z
    · rw [decide_eq_true h]; simp only [cond_true]; omega
    · rw [decide_eq_false h]; simp only [cond_false]; omega]
  exact Seals.same _ rfl
end
end Go.AM.C
namespace Go.AM.C
open Go.Proofs
noncomputable section
abbrev FitZ (z:Int):Prop:=Fit z.natAbs
theorem sign_lt {z:Int}:z.sign < 0↔z < 0:=by
  rcases Int.lt_trichotomy z 0 with h | h | h
  · rw [Int.sign_eq_neg_one_of_neg h]; omega
  · subst h; decide
  · rw [Int.sign_eq_one_of_pos h]; omega
set_option maxRecDepth 100000 in
theorem addz {u v:AVal} {x y:Int} (hu:IsZ u x) (hv:IsZ v y) (hx:FitZ x) (hy:FitZ y) (H:Heap):Has 153 [u,v] H (.obj (.zp (x + y))) H:=by
  refine does_pure s0 (show S0.fn 153=some Tryz.f153 by kernel_rfl) rfl (by kernel_rfl) (Nat.le_of_ble_eq_true rfl) (by simp [hu.cl,hv.cl]) rfl ?_
  refine W.seq (W.region ?_)
  repeat refine WO.op rfl rfl ?_
  refine WO.nil (W.seq (W.region ?_))
  refine WO.op rfl rfl ?_
  refine WO.call rfl (signz hu _) rfl ?_
  refine WO.as (v':=.bool (decide (x < 0))) rfl rfl (bdE sign_lt) ?_
  refine WO.op rfl rfl ?_
  refine WO.call rfl (signz hv _) rfl ?_
  refine WO.as (v':=.bool (decide (y < 0))) rfl rfl (bdE sign_lt) ?_
  refine WO.op rfl rfl ?_
  refine WO.op rfl rfl (WO.nil (W.seq (W.seq (W.region ?_))))
  refine WO.op rfl rfl ?_
  refine WO.op rfl rfl ?_
  refine WO.op rfl rfl (WO.nil (W.cond rfl (fun hb=>?_) (fun hb=>?_)))
  · have hs:decide (x < 0)=decide (y < 0):=by simpa using hb
    refine W.seq (W.region ?_)
    refine WO.op rfl rfl ?_
    refine WO.op rfl rfl ?_
    refine WO.call rfl (absz hu _) rfl ?_
    refine WO.op rfl rfl ?_
    refine WO.call rfl (absz hv _) rfl ?_
    refine WO.call rfl (add_np _ _ hx hy _) rfl ?_
    refine WO.call rfl (new_zp (decide (x < 0)) (x.natAbs + y.natAbs) _) rfl ?_
    refine WO.op rfl rfl (WO.nil (W.ret ⟨trivial,_,rfl,?_⟩))
    rw [show x + y=sz (decide (x < 0)) (x.natAbs + y.natAbs) by
      unfold sz
      by_cases h:x < 0
      · have h2:y < 0:=of_decide_eq_true (by rw [← hs]; exact decide_eq_true h)
        rw [decide_eq_true h]; simp only [cond_true]; omega
      · have h2:¬ y < 0:=of_decide_eq_false (by rw [← hs]; exact decide_eq_false h)
        rw [decide_eq_false h]; simp only [cond_false]; omega]
    exact Seals.same _ rfl
  · have hs:decide (x < 0)≠decide (y < 0):=by simpa using hb
    have hxy:(x < 0∧0≤y)∨(0≤x∧y < 0):=by
      by_cases h:x < 0
      · by_cases h2:y < 0
        · exact absurd ((decide_eq_true h).trans (decide_eq_true h2).symm) hs
        · omega
      · by_cases h2:y < 0
        · omega
        · exact absurd ((decide_eq_false h).trans (decide_eq_false h2).symm) hs
    refine W.skip (W.seq (W.seq (W.region ?_)))
    refine WO.op rfl rfl ?_
    refine WO.call rfl (absz hu _) rfl ?_
    refine WO.op rfl rfl ?_
    refine WO.call rfl (absz hv _) rfl ?_
    refine WO.call rfl (cmp_np _ _ hx hy _) rfl ?_
    by_cases hlt:x.natAbs < y.natAbs
    · refine WO.as (v':=.bool true) rfl rfl (bdT (by unfold cmpN; rw [if_pos hlt]; decide)) (WO.nil (W.cond (b:=true) rfl (fun _=>?_) (fun h=>by cases h)))
      refine W.seq (W.region ?_)
      refine WO.op rfl rfl ?_
      refine WO.call rfl (absz hv _) rfl ?_
      refine WO.op rfl rfl ?_
      refine WO.call rfl (absz hu _) rfl ?_
      refine WO.call rfl (sub_np _ _ hy hx _) rfl ?_
      rw [if_neg (by omega)]
      iterate 4 refine WO.op rfl rfl ?_
      refine WO.op rfl rfl (WO.nil (W.seq (W.region ?_)))
      refine WO.op rfl rfl ?_
      refine WO.op rfl rfl ?_
      refine WO.call rfl (new_zp (decide (y < 0)) (y.natAbs - x.natAbs) _) rfl ?_
      refine WO.op rfl rfl (WO.nil (W.ret ⟨trivial,_,rfl,?_⟩))
      rw [show x + y=sz (decide (y < 0)) (y.natAbs - x.natAbs) by
        unfold sz
        by_cases h:y < 0
        · rw [decide_eq_true h]; simp only [cond_true]; omega
        · rw [decide_eq_false h]; simp only [cond_false]; omega]
      exact Seals.same _ rfl
    · refine WO.as (v':=.bool false) rfl rfl (bdF (by unfold cmpN; rw [if_neg hlt]; split <;> omega)) (WO.nil (W.cond (b:=false) rfl (fun h=>by cases h) (fun _=>W.skip ?_)))
      refine W.seq (W.region ?_)
      refine WO.op rfl rfl ?_
      refine WO.call rfl (absz hu _) rfl ?_
      refine WO.op rfl rfl ?_
      refine WO.call rfl (absz hv _) rfl ?_
      refine WO.call rfl (sub_np _ _ hx hy _) rfl ?_
      rw [if_neg hlt]
      iterate 4 refine WO.op rfl rfl ?_
      refine WO.op rfl rfl (WO.nil (W.seq (W.region ?_)))
      refine WO.op rfl rfl ?_
      refine WO.op rfl rfl ?_
      refine WO.call rfl (new_zp (decide (x < 0)) (x.natAbs - y.natAbs) _) rfl ?_
      refine WO.op rfl rfl (WO.nil (W.ret ⟨trivial,_,rfl,?_⟩))
      rw [show x + y=sz (decide (x < 0)) (x.natAbs - y.natAbs) by
        unfold sz
        by_cases h:x < 0
        · rw [decide_eq_true h]; simp only [cond_true]; omega
        · rw [decide_eq_false h]; simp only [cond_false]; omega]
      exact Seals.same _ rfl
theorem subz {u v:AVal} {x y:Int} (hu:IsZ u x) (hv:IsZ v y) (hx:FitZ x) (hy:FitZ y) (H:Heap):Has 238 [u,v] H (.obj (.zp (x - y))) H:=by
  refine does_pure s0 (show S0.fn 238=some Tryz.f238 by kernel_rfl) rfl (by kernel_rfl) (Nat.le_of_ble_eq_true rfl) (by simp [hu.cl,hv.cl]) rfl ?_
  refine W.seq (W.region ?_)
  repeat refine WO.op rfl rfl ?_
  refine WO.nil (W.seq (W.region ?_))
  refine WO.op rfl rfl ?_
  refine WO.op rfl rfl ?_
  refine WO.call rfl (negz hv _) rfl ?_
  refine WO.call rfl (addz hu (IsZ.mk (-y)) hx (by show Fit (-y).natAbs; rw [Int.natAbs_neg]; exact hy) _) rfl ?_
  refine WO.op rfl rfl (WO.nil (W.ret ⟨trivial,_,rfl,?_⟩))
  rw [show x - y=x + -y by omega]
  exact Seals.same _ rfl
theorem cmpz {u v:AVal} {x y:Int} (hu:IsZ u x) (hv:IsZ v y) (hx:FitZ x) (hy:FitZ y) (H:Heap):Has 165 [u,v] H (.int .i64 (x - y).sign) H:=by
  refine does_pure s0 (show S0.fn 165=some Tryz.f165 by kernel_rfl) rfl (by kernel_rfl) (Nat.le_of_ble_eq_true rfl) (by simp [hu.cl,hv.cl]) rfl ?_
  refine W.seq (W.region ?_)
  repeat refine WO.op rfl rfl ?_
  refine WO.nil (W.seq (W.region ?_))
  refine WO.op rfl rfl ?_
  refine WO.op rfl rfl ?_
  refine WO.call rfl (subz hu hv hx hy _) rfl ?_
  refine WO.call rfl (signz (IsZ.mk _) _) rfl ?_
  exact WO.op rfl rfl (WO.nil (W.ret ⟨trivial,_,rfl,Seals.same _ rfl⟩))
def small64 (z:Int):Bool:=decide (-9223372036854775808≤z) && decide (z < 9223372036854775808)
def smallA (z:Int):AVal:=.tup [.int .i64 (bif small64 z then z else 0),.bool (small64 z)]
set_option maxRecDepth 100000 in
theorem smallz {v:AVal} {z:Int} (h:IsZ v z) (H:Heap):Has 59 [v] H (smallA z) H:=by
  have hRc:(smallA z).closed=true:=rfl
  generalize hR:smallA z=R at hRc ⊢
  refine does_pure s0 (show S0.fn 59=some Tryz.f59 by kernel_rfl) rfl (by kernel_rfl) (Nat.le_of_ble_eq_true rfl) (by simp [h.cl]) hRc ?_
  clear hRc
  refine W.seq (W.region ?_)
  repeat refine WO.op rfl rfl ?_
  refine WO.nil (W.seq (W.region ?_))
  refine WO.op rfl rfl ?_
  refine WO.call rfl (absz h _) rfl ?_
  refine WO.call rfl (small_np _ _) rfl ?_
  iterate 4 refine WO.op rfl rfl ?_
  refine WO.op rfl rfl (WO.nil (W.seq (W.block (W.seq (W.region ?_)))))
  by_cases hB:z.natAbs < B64
  · rw [if_pos hB,decide_eq_true hB]
    refine WO.op rfl rfl ?_
    refine WO.op rfl rfl ?_
    refine WO.op rfl rfl (WO.nil (W.cond (b:=false) rfl (fun h=>by cases h) (fun _=>?_)))
    refine W.seq (W.region ?_)
    refine WO.op rfl rfl ?_
    refine WO.call rfl (signz h _) rfl ?_
    by_cases hneg:z < 0
    · refine WO.as (v':=.bool true) rfl rfl (bdT (sign_lt.2 hneg)) ?_
      iterate 4 refine WO.op rfl rfl ?_
      refine WO.op rfl rfl (WO.nil (W.cond rfl (fun hb=>?_) (fun hb=>?_)))
      · have hz:(z.natAbs:Int)≤9223372036854775808:=of_decide_eq_true hb
        refine W.seq (W.region ?_)
        refine WO.op rfl rfl ?_
        refine WO.as (v':=.int .u64 (18446744073709551616 - (z.natAbs:Int))) rfl rfl (int_eq (by unfold wrapI; simp only; omega)) ?_
        refine WO.as (v':=.int .i64 z) rfl rfl (int_eq (by unfold wrapI; simp only; split <;> omega)) ?_
        refine WO.op rfl rfl ?_
        refine WO.op rfl rfl (WO.nil (W.ret ⟨trivial,_,rfl,?_⟩))
        have e:small64 z=true:=by unfold small64; rw [decide_eq_true (by omega),decide_eq_true (by omega)]; rfl
        have e2:R=.tup [.int .i64 z,.bool true]:=by rw [← hR]; unfold smallA; rw [e]; rfl
        subst e2
        exact Seals.same _ rfl
      · have hz:¬ (z.natAbs:Int)≤9223372036854775808:=of_decide_eq_false hb
        refine W.seq (W.region ?_)
        refine WO.op rfl rfl ?_
        refine WO.call rfl (signz h _) rfl ?_
        refine WO.as (v':=.bool false) rfl rfl (bdF (by rw [Int.sign_eq_neg_one_of_neg hneg]; decide)) ?_
        refine WO.op rfl rfl ?_
        refine WO.skip rfl ?_
        refine WO.skip rfl ?_
        refine WO.op rfl rfl ?_
        refine WO.op rfl rfl (WO.nil (W.cond (b:=false) rfl (fun h=>by cases h) (fun _=>W.skip (W.seq (W.region ?_)))))
        refine WO.op rfl rfl ?_
        refine WO.op rfl rfl (WO.nil (W.ret ⟨trivial,_,rfl,?_⟩))
        have e:small64 z=false:=by unfold small64; rw [decide_eq_false (by omega)]; rfl
        have e2:R=.tup [.int .i64 0,.bool false]:=by rw [← hR]; unfold smallA; rw [e]; rfl
        subst e2
        exact Seals.same _ rfl
    · refine WO.as (v':=.bool false) rfl rfl (bdF (fun h=>hneg (sign_lt.1 h))) ?_
      refine WO.op rfl rfl ?_
      refine WO.skip rfl ?_
      refine WO.skip rfl ?_
      refine WO.op rfl rfl ?_
      refine WO.op rfl rfl (WO.nil (W.cond (b:=false) rfl (fun h=>by cases h) (fun _=>?_)))
      refine W.seq (W.region ?_)
      refine WO.op rfl rfl ?_
      refine WO.call rfl (signz h _) rfl ?_
      refine WO.as (v':=.bool true) rfl rfl (bdT ?_) ?_
      · have:=mt sign_lt.1 hneg; omega
      iterate 4 refine WO.op rfl rfl ?_
      refine WO.op rfl rfl (WO.nil (W.cond rfl (fun hb=>?_) (fun hb=>?_)))
      · have hz:(z.natAbs:Int) < 9223372036854775808:=of_decide_eq_true hb
        refine W.seq (W.region ?_)
        refine WO.op rfl rfl ?_
        refine WO.as (v':=.int .i64 z) rfl rfl (int_i64 (by omega) (by omega)) ?_
        refine WO.op rfl rfl ?_
        refine WO.op rfl rfl (WO.nil (W.ret ⟨trivial,_,rfl,?_⟩))
        have e:small64 z=true:=by unfold small64; rw [decide_eq_true (by omega),decide_eq_true (by omega)]; rfl
        have e2:R=.tup [.int .i64 z,.bool true]:=by rw [← hR]; unfold smallA; rw [e]; rfl
        subst e2
        exact Seals.same _ rfl
      · have hz:¬ (z.natAbs:Int) < 9223372036854775808:=of_decide_eq_false hb
        refine W.skip (W.seq (W.region ?_))
        refine WO.op rfl rfl ?_
        refine WO.op rfl rfl (WO.nil (W.ret ⟨trivial,_,rfl,?_⟩))
        have e:small64 z=false:=by unfold small64; rw [decide_eq_true (by omega),decide_eq_false (by omega)]; rfl
        have e2:R=.tup [.int .i64 0,.bool false]:=by rw [← hR]; unfold smallA; rw [e]; rfl
        subst e2
        exact Seals.same _ rfl
  · rw [if_neg hB,decide_eq_false hB]
    refine WO.op rfl rfl ?_
    refine WO.op rfl rfl ?_
    refine WO.op rfl rfl (WO.nil (W.cond (b:=true) rfl (fun _=>W.seq (W.region ?_)) (fun h=>by cases h)))
    refine WO.op rfl rfl ?_
    refine WO.op rfl rfl (WO.nil (W.ret ⟨trivial,_,rfl,?_⟩))
    have e:small64 z=false:=by
      unfold small64; unfold B64 at hB
      by_cases h:-9223372036854775808≤z
      · rw [decide_eq_true h,decide_eq_false (by omega)]; rfl
      · rw [decide_eq_false h]; rfl
    have e2:R=.tup [.int .i64 0,.bool false]:=by rw [← hR]; unfold smallA; rw [e]; rfl
    subst e2
    exact Seals.same _ rfl
end
end Go.AM.C
namespace Go.AM.C
open Go.Proofs
noncomputable section
def badB (b:Nat):Bool:=(Nat.blt b 97 || Nat.blt 122 b) && (Nat.blt b 48 || Nat.blt 57 b) && !Nat.beq b 45
def nameOk (s:List UInt8):Bool:=!(s.any fun b=>badB b.toNat) && decide (1≤s.length) && decide (s.length≤20)
def isB (r:Option (AVal×Heap)) (b:Bool):Bool:=match r with
  | some (.bool x,_)=>x == b
  | _=>false
theorem isB_some {r:Option (AVal×Heap)} {b:Bool} (h:isB r b=true):∃ H',r=some (.bool b,H'):=by
  unfold isB at h
  split at h
  · rename_i x H'
    have:x=b:=by simpa using h
    subst this
    exact ⟨H',rfl⟩
  · cases h
theorem name1_all:(List.range 256).all (fun c=>isB (den S0 100 175 [.int .u8 (Int.ofNat c)] []) (badB c))=true:=by kernel_rfl
theorem name1 (b:UInt8) (H:Heap):Has 175 [.int .u8 (b.toNat:Int)] H (.bool (badB b.toNat)) H:=by
  have h:=List.all_eq_true.1 name1_all b.toNat (List.mem_range.2 b.toNat_lt)
  obtain ⟨H',h⟩:=isB_some h
  exact DoesC.run s0 h rfl rfl H
def idxBad:Nat→List UInt8→Int
  | _,[]=>-1
  | i,b :: s=>if badB b.toNat then (i:Int) else idxBad (i + 1) s
theorem idxBad_any:∀ (s:List UInt8) (i:Nat),0≤idxBad i s↔(s.any fun b=>badB b.toNat)=true
  | [],i=>by simp [idxBad]
  | b :: s,i=>by
    simp only [idxBad,List.any_cons]
    have ih:=idxBad_any s (i + 1)
    cases h:badB b.toNat with
    | true=>simp
    | false=>simpa using ih
theorem idxBad_get {s:List UInt8} {j:Nat} (h:j < s.length):idxBad j (s.drop j)=if badB (s[j].toNat) then (j:Int) else idxBad (j + 1) (s.drop (j + 1)):=by
  rw [List.drop_eq_getElem_cons h]
  rfl
theorem tB:S0.ty 190=some ti190:=rfl
theorem tb:S0.ty 5=some ti5:=rfl
theorem indexFunc_bad (s:List UInt8) (hs:s.length < 4611686018427387904) (H:Heap):Has 250 [.isl (toBytes s) 0 s.length none true,.fn 175 [] []] H (.int .i64 (idxBad 0 s)) H:=by
  generalize hR:idxBad 0 s=R
  refine does_pure s0 (show S0.fn 250=some Tryz.f250 by kernel_rfl) rfl (by kernel_rfl) (Nat.le_of_ble_eq_true rfl) rfl rfl ?_
  generalize hv:(AVal.isl (toBytes s) 0 s.length none true)=va
  refine W.seq (W.region ?_)
  repeat refine WO.op rfl rfl ?_
  refine WO.nil (W.seq (W.seq (W.region ?_)))
  refine WO.op rfl rfl ?_
  refine WO.op (v:=.int .i64 (s.length:Int)) (H1:=[]) (by subst hv; rfl) rfl ?_
  refine WO.op rfl rfl (WO.nil (W.block ?_))
  refine W.fits (F':=fr [(0,va),(1,.fn 175 [] []),(7,.int .i64 (s.length:Int)),(8,.int .i64 ((0:Nat):Int))]) (fits_fr ⟨rfl,rfl,rfl,rfl,trivial⟩) ?_
  refine W.loopI (fun j:Nat=>j≤s.length∧idxBad j (s.drop j)=R) (fun j=>s.length - j) (fun j=>fr [(0,va),(1,.fn 175 [] []),(7,.int .i64 (s.length:Int)),(8,.int .i64 (j:Int))]) (fun _=>[]) ?_ 0 ⟨by omega,by simpa using hR⟩
  rintro j ⟨hj,hjR⟩
  refine W.seq (W.region ?_)
  by_cases hlt:j < s.length
  · rw [idxBad_get hlt] at hjR
    refine WO.as (v':=.bool true) rfl rfl (bdT (by omega)) (WO.nil (W.seq (W.cond (b:=true) rfl (fun _=>W.skip ?_) (fun h=>by cases h))))
    refine W.seq (W.block (W.seq (W.region ?_)))
    repeat refine WO.op rfl rfl ?_
    refine WO.nil (W.seq (W.region ?_))
    iterate 3 refine WO.op rfl rfl ?_
    refine WO.op (G.idx_isl hv.symm rfl tB rfl tb (by omega) (by omega)) rfl ?_
    refine WO.op (G.load_ip rfl tb rfl (toBytes_at (List.getElem?_eq_getElem hlt))) rfl ?_
    refine WO.call rfl (name1 s[j] _) rfl ?_
    refine WO.nil (W.cond rfl (fun hb=>?_) (fun hb=>?_))
    · rw [if_pos hb] at hjR
      refine W.seq (W.region ?_)
      refine WO.op rfl rfl ?_
      refine WO.op rfl rfl (WO.nil (W.ret ⟨trivial,_,rfl,?_⟩))
      rw [← hjR]
      exact Seals.same _ rfl
    · rw [if_neg (by rw [hb]; decide)] at hjR
      refine W.skip (W.region ?_)
      refine WO.as (v':=.int .i64 ((j + 1:Nat):Int)) rfl rfl (int_i64 (by omega) (by omega)) ?_
      exact WO.op rfl rfl (WO.nil ⟨j + 1,⟨by omega,hjR⟩,by omega,fits_fr ⟨rfl,rfl,rfl,rfl,trivial⟩,rfl⟩)
  · have hje:j=s.length:=by omega
    subst hje
    refine WO.as (v':=.bool false) rfl rfl (bdF (by omega)) (WO.nil (W.seq (W.cond (b:=false) rfl (fun h=>by cases h) (fun _=>W.exit ?_))))
    refine W.seq (W.region ?_)
    refine WO.op rfl rfl (WO.nil (W.ret ⟨trivial,_,rfl,?_⟩))
    rw [← hjR,List.drop_length]
    exact Seals.same _ rfl
theorem containsFunc_bad (s:List UInt8) (hs:s.length < 4611686018427387904) (H:Heap):Has 174 [.isl (toBytes s) 0 s.length none true,.fn 175 [] []] H (.bool (s.any fun b=>badB b.toNat)) H:=by
  refine does_pure s0 (show S0.fn 174=some Tryz.f174 by kernel_rfl) rfl (by kernel_rfl) (Nat.le_of_ble_eq_true rfl) rfl rfl ?_
  refine W.seq (W.region ?_)
  repeat refine WO.op rfl rfl ?_
  refine WO.nil (W.seq (W.region ?_))
  refine WO.op rfl rfl ?_
  refine WO.op rfl rfl ?_
  refine WO.call rfl (indexFunc_bad s hs _) rfl ?_
  refine WO.as (v':=.bool (s.any fun b=>badB b.toNat)) rfl rfl ?_ ?_
  · refine congrArg AVal.bool ?_
    rw [Bool.eq_iff_iff,decide_eq_true_eq]
    exact idxBad_any s 0
  exact WO.op rfl rfl (WO.nil (W.ret ⟨trivial,_,rfl,Seals.same _ rfl⟩))
theorem name_ok (s:List UInt8) (hs:s.length < 4611686018427387904) (H:Heap):Has 100 [.str s] H (.bool (nameOk s)) H:=by
  generalize hR:nameOk s=R
  refine does_pure s0 (show S0.fn 100=some Tryz.f100 by kernel_rfl) rfl (by kernel_rfl) (Nat.le_of_ble_eq_true rfl) rfl rfl ?_
  refine W.seq (W.region ?_)
  repeat refine WO.op rfl rfl ?_
  refine WO.nil (W.seq (W.region ?_))
  refine WO.op rfl rfl ?_
  refine WO.op (G.toBytes rfl rfl tB rfl tb rfl (by omega)) rfl ?_
  refine WO.call rfl (containsFunc_bad s hs _) rfl ?_
  unfold nameOk at hR
  generalize (s.any fun b=>badB b.toNat)=B at hR
  refine WO.op rfl rfl (WO.nil (W.seq (W.region ?_)))
  iterate 3 refine WO.op rfl rfl ?_
  cases B with
  | true =>
    iterate 3 refine WO.skip rfl ?_
    refine WO.op rfl rfl ?_
    refine WO.op rfl rfl ?_
    iterate 3 refine WO.skip rfl ?_
    refine WO.op rfl rfl ?_
    refine WO.op rfl rfl (WO.nil (W.ret ⟨trivial,_,rfl,?_⟩))
    rw [← hR]
    exact Seals.same _ rfl
  | false =>
    refine WO.op rfl rfl ?_
    refine WO.op (G.len_str rfl rfl rfl rfl rfl) rfl ?_
    refine WO.as (v':=.bool (decide (1≤s.length))) rfl rfl (bdE (by omega)) ?_
    refine WO.op rfl rfl ?_
    refine WO.op rfl rfl ?_
    by_cases h1:1≤s.length
    · rw [decide_eq_true h1] at hR ⊢
      refine WO.op rfl rfl ?_
      refine WO.op (G.len_str rfl rfl rfl rfl rfl) rfl ?_
      refine WO.as (v':=.bool (decide (s.length≤20))) rfl rfl (bdE (by omega)) ?_
      refine WO.op rfl rfl ?_
      refine WO.op rfl rfl (WO.nil (W.ret ⟨trivial,_,rfl,?_⟩))
      rw [← hR]
      exact Seals.same _ rfl
    · rw [decide_eq_false h1] at hR ⊢
      iterate 3 refine WO.skip rfl ?_
      refine WO.op rfl rfl ?_
      refine WO.op rfl rfl (WO.nil (W.ret ⟨trivial,_,rfl,?_⟩))
      rw [← hR]
      exact Seals.same _ rfl
end
end Go.AM.C
namespace Go.AM.C
open Go.Proofs
noncomputable section
abbrev iA (z:Int):AVal:=.int .i64 z
def imapA (l:List (List UInt8×Int)):AVal:=.imap (l.map fun e=>.str e.1) (l.map fun e=>iA e.2) true
def IsM (v:AVal) (l:List (List UInt8×Int)):Prop:=v=imapA l∨v=.nilm∧l=[]
theorem tM:S0.ty 143=some ti143:=rfl
theorem tS:S0.ty 9=some ti9:=rfl
theorem tI:S0.ty 2=some ti2:=rfl
theorem seen_get {l:List (List UInt8×Int)} {seen:List Nat} {j:Nat} {e:List UInt8×Int} (hnd:(l.map (·.1)).Nodup) (hj:l[j]?=some e) (hs:j ∉ seen) (hlt:∀ i∈seen,i < l.length):keyIdx e.1 (seen.filterMap fun j=>l[j]?)=none:=by
  rw [keyIdx_none]
  intro hm
  obtain ⟨e',he',hk⟩:=List.mem_map.1 hm
  obtain ⟨i,hi,hie⟩:=List.mem_filterMap.1 he'
  have hil:=hlt i hi
  have hjl:=(List.getElem?_eq_some_iff.1 hj).1
  have h1:(l.map (·.1))[i]?=some e.1:=by rw [List.getElem?_map,hie]; simp [hk]
  have h2:(l.map (·.1))[j]?=some e.1:=by rw [List.getElem?_map,hj]; rfl
  have:=(List.getElem?_inj (by simpa using hil) hnd).1 (h1.trans h2.symm)
  subst this
  exact hs hi
theorem copy_fresh (d:Nat) (H:Heap) (hd:H[d]?=some (.map [])) (src:AVal) (l:List (List UInt8×Int)) (hsrc:IsM src l) (hnd:(l.map (·.1)).Nodup) :
    DoesR Tryz.prog S0 154 [.map d,src] H (fun v H'=>v=.tup []∧∃ (es:List (List UInt8×Int)) (J:AObj),es.Perm l∧H'=H.set d (.map (entsF iA es)) ++ [J]):=by
  have hdl:d < H.length:=(List.getElem?_eq_some_iff.1 hd).1
  refine doesR_run s0 (show S0.fn 154=some Tryz.f154 by kernel_rfl) rfl (by kernel_rfl) (Nat.le_of_ble_eq_true rfl) ?_
  rcases hsrc with rfl | ⟨rfl,rfl⟩
  · refine W.seq (W.region ?_)
    refine WO.op rfl rfl ?_
    refine WO.range_imap rfl (show opdF S0 _ _=imapA l from rfl) tM rfl rfl fun ks' vs' hp hl=>WO.nil ?_
    rw [show (l.map fun e=>AVal.str e.1).zip (l.map fun e=>iA e.2)=l.map fun e=>(AVal.str e.1,iA e.2) from entsF_zip iA l] at hp
    obtain ⟨l',hpl,he⟩:=perm_map_inv (fun e:List UInt8×Int=>(AVal.str e.1,iA e.2)) hp l rfl
    have hks:ks'=l'.map fun e=>AVal.str e.1:=by
      have:=congrArg (List.map Prod.fst) he
      rw [List.map_fst_zip (by omega)] at this
      rw [this]; simp
    have hvs:vs'=l'.map fun e=>iA e.2:=by
      have:=congrArg (List.map Prod.snd) he
      rw [List.map_snd_zip (by omega)] at this
      rw [this]; simp
    subst hks; subst hvs
    clear he hp hl
    have hnd':(l'.map (·.1)).Nodup:=(hpl.map (·.1)).nodup_iff.2 hnd
    have hd0:H=H.set d (.map (entsF iA (([]:List Nat).filterMap fun j=>l'[j]?))):=(set_same hd).symm
    refine W.block ?_
    rw [List.length_map]
    refine W.fits (F':=fr [(0,.map d),(7,.ptr H.length 0)]) (fits_fr ⟨rfl,rfl,trivial⟩) ?_
    refine W.heq (H':=H.set d (.map (entsF iA (([]:List Nat).filterMap fun j=>l'[j]?))) ++ [.iiter (l'.map fun e=>AVal.str e.1) (l'.map fun e=>iA e.2) l'.length []]) (by rw [← hd0]) ?_
    refine W.loopI (α:=List Nat) (fun seen=>seen.Nodup∧∀ j∈seen,j < l'.length) (fun seen=>l'.length - seen.length) (fun _=>fr [(0,.map d),(7,.ptr H.length 0)])
      (fun seen=>H.set d (.map (entsF iA (seen.filterMap fun j=>l'[j]?))) ++ [.iiter (l'.map fun e=>AVal.str e.1) (l'.map fun e=>iA e.2) l'.length seen]) ?_ [] ⟨List.nodup_nil,fun j hj=>by simp at hj⟩
    rintro seen ⟨hsn,hsl⟩
    refine W.seq (W.region (WO.nextI rfl rfl (app_at (by simp)) rfl (fun hall=>?_) (fun j k v hk hv hjs=>?_)))
    · refine WO.op rfl rfl (WO.nil (W.seq (W.cond (b:=false) rfl (fun h=>by cases h) (fun _=>W.exit ⟨trivial,_,.tup [],rfl,Wk.refl _,rfl,_,_,?_,rfl⟩))))
      exact (perm_of_all hsn hsl (by simpa using hall)).trans hpl
    · have hjl:j < l'.length:=by simpa using (List.getElem?_eq_some_iff.1 hk).1
      obtain ⟨e,he⟩:∃ e,l'[j]?=some e:=⟨_,List.getElem?_eq_getElem hjl⟩
      rw [List.getElem?_map,he] at hk hv
      cases hk; cases hv
      rw [app_set (by simp)]
      refine WO.op rfl rfl (WO.nil (W.seq (W.cond (b:=true) rfl (fun _=>W.skip ?_) (fun h=>by cases h))))
      refine W.block (W.seq (W.region (WO.entryI rfl rfl (app_at (by simp)) (by rw [List.getElem?_map,he]; rfl) (by rw [List.getElem?_map,he]; rfl) rfl ?_)))
      iterate 3 refine WO.op rfl rfl ?_
      refine WO.op rfl rfl (WO.nil (W.region ?_))
      iterate 3 refine WO.op rfl rfl ?_
      have hdl2:d < (H.set d (.map (entsF iA (seen.filterMap fun j=>l'[j]?)))).length:=by simpa using hdl
      have hm:=mapUpdate_ents (S:=S0) (f:=iA) (k:=e.1) (v:=e.2) tM rfl tS rfl (d:=d) (H:=H.set d (.map (entsF iA (seen.filterMap fun j=>l'[j]?))) ++ [.iiter (l'.map fun e=>AVal.str e.1) (l'.map fun e=>iA e.2) l'.length (seen ++ [j])]) (l:=seen.filterMap fun j=>l'[j]?) (by
        rw [app_lt hdl2,List.getElem?_set_self hdl])
      refine WO.op (v:=undefA) (by show (match denMapUpdate S0 _ 143 (.map d) (.str e.1) (iA e.2) with | some H'=>some (undefA,H') | none=>none)=_; rw [hm]) rfl (WO.nil ⟨seen ++ [j],⟨?_,?_⟩,?_,fits_fr ⟨rfl,rfl,trivial⟩,?_⟩)
      · rw [List.nodup_append]
        exact ⟨hsn,by simp,fun a ha b hb=>by cases List.mem_singleton.1 hb; intro hab; subst hab; exact hjs ha⟩
      · intro i hi
        rcases List.mem_append.1 hi with hi | hi
        · exact hsl i hi
        · cases List.mem_singleton.1 hi; exact hjl
      · have h1:(seen ++ [j]).length≤l'.length:=by
          have h2:(seen ++ [j]).Nodup:=by
            rw [List.nodup_append]
            exact ⟨hsn,by simp,fun a ha b hb=>by cases List.mem_singleton.1 hb; intro hab; subst hab; exact hjs ha⟩
          refine nodup_le _ _ h2 fun i hi=>?_
          rcases List.mem_append.1 hi with hi | hi
          · exact hsl i hi
          · cases List.mem_singleton.1 hi; exact hjl
        simp only [List.length_append,List.length_singleton] at h1 ⊢
        omega
      · have e1:putE (seen.filterMap fun j=>l'[j]?) e.1 e.2=(seen ++ [j]).filterMap fun j=>l'[j]?:=by
          unfold putE
          rw [seen_get hnd' he hjs hsl]
          rw [List.filterMap_append]
          simp [he]
        rw [set_app hdl2,e1,List.set_set]
  · refine W.seq (W.region ?_)
    refine WO.op rfl rfl ?_
    refine WO.op (v:=.ptr H.length 0) (H1:=H ++ [.niter]) rfl rfl (WO.nil (W.block ?_))
    refine W.fits (F':=fr [(0,.map d),(7,.ptr H.length 0)]) (fits_fr ⟨rfl,rfl,trivial⟩) ?_
    refine W.loopI (α:=Unit) (fun _=>True) (fun _=>0) (fun _=>fr [(0,.map d),(7,.ptr H.length 0)]) (fun _=>H ++ [.niter]) ?_ () trivial
    rintro _ _
    refine W.seq (W.region (WO.next_nil rfl rfl (app_at rfl) rfl ?_))
    refine WO.op rfl rfl (WO.nil (W.seq (W.cond (b:=false) rfl (fun h=>by cases h) (fun _=>W.exit ⟨trivial,_,.tup [],rfl,Wk.refl _,rfl,[],.niter,List.Perm.refl _,?_⟩))))
    rw [show entsF iA []=[] from rfl,set_same hd]
end
end Go.AM.C
namespace Go.AM.C
open Go.Proofs
noncomputable section
def zOf:AVal→Option Int
  | .obj (.zp z)=>some z
  | .nilp=>some 0
  | _=>none
theorem zOf_is {v:AVal} {z:Int} (h:zOf v=some z):IsZ v z:=by
  unfold zOf at h
  split at h
  · cases h; exact .inl rfl
  · cases h; exact .inr ⟨rfl,rfl⟩
  · cases h
def smallB (z:Int):Bool:=Nat.blt z.natAbs.log2 68719476736
theorem smallB_fit {z:Int} (h:smallB z=true):FitZ z:=fit_of_log (by simpa [smallB,Nat.blt_eq] using h)
theorem smallB_of {z:Int} (h:z.natAbs < 2 ^ 200):smallB z=true:=by
  unfold smallB
  rw [Nat.blt_eq]
  by_cases h0:z.natAbs=0
  · rw [h0]; decide
  · have:=(Nat.log2_lt h0).2 h
    omega
def addX:Ext:=fun args H=>match args with
  | [u,v]=>match zOf u,zOf v with
    | some x,some y=>bif smallB x && smallB y then some (.obj (.zp (x + y)),H) else none
    | _,_=>none
  | _=>none
theorem addX_eq {u v:AVal} {x y:Int} (hu:zOf u=some x) (hv:zOf v=some y) (hx:smallB x=true) (hy:smallB y=true) (H:Heap):addX [u,v] H=some (.obj (.zp (x + y)),H):=by
  unfold addX
  simp only [hu,hv,hx,hy,Bool.and_self,cond_true]
theorem addX_ok (S:Sg) (hg:S.glob=S0.glob) (hp:S.pin=S0.pin):ExtAt Tryz.prog S 153 addX:=by
  intro args H v H' hx
  unfold addX at hx
  split at hx
  · split at hx
    · rename_i x y hu hv
      cases hb:smallB x && smallB y with
      | false=>rw [hb] at hx; cases hx
      | true =>
        rw [hb] at hx
        cases hx
        rw [Bool.and_eq_true] at hb
        exact DoesC.glob hg hp (addz (zOf_is hu) (zOf_is hv) (smallB_fit hb.1) (smallB_fit hb.2) H)
    · cases hx
  · cases hx
theorem addX_quiet:true=true→∀ args H v H',addX args H=some (v,H')→H'=H:=by
  intro _ args H v H' hx
  unfold addX at hx
  split at hx
  · split at hx
    · rename_i x y hu hv
      cases hb:smallB x && smallB y with
      | false=>rw [hb] at hx; cases hx
      | true=>rw [hb] at hx; cases hx; rfl
    · cases hx
  · cases hx
abbrev addE:Ent:=⟨153,addX,true,addX_quiet⟩
abbrev SA:Sg:=mk [addE]
theorem sA:Sound Tryz.prog SA:=mk_sound ⟨addX_ok _ rfl rfl,trivial⟩
def Ext.Keeps (H H':Heap):Prop:=∀ id,id < H.length→H'[id]?=H[id]?
structure SlP (H:Heap) (v:AVal) (l:Posts):Prop where
  len:∀ H',Ext.Keeps H H'→denLen H' S0 76 v=some (.int .i64 (l.length:Int))
  at_:∀ (j:Nat) (p:List UInt8×Int),l[j]?=some p→∃ a row off,elemAddr S0 76 v (j:Int)=some a∧(∀ H',Ext.Keeps H H'→rowAt H' a=some (row,off))∧row[off]?=some (.str p.1)∧row[off + 1]?=some (iA p.2)
section
variable {S:Sg} {call:Calling} {d:Bool} {g:Operand→AVal} {H:Heap} {x y:Operand} {t:TypeId} {ti:TI}
theorem take2 {l:List AVal} {off:Nat} {a b:AVal} (h1:l[off]?=some a) (h2:l[off + 1]?=some b):(l.drop off).take 2=[a,b]:=by
  have e1:=(List.getElem?_eq_some_iff.1 h1)
  have e2:=(List.getElem?_eq_some_iff.1 h2)
  rw [List.drop_eq_getElem_cons e1.1,List.drop_eq_getElem_cons e2.1,e1.2,e2.2]
  rfl
theorem G.load_agg2 {p:AVal} {row:List AVal} {off:Nat} {a b:AVal} (hx:g x=p) (ht:S.ty t=some ti) (hg:ti.agg=true) (hs:ti.size=2) (hr:rowAt H p=some (row,off)) (h1:row[off]?=some a) (h2:row[off + 1]?=some b):denG S call d g H (.load t x)=some (.agg [a,b],H):=by
  have hl:off + 2≤row.length:=by have:=(List.getElem?_eq_some_iff.1 h2).1; omega
  simp only [denG,ht,hx,hr,getVar,hg,hs,if_true,if_pos hl,take2 h1 h2]
  rfl
theorem G.store_last {B:Heap} {vs cs:List AVal} {ty:TypeId} {id:Nat} (hH:H=B ++ [.cells vs ty]) (hi:id=B.length) (hx:g x=.ptr id 0) (hy:g y=.agg cs) (ht:S.ty t=some ti) (hs:ti.size=cs.length) (hl:vs.length=cs.length) (hc:cs.all AVal.cell=true) :
    denG S call d g H (.store t x y)=some (undefA,B ++ [.cells cs ty]):=by
  subst hH; subst hi
  have hco:cellsOf (.agg cs)=some cs:=rfl
  simp only [denG,ht,hx,hy,hco,app_at rfl]
  rw [if_pos ⟨hs.symm,by omega,hc⟩,app_set rfl]
  have:setRange vs 0 cs=cs:=by
    unfold setRange
    rw [List.take_zero,List.nil_append,List.drop_eq_nil_of_le (by omega),List.append_nil]
  rw [this]
theorem G.range_map {id:Nat} {es:List (AVal×AVal)} {kt et:TypeId} (hx:g x=.map id) (ht:S.ty t=some ti) (hd:ti.desc=.map kt et) (hH:H[id]?=some (.map es)):denG S call d g H (.range t x)=some (.ptr H.length 0,H ++ [.miter id es.length []]):=by
  obtain ⟨d1,d2,d3,d4,d5,d6,d7,d8⟩:=ti
  simp only at hd
  subst hd
  simp only [denG,denRange,ht,hx,hH]
end
def zO:Option Int→AVal
  | some z=>.obj (.zp z)
  | none=>.nilp
theorem zO_of (o:Option Int):zOf (zO o)=some (o.getD 0):=by cases o <;> rfl
theorem zO_is (o:Option Int):IsZ (zO o) (o.getD 0):=zOf_is (zO_of o)
def boxP (p:List UInt8×Int):AObj:=.cells [.str p.1,iA p.2] 70
def bkH (undo:Bool) (H:Heap) (l:Posts):Heap:=H ++ .map (entsF zO (sumsOf undo l)) :: l.map boxP
theorem bk_at (undo:Bool) (H:Heap) (l:Posts):(bkH undo H l)[H.length]?=some (.map (entsF zO (sumsOf undo l))):=by simp [bkH]
theorem bk_lt (undo:Bool) (H:Heap) (l:Posts):Ext.Keeps H (bkH undo H l):=fun id h=>List.getElem?_append_left h
theorem bk_len (undo:Bool) (H:Heap) (l:Posts):(bkH undo H l).length=H.length + 1 + l.length:=by simp [bkH]; omega
theorem bk_step (undo:Bool) (H:Heap) (l:Posts) (p:List UInt8×Int):(bkH undo H l ++ [boxP p]).set H.length (.map (entsF zO (sumStep undo (sumsOf undo l) p)))=bkH undo H (l ++ [p]):=by
  unfold bkH sumsOf
  rw [List.append_assoc,List.set_append,if_neg (by omega),Nat.sub_self,List.foldl_append]
  simp
theorem Keeps.trans {H H1 H2:Heap} (h:Ext.Keeps H H1) (k:Ext.Keeps H1 H2) (hl:H.length≤H1.length):Ext.Keeps H H2:=fun id hi=>(k id (by omega)).trans (h id hi)
theorem Keeps.app (H X:Heap):Ext.Keeps H (H ++ X):=fun id h=>List.getElem?_append_left h
theorem bookE_append (l:Posts) (s:Sums) (e:List UInt8×Option Int):bookE l (s ++ [e])=putE (bookE l s) e.1 (look 0 (bookE l s) e.1 + e.2.getD 0):=by
  unfold bookE; rw [List.foldl_append]; rfl
theorem bookE_nodup:∀ (s:Sums) (l:Posts),(l.map (·.1)).Nodup→((bookE l s).map (·.1)).Nodup
  | [],l,h=>h
  | e :: s,l,h=>bookE_nodup s _ (put_nodup h)
theorem bookE_get:∀ (s:Sums) (l:Posts) (k:List UInt8),(s.map (·.1)).Nodup→getE (bookE l s) k=match getE s k with
    | some v=>some (look 0 l k + v.getD 0)
    | none=>getE l k
  | [],l,k,_=>rfl
  | e :: s,l,k,h=>by
    rw [List.map_cons,List.nodup_cons] at h
    show getE (bookE (putE l e.1 (look 0 l e.1 + e.2.getD 0)) s) k=_
    rw [bookE_get s _ k h.2]
    by_cases hk:k=e.1
    · subst hk
      have hn:getE s e.1=none:=getE_none.2 h.1
      have he:getE (e :: s) e.1=some e.2:=by
        obtain ⟨a,b⟩:=e
        simp [getE,keyIdx]
      rw [hn,he]
      exact getE_put_self
    · have he:getE (e :: s) k=getE s k:=by
        obtain ⟨a,b⟩:=e
        have hk':¬ k=a:=hk
        unfold getE
        simp only [keyIdx,hk',if_false]
        cases keyIdx k s <;> simp
      rw [he]
      cases getE s k with
      | none=>exact getE_put_ne hk
      | some v=>simp only; unfold look; rw [getE_put_ne hk]
theorem bookE_perm {l l':Posts} {s s':Sums} (hl:l'.Perm l) (hs:s'.Perm s) (nl:(l.map (·.1)).Nodup) (ns:(s.map (·.1)).Nodup):(bookE l' s').Perm (bookE l s):=by
  have nl':(l'.map (·.1)).Nodup:=(hl.map (·.1)).nodup_iff.2 nl
  have ns':(s'.map (·.1)).Nodup:=(hs.map (·.1)).nodup_iff.2 ns
  refine perm_of_getE (bookE_nodup _ _ nl') (bookE_nodup _ _ nl) fun k=>?_
  rw [bookE_get _ _ _ ns',bookE_get _ _ _ ns,perm_getE hs ns' k,perm_getE hl nl' k]
  unfold look
  rw [perm_getE hl nl' k]
theorem Wk.imapA {l l':List (List UInt8×Int)} (h:l.Perm l'):Wk (imapA l) (imapA l'):=by
  intro c w v hv
  unfold C.imapA at hv ⊢
  cases hv with
  | imap _ _ _ ks' vs' b mes clk k1 k2 k3 k4 k5 k6 k7 k8 k9 =>
    refine .imap _ _ _ ks' vs' b mes clk k1 k2 k3 k4 k5 k6 (k7.trans ?_) k8 k9
    · rw [show (l.map fun e=>AVal.str e.1).zip (l.map fun e=>iA e.2)=l.map fun e=>(AVal.str e.1,iA e.2) from entsF_zip iA l,show (l'.map fun e=>AVal.str e.1).zip (l'.map fun e=>iA e.2)=l'.map fun e=>(AVal.str e.1,iA e.2) from entsF_zip iA l']
      exact h.map _
theorem seals_map {N:Nat} {H:Heap} {id:Nat} {l l':List (List UInt8×Int)} (hN:N≤id) (hH:H[id]?=some (.map (entsF iA l))) (h:l.Perm l'):SealsN N H (.map id) (imapA l'):=by
  refine SealsN.wk' _ (imapA l) _ ?_ (Wk.imapA h)
  have:=SealsN.map (N:=N) id _ hN hH (fun e he=>by
    obtain ⟨a,_,rfl⟩:=List.mem_map.1 he
    exact ⟨rfl,rfl⟩)
  simpa [entsF,imapA,Function.comp_def] using this
end
end Go.AM.C
namespace Go.AM.C
open Go.Proofs
noncomputable section
def allSmall (undo:Bool) (m l:Posts):Bool:=(sumsOf undo l).all fun e=>small64 (look 0 m e.1 + e.2.getD 0)
def bookCode (undo:Bool) (m l:Posts):Nat :=
  if (l.all fun p=>nameOk p.1)=true then (if total undo l=0 then (if allSmall undo m l=true then 0 else 11) else 2) else 1
def i64 (z:Int):Prop:=-9223372036854775808≤z∧z < 9223372036854775808
theorem look_bound {m:Posts} (h:∀ e∈m,i64 e.2) (k:List UInt8):i64 (look 0 m k):=by
  unfold look
  cases hg:getE m k with
  | none=>exact ⟨by decide,by decide⟩
  | some v=>exact h _ (mem_of_getE hg)
theorem small_of_nat {z:Int} {n:Nat} (h:z.natAbs≤n * 9223372036854775808) (hn:n < 4611686018427387904):z.natAbs < 2 ^ 200:=by
  have:n * 9223372036854775808≤4611686018427387904 * 9223372036854775808:=Nat.mul_le_mul_right _ (by omega)
  omega
theorem names_head {l:Posts} {k:Nat} {p:List UInt8×Int} (h:l[k]?=some p) (hb:nameOk p.1=false):(l.all fun p=>nameOk p.1)=false:=by
  rw [Bool.eq_false_iff]
  intro h2
  have:=List.all_eq_true.1 h2 p (List.mem_of_getElem? h)
  rw [hb] at this
  cases this
theorem sg_i64 {undo:Bool} {a:Int} (h:i64 a):(sg undo a).natAbs < 2 ^ 200:=by
  unfold i64 at h
  unfold sg
  cases undo <;> simp only [cond_true,cond_false] <;> omega
theorem addA {u v:AVal} {x y:Int} (hu:zOf u=some x) (hv:zOf v=some y) (hx:smallB x=true) (hy:smallB y=true) (H:Heap):callS SA 153 [u,v] H=some (.obj (.zp (x + y)),H) :=
  (show callS SA 153 [u,v] H=addX [u,v] H from rfl).trans (addX_eq hu hv hx hy H)
theorem seen_get' {α:Type} {l:List (List UInt8×α)} {seen:List Nat} {j:Nat} {e:List UInt8×α} (hnd:(l.map (·.1)).Nodup) (hj:l[j]?=some e) (hs:j ∉ seen) (hlt:∀ i∈seen,i < l.length):getE (seen.filterMap fun j=>l[j]?) e.1=none:=by
  rw [getE_none]
  intro hm
  obtain ⟨e',he',hk⟩:=List.mem_map.1 hm
  obtain ⟨i,hi,hie⟩:=List.mem_filterMap.1 he'
  have hil:=hlt i hi
  have h1:(l.map (·.1))[i]?=some e.1:=by rw [List.getElem?_map,hie]; simp [hk]
  have h2:(l.map (·.1))[j]?=some e.1:=by rw [List.getElem?_map,hj]; rfl
  have:=(List.getElem?_inj (by simpa using hil) hnd).1 (h1.trans h2.symm)
  subst this
  exact hs hi
theorem sel_nodup {α:Type} {l:List (List UInt8×α)} (hnd:(l.map (·.1)).Nodup):∀ {seen:List Nat},seen.Nodup→(∀ j∈seen,j < l.length)→((seen.filterMap fun j=>l[j]?).map (·.1)).Nodup
  | [],_,_=>List.nodup_nil
  | j :: seen,hs,hlt=>by
    rw [List.nodup_cons] at hs
    obtain ⟨e,he⟩:∃ e,l[j]?=some e:=⟨_,List.getElem?_eq_getElem (hlt j (by simp))⟩
    rw [List.filterMap_cons_some he,List.map_cons,List.nodup_cons]
    exact ⟨getE_none.1 (seen_get' hnd he hs.1 fun i hi=>hlt i (by simp [hi])),sel_nodup hnd hs.2 fun i hi=>hlt i (by simp [hi])⟩
theorem tInt:S0.ty 3=some ti3:=rfl
theorem tP:S0.ty 76=some ti76:=rfl
theorem tp:S0.ty 70=some ti70:=rfl
theorem tN:S0.ty 219=some ti219:=rfl
theorem tz:S0.ty 94=some ti94:=rfl
set_option maxRecDepth 100000 in
theorem books (undo:Bool) (m l:Posts) (src ps:AVal) (H:Heap) (L off:Nat) (vs0:List AVal) (ty0:TypeId) (cnt:Int) (hL:H[L]?=some (.cells vs0 ty0)) (hm:vs0[off]?=some src) (hsrc:IsM src m) (hn:vs0[off + 1]?=some (iA cnt))
    (hnd:(m.map (·.1)).Nodup) (hmb:∀ e∈m,i64 e.2) (hcnt:i64 cnt∧i64 (cnt + 1)) (hps:SlP H ps l) (hlb:∀ p∈l,i64 p.2∧p.1.length < 4611686018427387904) (hll:l.length < 4611686018427387904) :
    Has 93 [.ptr L off,ps,.bool undo] H (errA (bookCode undo m l)) (H.set L (.cells (if bookCode undo m l=0 then (vs0.set off (imapA (bookE m (sumsOf undo l)))).set (off + 1) (iA (cnt + 1)) else vs0) ty0)):=by
  have hLlt:L < H.length:=(List.getElem?_eq_some_iff.1 hL).1
  refine Has.of (l:=[addE]) ?_
  generalize hC:bookCode undo m l=C
  refine does_mut sA (show SA.fn 93=some Tryz.f93 by kernel_rfl) rfl (by kernel_rfl) (Nat.le_of_ble_eq_true rfl) (L:=L) (offL:=off) (by simp) hL (errA_closed C) ?_
  have out:∀ (k:Nat) (F':Fr) (H1:Heap),k=C→k≠0→resF SA [.tmp 6] F' H1=some (errA k)→Ext.Keeps H H1→ends Ex.ret∧∃ u vs1 ty1,resF SA [.tmp 6] F' H1=some u∧SealsN H.length H1 u (errA C)∧H1[L]?=some (.cells vs1 ty1) ∧
      (if C=0 then (vs0.set off (imapA (bookE m (sumsOf undo l)))).set (off + 1) (iA (cnt + 1)) else vs0).length=vs1.length ∧
      (∀ (j:Nat) (a b:AVal),vs1[j]?=some a→(if C=0 then (vs0.set off (imapA (bookE m (sumsOf undo l)))).set (off + 1) (iA (cnt + 1)) else vs0)[j]?=some b→(a=b∧vs0[j]?=some a)∨(SealsN H.length H1 a b∧b.closed=true))∧(∀ id,id < H.length→id≠L→H1[id]?=H[id]?):=by
    intro k F' H1 hk h0 hr hK
    subst hk
    refine ⟨trivial,_,vs0,ty0,hr,SealsN.same _ (errA_closed k),(hK L hLlt).trans hL,by rw [if_neg h0],fun j a b ha hb=>?_,fun id hid _=>hK id hid⟩
    rw [if_neg h0] at hb
    exact .inl ⟨Option.some.inj (ha.symm.trans hb),ha⟩
  refine W.seq (W.region ?_)
  refine WO.op rfl rfl (WO.nil (W.seq (W.seq (W.region ?_))))
  refine WO.op rfl rfl ?_
  refine WO.op rfl rfl (WO.nil (W.cond (b:=false) rfl (fun h=>by cases h) (fun _=>W.skip (W.seq (W.region ?_)))))
  refine WO.call rfl (ofz 0 (by decide) _).at rfl ?_
  refine WO.op rfl rfl ?_
  refine WO.op rfl rfl ?_
  refine WO.op rfl rfl (WO.nil (W.seq (W.seq (W.region ?_))))
  refine WO.op rfl rfl ?_
  refine WO.op (v:=.int .i64 (l.length:Int)) (H1:=H ++ [.map []]) (by
    show withH _ (denLen _ S0 _ ps)=_
    rw [hps.len _ (Keeps.app H _)]; rfl) rfl ?_
  refine WO.op rfl rfl (WO.nil (W.block ?_))
  refine W.heq (H':=bkH undo H (l.take 0)) (by simp [bkH,sumsOf,entsF]) ?_
  refine W.fits (F':=fr [(0,.ptr L off),(1,ps),(2,.bool undo),(22,ps),(23,.int .i64 (l.length:Int)),(24,iA ((0:Nat):Int)),(7,.obj (.zp (total undo (l.take 0)))),(8,.map H.length)]) (fits_fr ⟨rfl,rfl,rfl,rfl,rfl,rfl,rfl,rfl,trivial⟩) ?_
  refine W.loopI (fun j:Nat=>j≤l.length∧((l.take j).all fun p=>nameOk p.1)=true) (fun j=>l.length - j) (fun j=>fr [(0,.ptr L off),(1,ps),(2,.bool undo),(22,ps),(23,.int .i64 (l.length:Int)),(24,iA (j:Int)),(7,.obj (.zp (total undo (l.take j)))),(8,.map H.length)]) (fun j=>bkH undo H (l.take j)) ?_ 0 ⟨Nat.zero_le _,rfl⟩
  rintro j ⟨hj,hnames⟩
  refine W.seq (W.region ?_)
  by_cases hlt:j < l.length
  · obtain ⟨p,hp⟩:∃ p,l[j]?=some p:=⟨_,List.getElem?_eq_getElem hlt⟩
    obtain ⟨hpb,hpl⟩:=hlb p (List.mem_of_getElem? hp)
    obtain ⟨a,row,offr,ha1,ha2,ha3,ha4⟩:=hps.at_ j p hp
    refine WO.as (v':=.bool true) rfl rfl (bdT (by omega)) (WO.nil (W.seq (W.cond (b:=true) rfl (fun _=>W.skip ?_) (fun h=>by cases h))))
    have hblen:=bk_len undo H (l.take j)
    have hbk:=bk_lt undo H (l.take j)
    have hbat:=bk_at undo H (l.take j)
    have hsteq:=bk_step undo H (l.take j) p
    have htk:l.take j ++ [p]=l.take (j + 1):=by rw [List.take_add_one,hp]; rfl
    have htot:total undo (l.take (j + 1))=total undo (l.take j) + sg undo p.2:=foldl_take (fun (s:Int) (p:List UInt8×Int)=>s + sg undo p.2) 0 hp
    have hsb:=sums_bound undo (l.take j) (fun p hp=>(hlb p (List.mem_of_mem_take hp)).1)
    have htb:=total_bound undo (l.take j) (fun p hp=>(hlb p (List.mem_of_mem_take hp)).1)
    have hjl:(l.take j).length=j:=by simp; omega
    rw [hjl] at hsb htb
    rw [htk] at hsteq
    generalize hB:bkH undo H (l.take j)=B at hblen hbk hbat hsteq
    generalize total undo (l.take j)=tot at htot htb
    generalize sumsOf undo (l.take j)=sums at hbat hsteq hsb
    refine W.seq (W.block (W.seq (W.region ?_)))
    refine WO.op (v:=a) (H1:=B) (by
      show withH _ (elemAddr SA _ ps (j:Int))=_
      exact congrArg (withH B) ha1) rfl ?_
    refine WO.op (G.load_agg2 rfl tp rfl rfl (ha2 B hbk) ha3 ha4) rfl ?_
    refine WO.op (v:=.ptr B.length 0) (H1:=B ++ [.cells [.str [],iA 0] 70]) rfl rfl ?_
    refine WO.op (G.store_last (B:=B) rfl rfl rfl rfl tp rfl rfl rfl) rfl ?_
    refine WO.nil (W.seq (W.seq (W.region ?_)))
    refine WO.op rfl rfl ?_
    refine WO.op (G.load_ptr rfl tS rfl (app_at rfl) rfl) rfl ?_
    refine WO.call rfl (name_ok p.1 hpl _).at rfl ?_
    refine WO.op rfl rfl (WO.nil (W.cond rfl (fun hb=>?_) (fun hb=>?_)))
    · -- a name that is none
      have hbad:nameOk p.1=false:=by simpa using hb
      refine W.seq (W.region ?_)
      refine WO.call rfl (faultOf 1 (by decide) _).at rfl ?_
      refine WO.op rfl rfl (WO.nil (W.ret (out 1 _ _ ?_ (by decide) rfl (Keeps.trans hbk (Keeps.app _ _) (by omega)))))
      rw [← hC]
      unfold bookCode
      rw [if_neg (by rw [names_head hp hbad]; decide)]
    · have hok:nameOk p.1=true:=by simpa using hb
      refine W.skip (W.seq (W.region ?_))
      refine WO.op rfl rfl ?_
      refine WO.op (G.load_ptr rfl tI rfl (app_at rfl) rfl) rfl ?_
      refine WO.call rfl (ofz p.2 hpb _).at rfl ?_
      refine WO.op rfl rfl (WO.nil ?_)
      refine W.mid (H1:=B ++ [boxP p]) [(0,.ptr L off),(1,ps),(2,.bool undo),(22,ps),(23,.int .i64 (l.length:Int)),(24,iA (j:Int)),(7,.obj (.zp tot)),(8,.map H.length),(10,.ptr B.length 0),(11,.obj (.zp (sg undo p.2)))] (W.seq (W.region ?_)) ?_
      · refine WO.op rfl rfl (WO.nil (W.cond rfl (fun hu=>?_) (fun hu=>?_)))
        · subst hu
          refine W.region ?_
          refine WO.op rfl rfl ?_
          refine WO.call rfl (negz (IsZ.mk _) _).at rfl ?_
          exact WO.op rfl rfl (WO.nil ⟨rfl,⟨rfl,rfl,rfl,rfl,rfl,rfl,rfl,rfl,rfl,rfl,trivial⟩,rfl⟩)
        · subst hu
          exact W.skip ⟨rfl,⟨rfl,rfl,rfl,rfl,rfl,rfl,rfl,rfl,rfl,rfl,trivial⟩,rfl⟩
      have st:smallB tot=true:=smallB_of (small_of_nat htb (by omega))
      have sp:smallB (sg undo p.2)=true:=smallB_of (sg_i64 hpb)
      have sl:smallB ((look none sums p.1).getD 0)=true:=by
        unfold look
        cases hg:getE sums p.1 with
        | none=>rfl
        | some o =>
          obtain ⟨z,hz,hzb⟩:=hsb _ (mem_of_getE hg)
          simp only at hz
          subst hz
          exact smallB_of (small_of_nat hzb (by omega))
      have hat2:(B ++ [boxP p])[H.length]?=some (.map (entsF zO sums)):=by rw [app_lt (by omega)]; exact hbat
      have hdl:H.length < (B ++ [boxP p]).length:=by simp; omega
      refine W.draw0 rfl (by kernel_rfl) ?_
      refine WT.op rfl rfl rfl ?_
      refine WT.op rfl rfl rfl ?_
      refine WT.op (G.load_ptr rfl tS rfl (app_at rfl) rfl) rfl rfl ?_
      refine WT.op rfl rfl rfl ?_
      refine WT.op rfl rfl rfl ?_
      refine WT.op (v:=.obj (.zp (tot + sg undo p.2))) (H1:=B ++ [boxP p]) ((denG_call (f:=153) (args:=[.obj (.zp tot),.obj (.zp (sg undo p.2))]) rfl).trans (addA (u:=.obj (.zp tot)) (v:=.obj (.zp (sg undo p.2))) rfl rfl st sp _)) rfl rfl ?_
      refine WT.op rfl rfl rfl ?_
      refine WT.op rfl rfl rfl ?_
      refine WT.op (G.load_ptr rfl tS rfl (app_at rfl) rfl) rfl rfl ?_
      refine WT.op (v:=zO (look none sums p.1)) (H1:=B ++ [boxP p]) (congrArg (withH _) (lookup_ents (f:=zO) (z:=none) tN rfl tS rfl tz rfl hat2)) rfl rfl ?_
      refine WT.op rfl rfl rfl ?_
      refine WT.op (v:=.obj (.zp ((look none sums p.1).getD 0 + sg undo p.2))) (H1:=B ++ [boxP p]) ((denG_call (f:=153) (args:=[zO (look none sums p.1),.obj (.zp (sg undo p.2))]) rfl).trans (addA (v:=.obj (.zp (sg undo p.2))) (zO_of _) rfl sl sp _)) rfl rfl ?_
      refine WT.op rfl rfl rfl ?_
      have hme:=mapEntry_ents (f:=zO) (z:=none) (S:=SA) (k:=p.1) tN rfl tS rfl tz rfl hat2
      have fin:∀ (F':Fr) (H':Heap),F'=F'→True:=fun _ _ _=>trivial
      cases hq:keyIdx p.1 sums with
      | some i =>
        rw [hq] at hme
        simp only at hme
        have hge:(putE sums p.1 ((getE sums p.1).getD none))[i]?=some (p.1,(getE sums p.1).getD none):=by
          obtain ⟨e,he,_⟩:=keyIdx_some hq
          unfold putE
          rw [hq]
          exact List.getElem?_set_self (List.getElem?_eq_some_iff.1 he).1
        have hse:=entryStore_ents (f:=zO) (k:=.i64) (v:=some ((look none sums p.1).getD 0 + sg undo p.2)) (List.getElem?_set_self hdl) hge
        simp only [put_found hq,List.set_set] at hse
        refine WT.op hme rfl rfl ?_
        refine WT.op rfl rfl rfl ?_
        refine WT.op (v:=undefA) (by
          show (match denEntryStore _ (.map H.length) (iA (i:Int)) (.obj (.zp ((look none sums p.1).getD 0 + sg undo p.2))) with | some H'=>some (undefA,H') | none=>none)=_
          exact congrArg (fun r=>match r with | some H'=>some (undefA,H') | none=>none) hse) rfl rfl (WT.nil (W.region ?_))
        refine WO.as (v':=.int .i64 ((j + 1:Nat):Int)) rfl rfl (int_i64 (by omega) (by omega)) ?_
        refine WO.op rfl rfl (WO.nil ⟨j + 1,⟨by omega,?_⟩,by omega,fits_fr ⟨rfl,rfl,rfl,rfl,rfl,rfl,?_,rfl,trivial⟩,hsteq⟩)
        · rw [← htk,List.all_append,hnames]; simp [hok]
        · rw [htot]; rfl
      | none =>
        rw [hq] at hme
        simp only at hme
        have hge:(sums ++ [(p.1,(none:Option Int))])[sums.length]?=some (p.1,none):=by simp
        have hse:=entryStore_ents (f:=zO) (k:=.i64) (v:=some ((look none sums p.1).getD 0 + sg undo p.2)) (List.getElem?_set_self hdl) hge
        simp only [put_new hq,List.set_set] at hse
        refine WT.op hme rfl rfl ?_
        refine WT.op rfl rfl rfl ?_
        refine WT.op (v:=undefA) (by
          show (match denEntryStore _ (.map H.length) (iA (sums.length:Int)) (.obj (.zp ((look none sums p.1).getD 0 + sg undo p.2))) with | some H'=>some (undefA,H') | none=>none)=_
          exact congrArg (fun r=>match r with | some H'=>some (undefA,H') | none=>none) hse) rfl rfl (WT.nil (W.region ?_))
        refine WO.as (v':=.int .i64 ((j + 1:Nat):Int)) rfl rfl (int_i64 (by omega) (by omega)) ?_
        refine WO.op rfl rfl (WO.nil ⟨j + 1,⟨by omega,?_⟩,by omega,fits_fr ⟨rfl,rfl,rfl,rfl,rfl,rfl,?_,rfl,trivial⟩,hsteq⟩)
        · rw [← htk,List.all_append,hnames]; simp [hok]
        · rw [htot]; rfl
  · -- all are told
    have hje:j=l.length:=by omega
    subst hje
    rw [List.take_length] at hnames ⊢
    have hblen:=bk_len undo H l
    have hbk:=bk_lt undo H l
    have hbat:=bk_at undo H l
    have hsb:=sums_bound undo l (fun p hp=>(hlb p hp).1)
    have hsn:=sums_nodup undo l
    generalize hB:bkH undo H l=B at hblen hbk hbat
    have hkB:∀ X,Ext.Keeps H (B ++ X):=fun X=>Keeps.trans hbk (Keeps.app _ _) (by omega)
    refine WO.as (v':=.bool false) rfl rfl (bdF (by omega)) (WO.nil (W.seq (W.cond (b:=false) rfl (fun h=>by cases h) (fun _=>W.exit ?_))))
    refine W.seq (W.seq (W.region ?_))
    refine WO.op rfl rfl ?_
    refine WO.call rfl (signz (IsZ.mk (total undo l)) _).at rfl ?_
    by_cases hto:¬ total undo l=0
    · refine WO.as (v':=.bool true) rfl rfl (bnF (by
        intro h
        rcases Int.lt_trichotomy (total undo l) 0 with h1 | h1 | h1
        · rw [Int.sign_eq_neg_one_of_neg h1] at h; cases h
        · exact hto h1
        · rw [Int.sign_eq_one_of_pos h1] at h; cases h)) (WO.nil (W.cond (b:=true) rfl (fun _=>?_) (fun h=>by cases h)))
      refine W.seq (W.region ?_)
      refine WO.call rfl (faultOf 2 (by decide) _).at rfl ?_
      refine WO.op rfl rfl (WO.nil (W.ret (out 2 _ _ ?_ (by decide) rfl hbk)))
      rw [← hC]
      unfold bookCode
      rw [if_pos hnames,if_neg hto]
    have htot:total undo l=0:=Decidable.not_not.1 hto
    refine WO.as (v':=.bool false) rfl rfl (bnT (by rw [htot]; rfl)) (WO.nil (W.cond (b:=false) rfl (fun h=>by cases h) (fun _=>W.skip ?_)))
    refine W.seq (W.region ?_)
    refine WO.op rfl rfl ?_
    refine WO.op rfl rfl (WO.nil (W.seq (W.region ?_)))
    have hLB:∀ X,(B ++ X)[L]?=some (.cells vs0 ty0):=fun X=>(hkB X L hLlt).trans hL
    iterate 4 refine WO.op rfl rfl ?_
    refine WO.op (G.load_ptr rfl tM rfl (hLB _) hm) rfl ?_
    refine WO.callR rfl (DoesR.glob rfl rfl (copy_fresh B.length _ (app_at rfl) src m hsrc hnd)) rfl fun v H1 hR=>?_
    obtain ⟨rfl,es,J,hpe,rfl⟩:=hR
    rw [app_set rfl]
    refine WO.nil (W.seq (W.seq (W.region ?_)))
    generalize hsums:sumsOf undo l=sums at hbat hsb hsn
    rw [hsums] at out
    have hHl:H.length < B.length:=by omega
    have hmat:∀ X,(B ++ X)[H.length]?=some (.map (entsF zO sums)):=fun X=>by rw [List.getElem?_append_left hHl]; exact hbat
    have hcodeA:allSmall undo m l=sums.all fun e=>small64 (look 0 m e.1 + e.2.getD 0):=by rw [← hsums]; rfl
    refine WO.op rfl rfl ?_
    refine WO.op (G.range_map (id:=H.length) (es:=entsF zO sums) rfl tN rfl (by rw [List.append_assoc]; exact hmat _)) rfl (WO.nil (W.block ?_))
    have hK:(B ++ [AObj.map (entsF iA es)] ++ [J]).length=B.length + 2:=by simp
    generalize (B ++ [AObj.map (entsF iA es)] ++ [J]).length=K at hK
    refine W.fits (F':=fr [(0,.ptr L off),(12,.map B.length),(66,.ptr K 0)]) (fits_fr ⟨rfl,rfl,rfl,trivial⟩) ?_
    refine W.heq (H':=B ++ [.map (entsF iA (bookE es (([]:List Nat).filterMap fun j=>sums[j]?))),J] ++ [.miter H.length (entsF zO sums).length []]) (by simp [bookE]) ?_
    refine W.loopI (α:=List Nat) (fun seen=>seen.Nodup∧(∀ j∈seen,j < sums.length)∧∀ j∈seen,∀ e,sums[j]?=some e→small64 (look 0 m e.1 + e.2.getD 0)=true) (fun seen=>sums.length - seen.length) (fun _=>fr [(0,.ptr L off),(12,.map B.length),(66,.ptr K 0)])
      (fun seen=>B ++ [.map (entsF iA (bookE es (seen.filterMap fun j=>sums[j]?))),J] ++ [.miter H.length (entsF zO sums).length seen]) ?_ [] ⟨List.nodup_nil,fun j hj=>by simp at hj,fun j hj=>by simp at hj⟩
    rintro seen ⟨hsd,hsl,hss⟩
    have hnd':(es.map (·.1)).Nodup:=(hpe.map (·.1)).nodup_iff.2 hnd
    have hsel:=sel_nodup hsn hsd hsl
    refine W.seq (W.region (WO.next (mid:=H.length) (es:=entsF zO sums) rfl rfl (app_at (by simp; omega)) (by rw [List.append_assoc]; exact hmat _) rfl rfl (fun hall=>?_) (fun j e he hjs=>?_)))
    · -- done
      rw [entsF_len] at hall
      have hperm:=perm_of_all hsd hsl hall
      have hfin:(bookE es (seen.filterMap fun j=>sums[j]?)).Perm (bookE m sums):=bookE_perm hpe hperm hnd hsn
      have hC0:C=0:=by
        rw [← hC]
        unfold bookCode
        rw [if_pos hnames,if_pos htot,hcodeA,if_pos]
        rw [List.all_eq_true]
        intro e he
        obtain ⟨j,hj,hje⟩:=List.getElem_of_mem he
        exact hss j (hall j hj) e (by rw [List.getElem?_eq_getElem hj,hje])
      subst hC0
      rw [if_pos rfl]
      have hoff:off + 1 < vs0.length:=(List.getElem?_eq_some_iff.1 hn).1
      generalize bookE es (seen.filterMap fun j=>sums[j]?)=res at hfin
      generalize AObj.miter H.length (entsF zO sums).length seen=I
      have hcur:(B ++ [.map (entsF iA res),J] ++ [I])[L]?=some (.cells vs0 ty0):=by rw [List.append_assoc]; exact hLB _
      have hmapat:(B ++ [.map (entsF iA res),J] ++ [I])[B.length]?=some (.map (entsF iA res)):=by simp
      have hkeep:∀ id,id < H.length→(B ++ [.map (entsF iA res),J] ++ [I])[id]?=H[id]?:=fun id hid=>by rw [List.append_assoc]; exact hkB _ id hid
      have hlen:L < (B ++ [.map (entsF iA res),J] ++ [I]).length:=(List.getElem?_eq_some_iff.1 hcur).1
      generalize B ++ [.map (entsF iA res),J] ++ [I]=HH at hcur hmapat hkeep hlen
      refine WO.op rfl rfl (WO.nil (W.seq (W.cond (b:=false) rfl (fun h=>by cases h) (fun _=>W.exit (W.seq (W.region ?_))))))
      iterate 6 refine WO.op rfl rfl ?_
      refine WO.op (G.load_ptr rfl tInt rfl hcur hn) rfl ?_
      refine WO.as (v':=iA (cnt + 1)) rfl rfl (int_i64 ⟨hcnt.2.1,hcnt.2.2⟩ rfl) ?_
      refine WO.op rfl rfl ?_
      refine WO.op rfl rfl ?_
      refine WO.op (G.store_ptr (off:=off) rfl rfl rfl tM rfl hcur (by omega)) rfl ?_
      refine WO.op rfl rfl ?_
      refine WO.op rfl rfl ?_
      refine WO.op (G.store_ptr (off:=off + 1) rfl rfl rfl tInt rfl (List.getElem?_set_self hlen) (by simp; omega)) rfl ?_
      refine WO.nil (W.seq (W.region (WO.op rfl rfl (WO.nil (W.ret ⟨trivial,.nili,_,ty0,rfl,SealsN.same _ rfl,by rw [List.set_set]; exact List.getElem?_set_self hlen,by simp,fun j a b ha hb=>?_,fun id hid hne=>?_⟩)))))
      · by_cases h1:j=off + 1
        · subst h1
          rw [List.getElem?_set_self (by simp; omega)] at ha hb
          cases ha; cases hb
          exact .inr ⟨SealsN.same _ rfl,rfl⟩
        · rw [List.getElem?_set_ne (fun h=>h1 h.symm)] at ha hb
          by_cases h2:j=off
          · subst h2
            rw [List.getElem?_set_self (by omega)] at ha hb
            cases ha; cases hb
            refine .inr ⟨seals_map (l:=res) (by omega) ?_ hfin,rfl⟩
            rw [List.set_set,List.getElem?_set_ne (by omega)]
            exact hmapat
          · rw [List.getElem?_set_ne (fun h=>h2 h.symm)] at ha hb
            exact .inl ⟨Option.some.inj (ha.symm.trans hb),ha⟩
      · rw [List.set_set,List.getElem?_set_ne (fun h=>hne h.symm)]
        exact hkeep id hid
    · -- one account
      have hj:j < sums.length:=by have:=(List.getElem?_eq_some_iff.1 he).1; rwa [entsF_len] at this
      obtain ⟨⟨k,o⟩,hjo⟩:∃ q,sums[j]?=some q:=⟨_,List.getElem?_eq_getElem hj⟩
      rw [entsF_get hjo] at he
      cases he
      have hko:(k,o)∈sums:=List.mem_of_getElem? hjo
      obtain ⟨z,hz,hzb⟩:=hsb _ hko
      simp only at hz
      subst hz
      rw [app_set (by simp; omega)]
      have hsg:=seen_get' hsn hjo hjs hsl
      have happ:(seen ++ [j]).filterMap (fun j=>sums[j]?)=(seen.filterMap fun j=>sums[j]?) ++ [(k,some z)]:=by rw [List.filterMap_append]; simp [hjo]
      have hlk:look 0 (bookE es (seen.filterMap fun j=>sums[j]?)) k=look 0 m k:=by
        unfold look
        rw [bookE_get _ _ _ hsel,hsg,perm_getE hpe hnd' k]
      have hbn:=bookE_append es (seen.filterMap fun j=>sums[j]?) (k,some z)
      rw [← happ] at hbn
      simp only [Option.getD_some,hlk] at hbn
      generalize hcur:bookE es (seen.filterMap fun j=>sums[j]?)=cur at hlk hbn
      have hlb2:=look_bound hmb k
      have hfx:FitZ (look 0 m k):=smallB_fit (smallB_of (by unfold i64 at hlb2; omega))
      have hfz:FitZ z:=smallB_fit (smallB_of (small_of_nat hzb (by omega)))
      have hcat:∀ X,(B ++ [.map (entsF iA cur),J] ++ X)[B.length]?=some (.map (entsF iA cur)):=fun X=>by simp
      refine WO.op rfl rfl (WO.nil (W.seq (W.cond (b:=true) rfl (fun _=>W.skip ?_) (fun h=>by cases h))))
      refine W.block (W.seq (W.region (WO.entry (mid:=H.length) (es:=entsF zO sums) rfl rfl (app_at (by simp; omega)) (by rw [List.append_assoc]; exact hmat _) rfl (entsF_get hjo) rfl ?_)))
      iterate 3 refine WO.op rfl rfl ?_
      refine WO.op rfl rfl (WO.nil (W.seq (W.region ?_)))
      refine WO.op rfl rfl ?_
      refine WO.op rfl rfl ?_
      refine WO.op (v:=iA (look 0 m k)) (by
        refine (congrArg (withH _) (lookup_ents (f:=iA) (z:=0) (k:=k) tM rfl tS rfl tI rfl (hcat _))).trans ?_
        have:(getE cur k).getD 0=look 0 m k:=hlk
        rw [this]; rfl) rfl ?_
      refine WO.call rfl (ofz (look 0 m k) hlb2 _).at rfl ?_
      refine WO.op rfl rfl ?_
      refine WO.call rfl (addz (IsZ.mk (look 0 m k)) (zO_is (some z)) hfx hfz _).at rfl ?_
      have hsm:=smallz (IsZ.mk (look 0 m k + z)) (B ++ [.map (entsF iA cur),J] ++ [.miter H.length (entsF zO sums).length (seen ++ [j])])
      cases hs64:small64 (look 0 m k + z) with
      | false =>
        have e2:smallA (look 0 m k + z)=.tup [iA 0,.bool false]:=by unfold smallA; rw [hs64]; rfl
        rw [e2] at hsm
        refine WO.call rfl hsm.at rfl ?_
        iterate 4 refine WO.op rfl rfl ?_
        refine WO.op rfl rfl (WO.nil (W.seq (W.seq (W.region ?_))))
        refine WO.op rfl rfl ?_
        refine WO.op rfl rfl (WO.nil (W.cond (b:=true) rfl (fun _=>W.seq (W.region ?_)) (fun h=>by cases h)))
        refine WO.call rfl (faultOf 11 (by decide) _).at rfl ?_
        refine WO.op rfl rfl (WO.nil (W.ret (out 11 _ _ ?_ (by decide) rfl (by rw [List.append_assoc]; exact hkB _))))
        rw [← hC]
        unfold bookCode
        rw [if_pos hnames,if_pos htot,hcodeA,if_neg]
        intro h
        have:=List.all_eq_true.1 h _ hko
        simp only [Option.getD_some,hs64] at this
        cases this
      | true =>
        have e2:smallA (look 0 m k + z)=.tup [iA (look 0 m k + z),.bool true]:=by unfold smallA; rw [hs64]; rfl
        rw [e2] at hsm
        refine WO.call rfl hsm.at rfl ?_
        iterate 4 refine WO.op rfl rfl ?_
        refine WO.op rfl rfl (WO.nil (W.seq (W.seq (W.region ?_))))
        refine WO.op rfl rfl ?_
        refine WO.op rfl rfl (WO.nil (W.cond (b:=false) rfl (fun h=>by cases h) (fun _=>W.skip (W.region ?_))))
        iterate 3 refine WO.op rfl rfl ?_
        have hmu:=mapUpdate_ents (S:=SA) (f:=iA) (k:=k) (v:=look 0 m k + z) tM rfl tS rfl (hcat [.miter H.length (entsF zO sums).length (seen ++ [j])])
        refine WO.op (v:=undefA) (by show (match denMapUpdate SA _ 143 (.map B.length) (.str k) (iA (look 0 m k + z)) with | some H'=>some (undefA,H') | none=>none)=_; rw [hmu]) rfl (WO.nil ⟨seen ++ [j],⟨?_,?_,?_⟩,?_,fits_fr ⟨rfl,rfl,rfl,trivial⟩,?_⟩)
        · rw [List.nodup_append]
          exact ⟨hsd,by simp,fun a ha b hb=>by cases List.mem_singleton.1 hb; intro hab; subst hab; exact hjs ha⟩
        · intro i hi
          rcases List.mem_append.1 hi with hi | hi
          · exact hsl i hi
          · cases List.mem_singleton.1 hi; exact hj
        · intro i hi e he
          rcases List.mem_append.1 hi with hi | hi
          · exact hss i hi e he
          · cases List.mem_singleton.1 hi
            rw [hjo] at he
            cases he
            exact hs64
        · have h1:(seen ++ [j]).length≤sums.length:=by
            have h2:(seen ++ [j]).Nodup:=by
              rw [List.nodup_append]
              exact ⟨hsd,by simp,fun a ha b hb=>by cases List.mem_singleton.1 hb; intro hab; subst hab; exact hjs ha⟩
            refine nodup_le _ _ h2 fun i hi=>?_
            rcases List.mem_append.1 hi with hi | hi
            · exact hsl i hi
            · cases List.mem_singleton.1 hi; exact hj
          simp only [List.length_append,List.length_singleton] at h1 ⊢
          omega
        · rw [hbn,List.set_append,if_pos (by simp),List.set_append,if_neg (by omega),Nat.sub_self]
          rfl
end
end Go.AM.C
