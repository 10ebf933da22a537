import Derived.Lib.TrailingZeros
import Derived.Test.YtjlmihjhakfchaaGreatDoorA8
import Derived.Test.YtjlmihjhakfchaaGreatDoorN1
import Derived.Test.YtjlmihjhakfchaaGreatDoorN3
set_option linter.unusedVariables false
set_option linter.unusedSimpArgs false
noncomputable section
namespace Go.AM.C
open Go.Proofs
noncomputable section
theorem tA64:S0.ty 479=some ti479:=rfl
theorem tA8:S0.ty 5=some ti5:=rfl
def ntz (x:Nat):Nat:=Lib.ctz 64 x
theorem ntz_lt {x:Nat} (h0:x≠0) (hx:x < B64):ntz x < 64:=(Lib.lowest_bit 64 x h0 hx).2
theorem ntz_spec {x:Nat} (h0:x≠0) (hx:x < B64):∃ m,x=2 ^ ntz x * (2 * m + 1):=by
  have e:ntz x=Lib.ctzFrom 64 x:=by unfold ntz Lib.ctz; rw [if_neg h0]
  rw [e]
  obtain ⟨m,hm,_⟩:=Lib.ctzFrom_spec 64 x (by omega) hx
  exact ⟨m,hm⟩
theorem bruijn_at {j:Nat} (h:j < 64):bruijn[j]?=some (.int .u8 ((Lib.deBruijn64tab.getD j 0:Nat):Int)):=by
  have:bruijn=Lib.deBruijn64tab.map fun k=>.int .u8 ((k:Nat):Int):=rfl
  rw [this,List.getElem?_map,List.getD_eq_getElem?_getD]
  have hl:j < Lib.deBruijn64tab.length:=h
  rw [List.getElem?_eq_getElem hl]
  rfl
theorem and_u64 {x y:Nat} (hx:x < B64) (hy:y < B64):wrapI .u64 ((BitVec.ofInt 64 (x:Int) &&& BitVec.ofInt 64 (y:Int)).toNat:Int)=((x &&& y:Nat):Int):=by
  have e:(BitVec.ofInt 64 (x:Int) &&& BitVec.ofInt 64 (y:Int)).toNat=x &&& y:=by
    rw [BitVec.toNat_and,BitVec.ofInt_natCast,BitVec.ofInt_natCast,BitVec.toNat_ofNat,BitVec.toNat_ofNat,Nat.mod_eq_of_lt hx,Nat.mod_eq_of_lt hy]
  rw [e]
  have:x &&& y≤x:=Nat.and_le_left
  exact wrap_u64 (by unfold B64 at hx; omega)
theorem ntz_ex (x:Nat) (h0:x≠0) (hx:x < B64):∃ ng pw pr j:Nat,wrapI .u64 (0 - (x:Int))=(ng:Int)∧wrapI .u64 ((BitVec.ofInt 64 (x:Int) &&& BitVec.ofInt 64 (ng:Int)).toNat:Int)=(pw:Int) ∧
    wrapI .u64 ((pw:Int) * 285870213051353865)=(pr:Int)∧Int.fdiv (pr:Int) 288230376151711744=(j:Int)∧j < 64∧bruijn[j]?=some (.int .u8 (ntz x:Int))∧ntz x < 64:=by
  have hlb:=Lib.lowest_bit 64 x h0 hx
  have hd:=Lib.deBruijn64_at (Lib.ctz 64 x) hlb.2
  have hx':x < 18446744073709551616:=hx
  refine ⟨2 ^ 64 - x,2 ^ ntz x,2 ^ ntz x * 285870213051353865 % 18446744073709551616,2 ^ ntz x * 285870213051353865 % 18446744073709551616 / 288230376151711744,?_,?_,?_,?_,hd.1,?_,hlb.2⟩
  · unfold wrapI; simp only; omega
  · rw [show 2 ^ ntz x=x &&& (2 ^ 64 - x) from hlb.1.symm]
    exact and_u64 hx (by unfold B64; omega)
  · unfold wrapI; simp only; rw [Int.natCast_emod,Int.natCast_mul]; rfl
  · generalize 2 ^ ntz x * 285870213051353865 % 18446744073709551616=m
    rw [Int.fdiv_eq_ediv_of_nonneg _ (by decide)]
    rw [Int.natCast_ediv]; rfl
  · exact (bruijn_at hd.1).trans (by rw [hd.2]; rfl)
theorem idx_bruijn {call:Calling} {j:Nat} (h:j < 64):withH [] (elemAddr S0 479 (.ip bruijn 0 true) (j:Int))=some (.ip bruijn (0 + j * 1) true,[]):=by
  simp only [elemAddr,tA64]
  show withH [] (match S0.ty 5 with | some te=>if 0≤(j:Int)∧(j:Int) < ((64:Nat):Int) then ptrAdd (.ip bruijn 0 true) ((j:Int).toNat * te.size) else none | none=>none)=_
  simp only [tA8]
  rw [if_pos ⟨by omega,by omega⟩]
  rfl
theorem ntz_has (x:Nat) (h0:x≠0) (hx:x < B64) (H:Heap):Has 398 [.int .u64 (x:Int)] H (.int .i64 (ntz x:Int)) H:=by
  obtain ⟨ng,pw,pr,j,h1,h2,h3,h4,h5,h6,h7⟩:=ntz_ex x h0 hx
  generalize ntz x=k at *
  refine does_pure s0 (show S0.fn 398=some Tryz.f398 by kernel_rfl) rfl (by kernel_rfl) (Nat.le_of_ble_eq_true rfl) rfl rfl ?_
  refine W.seq (W.region ?_)
  repeat refine WO.op rfl rfl ?_
  refine WO.nil (W.seq (W.seq (W.region ?_)))
  refine WO.op rfl rfl ?_
  refine WO.as (v':=.bool false) rfl rfl (bdF (by omega)) (WO.nil (W.cond (b:=false) rfl (fun h=>by cases h) (fun _=>W.skip (W.seq (W.region ?_)))))
  refine WO.op rfl rfl ?_
  refine WO.op rfl rfl ?_
  refine WO.as (v':=.int .u64 (ng:Int)) rfl rfl (int_eq h1) ?_
  refine WO.as (v':=.int .u64 (pw:Int)) rfl rfl (int_eq h2) ?_
  refine WO.as (v':=.int .u64 (pr:Int)) rfl rfl (int_eq h3) ?_
  refine WO.as (v':=.int .u64 (j:Int)) rfl rfl (int_eq h4) ?_
  refine WO.op (v:=.ip bruijn (0 + j * 1) true) (H1:=[]) (idx_bruijn (call:=callS S0) h5) rfl ?_
  refine WO.op (G.load_ip (v:=.int .u8 (k:Int)) rfl tA8 rfl (by rw [show 0 + j * 1=j by omega]; exact h6)) rfl ?_
  refine WO.as (v':=.int .i64 (k:Int)) rfl rfl (int_i64 (by omega) rfl) ?_
  exact WO.op rfl rfl (WO.nil (W.ret ⟨trivial,_,rfl,Seals.same _ rfl⟩))
theorem slu_1 {id x:Nat} {H:Heap} {ty:TypeId} {cap:Option Nat} (hH:H[id]?=some (.cells (u64s [x]) ty)):SlU S0 35 H (.sl id 0 1 cap 1) [x] :=
  SlU.sl (l:=[x]) tU rfl tu rfl hH (Nat.le_refl _)
theorem at_1 {id x:Nat} {H:Heap} {ty:TypeId} (hH:H[id]?=some (.cells (u64s [x]) ty)) {cap:Option Nat}:elemAddr S0 35 (.sl id 0 1 cap 1) ((0:Nat):Int)=some (.ptr id 0):=by
  rfl
theorem made_1 (id x:Nat) (cap:Option Nat) (H:Heap) (ty:TypeId) (hH:H[id]?=some (.cells (u64s [x]) ty)) (hx:x≠0):Has 107 [.sl id 0 1 cap 1] H (.ip [.sl id 0 1 cap 1] 0 false) H:=by
  refine does_run s0 (show S0.fn 107=some Tryz.f107 by kernel_rfl) rfl (by kernel_rfl) (Nat.le_of_ble_eq_true rfl) ?_
  refine W.seq (W.region ?_)
  repeat refine WO.op rfl rfl ?_
  refine WO.nil (W.seq (W.block (W.fits (F':=fr [(0,.sl id 0 1 cap 1)]) (fits_fr ⟨rfl,trivial⟩) ?_)))
  refine W.loopI (fun _:Unit=>True) (fun _=>0) (fun _=>fr [(0,.sl id 0 1 cap 1)]) (fun _=>H) ?_ () trivial
  intro _ _
  refine W.seq (W.seq (W.region ?_))
  refine WO.op rfl rfl ?_
  refine WO.op rfl rfl ?_
  refine WO.as (v':=.bool true) rfl rfl rfl ?_
  iterate 4 refine WO.op rfl rfl ?_
  refine WO.as (v':=.int .i64 ((0:Nat):Int)) rfl rfl rfl ?_
  refine WO.op (SlU.idxG rfl rfl (at_1 hH)) rfl ?_
  refine WO.op (G.load_ptr (v:=.int .u64 (x:Int)) rfl tu rfl hH rfl) rfl ?_
  refine WO.as (v':=.bool false) rfl rfl (bdF (by omega)) ?_
  repeat refine WO.op rfl rfl ?_
  refine WO.nil (W.cond (b:=false) rfl (fun h=>by cases h) (fun _=>W.exit ?_))
  refine W.seq (W.region ?_)
  repeat refine WO.op rfl rfl ?_
  exact WO.nil (W.ret ⟨trivial,_,rfl,Wk.refl _,rfl⟩)
theorem twos_1 {H:Heap} {va:AVal} {x:Nat} (ha:SlU S0 35 H va [x]) (h0:x≠0) (hx:x < B64):Has 369 [va] H (.int .i64 (ntz x:Int)) H:=by
  have hlt:=ntz_lt h0 hx
  obtain ⟨a1,a2,a3,ha1,ha2,ha3⟩:=ha.at_ 0 (by simp)
  have ha3:a2[a3]?=some (.int .u64 (x:Int)):=ha3
  refine does_run s0 (show S0.fn 369=some Tryz.f369 by kernel_rfl) rfl (by kernel_rfl) (Nat.le_of_ble_eq_true rfl) ?_
  refine W.seq (W.region ?_)
  repeat refine WO.op rfl rfl ?_
  refine WO.nil (W.seq (W.region ?_))
  repeat refine WO.op rfl rfl ?_
  refine WO.nil (W.seq (W.block (W.fits (F':=fr [(0,va),(3,.int .i64 ((0:Nat):Int))]) (fits_fr ⟨rfl,rfl,trivial⟩) ?_)))
  refine W.loopI (fun _:Unit=>True) (fun _=>0) (fun _=>fr [(0,va),(3,.int .i64 ((0:Nat):Int))]) (fun _=>H) ?_ () trivial
  intro _ _
  refine W.seq (W.seq (W.region ?_))
  refine WO.op rfl rfl ?_
  refine WO.op rfl rfl ?_
  refine WO.op (SlU.idxG rfl rfl ha1) rfl ?_
  refine WO.op (SlU.loadG rfl tu rfl ha2 ha3) rfl ?_
  refine WO.as (v':=.bool false) rfl rfl (bdF (by omega)) ?_
  refine WO.nil (W.cond (b:=false) rfl (fun h=>by cases h) (fun _=>W.exit ?_))
  refine W.seq (W.region ?_)
  refine WO.op rfl rfl ?_
  refine WO.as (v':=.int .i64 ((0:Nat):Int)) rfl rfl rfl ?_
  refine WO.op rfl rfl ?_
  refine WO.op rfl rfl ?_
  refine WO.op (SlU.idxG rfl rfl ha1) rfl ?_
  refine WO.op (SlU.loadG rfl tu rfl ha2 ha3) rfl ?_
  refine WO.call rfl (ntz_has x h0 hx _) rfl ?_
  refine WO.as (v':=.int .i64 (ntz x:Int)) rfl rfl (int_i64 (by omega) (by omega)) ?_
  refine WO.op rfl rfl (WO.nil (W.ret ⟨trivial,_,rfl,Wk.refl _,rfl⟩))
theorem shr_ex (x k:Nat) (hk:k < 64):Int.fdiv (x:Int) (2 ^ (min (k:Int).toNat 64))=((x / 2 ^ k:Nat):Int):=by
  have:min (k:Int).toNat 64=k:=by simp; omega
  rw [this,show (2:Int) ^ k=((2 ^ k:Nat):Int) by rw [Int.natCast_pow]; rfl]
  exact (Int.ofNat_fdiv x (2 ^ k)).symm
theorem shr_op {call:Calling} {d:Bool} {g:Operand→AVal} {H:Heap} {x y:Operand} {t yt:TypeId} {m k:Nat} (hx:g x=.int .u64 (m:Int)) (hy:g y=.int .i64 (k:Int)) (h:0≤k) :
    denG S0 call d g H (.binOp .shr t x y yt)=some (.int .u64 (Int.fdiv (m:Int) (2 ^ (min (k:Int).toNat 64))),H):=by
  simp only [denG,hx,hy]
  show withH H (shiftBin .shr .u64 (m:Int) (k:Int))=_
  unfold shiftBin
  rw [if_neg (by omega)]
  rfl
theorem odd_1 (id x:Nat) (H:Heap) (ty:TypeId) (hH:H[id]?=some (.cells (u64s [x]) ty)) (h0:x≠0) (hx:x < B64):Has 370 [.sl id 0 1 none 1] H (.sl id 0 1 none 1) (H.set id (.cells (u64s [x / 2 ^ ntz x]) ty)):=by
  have hlt:=ntz_lt h0 hx
  have hne:x / 2 ^ ntz x≠0:=by
    obtain ⟨m,hm⟩:=ntz_spec h0 hx
    have:2 ^ ntz x≤x:=Nat.le_trans (Nat.le_mul_of_pos_right _ (show 0 < 2 * m + 1 by omega)) (Nat.le_of_eq hm.symm)
    exact Nat.ne_of_gt (Nat.div_pos this (Nat.pow_pos (by decide)))
  have hid:id < H.length:=(List.getElem?_eq_some_iff.1 hH).1
  have hH2:(H.set id (.cells (u64s [x / 2 ^ ntz x]) ty))[id]?=some (.cells (u64s [x / 2 ^ ntz x]) ty):=by rw [List.getElem?_set_self hid]
  have hsh:=shr_ex x (ntz x) hlt
  have htw:=twos_1 (slu_1 (cap:=none) hH) h0 hx
  have hq:AVal.int .i64 (wrapI .i64 ((ntz x:Int).tdiv 64))=.int .i64 ((0:Nat):Int):=by
    have e:(ntz x:Int).tdiv 64=((ntz x / 64:Nat):Int):=(Int.ofNat_tdiv _ 64).symm
    rw [e]
    exact int_i64 (by omega) (by omega)
  have hr:(ntz x:Int).tmod 64=(ntz x:Int):=by
    have e:(ntz x:Int).tmod 64=((ntz x % 64:Nat):Int):=(Int.ofNat_tmod _ 64).symm
    rw [e]
    omega
  generalize hy:x / 2 ^ ntz x=y at *
  generalize ntz x=k at *
  refine does_run s0 (show S0.fn 370=some Tryz.f370 by kernel_rfl) rfl (by kernel_rfl) (Nat.le_of_ble_eq_true rfl) ?_
  refine W.seq (W.region ?_)
  repeat refine WO.op rfl rfl ?_
  refine WO.nil (W.seq (W.region ?_))
  refine WO.op rfl rfl ?_
  refine WO.call rfl htw rfl ?_
  refine WO.op rfl rfl (WO.nil (W.seq (W.region ?_)))
  refine WO.op rfl rfl ?_
  refine WO.op rfl rfl ?_
  refine WO.as (v':=.int .i64 ((0:Nat):Int)) rfl rfl (hq) ?_
  refine WO.op (G.slice_sl (l:=0) (h:=1) rfl tU rfl tu rfl ⟨_,rfl⟩ rfl (by omega) (by simp) (by simp)) rfl ?_
  refine WO.op rfl rfl ?_
  refine WO.as (v':=.int .i64 (k:Int)) rfl rfl (int_eq hr) ?_
  refine WO.op rfl rfl ?_
  refine WO.op rfl rfl (WO.nil (W.seq (W.seq (W.region ?_))))
  refine WO.op rfl rfl ?_
  refine WO.op ((slu_1 (cap:=none) hH).lenG rfl rfl rfl) rfl ?_
  refine WO.op rfl rfl (WO.nil (W.block ?_))
  refine W.fits (F':=fr [(0,.sl id 0 1 none 1),(3,.int .i64 (k:Int)),(14,.int .i64 ((1:Nat):Int)),(15,.int .i64 ((0:Nat):Int))]) (fits_fr ⟨rfl,rfl,rfl,rfl,trivial⟩) ?_
  refine W.loopI (α:=Bool) (fun _=>True) (fun b=>if b then 0 else 1) (fun b=>fr [(0,.sl id 0 1 none 1),(3,.int .i64 (k:Int)),(14,.int .i64 ((1:Nat):Int)),(15,.int .i64 (((if b then 1 else 0):Nat):Int))]) (fun b=>if b then H.set id (.cells (u64s [y]) ty) else H) ?_ false trivial
  intro b _
  refine W.seq (W.region ?_)
  cases b with
  | false =>
    refine WO.as (v':=.bool true) rfl rfl rfl (WO.nil (W.seq (W.cond (b:=true) rfl (fun _=>W.skip ?_) (fun h=>by cases h))))
    refine W.heq (H':=H) rfl ?_
    refine W.seq (W.block (W.seq (W.region ?_)))
    refine WO.op rfl rfl ?_
    refine WO.op rfl rfl (WO.nil (W.seq (W.region ?_)))
    refine WO.op rfl rfl ?_
    refine WO.op rfl rfl ?_
    refine WO.op (SlU.idxG rfl rfl (at_1 hH)) rfl ?_
    refine WO.op (G.load_ptr (v:=.int .u64 (x:Int)) rfl tu rfl hH rfl) rfl ?_
    refine WO.op rfl rfl ?_
    refine WO.as (v':=.int .u64 (y:Int)) (shr_op rfl rfl (Nat.zero_le _)) rfl (int_eq hsh) ?_
    refine WO.op (SlU.idxG rfl rfl (at_1 hH)) rfl ?_
    refine WO.op (G.store_ptr (v:=.int .u64 (y:Int)) rfl rfl rfl tu rfl hH (by simp [u64s])) rfl (WO.nil (W.seq (W.region ?_)))
    iterate 3 refine WO.op rfl rfl ?_
    refine WO.op ((slu_1 (cap:=none) hH2).lenG rfl rfl rfl) rfl ?_
    refine WO.as (v':=.bool false) rfl rfl rfl (WO.nil (W.cond (b:=false) rfl (fun h=>by cases h) (fun _=>W.skip ?_)))
    refine W.region ?_
    refine WO.as (v':=.int .i64 ((1:Nat):Int)) rfl rfl rfl ?_
    exact WO.op rfl rfl (WO.nil ⟨true,trivial,by decide,fits_fr ⟨rfl,rfl,rfl,rfl,trivial⟩,rfl⟩)
  | true =>
    refine WO.as (v':=.bool false) rfl rfl rfl (WO.nil (W.seq (W.cond (b:=false) rfl (fun h=>by cases h) (fun _=>W.exit ?_))))
    refine W.heq (H':=H.set id (.cells (u64s [y]) ty)) rfl ?_
    refine W.seq (W.region ?_)
    refine WO.op rfl rfl ?_
    refine WO.call rfl (made_1 id y none _ ty hH2 hne) rfl ?_
    repeat refine WO.op rfl rfl ?_
    exact WO.nil (W.ret ⟨trivial,_,rfl,Wk.refl _,rfl⟩)
end
end Go.AM.C
namespace Go.AM.C
open Go.Proofs
noncomputable section
theorem less_1 (i j x y:Nat) (H:Heap) (ty tj:TypeId) (hij:i≠j) (hI:H[i]?=some (.cells (u64s [x]) ty)) (hJ:H[j]?=some (.cells (u64s [y]) tj)) (hxy:y < x) (hx:x < B64) :
    Has 373 [.sl i 0 1 none 1,.sl j 0 1 none 1] H (.sl i 0 1 none 1) (H.set i (.cells (u64s [x - y]) ty)):=by
  have hid:i < H.length:=(List.getElem?_eq_some_iff.1 hI).1
  have hH2:(H.set i (.cells (u64s [x - y]) ty))[i]?=some (.cells (u64s [x - y]) ty):=by rw [List.getElem?_set_self hid]
  have hne:x - y≠0:=by omega
  have hsub:=sub64_has x y 0 (by omega)
  have e1:(x + B64 - y - 0) % B64=x - y:=by
    have:x + B64 - y - 0=(x - y) + B64:=by omega
    rw [this,Nat.add_mod_right,Nat.mod_eq_of_lt (by omega)]
  have e2:(if x < y + 0 then 1 else 0:Nat)=0:=if_neg (by omega)
  rw [e1,e2] at hsub
  generalize x - y=z at *
  refine does_run s0 (show S0.fn 373=some Tryz.f373 by kernel_rfl) rfl (by kernel_rfl) (Nat.le_of_ble_eq_true rfl) ?_
  refine W.seq (W.region ?_)
  repeat refine WO.op rfl rfl ?_
  refine WO.nil (W.seq (W.region ?_))
  refine WO.op rfl rfl (WO.nil (W.seq (W.seq (W.region ?_))))
  refine WO.op rfl rfl ?_
  refine WO.op ((slu_1 (cap:=none) hI).lenG rfl rfl rfl) rfl ?_
  refine WO.op rfl rfl (WO.nil (W.block ?_))
  refine W.fits (F':=fr [(0,.sl i 0 1 none 1),(1,.sl j 0 1 none 1),(5,.int .u64 ((0:Nat):Int)),(9,.int .i64 ((1:Nat):Int)),(10,.int .i64 ((0:Nat):Int))]) (fits_fr ⟨rfl,rfl,rfl,rfl,rfl,trivial⟩) ?_
  refine W.loopI (α:=Bool) (fun _=>True) (fun b=>if b then 0 else 1) (fun b=>fr [(0,.sl i 0 1 none 1),(1,.sl j 0 1 none 1),(5,.int .u64 ((0:Nat):Int)),(9,.int .i64 ((1:Nat):Int)),(10,.int .i64 (((if b then 1 else 0):Nat):Int))]) (fun b=>if b then H.set i (.cells (u64s [z]) ty) else H) ?_ false trivial
  intro b _
  refine W.seq (W.region ?_)
  cases b with
  | false =>
    refine WO.as (v':=.bool true) rfl rfl rfl (WO.nil (W.seq (W.cond (b:=true) rfl (fun _=>W.skip ?_) (fun h=>by cases h))))
    refine W.heq (H':=H) rfl ?_
    refine W.seq (W.block (W.seq (W.region ?_)))
    refine WO.op rfl rfl ?_
    refine WO.op rfl rfl (WO.nil (W.seq (W.region ?_)))
    refine WO.op rfl rfl (WO.nil (W.seq (W.seq (W.region ?_))))
    refine WO.op rfl rfl ?_
    refine WO.op rfl rfl ?_
    refine WO.op ((slu_1 (cap:=none) hJ).lenG rfl rfl rfl) rfl ?_
    refine WO.as (v':=.bool true) rfl rfl rfl (WO.nil (W.cond (b:=true) rfl (fun _=>?_) (fun h=>by cases h)))
    refine W.region ?_
    refine WO.op rfl rfl ?_
    refine WO.op rfl rfl ?_
    refine WO.op (SlU.idxG rfl rfl (at_1 hJ)) rfl ?_
    refine WO.op (G.load_ptr (v:=.int .u64 (y:Int)) rfl tu rfl hJ rfl) rfl ?_
    refine WO.op rfl rfl (WO.nil (W.region ?_))
    iterate 4 refine WO.op rfl rfl ?_
    refine WO.op (SlU.idxG rfl rfl (at_1 hI)) rfl ?_
    refine WO.op (G.load_ptr (v:=.int .u64 (x:Int)) rfl tu rfl hI rfl) rfl ?_
    refine WO.op rfl rfl ?_
    refine WO.op rfl rfl ?_
    refine WO.call rfl (hsub _) rfl ?_
    iterate 3 refine WO.op rfl rfl ?_
    refine WO.op (SlU.idxG rfl rfl (at_1 hI)) rfl ?_
    refine WO.op (G.store_ptr (v:=.int .u64 (z:Int)) rfl rfl rfl tu rfl hI (by simp [u64s])) rfl ?_
    refine WO.op rfl rfl (WO.nil (W.region ?_))
    refine WO.as (v':=.int .i64 ((1:Nat):Int)) rfl rfl rfl ?_
    exact WO.op rfl rfl (WO.nil ⟨true,trivial,by decide,fits_fr ⟨rfl,rfl,rfl,rfl,rfl,trivial⟩,rfl⟩)
  | true =>
    refine WO.as (v':=.bool false) rfl rfl rfl (WO.nil (W.seq (W.cond (b:=false) rfl (fun h=>by cases h) (fun _=>W.exit ?_))))
    refine W.heq (H':=H.set i (.cells (u64s [z]) ty)) rfl ?_
    refine W.seq (W.region ?_)
    refine WO.op rfl rfl ?_
    refine WO.call rfl (made_1 i z none _ ty hH2 hne) rfl ?_
    repeat refine WO.op rfl rfl ?_
    exact WO.nil (W.ret ⟨trivial,_,rfl,Wk.refl _,rfl⟩)
theorem shl_op {call:Calling} {d:Bool} {g:Operand→AVal} {H:Heap} {x y:Operand} {t yt:TypeId} {m k:Nat} (hx:g x=.int .u64 (m:Int)) (hy:g y=.int .i64 (k:Int)) (h:0≤k) :
    denG S0 call d g H (.binOp .shl t x y yt)=some (.int .u64 (wrapI .u64 ((m:Int) * 2 ^ (min (k:Int).toNat 64))),H):=by
  simp only [denG,hx,hy]
  show withH H (shiftBin .shl .u64 (m:Int) (k:Int))=_
  unfold shiftBin
  rw [if_neg (by omega)]
  rfl
theorem pow_lt64 {k:Nat} (h:k < 64):2 ^ k < B64:=Nat.lt_of_lt_of_le (Nat.pow_lt_pow_right (by decide) h) (Nat.le_refl _)
theorem bit_1 (k:Nat) (hk:k < 64) (H:Heap):Has 372 [.int .i64 (k:Int)] H (.obj (.np (2 ^ k))) H:=by
  have hp:=pow_lt64 hk
  have hp0:2 ^ k≠0:=Nat.ne_of_gt (Nat.pow_pos (by decide))
  have hq:AVal.int .i64 (wrapI .i64 ((k:Int).tdiv 64))=.int .i64 ((0:Nat):Int):=by
    have e:(k:Int).tdiv 64=((k / 64:Nat):Int):=(Int.ofNat_tdiv _ 64).symm
    rw [e]
    exact int_i64 (by omega) (by omega)
  have hr:(k:Int).tmod 64=(k:Int):=by
    have e:(k:Int).tmod 64=((k % 64:Nat):Int):=(Int.ofNat_tmod _ 64).symm
    rw [e]
    omega
  have hsh:wrapI .u64 (((1:Nat):Int) * 2 ^ (min (k:Int).toNat 64))=((2 ^ k:Nat):Int):=by
    have e:min (k:Int).toNat 64=k:=by simp; omega
    have e2:((1:Nat):Int) * 2 ^ k=((2 ^ k:Nat):Int):=by rw [Int.natCast_pow]; simp
    rw [e,e2]
    generalize (2:Nat) ^ k=q at hp ⊢
    exact wrap_u64 (by unfold B64 at hp; omega)
  have hl:lims (2 ^ k)=[2 ^ k]:=lims_small hp hp0
  generalize 2 ^ k=y at *
  refine does_pure s0 (show S0.fn 372=some Tryz.f372 by kernel_rfl) rfl (by kernel_rfl) (Nat.le_of_ble_eq_true rfl) rfl rfl ?_
  refine W.seq (W.region ?_)
  repeat refine WO.op rfl rfl ?_
  refine WO.nil (W.seq (W.region ?_))
  refine WO.op rfl rfl ?_
  refine WO.as (v':=.int .i64 ((0:Nat):Int)) rfl rfl hq ?_
  refine WO.as (v':=.int .i64 ((1:Nat):Int)) rfl rfl rfl ?_
  refine WO.op (G.make (l:=1) (c:=1) rfl rfl tU rfl tu rfl (by omega) (by decide) (by omega)) rfl ?_
  refine WO.op rfl rfl (WO.nil (W.seq (W.region ?_)))
  have hH:([] ++ [AObj.cells (List.replicate 1 (AVal.int .u64 0)) 92]:Heap)[0]?=some (.cells (u64s [0]) 92):=rfl
  refine WO.op rfl rfl ?_
  refine WO.op rfl rfl ?_
  refine WO.as (v':=.int .i64 ((0:Nat):Int)) rfl rfl hq ?_
  refine WO.op rfl rfl ?_
  refine WO.as (v':=.int .i64 (k:Int)) rfl rfl (int_eq hr) ?_
  refine WO.as (v':=.int .u64 (y:Int)) (shl_op (m:=1) rfl rfl (Nat.zero_le _)) rfl (int_eq hsh) ?_
  refine WO.op (SlU.idxG rfl rfl (at_1 (cap:=some 1) hH)) rfl ?_
  refine WO.op (G.store_ptr (v:=.int .u64 (y:Int)) rfl rfl rfl tu rfl hH (by simp [u64s])) rfl (WO.nil (W.seq (W.region ?_)))
  have hH2:(List.set ([] ++ [AObj.cells (List.replicate 1 (AVal.int .u64 0)) 92]:Heap) 0 (.cells ((u64s [0]).set 0 (.int .u64 (y:Int))) 92))[0]?=some (.cells (u64s [y]) 92):=rfl
  refine WO.op rfl rfl ?_
  refine WO.call rfl (made_1 0 y (some 1) _ _ hH2 hp0) rfl ?_
  refine WO.op rfl rfl ?_
  exact WO.nil (W.ret ⟨trivial,_,rfl,seals_np hH2 (Nat.le_refl _) (by rw [hl]; rfl)⟩)
theorem den_clone {H:Heap} {n x:Nat} (hg:H[n]?=some (.cells [] 92)):denAppend S0 H 35 35 (.sl n 0 0 (some 0) 1) (.isl (u64s [x]) 0 1 none true)=some (.sl H.length 0 1 none 1,H ++ [AObj.cells (u64s [x]) 92]):=by
  have h1:sliceCells H 1 (.sl n 0 0 (some 0) 1)=some ([],0):=by simp only [sliceCells,hg]; rfl
  show (match sliceCells H 1 (.sl n 0 0 (some 0) 1) with
    | none=>none
    | some (olds,_)=>some (AVal.sl H.length 0 1 none 1,H ++ [AObj.cells (olds ++ u64s [x]) 92]))=_
  rw [h1]
  rfl
theorem G.app_clone {call:Calling} {d:Bool} {g:Operand→AVal} {H:Heap} {c:Call} {n x:Nat} (hc:c.callee=.builtin .append) (ha:c.args.toList.map g=[.sl n 0 0 (some 0) 1,.isl (u64s [x]) 0 1 none true]) (hta:c.argTypes.toList=[35,35]) (hg:H[n]?=some (.cells [] 92)) :
    denG S0 call d g H (.call c)=some (.sl H.length 0 1 none 1,H ++ [AObj.cells (u64s [x]) 92]):=by
  simp only [denG,hc,ha,hta]
  exact den_clone hg
theorem clone_1 (x:Nat) (H:Heap):Has 371 [.isl (u64s [x]) 0 1 none true] H (.sl (H.length + 1) 0 1 none 1) (H ++ [.cells [] 92] ++ [.cells (u64s [x]) 92]):=by
  refine does_run s0 (show S0.fn 371=some Tryz.f371 by kernel_rfl) rfl (by kernel_rfl) (Nat.le_of_ble_eq_true rfl) ?_
  refine W.seq (W.region ?_)
  repeat refine WO.op rfl rfl ?_
  refine WO.nil (W.seq (W.seq (W.region ?_)))
  refine WO.op rfl rfl ?_
  refine WO.op rfl rfl (WO.nil (W.cond (b:=false) rfl (fun h=>by cases h) (fun _=>W.skip (W.seq (W.region ?_)))))
  refine WO.op (v:=.sl H.length 0 0 (some 0) 1) (H1:=H ++ [.cells [] 92]) rfl rfl ?_
  refine WO.op rfl rfl ?_
  refine WO.op (v:=.sl (H ++ [AObj.cells [] 92]).length 0 1 none 1) (H1:=H ++ [.cells [] 92] ++ [.cells (u64s [x]) 92]) (G.app_clone (n:=H.length) rfl rfl rfl (by simp)) rfl ?_
  refine WO.op rfl rfl (WO.nil (W.ret ⟨trivial,_,rfl,?_,rfl⟩))
  rw [List.length_append]
  exact Wk.refl _
def oddp (x:Nat):Nat:=x / 2 ^ ntz x
theorem oddp_spec {x:Nat} (h0:x≠0) (hx:x < B64):x=2 ^ ntz x * oddp x∧oddp x % 2=1∧oddp x≠0∧oddp x≤x:=by
  obtain ⟨m,hm⟩:=ntz_spec h0 hx
  have e:oddp x=2 * m + 1:=by
    unfold oddp
    generalize ntz x=k at *
    subst hm
    exact Nat.mul_div_cancel_left _ (Nat.pow_pos (by decide))
  refine ⟨by rw [e]; exact hm,by rw [e]; omega,by rw [e]; omega,?_⟩
  unfold oddp
  exact Nat.div_le_self _ _
theorem odd_cop {n:Nat} (h:n % 2=1) (k:Nat):Nat.gcd n (2 ^ k)=1:=by
  have:Nat.Coprime n 2:=by
    unfold Nat.Coprime
    rw [Nat.gcd_comm,Nat.gcd_rec,h]
    rfl
  exact Nat.Coprime.pow_right k this
theorem gcd_odd_left {n m:Nat} (h:m % 2=1) (k:Nat):Nat.gcd (2 ^ k * n) m=Nat.gcd n m:=by
  have:Nat.Coprime (2 ^ k) m:=by unfold Nat.Coprime; rw [Nat.gcd_comm]; exact odd_cop h k
  exact Nat.Coprime.gcd_mul_left_cancel n this
theorem gcd_twos {x y:Nat} (hx0:x≠0) (hy0:y≠0) (hx:x < B64) (hy:y < B64):2 ^ min (ntz x) (ntz y) * Nat.gcd (oddp x) (oddp y)=Nat.gcd x y:=by
  obtain ⟨ex,ox,_,_⟩:=oddp_spec hx0 hx
  obtain ⟨ey,oy,_,_⟩:=oddp_spec hy0 hy
  generalize oddp x=a at *
  generalize oddp y=b at *
  generalize ntz x=j at *
  generalize ntz y=k at *
  subst ex
  subst ey
  rcases Nat.le_total j k with h | h
  · obtain ⟨d,rfl⟩:=Nat.le.dest h
    rw [Nat.min_eq_left (by omega),Nat.pow_add,Nat.mul_assoc,Nat.gcd_mul_left]
    congr 1
    rw [Nat.gcd_comm a (2 ^ d * b),gcd_odd_left ox,Nat.gcd_comm]
  · obtain ⟨d,rfl⟩:=Nat.le.dest h
    rw [Nat.min_eq_right (by omega),Nat.pow_add,Nat.mul_assoc,Nat.gcd_mul_left]
    congr 1
    rw [gcd_odd_left oy]
theorem gcd_step {p q:Nat} (hq:q % 2=1) (hqp:q < p) (hp:p < B64):Nat.gcd (oddp (p - q)) q=Nat.gcd p q:=by
  obtain ⟨e,_,_,_⟩:=oddp_spec (x:=p - q) (by omega) (by omega)
  have h1:Nat.gcd (p - q) q=Nat.gcd p q:=Nat.gcd_sub_self_left (by omega)
  rw [← h1]
  conv=>rhs; rw [e]
  rw [gcd_odd_left hq]
end
end Go.AM.C
namespace Go.AM.C
open Go.Proofs
noncomputable section
theorem sign_mul_lt (x y:Int):x.sign * y.sign < 0↔x * y < 0:=by
  rw [← Int.sign_mul]
  exact sign_lt
theorem sign_range (x:Int):x.sign=-1∨x.sign=0∨x.sign=1:=by
  rcases Int.lt_trichotomy x 0 with h | h | h
  · exact .inl (Int.sign_eq_neg_one_of_neg h)
  · subst h; exact .inr (.inl rfl)
  · exact .inr (.inr (Int.sign_eq_one_of_pos h))
theorem mulz {u v:AVal} {x y:Int} (hu:IsZ u x) (hv:IsZ v y) (hx:FitZ x) (hy:FitZ y) (H:Heap):Has 163 [u,v] H (.obj (.zp (x * y))) H:=by
  obtain ⟨b,hb⟩:∃ b,b=decide (x * y < 0):=⟨_,rfl⟩
  have hres:x * y=sz b (x.natAbs * y.natAbs):=by
    rw [← Int.natAbs_mul]
    unfold sz
    by_cases h:x * y < 0
    · rw [hb,decide_eq_true h]; simp only [cond_true]; omega
    · rw [hb,decide_eq_false h]; simp only [cond_false]; omega
  refine does_pure s0 (show S0.fn 163=some Tryz.f163 by kernel_rfl) rfl (by kernel_rfl) (Nat.le_of_ble_eq_true rfl) (by simp [hu.cl,hv.cl]) rfl ?_
  refine W.seq (W.region ?_)
  refine WO.op rfl rfl (WO.nil (W.seq (W.region ?_)))
  refine WO.op rfl rfl ?_
  refine WO.call rfl (signz hu _) rfl ?_
  refine WO.op rfl rfl ?_
  refine WO.call rfl (signz hv _) rfl ?_
  refine WO.as (v':=.int .i64 (x.sign * y.sign)) rfl rfl (int_i64 ?_ rfl) ?_
  · rcases sign_range x with h | h | h <;> rcases sign_range y with k | k | k <;> rw [h,k] <;> decide
  refine WO.as (v':=.bool b) rfl rfl ((bdE (sign_mul_lt x y)).trans (by rw [hb])) ?_
  refine WO.op rfl rfl ?_
  refine WO.call rfl (absz hu _) rfl ?_
  refine WO.op rfl rfl ?_
  refine WO.call rfl (absz hv _) rfl ?_
  refine WO.call rfl (mul_np _ _ hx hy _) rfl ?_
  refine WO.call rfl (new_zp _ _ _) rfl ?_
  refine WO.op rfl rfl (WO.nil (W.ret ⟨trivial,_,rfl,?_⟩))
  rw [hres]
  simp only [sz_abs]
  exact Seals.same _ rfl
end
end Go.AM.C
namespace Go.AM.C
open Go.Proofs
noncomputable section
noncomputable def memN:List Nat→Nat→Bool
  | [],_=>false
  | a :: l,n=>bif Nat.beq a n then true else memN l n
noncomputable def impureL:List Nat:=[30,35,199,201,202,310,311,370,371,390]
noncomputable def writtenL:List Nat:=[145,161,169,125,132,343]
noncomputable def SC (l:List Ent):Sg:=mkS Tryz.prog (tiOf Tryz.prog) (memN writtenL) globF pinF (fun f=>!memN impureL f) true l
theorem sc_sound {l:List Ent} (h:AllE Tryz.prog (SC l) l):Sound Tryz.prog (SC l):=mkS_sound mixed (fun t i h=>h) h globF_ok
theorem sc_glob (l:List Ent):(SC l).glob=S0.glob:=(show (SC l).glob=globF from rfl).trans (show globF=S0.glob from rfl)
theorem sc_pin (l:List Ent):(SC l).pin=S0.pin:=(show (SC l).pin=pinF from rfl).trans (show pinF=S0.pin from rfl)
theorem Has.un {l:List Ent} {f:FuncId} {args:List AVal} {H H':Heap} {v:AVal} (h:DoesC Tryz.prog (SC l) f args H v H'):Has f args H v H':=DoesC.glob (sc_glob l).symm (sc_pin l).symm h
noncomputable def natSm (n:Nat):Bool:=Nat.blt n.log2 68719476736
theorem natSm_fit {n:Nat} (h:natSm n=true):Fit n:=fit_of_log (by simpa [natSm,Nat.blt_eq] using h)
noncomputable def npV (n:Nat):Option AVal:=fNat n fun n=>some (.obj (.np n))
theorem npV_eq (n:Nat):npV n=some (.obj (.np n)):=by unfold npV; rw [fNat_eq]
noncomputable def zeroG (n:Nat):Option AVal:=some (.bool (Nat.beq n 0))
noncomputable def smallG (n:Nat):Option AVal:=bif Nat.blt n 18446744073709551616 then some (.tup [.int .u64 (n:Int),.bool true]) else some (.tup [.int .u64 0,.bool false])
noncomputable def limbsX:Ext:=fun args H=>match args with
  | [.obj (.np n)]=>some (.isl (limbs n) 0 (limbs n).length none true,H)
  | _=>none
noncomputable def cmpG (n m:Nat):Option AVal:=bif natSm n && natSm m then (bif Nat.blt n m then some (.int .i64 (-1)) else bif Nat.blt m n then some (.int .i64 1) else some (.int .i64 0)) else none
noncomputable def addG (n m:Nat):Option AVal:=bif natSm n && natSm m then npV (Nat.add n m) else none
noncomputable def mulG (n m:Nat):Option AVal:=bif natSm n && natSm m then npV (Nat.mul n m) else none
noncomputable def subG (n m:Nat):Option AVal:=bif natSm n && natSm m then (bif Nat.blt n m then some (.tup [.nilp,errA 2]) else fNat (Nat.sub n m) fun d=>some (.tup [.obj (.np d),.nili])) else none
noncomputable def ofX:Ext:=fun args H=>match args with
  | [.int .u64 (.ofNat k)]=>bif Nat.blt k 18446744073709551616 then (match npV k with
    | some v=>some (v,H)
    | none=>none) else none
  | _=>none
theorem zeroG_ok (n:Nat) (v:AVal) (h:zeroG n=some v) (H:Heap):Has 48 [.obj (.np n)] H v H:=by
  unfold zeroG at h
  cases h
  have:Nat.beq n 0=decide (n=0):=by rw [Bool.eq_iff_iff]; simp
  rw [this]
  exact zero_np n H
theorem blt_lt {n m:Nat}:Nat.blt n m=true↔n < m:=by rw [Nat.blt_eq]
theorem blt_ge {n m:Nat}:Nat.blt n m=false↔¬ n < m:=by rw [← Bool.not_eq_true,blt_lt]
theorem smallG_ok (n:Nat) (v:AVal) (h:smallG n=some v) (H:Heap):Has 57 [.obj (.np n)] H v H:=by
  have hs:=small_np n H
  unfold smallG at h
  cases hb:Nat.blt n 18446744073709551616 with
  | true =>
    rw [hb] at h
    cases h
    have:n < B64:=blt_lt.1 hb
    rw [if_pos this,decide_eq_true this] at hs
    exact hs
  | false =>
    rw [hb] at h
    cases h
    have:¬ n < B64:=blt_ge.1 hb
    rw [if_neg this,decide_eq_false this] at hs
    exact hs
theorem cmpG_ok (n m:Nat) (v:AVal) (h:cmpG n m=some v) (H:Heap):Has 56 [.obj (.np n),.obj (.np m)] H v H:=by
  unfold cmpG at h
  cases hb:natSm n && natSm m with
  | false=>rw [hb] at h; cases h
  | true =>
    rw [hb] at h
    rw [Bool.and_eq_true] at hb
    have hc:=cmp_np n m (natSm_fit hb.1) (natSm_fit hb.2) H
    unfold cmpN at hc
    simp only [cond_true] at h
    cases h1:Nat.blt n m with
    | true=>rw [h1] at h; cases h; rw [if_pos (blt_lt.1 h1)] at hc; exact hc
    | false =>
      rw [h1,cond_false] at h
      rw [if_neg (blt_ge.1 h1)] at hc
      cases h2:Nat.blt m n with
      | true=>rw [h2] at h; cases h; rw [if_pos (blt_lt.1 h2)] at hc; exact hc
      | false=>rw [h2] at h; cases h; rw [if_neg (blt_ge.1 h2)] at hc; exact hc
theorem addG_ok (n m:Nat) (v:AVal) (h:addG n m=some v) (H:Heap):Has 47 [.obj (.np n),.obj (.np m)] H v H:=by
  unfold addG at h
  cases hb:natSm n && natSm m with
  | false=>rw [hb] at h; cases h
  | true =>
    rw [hb,cond_true,npV_eq] at h
    rw [Bool.and_eq_true] at hb
    cases h
    exact add_np n m (natSm_fit hb.1) (natSm_fit hb.2) H
theorem mulG_ok (n m:Nat) (v:AVal) (h:mulG n m=some v) (H:Heap):Has 51 [.obj (.np n),.obj (.np m)] H v H:=by
  unfold mulG at h
  cases hb:natSm n && natSm m with
  | false=>rw [hb] at h; cases h
  | true =>
    rw [hb,cond_true,npV_eq] at h
    rw [Bool.and_eq_true] at hb
    cases h
    exact mul_np n m (natSm_fit hb.1) (natSm_fit hb.2) H
theorem subG_ok (n m:Nat) (v:AVal) (h:subG n m=some v) (H:Heap):Has 53 [.obj (.np n),.obj (.np m)] H v H:=by
  unfold subG at h
  cases hb:natSm n && natSm m with
  | false=>rw [hb] at h; cases h
  | true =>
    rw [hb,cond_true] at h
    rw [Bool.and_eq_true] at hb
    have hc:=sub_np n m (natSm_fit hb.1) (natSm_fit hb.2) H
    cases h1:Nat.blt n m with
    | true=>rw [h1] at h; cases h; rw [if_pos (blt_lt.1 h1)] at hc; exact hc
    | false=>rw [h1,cond_false,fNat_eq] at h; cases h; rw [if_neg (blt_ge.1 h1)] at hc; exact hc
theorem limbsX_ok (S:Sg) (hg:S.glob=S0.glob) (hp:S.pin=S0.pin):ExtAt Tryz.prog S 108 limbsX:=by
  intro args H v H' hx
  unfold limbsX at hx
  split at hx
  · cases hx; exact DoesC.glob hg hp (limbs_np _ _)
  · cases hx
theorem ofX_ok (S:Sg) (hg:S.glob=S0.glob) (hp:S.pin=S0.pin):ExtAt Tryz.prog S 46 ofX:=by
  intro args H v H' hx
  unfold ofX at hx
  split at hx
  · rename_i k
    cases hb:Nat.blt k 18446744073709551616 with
    | false=>rw [hb] at hx; cases hx
    | true =>
      rw [hb,cond_true,npV_eq] at hx
      cases hx
      exact DoesC.glob hg hp (of_np k (blt_lt.1 hb) _)
  · cases hx
noncomputable def intOf:AVal→Option Int
  | .obj (.zp z)=>some z
  | .nilp=>some 0
  | .ip [.bool b,v] 0 true=>match natOf v with
    | some n=>match n with
      | 0=>bif b then none else some 0
      | m + 1=>bif b then some (.negSucc m) else some (.ofNat (Nat.succ m))
    | none=>none
  | _=>none
theorem intOf_wk {v:AVal} {z:Int} (h:intOf v=some z):∃ v0,IsZ v0 z∧Wk v v0:=by
  unfold intOf at h
  split at h
  · cases h; exact ⟨_,IsZ.mk _,Wk.refl _⟩
  · cases h; exact ⟨_,IsZ.nil,Wk.refl _⟩
  · rename_i b v
    have step:∀ {n:Nat},natOf v=some n→∀ {z:Int},b=decide (z < 0)→n=z.natAbs→Wk (.ip [.bool b,v] 0 true) (.obj (.zp z)):=fun hn z hb hz=>by
      refine Wk.trans ?_ (wk_zp (n:=_) hb hz)
      refine Wk.ip (cl':=true) rfl (fun j x y hx hy=>?_) (fun _ a ha=>?_)
      · match j with
        | 0=>cases hx; cases hy; exact Wk.refl _
        | 1=>cases hx; cases hy; exact natOf_wk hn
        | j + 2=>simp at hx
      · simp only [List.mem_cons,List.not_mem_nil,or_false] at ha
        rcases ha with rfl | rfl <;> rfl
    split at h
    · rename_i n hn
      split at h
      · cases b with
        | true=>cases h
        | false=>cases h; exact ⟨_,IsZ.mk _,step hn rfl rfl⟩
      · rename_i m
        cases b with
        | true=>cases h; exact ⟨_,IsZ.mk _,step hn (by simp) rfl⟩
        | false=>cases h; exact ⟨_,IsZ.mk _,step hn (by symm; rw [decide_eq_false_iff_not]; show ¬ ((m + 1:Nat):Int) < 0; omega) rfl⟩
    · cases h
  · cases h
noncomputable def zpV (z:Int):Option AVal:=fInt z fun z=>some (.obj (.zp z))
theorem zpV_eq (z:Int):zpV z=some (.obj (.zp z)):=by unfold zpV; rw [fInt_eq]
noncomputable def int1 (g:Int→Option AVal):Ext:=fun args H=>match args with
  | [x]=>match intOf x with
    | some n=>match g n with
      | some v=>some (v,H)
      | none=>none
    | none=>none
  | _=>none
noncomputable def int2 (g:Int→Int→Option AVal):Ext:=fun args H=>match args with
  | [x,y]=>match intOf x with
    | some n=>match intOf y with
      | some m=>match g n m with
        | some v=>some (v,H)
        | none=>none
      | none=>none
    | none=>none
  | _=>none
theorem int1_ok {S:Sg} {f:FuncId} {g:Int→Option AVal} (h:∀ x n v,g n=some v→IsZ x n→∀ H,DoesC Tryz.prog S f [x] H v H):ExtAt Tryz.prog S f (int1 g):=by
  intro args H v H' hx
  unfold int1 at hx
  split at hx
  · split at hx
    · rename_i n hn
      split at hx
      · rename_i v' hv
        cases hx
        obtain ⟨v0,h0,hw⟩:=intOf_wk hn
        exact DoesC.arg1 hw (h v0 n v hv h0 H)
      · cases hx
    · cases hx
  · cases hx
theorem int2_ok {S:Sg} {f:FuncId} {g:Int→Int→Option AVal} (h:∀ x y n m v,g n m=some v→IsZ x n→IsZ y m→∀ H,DoesC Tryz.prog S f [x,y] H v H):ExtAt Tryz.prog S f (int2 g):=by
  intro args H v H' hx
  unfold int2 at hx
  split at hx
  · split at hx
    · rename_i n hn
      split at hx
      · rename_i m hm
        split at hx
        · rename_i v' hv
          cases hx
          obtain ⟨v0,h0,hw⟩:=intOf_wk hn
          obtain ⟨u0,k0,kw⟩:=intOf_wk hm
          exact DoesC.arg2 hw kw (h v0 u0 n m v hv h0 k0 H)
        · cases hx
      · cases hx
    · cases hx
  · cases hx
noncomputable def absG (z:Int):Option AVal:=npV z.natAbs
noncomputable def signG (z:Int):Option AVal:=some (.int .i64 z.sign)
noncomputable def negG (z:Int):Option AVal:=zpV (-z)
noncomputable def zaddG (x y:Int):Option AVal:=bif smallB x && smallB y then zpV (x + y) else none
noncomputable def zsubG (x y:Int):Option AVal:=bif smallB x && smallB y then zpV (x - y) else none
noncomputable def zmulG (x y:Int):Option AVal:=bif smallB x && smallB y then zpV (x * y) else none
noncomputable def zcmpG (x y:Int):Option AVal:=bif smallB x && smallB y then some (.int .i64 (x - y).sign) else none
noncomputable def zsmallG (z:Int):Option AVal:=match small64 z with
  | true=>some (.tup [.int .i64 z,.bool true])
  | false=>some (.tup [.int .i64 0,.bool false])
noncomputable def zofX:Ext:=fun args H=>match args with
  | [.int .i64 z]=>match small64 z with
    | true=>match zpV z with
      | some v=>some (v,H)
      | none=>none
    | false=>none
  | _=>none
noncomputable def znewX:Ext:=fun args H=>match args with
  | [.bool b,x]=>match natOf x with
    | some n=>match zpV (sz b n) with
      | some v=>some (v,H)
      | none=>none
    | none=>none
  | _=>none
theorem zofX_ok (S:Sg) (hg:S.glob=S0.glob) (hp:S.pin=S0.pin):ExtAt Tryz.prog S 49 zofX:=by
  intro args H v H' hx
  unfold zofX at hx
  split at hx
  · rename_i z
    cases hb:small64 z with
    | false=>rw [hb] at hx; cases hx
    | true =>
      rw [hb] at hx
      simp only [zpV_eq] at hx
      cases hx
      refine DoesC.glob hg hp (ofz z ?_ _)
      unfold small64 at hb
      rw [Bool.and_eq_true,decide_eq_true_eq,decide_eq_true_eq] at hb
      exact hb
  · cases hx
theorem znewX_ok (S:Sg) (hg:S.glob=S0.glob) (hp:S.pin=S0.pin):ExtAt Tryz.prog S 58 znewX:=by
  intro args H v H' hx
  unfold znewX at hx
  split at hx
  · rename_i b x
    split at hx
    · rename_i n hn
      simp only [zpV_eq] at hx
      cases hx
      exact DoesC.arg2 (Wk.refl _) (natOf_wk hn) (DoesC.glob hg hp (new_zp b n _))
    · cases hx
  · cases hx
theorem zcond {x y:Int} {o:Option AVal} {v:AVal} (h:(bif smallB x && smallB y then o else none)=some v):FitZ x∧FitZ y∧o=some v:=by
  cases hb:smallB x && smallB y with
  | false=>rw [hb] at h; cases h
  | true =>
    rw [hb] at h
    rw [Bool.and_eq_true] at hb
    exact ⟨smallB_fit hb.1,smallB_fit hb.2,h⟩
theorem zsmallG_ok {x:AVal} {z:Int} {v:AVal} (h:zsmallG z=some v) (hx:IsZ x z) (H:Heap):Has 59 [x] H v H:=by
  have hs:=smallz hx H
  unfold zsmallG at h
  unfold smallA at hs
  cases hb:small64 z with
  | true=>rw [hb] at h hs; cases h; exact hs
  | false=>rw [hb] at h hs; cases h; exact hs
noncomputable def qNo (x:Ext) (f:FuncId):Ent:=⟨f,x,false,fun h=>by cases h⟩
noncomputable def base:List Ent:=[
  qNo limbsX 108,qNo ofX 46,qNo (nat1 zeroG) 48,qNo (nat1 smallG) 57,qNo (nat2 cmpG) 56,
  qNo (nat2 mulG) 51,qNo (nat2 addG) 47,qNo (nat2 subG) 53,
  qNo zofX 49,qNo znewX 58,qNo (int1 absG) 50,qNo (int1 signG) 116,qNo (int1 negG) 152,
  qNo (int2 zaddG) 153,qNo (int2 zsubG) 238,qNo (int2 zmulG) 163,qNo (int2 zcmpG) 165,qNo (int1 zsmallG) 59,
  qNo add64X 109,qNo sub64X 114,qNo idxByteX 400,qNo cntByteX 295,qNo joinX 68,qNo repX 292,qNo codeX 67]
theorem base_ok (S:Sg) (hg:S.glob=S0.glob) (hp:S.pin=S0.pin):AllE Tryz.prog S base :=
  ⟨limbsX_ok S hg hp,ofX_ok S hg hp,nat1_ok fun n v h H=>DoesC.glob hg hp (zeroG_ok n v h H),nat1_ok fun n v h H=>DoesC.glob hg hp (smallG_ok n v h H),nat2_ok fun n m v h H=>DoesC.glob hg hp (cmpG_ok n m v h H),
   nat2_ok (g:=mulG) fun n m v h H=>DoesC.glob hg hp (mulG_ok n m v h H),nat2_ok (g:=addG) fun n m v h H=>DoesC.glob hg hp (addG_ok n m v h H),nat2_ok fun n m v h H=>DoesC.glob hg hp (subG_ok n m v h H),zofX_ok S hg hp,znewX_ok S hg hp,
   int1_ok (g:=absG) fun x n v h hx H=>DoesC.glob hg hp (by unfold absG at h; rw [npV_eq] at h; cases h; exact absz hx H),
   int1_ok (g:=signG) fun x n v h hx H=>DoesC.glob hg hp (by unfold signG at h; cases h; exact signz hx H),
   int1_ok (g:=negG) fun x n v h hx H=>DoesC.glob hg hp (by unfold negG at h; rw [zpV_eq] at h; cases h; exact negz hx H),
   int2_ok (g:=zaddG) fun x y n m v h hx hy H=>DoesC.glob hg hp (by obtain ⟨h1,h2,h3⟩:=zcond h; rw [zpV_eq] at h3; cases h3; exact addz hx hy h1 h2 H),
   int2_ok (g:=zsubG) fun x y n m v h hx hy H=>DoesC.glob hg hp (by obtain ⟨h1,h2,h3⟩:=zcond h; rw [zpV_eq] at h3; cases h3; exact subz hx hy h1 h2 H),
   int2_ok (g:=zmulG) fun x y n m v h hx hy H=>DoesC.glob hg hp (by obtain ⟨h1,h2,h3⟩:=zcond h; rw [zpV_eq] at h3; cases h3; exact mulz hx hy h1 h2 H),
   int2_ok (g:=zcmpG) fun x y n m v h hx hy H=>DoesC.glob hg hp (by obtain ⟨h1,h2,h3⟩:=zcond h; cases h3; exact cmpz hx hy h1 h2 H),
   int1_ok (g:=zsmallG) fun x n v h hx H=>DoesC.glob hg hp (zsmallG_ok h hx H),
   addc_ok S,subb_ok S,idxX_ok S,cntX_ok S,joinX_ok S hg,repX_ok S hg,codeX_ok S hg hp,trivial⟩
end
end Go.AM.C
namespace Go.AM.C
open Go.Proofs
noncomputable section
noncomputable def pairsOf:List AVal→Option Posts
  | []=>some []
  | .str s :: .int .i64 a :: l=>match pairsOf l with
    | some r=>some ((s,a) :: r)
    | none=>none
  | _=>none
theorem pairsOf_post:∀ {n:Nat} {l:List AVal} {r:Posts},l.length≤n→pairsOf l=some r→l=postC r
  | _,[],r,_,h=>by cases h; rfl
  | n + 1,a :: l,r,hn,h=>by
    unfold pairsOf at h
    split at h
    · rename_i e; cases e
    · rename_i s z l' e
      cases e
      split at h
      · rename_i r' hr
        cases h
        have:=pairsOf_post (n:=n) (l:=l') (by simp at hn; omega) hr
        rw [this]
        rfl
      · cases h
    · cases h
theorem postC_at (l:Posts):∀ (j:Nat) (p:List UInt8×Int),l[j]?=some p→(postC l)[j * 2]?=some (.str p.1)∧(postC l)[j * 2 + 1]?=some (iA p.2):=by
  induction l with
  | nil=>intro j p h; simp at h
  | cons q l ih =>
    intro j p h
    have e:postC (q :: l)=.str q.1 :: iA q.2 :: postC l:=rfl
    cases j with
    | zero=>cases h; rw [e]; exact ⟨rfl,rfl⟩
    | succ j =>
      obtain ⟨h1,h2⟩:=ih j p (by simpa using h)
      rw [e,show (j + 1) * 2=j * 2 + 1 + 1 by omega]
      exact ⟨h1,h2⟩
noncomputable def postsOf (H:Heap):AVal→Option Posts
  | .nils=>some []
  | .sl id off len cap 2=>match sliceCells H 2 (.sl id off len cap 2) with
    | some (cells,_)=>pairsOf cells
    | none=>none
  | .isl cells off len cap cl=>match sliceCells H 2 (.isl cells off len cap cl) with
    | some (cells,_)=>pairsOf cells
    | none=>none
  | _=>none
theorem part_at {vs:List AVal} {off n:Nat} {l:Posts} (h:(vs.drop off).take n=postC l) {j:Nat} {p:List UInt8×Int} (hp:l[j]?=some p):vs[off + j * 2]?=some (.str p.1)∧vs[off + j * 2 + 1]?=some (iA p.2):=by
  obtain ⟨h1,h2⟩:=postC_at l j p hp
  rw [← h,List.getElem?_take] at h1 h2
  constructor
  · split at h1
    · rwa [List.getElem?_drop] at h1
    · cases h1
  · split at h2
    · rw [List.getElem?_drop] at h2
      rw [Nat.add_assoc]
      exact h2
    · cases h2
theorem postsOf_slp {H:Heap} {v:AVal} {l:Posts} (h:postsOf H v=some l):SlP H v l:=by
  unfold postsOf at h
  split at h
  · cases h
    exact ⟨fun H' _=>rfl,fun j p hj=>by simp at hj⟩
  · rename_i id off len cap
    unfold sliceCells at h
    simp only at h
    split at h
    · rename_i cells k he
      split at he
      · rename_i vs ty hH
        split at he
        · rename_i hle
          simp only [Option.some.injEq,Prod.mk.injEq] at he
          obtain ⟨e1,_⟩:=he
          have hp:=pairsOf_post (Nat.le_refl _) h
          rw [← e1] at hp
          have hlen:l.length=len:=by have:=congrArg List.length hp; rw [postC_len] at this; simp at this; omega
          have hid:id < H.length:=(List.getElem?_eq_some_iff.1 hH).1
          refine ⟨fun H' hk=>by rw [hlen]; rfl,fun j p hj=>?_⟩
          have hjl:j < len:=by rw [← hlen]; exact (List.getElem?_eq_some_iff.1 hj).1
          obtain ⟨h1,h2⟩:=part_at hp hj
          refine ⟨.ptr id (off + j * 2),vs,off + j * 2,?_,fun H' hk=>?_,h1,h2⟩
          · show (if ti70.size=2∧0≤(j:Int)∧(j:Int) < (len:Int) then fNat (off + (j:Int).toNat * 2) fun o=>some (AVal.ptr id o) else none)=_
            rw [if_pos ⟨rfl,by omega,by omega⟩,fNat_eq,Int.toNat_natCast]
          · unfold rowAt
            simp only [hk id hid,hH]
        · cases he
      · cases he
    · cases h
  · rename_i cells off len cap cl
    unfold sliceCells at h
    simp only at h
    split at h
    · rename_i cs k he
      split at he
      · rename_i hle
        simp only [Option.some.injEq,Prod.mk.injEq] at he
        obtain ⟨e1,_⟩:=he
        have hp:=pairsOf_post (Nat.le_refl _) h
        rw [← e1] at hp
        have hlen:l.length=len:=by have:=congrArg List.length hp; rw [postC_len] at this; simp at this; omega
        refine ⟨fun H' hk=>by rw [hlen]; rfl,fun j p hj=>?_⟩
        have hjl:j < len:=by rw [← hlen]; exact (List.getElem?_eq_some_iff.1 hj).1
        obtain ⟨h1,h2⟩:=part_at hp hj
        refine ⟨.ip cells (off + j * 2) cl,cells,off + j * 2,?_,fun H' hk=>rfl,h1,h2⟩
        show (if 0≤(j:Int)∧(j:Int) < (len:Int) then fNat (off + (j:Int).toNat * ti70.size) fun o=>some (AVal.ip cells o cl) else none)=_
        rw [if_pos ⟨by omega,by omega⟩,fNat_eq,Int.toNat_natCast]
        rfl
      · cases he
    · cases h
  · cases h
noncomputable def zipOf:List AVal→List AVal→Option Posts
  | [],[]=>some []
  | .str s :: ks,.int .i64 a :: vs=>match zipOf ks vs with
    | some r=>some ((s,a) :: r)
    | none=>none
  | _,_=>none
theorem zipOf_ok:∀ {ks vs:List AVal} {r:Posts},zipOf ks vs=some r→ks=r.map (fun e=>.str e.1)∧vs=r.map (fun e=>iA e.2)
  | [],[],r,h=>by cases h; exact ⟨rfl,rfl⟩
  | [],_ :: _,r,h=>by cases h
  | a :: ks,vs,r,h=>by
    unfold zipOf at h
    split at h
    · rename_i e; cases e
    · rename_i str ks' z vs' e
      cases e
      split at h
      · rename_i r' hr
        cases h
        obtain ⟨h1,h2⟩:=zipOf_ok hr
        rw [h1,h2]
        exact ⟨rfl,rfl⟩
      · cases h
    · cases h
noncomputable def mapOf:AVal→Option Posts
  | .nilm=>some []
  | .imap ks vs true=>zipOf ks vs
  | _=>none
theorem mapOf_is {v:AVal} {l:Posts} (h:mapOf v=some l):IsM v l:=by
  unfold mapOf at h
  split at h
  · cases h; exact .inr ⟨rfl,rfl⟩
  · obtain ⟨h1,h2⟩:=zipOf_ok h
    subst h1; subst h2
    exact .inl rfl
  · cases h
def memS:List UInt8→List (List UInt8)→Bool
  | _,[]=>false
  | s,t :: l=>bytesEq s t || memS s l
def nodupS:List (List UInt8)→Bool
  | []=>true
  | s :: l=>!memS s l && nodupS l
theorem bytesEq_refl:∀ l:List UInt8,bytesEq l l=true
  | []=>rfl
  | a :: l=>by unfold bytesEq; rw [bytesEq_refl l]; simp
theorem memS_of {s:List UInt8}:∀ {l:List (List UInt8)},s∈l→memS s l=true
  | t :: l,h=>by
    unfold memS
    rcases List.mem_cons.1 h with rfl | h
    · rw [bytesEq_refl]; rfl
    · rw [memS_of h]; simp
theorem nodupS_ok:∀ {l:List (List UInt8)},nodupS l=true→l.Nodup
  | [],_=>List.nodup_nil
  | s :: l,h=>by
    unfold nodupS at h
    rw [Bool.and_eq_true] at h
    rw [List.nodup_cons]
    refine ⟨fun hm=>?_,nodupS_ok h.2⟩
    rw [memS_of hm] at h
    cases h.1
noncomputable def okM (m:Posts):Bool:=nodupS (m.map (·.1)) && m.all fun e=>small64 e.2
noncomputable def okP (l:Posts):Bool:=(l.all fun p=>small64 p.2 && Nat.ble p.1.length 1048576) && Nat.ble l.length 1048576
theorem small_i64 {z:Int} (h:small64 z=true):i64 z:=by
  unfold small64 at h
  rw [Bool.and_eq_true,decide_eq_true_eq,decide_eq_true_eq] at h
  exact h
noncomputable def booksX:Ext:=fun args H=>match args with
  | [.ptr L off,ps,.bool undo]=>match H[L]? with
    | some (.cells vs0 ty0)=>match vs0[off]?,vs0[off + 1]? with
      | some src,some (.int .i64 cnt)=>match mapOf src,postsOf H ps with
        | some m,some l=>bif okM m && okP l && small64 cnt && small64 (cnt + 1) then
            some (errA (bookCode undo m l),H.set L (.cells (if bookCode undo m l=0 then (vs0.set off (imapA (bookE m (sumsOf undo l)))).set (off + 1) (iA (cnt + 1)) else vs0) ty0)) else none
        | _,_=>none
      | _,_=>none
    | _=>none
  | _=>none
theorem booksX_ok (S:Sg) (hg:S.glob=S0.glob) (hp:S.pin=S0.pin):ExtAt Tryz.prog S 93 booksX:=by
  intro args H v H' hx
  unfold booksX at hx
  split at hx
  · rename_i L off ps undo
    split at hx
    · rename_i vs0 ty0 hL
      split at hx
      · rename_i src cnt h1 h2
        split at hx
        · rename_i m l hm hl
          cases hb:okM m && okP l && small64 cnt && small64 (cnt + 1) with
          | false=>rw [hb] at hx; cases hx
          | true =>
            rw [hb] at hx
            cases hx
            simp only [Bool.and_eq_true] at hb
            obtain ⟨⟨⟨b1,b2⟩,b3⟩,b4⟩:=hb
            unfold okM at b1
            unfold okP at b2
            simp only [Bool.and_eq_true,List.all_eq_true] at b1 b2
            exact DoesC.glob hg hp (books undo m l src ps H L off vs0 ty0 cnt hL h1 (mapOf_is hm) h2 (nodupS_ok b1.1) (fun e he=>small_i64 (b1.2 e he)) ⟨small_i64 b3,small_i64 b4⟩ (postsOf_slp hl)
              (fun p hp=>⟨small_i64 (b2.1 p hp).1,by have:=Nat.le_of_ble_eq_true (b2.1 p hp).2; omega⟩) (by have:=Nat.le_of_ble_eq_true b2.2; omega))
        · cases hx
      · cases hx
    · cases hx
  · cases hx
end
end Go.AM.C
namespace Go.AM.C
open Go.Proofs
noncomputable section
abbrev SL:Sg:=mkS Tryz.prog (tyOf tys) (fun t=>Nat.beq t 145) globF pinF (fun _=>false) false []
theorem sl0:Sound Tryz.prog SL:=mkS_sound mixed (fun t i h=>tyOf_ok tys_ok t i h) trivial globF_ok
section
variable {H:Heap} {L:Nat} {src:AVal} {cnt:Int} {ty:TypeId} {m:Posts}
end
theorem same_has (k c:Nat) (hk:k < 9223372036854775808) (H:Heap):Has 13 [errA k,.int .i64 (c:Int)] H (.bool (decide (k=c))) H:=by
  refine does_run s0 (show S0.fn 13=some Tryz.f13 by kernel_rfl) rfl (by kernel_rfl) (Nat.le_of_ble_eq_true rfl) ?_
  refine W.seq (W.region ?_)
  repeat refine WO.op rfl rfl ?_
  refine WO.nil (W.seq (W.region ?_))
  refine WO.op rfl rfl ?_
  refine WO.call rfl (code_err k _) rfl ?_
  refine WO.op rfl rfl ?_
  refine WO.as (v':=.bool (decide (k=c))) rfl rfl (bdE (by omega)) ?_
  refine WO.op rfl rfl ?_
  exact WO.nil (W.ret ⟨trivial,_,rfl,Wk.refl _,rfl⟩)
end
end Go.AM.C
namespace Go.AM.C
open Go.Proofs
noncomputable section
theorem fit_small {n:Nat} (h:n < B64):Fit n:=fit_of_log (by
  by_cases h0:n=0
  · subst h0; decide
  · have:=(Nat.log2_lt h0 (k:=64)).2 h
    omega)
theorem cmp_1 {p q:Nat} (hp0:p≠0) (hq0:q≠0) (hp:p < B64) (hq:q < B64):cmpL [p] [q]=cmpN p q:=by
  have:=cmpL_lims p q
  rwa [lims_small hp hp0,lims_small hq hq0] at this
theorem slu_isl1 (x:Nat) (H:Heap):SlU S0 35 H (.isl (u64s [x]) 0 1 none true) [x]:=SlU.isl (l:=[x]) tU rfl tu rfl
abbrev gEmp:AObj:=.cells [] 92
def gH (p q:Nat) (sw:Bool):Heap:=bif sw then [gEmp,.cells (u64s [q]) 92,gEmp,.cells (u64s [p]) 92] else [gEmp,.cells (u64s [p]) 92,gEmp,.cells (u64s [q]) 92]
def gA (sw:Bool):Nat:=bif sw then 3 else 1
theorem gH_a (p q:Nat) (sw:Bool):(gH p q sw)[gA sw]?=some (.cells (u64s [p]) 92):=by cases sw <;> rfl
theorem gH_b (p q:Nat) (sw:Bool):(gH p q sw)[gA (!sw)]?=some (.cells (u64s [q]) 92):=by cases sw <;> rfl
theorem gH_ne (sw:Bool):gA sw≠gA (!sw):=by cases sw <;> decide
theorem gH_set (p q r:Nat) (sw:Bool):(gH p q sw).set (gA sw) (.cells (u64s [r]) 92)=gH r q sw:=by cases sw <;> rfl
theorem gH_swap (p q:Nat) (sw:Bool):gH p q sw=gH q p (!sw):=by cases sw <;> rfl
theorem min_op {call:Calling} {d:Bool} {g:Operand→AVal} {H:Heap} {c:Call} {j k:Nat} {t t':TypeId} (hc:c.callee=.builtin .min) (ha:c.args.toList.map g=[.int .i64 (j:Int),.int .i64 (k:Int)]) (hta:c.argTypes.toList=[t,t']) :
    denG S0 call d g H (.call c)=some (.int .i64 ((min j k:Nat):Int),H):=by
  simp only [denG,hc,ha,hta]
  have e:(if ((k:Int) < (j:Int)) then (k:Int) else (j:Int))=((min j k:Nat):Int):=by
    rw [Nat.min_def]
    split <;> split <;> omega
  show withH H (some (AVal.int .i64 (if ((k:Int) < (j:Int)) then (k:Int) else (j:Int))))=_
  rw [e]
  rfl
set_option maxRecDepth 100000 in
theorem common_1 (x y:Nat) (hx0:x≠0) (hy0:y≠0) (hx:x < B64) (hy:y < B64) (H:Heap) :
    Has 307 [.isl (u64s [x]) 0 1 none true,.isl (u64s [y]) 0 1 none true] H (.obj (.np (Nat.gcd x y))) H:=by
  have hg:=gcd_twos hx0 hy0 hx hy
  have h1:=ntz_lt hx0 hx
  have h2:=ntz_lt hy0 hy
  obtain ⟨_,ox,ox0,oxl⟩:=oddp_spec hx0 hx
  obtain ⟨_,oy,oy0,oyl⟩:=oddp_spec hy0 hy
  refine does_pure s0 (show S0.fn 307=some Tryz.f307 by kernel_rfl) rfl (by kernel_rfl) (Nat.le_of_ble_eq_true rfl) rfl rfl ?_
  refine W.seq (W.region ?_)
  refine WO.op rfl rfl (WO.nil (W.seq (W.region ?_)))
  refine WO.op rfl rfl ?_
  refine WO.call rfl (twos_1 (slu_isl1 x _) hx0 hx) rfl ?_
  refine WO.op rfl rfl ?_
  refine WO.call rfl (twos_1 (slu_isl1 y _) hy0 hy) rfl ?_
  refine WO.op (min_op (j:=ntz x) (k:=ntz y) rfl rfl rfl) rfl ?_
  refine WO.op rfl rfl (WO.nil (W.seq (W.region ?_)))
  refine WO.op rfl rfl ?_
  refine WO.call rfl (clone_1 x _) rfl ?_
  refine WO.call rfl (odd_1 1 x _ 92 rfl hx0 hx) rfl ?_
  refine WO.op rfl rfl ?_
  refine WO.call rfl (clone_1 y _) rfl ?_
  refine WO.call rfl (odd_1 3 y _ 92 rfl hy0 hy) rfl ?_
  refine WO.op rfl rfl ?_
  refine WO.op rfl rfl (WO.nil (W.block ?_))
  have hk:min (ntz x) (ntz y) < 64:=by omega
  change 2 ^ min (ntz x) (ntz y) * Nat.gcd (oddp x) (oddp y)=Nat.gcd x y at hg
  refine W.heq (H':=gH (oddp x) (oddp y) false) rfl ?_
  rw [← hg]
  have hpx:oddp x < B64:=by omega
  have hpy:oddp y < B64:=by omega
  generalize min (ntz x) (ntz y)=k at *
  generalize oddp x=a at *
  generalize oddp y=b at *
  refine W.fits (F':=fr [(0,.sl 1 0 1 none 1),(1,.sl 3 0 1 none 1),(5,.int .i64 (k:Int))]) (fits_fr ⟨rfl,rfl,rfl,trivial⟩) ?_
  refine W.loopI (α:=Nat×Nat×Bool) (fun s=>s.1 % 2=1∧s.2.1 % 2=1∧s.1 < B64∧s.2.1 < B64∧Nat.gcd s.1 s.2.1=Nat.gcd a b) (fun s=>s.1 + s.2.1)
    (fun s=>fr [(0,.sl (gA s.2.2) 0 1 none 1),(1,.sl (gA (!s.2.2)) 0 1 none 1),(5,.int .i64 (k:Int))]) (fun s=>gH s.1 s.2.1 s.2.2) ?_ (a,b,false) ⟨ox,oy,hpx,hpy,rfl⟩
  rintro ⟨p,q,sw⟩ ⟨op,oq,hp,hq,hgc⟩
  simp only at op oq hp hq hgc
  have hp0:p≠0:=by omega
  have hq0:q≠0:=by omega
  have hA:=gH_a p q sw
  have hB:=gH_b p q sw
  have hc:=cmp_1 hp0 hq0 hp hq
  refine W.block (W.seq (W.seq (W.region ?_)))
  refine WO.op rfl rfl ?_
  refine WO.op rfl rfl ?_
  refine WO.call rfl (compare_sl (slu_1 (cap:=none) hA) (slu_1 (cap:=none) hB) (by simp) (by simp)) rfl ?_
  rw [hc]
  rcases Nat.lt_trichotomy p q with hlt | heq | hgt
  · have hcn:cmpN p q=-1:=by unfold cmpN; rw [if_pos hlt]
    rw [hcn]
    refine WO.nil (W.block (W.seq (W.region ?_)))
    refine WO.op rfl rfl ?_
    refine WO.op rfl rfl (WO.nil (W.cond (b:=false) rfl (fun h=>by cases h) (fun _=>W.seq (W.region ?_))))
    refine WO.op rfl rfl ?_
    refine WO.op rfl rfl (WO.nil (W.cond (b:=true) rfl (fun _=>W.region ?_) (fun h=>by cases h)))
    iterate 3 refine WO.op rfl rfl ?_
    refine WO.op rfl rfl (WO.nil (W.region ?_))
    refine WO.op rfl rfl ?_
    refine WO.op rfl rfl ?_
    refine WO.call rfl (less_1 (gA (!sw)) (gA sw) q p (gH p q sw) 92 92 (gH_ne sw).symm hB hA hlt hq) rfl ?_
    refine WO.heq (H':=gH (q - p) p (!sw)) (by rw [gH_swap,gH_set]) ?_
    have hne:q - p≠0:=by omega
    refine WO.call rfl (odd_1 (gA (!sw)) (q - p) _ 92 (gH_a _ _ _) hne (by omega)) rfl ?_
    obtain ⟨_,e1,e2,e3⟩:=oddp_spec hne (by omega:q - p < B64)
    have hst:=gcd_step op hlt hq
    refine WO.heq (H':=gH (oddp (q - p)) p (!sw)) (gH_set _ _ _ _) ?_
    refine WO.op rfl rfl (WO.nil ⟨(oddp (q - p),p,!sw),⟨e1,op,by simp only; omega,hp,?_⟩,by simp only; omega,fits_fr ⟨rfl,by cases sw <;> rfl,rfl,trivial⟩,rfl⟩)
    rw [← hgc,Nat.gcd_comm p q]
    exact hst
  · subst heq
    have hcn:cmpN p p=0:=by unfold cmpN; rw [if_neg (Nat.lt_irrefl _),if_neg (Nat.lt_irrefl _)]
    rw [hcn]
    refine WO.nil (W.block (W.seq (W.region ?_)))
    refine WO.op rfl rfl ?_
    refine WO.op rfl rfl (WO.nil (W.cond (b:=true) rfl (fun _=>W.seq (W.region ?_)) (fun h=>by cases h)))
    refine WO.op rfl rfl ?_
    refine WO.call rfl (made_1 (gA sw) p none _ _ hA hp0) rfl ?_
    refine WO.op rfl rfl ?_
    refine WO.call rfl (bit_1 k hk _) rfl ?_
    refine WO.seal1 (id:=gA sw) (t:=23) (a':=.obj (.np p)) (by decide) hA rfl (fun c w v hv=>?_) ?_ ?_
    · have hv':VR c w (.ip [.sl (gA sw) 0 1 none 1] 0 false) v:=hv
      cases hv' with
      | ip _ _ _ b o g hcl hF hcell hh =>
        have hh0:=hh 0 _ rfl
        generalize g 0=u at hh0
        cases hh0 with
        | sl _ _ _ _ _ b o ca h=>exact ⟨_,h⟩
    · show Seals _ (.ip [.sl (gA sw) 0 1 none 1] 0 false) _
      exact seals_np (l:=[p]) (by rw [only_at]; exact hA) (Nat.le_refl _) (lims_small hp hp0).symm
    refine WO.call rfl (mul_np p (2 ^ k) (fit_small hp) (fit_small (pow_lt64 hk)) _) rfl ?_
    refine WO.op rfl rfl (WO.nil (W.ret ⟨trivial,_,rfl,?_⟩))
    rw [← hgc,Nat.gcd_self,Nat.mul_comm]
    exact Seals.same _ rfl
  · have hcn:cmpN p q=1:=by unfold cmpN; rw [if_neg (by omega),if_pos hgt]
    rw [hcn]
    refine WO.nil (W.block (W.seq (W.region ?_)))
    refine WO.op rfl rfl ?_
    refine WO.op rfl rfl (WO.nil (W.cond (b:=false) rfl (fun h=>by cases h) (fun _=>W.seq (W.region ?_))))
    refine WO.op rfl rfl ?_
    refine WO.op rfl rfl (WO.nil (W.cond (b:=false) rfl (fun h=>by cases h) (fun _=>W.skip (W.region ?_))))
    refine WO.op rfl rfl ?_
    refine WO.op rfl rfl ?_
    refine WO.call rfl (less_1 (gA sw) (gA (!sw)) p q (gH p q sw) 92 92 (gH_ne sw) hA hB hgt hp) rfl ?_
    refine WO.heq (H':=gH (p - q) q sw) (gH_set _ _ _ _) ?_
    have hne:p - q≠0:=by omega
    refine WO.call rfl (odd_1 (gA sw) (p - q) _ 92 (gH_a _ _ _) hne (by omega)) rfl ?_
    obtain ⟨_,e1,e2,e3⟩:=oddp_spec hne (by omega:p - q < B64)
    have hst:=gcd_step oq hgt hp
    refine WO.heq (H':=gH (oddp (p - q)) q sw) (gH_set _ _ _ _) ?_
    refine WO.op rfl rfl (WO.nil ⟨(oddp (p - q),q,sw),⟨e1,oq,by simp only; omega,hq,hst.trans hgc⟩,by simp only; omega,fits_fr ⟨rfl,rfl,rfl,trivial⟩,rfl⟩)
end
end Go.AM.C
namespace Go.AM.C
open Go.Proofs
noncomputable section
theorem tStr:S0.ty 9=some ti9:=rfl
end
end Go.AM.C
namespace Go.AM.C
open Go.Proofs
noncomputable section
def bl (x:Nat):Nat:=if x=0 then 0 else x.log2 + 1
def tab8:List UInt8:=(List.range 256).map fun x=>UInt8.ofNat (bl x)
theorem bl_le {x:Nat} (h:x < 256):bl x≤8:=by
  unfold bl
  split
  · omega
  · rename_i h0
    have:=(Nat.log2_lt h0 (k:=8)).2 h
    omega
theorem bl_low {x:Nat} (h:0 < x):2 ^ (bl x - 1)≤x:=by
  unfold bl
  rw [if_neg (by omega)]
  exact Nat.log2_self_le (by omega)
theorem bl_high {x:Nat} (h:0 < x):x < 2 ^ bl x:=by
  unfold bl
  rw [if_neg (by omega)]
  exact Nat.lt_log2_self
theorem bl_pos {x:Nat} (h:0 < x):0 < bl x:=by unfold bl; rw [if_neg (by omega)]; omega
theorem tab8_at {x:Nat} (h:x < 256):tab8[x]?=some (UInt8.ofNat (bl x)):=by
  unfold tab8
  rw [List.getElem?_map,List.getElem?_range h]
  rfl
theorem tab8_nat {x:Nat} (h:x < 256):(UInt8.ofNat (bl x)).toNat=bl x:=by
  have:=bl_le h
  rw [UInt8.toNat_ofNat']
  omega
theorem bits_uniq {x a b:Nat} (ha:0 < a) (hb:0 < b) (h1:2 ^ (a - 1)≤x) (h2:x < 2 ^ a) (h3:2 ^ (b - 1)≤x) (h4:x < 2 ^ b):a=b:=by
  have e1:a - 1 < b:=(Nat.pow_lt_pow_iff_right (by decide)).1 (Nat.lt_of_le_of_lt h1 h4)
  have e2:b - 1 < a:=(Nat.pow_lt_pow_iff_right (by decide)).1 (Nat.lt_of_le_of_lt h3 h2)
  omega
theorem bits_up {x n y L:Nat} (h:x / 2 ^ n=y) (hy:0 < y) (hL:0 < L) (h1:2 ^ (L - 1)≤x) (h2:x < 2 ^ L):n + bl y=L:=by
  have hp:=bl_pos hy
  have hn:0 < 2 ^ n:=Nat.pow_pos (by decide)
  have h3:2 ^ (n + bl y - 1)≤x:=by
    have:=bl_low hy
    rw [← h,Nat.le_div_iff_mul_le hn,← Nat.pow_add] at this
    rw [h] at this
    rw [show n + bl y - 1=bl y - 1 + n by omega]
    exact this
  have h4:x < 2 ^ (n + bl y):=by
    have:=bl_high hy
    rw [← h,Nat.div_lt_iff_lt_mul hn,← Nat.pow_add] at this
    rw [h] at this
    rw [Nat.add_comm]
    exact this
  exact bits_uniq (by omega) hL h3 h4 h1 h2
theorem shr_k (x k:Nat) (hk:k < 64) {c:Int} (hc:c=2 ^ (min (k:Int).toNat 64)):AVal.int .u64 (Int.fdiv (x:Int) c)=.int .u64 ((x / 2 ^ k:Nat):Int):=by rw [hc,shr_ex x k hk]
abbrev uA (n:Nat):AVal:=.int .u64 (n:Int)
structure LenI (x b m:Nat) (a:Nat×Nat):Prop where
  eq:x / 2 ^ a.2=a.1
  pos:0 < a.1
  lt:a.1 < b
  n:a.2≤m
set_option maxRecDepth 100000 in
theorem len64_has (x L:Nat) (hL:0 < L) (hL2:L≤64) (h1:2 ^ (L - 1)≤x) (h2:x < 2 ^ L) (hx:x < 18446744073709551616) (H:Heap):Has 278 [uA x] H (iA (L:Int)) H:=by
  have hx0:0 < x:=Nat.lt_of_lt_of_le (Nat.pow_pos (by decide)) h1
  refine does_pure s0 (show S0.fn 278=some Tryz.f278 by kernel_rfl) rfl (by kernel_rfl) (Nat.le_of_ble_eq_true rfl) rfl rfl ?_
  refine W.seq (W.region ?_)
  refine WO.op rfl rfl (WO.nil ?_)
  refine W.midE (LenI x 4294967296 32) (fun a=>[(0,uA a.1),(2,iA (a.2:Int))]) (fun _=>[]) ?_ ?_
  · refine W.seq (W.region ?_)
    refine WO.op rfl rfl ?_
    by_cases h:4294967296≤x
    · refine WO.as (v':=.bool true) rfl rfl (bdT (by omega)) (WO.nil (W.cond (b:=true) rfl (fun _=>?_) (fun h=>by cases h)))
      refine W.seq (W.region ?_)
      refine WO.op rfl rfl ?_
      refine WO.as (v':=uA (x / 2 ^ 32)) rfl rfl (shr_k x 32 (by decide) rfl) ?_
      refine WO.op rfl rfl (WO.nil (W.region ?_))
      refine WO.op rfl rfl (WO.nil ⟨rfl,(x / 2 ^ 32,32),⟨rfl,by omega,by omega,by omega⟩,⟨rfl,rfl,trivial⟩,rfl⟩)
    · refine WO.as (v':=.bool false) rfl rfl (bdF (by omega)) (WO.nil (W.cond (b:=false) rfl (fun h=>by cases h) (fun _=>W.skip ?_)))
      exact ⟨rfl,(x,0),⟨by simp,hx0,by simp only; omega,by simp only; omega⟩,⟨rfl,rfl,trivial⟩,rfl⟩
  rintro ⟨y,n⟩ ⟨e1,e2,e3,e4⟩
  simp only at e1 e2 e3 e4
  change W _ _ _ _ (fr [(0,uA y),(2,iA (n:Int))]) [] _
  refine W.midE (LenI x 65536 48) (fun a=>[(0,uA a.1),(2,iA (a.2:Int))]) (fun _=>[]) ?_ ?_
  · refine W.seq (W.region ?_)
    refine WO.op rfl rfl ?_
    by_cases h:65536≤y
    · refine WO.as (v':=.bool true) rfl rfl (bdT (by omega)) (WO.nil (W.cond (b:=true) rfl (fun _=>?_) (fun h=>by cases h)))
      refine W.seq (W.region ?_)
      refine WO.op rfl rfl ?_
      refine WO.as (v':=uA (y / 2 ^ 16)) rfl rfl (shr_k y 16 (by decide) rfl) ?_
      refine WO.op rfl rfl (WO.nil (W.region ?_))
      refine WO.op rfl rfl ?_
      refine WO.as (v':=iA ((n + 16:Nat):Int)) rfl rfl (int_i64 (by omega) (by omega)) ?_
      refine WO.op rfl rfl (WO.nil ⟨rfl,(y / 2 ^ 16,n + 16),⟨by simp only; rw [← e1,Nat.div_div_eq_div_mul,← Nat.pow_add],by simp only; omega,by simp only; omega,by simp only; omega⟩,⟨rfl,rfl,trivial⟩,rfl⟩)
    · refine WO.as (v':=.bool false) rfl rfl (bdF (by omega)) (WO.nil (W.cond (b:=false) rfl (fun h=>by cases h) (fun _=>W.skip ?_)))
      exact ⟨rfl,(y,n),⟨e1,e2,by simp only; omega,by simp only; omega⟩,⟨rfl,rfl,trivial⟩,rfl⟩
  rintro ⟨y,n⟩ ⟨e1,e2,e3,e4⟩
  simp only at e1 e2 e3 e4
  change W _ _ _ _ (fr [(0,uA y),(2,iA (n:Int))]) [] _
  refine W.midE (LenI x 256 56) (fun a=>[(0,uA a.1),(2,iA (a.2:Int))]) (fun _=>[]) ?_ ?_
  · refine W.seq (W.region ?_)
    refine WO.op rfl rfl ?_
    by_cases h:256≤y
    · refine WO.as (v':=.bool true) rfl rfl (bdT (by omega)) (WO.nil (W.cond (b:=true) rfl (fun _=>?_) (fun h=>by cases h)))
      refine W.seq (W.region ?_)
      refine WO.op rfl rfl ?_
      refine WO.as (v':=uA (y / 2 ^ 8)) rfl rfl (shr_k y 8 (by decide) rfl) ?_
      refine WO.op rfl rfl (WO.nil (W.region ?_))
      refine WO.op rfl rfl ?_
      refine WO.as (v':=iA ((n + 8:Nat):Int)) rfl rfl (int_i64 (by omega) (by omega)) ?_
      refine WO.op rfl rfl (WO.nil ⟨rfl,(y / 2 ^ 8,n + 8),⟨by simp only; rw [← e1,Nat.div_div_eq_div_mul,← Nat.pow_add],by simp only; omega,by simp only; omega,by simp only; omega⟩,⟨rfl,rfl,trivial⟩,rfl⟩)
    · refine WO.as (v':=.bool false) rfl rfl (bdF (by omega)) (WO.nil (W.cond (b:=false) rfl (fun h=>by cases h) (fun _=>W.skip ?_)))
      exact ⟨rfl,(y,n),⟨e1,e2,by simp only; omega,by simp only; omega⟩,⟨rfl,rfl,trivial⟩,rfl⟩
  rintro ⟨y,n⟩ ⟨e1,e2,e3,e4⟩
  simp only at e1 e2 e3 e4
  change W _ _ _ _ (fr [(0,uA y),(2,iA (n:Int))]) [] _
  have hnL:=bits_up e1 e2 hL h1 h2
  have htn:=tab8_nat e3
  have hbl:=bl_le e3
  have htb:=tab8_at e3
  refine W.seq (W.region ?_)
  refine WO.op rfl rfl ?_
  refine WO.op rfl rfl ?_
  refine WO.as (v':=.int .u8 (y:Int)) rfl rfl (by show AVal.int .u8 ((y:Int) % 256)=_; rw [Int.emod_eq_of_lt (by omega) (by omega)]) ?_
  refine WO.op (G.index_str (s:=tab8) (j:=y) (by kernel_rfl) rfl tStr rfl htb) rfl ?_
  rw [htn]
  refine WO.as (v':=iA (bl y:Int)) rfl rfl (int_i64 (by omega) rfl) ?_
  refine WO.as (v':=iA (L:Int)) rfl rfl (int_i64 (by omega) (by omega)) ?_
  exact WO.op rfl rfl (WO.nil (W.ret ⟨trivial,_,rfl,Seals.same _ rfl⟩))
theorem lead_has (x L:Nat) (hL:0 < L) (hL2:L≤64) (h1:2 ^ (L - 1)≤x) (h2:x < 2 ^ L) (hx:x < 18446744073709551616) (H:Heap):Has 198 [uA x] H (iA ((64 - L:Nat):Int)) H:=by
  have hl:=len64_has x L hL hL2 h1 h2 hx
  refine does_pure s0 (show S0.fn 198=some Tryz.f198 by kernel_rfl) rfl (by kernel_rfl) (Nat.le_of_ble_eq_true rfl) rfl rfl ?_
  refine W.seq (W.region ?_)
  refine WO.op rfl rfl (WO.nil (W.seq (W.region ?_)))
  refine WO.op rfl rfl ?_
  refine WO.call rfl (hl _) rfl ?_
  refine WO.as (v':=iA ((64 - L:Nat):Int)) rfl rfl (int_i64 (by omega) (by omega)) ?_
  exact WO.op rfl rfl (WO.nil (W.ret ⟨trivial,_,rfl,Seals.same _ rfl⟩))
end
end Go.AM.C
namespace Go.AM.C
open Go.Proofs
noncomputable section
theorem quo_op {S:Sg} {call:Calling} {d:Bool} {g:Operand→AVal} {H:Heap} {x y:Operand} {t yt:TypeId} {m k:Nat} (hx:g x=uA m) (hy:g y=uA k) (h:k≠0) (hm:m < 18446744073709551616) :
    denG S call d g H (.binOp .quo t x y yt)=some (uA (m / k),H):=by
  simp only [denG,hx,hy]
  show withH H (if (k:Int)=0 then none else some (AVal.int .u64 (wrapI .u64 ((m:Int).tdiv (k:Int)))))=_
  rw [if_neg (by omega)]
  have e:(m:Int).tdiv (k:Int)=((m / k:Nat):Int):=(Int.ofNat_tdiv m k).symm
  have hlt:m / k≤m:=Nat.div_le_self m k
  rw [e]
  generalize m / k=z at hlt ⊢
  rw [wrap_u64 (by omega)]
  rfl
theorem rem_op {S:Sg} {call:Calling} {d:Bool} {g:Operand→AVal} {H:Heap} {x y:Operand} {t yt:TypeId} {m k:Nat} (hx:g x=uA m) (hy:g y=uA k) (h:k≠0) :
    denG S call d g H (.binOp .rem t x y yt)=some (uA (m % k),H):=by
  simp only [denG,hx,hy]
  show withH H (if (k:Int)=0 then none else some (AVal.int .u64 ((m:Int).tmod (k:Int))))=_
  rw [if_neg (by omega)]
  have e:(m:Int).tmod (k:Int)=((m % k:Nat):Int):=(Int.ofNat_tmod m k).symm
  rw [e]
  rfl
theorem shl_u {S:Sg} {call:Calling} {d:Bool} {g:Operand→AVal} {H:Heap} {x y:Operand} {t yt:TypeId} {m k r:Nat} (hx:g x=uA m) (hy:g y=uA k) (hk:k≤64) (hr:(m * 2 ^ k) % 18446744073709551616=r) :
    denG S call d g H (.binOp .shl t x y yt)=some (uA r,H):=by
  simp only [denG,hx,hy]
  show withH H (shiftBin .shl .u64 (m:Int) (k:Int))=_
  unfold shiftBin
  rw [if_neg (by omega)]
  have e1:min (k:Int).toNat IntKind.u64.bits=k:=by show min (k:Int).toNat 64=k; simp; omega
  have e2:wrapI .u64 ((m:Int) * 2 ^ (min (k:Int).toNat IntKind.u64.bits))=(r:Int):=by
    rw [e1,show (2:Int) ^ k=((2 ^ k:Nat):Int) by rw [Int.natCast_pow]; rfl,← Int.natCast_mul]
    show ((m * 2 ^ k:Nat):Int) % 18446744073709551616=(r:Int)
    omega
  show withH H (mkI .u64 (wrapI .u64 ((m:Int) * 2 ^ (min (k:Int).toNat IntKind.u64.bits))))=_
  rw [e2]
  rfl
theorem shr_u {S:Sg} {call:Calling} {d:Bool} {g:Operand→AVal} {H:Heap} {x y:Operand} {t yt:TypeId} {m k:Nat} (hx:g x=uA m) (hy:g y=uA k) (hk:k≤64) :
    denG S call d g H (.binOp .shr t x y yt)=some (uA (m / 2 ^ k),H):=by
  simp only [denG,hx,hy]
  show withH H (shiftBin .shr .u64 (m:Int) (k:Int))=_
  unfold shiftBin
  rw [if_neg (by omega)]
  have e1:min (k:Int).toNat IntKind.u64.bits=k:=by show min (k:Int).toNat 64=k; simp; omega
  show withH H (mkI .u64 (Int.fdiv (m:Int) (2 ^ (min (k:Int).toNat IntKind.u64.bits))))=_
  rw [e1,show (2:Int) ^ k=((2 ^ k:Nat):Int) by rw [Int.natCast_pow]; rfl,← Int.ofNat_fdiv]
  rfl
theorem word21 {U u1 q y R:Nat} (h:U * 4294967296 + u1=q * y + R) (hR:R < 18446744073709551616):AVal.int .u64 (wrapI .u64 (wrapI .u64 (wrapI .u64 ((U:Int) * 4294967296) + (u1:Int)) - wrapI .u64 ((q:Int) * (y:Int))))=uA R:=by
  rw [← Int.natCast_mul q y]
  generalize q * y=p at h
  have e:wrapI .u64 (wrapI .u64 (wrapI .u64 ((U:Int) * 4294967296) + (u1:Int)) - wrapI .u64 (p:Int))=(R:Int):=by
    show ((((U:Int) * 4294967296) % 18446744073709551616 + (u1:Int)) % 18446744073709551616 - (p:Int) % 18446744073709551616) % 18446744073709551616=(R:Int)
    omega
  rw [e]
end
end Go.AM.C
namespace Go.AM.C.DV
open Go.Proofs
noncomputable section
noncomputable def ti265:TI:=⟨.int .u64,1,8,[.int .u64 0],false,[],true,msOf Tryz.prog 265⟩
theorem ti265_ok:tiOf Tryz.prog 265=some ti265:=by kernel_rfl
noncomputable def tys:List (Nat×TI):=[(265,ti265)]
theorem tys_ok:AllT Tryz.prog tys:=⟨ti265_ok,trivial⟩
theorem allT_app {P:Program}:∀ {a b:List (Nat×TI)},AllT P a→AllT P b→AllT P (a ++ b)
  | [],b,_,h=>h
  | (t,i) :: a,b,ha,h=>⟨ha.1,allT_app ha.2 h⟩
abbrev SD:Sg:=mkS Tryz.prog (tyOf (DV.tys ++ Go.AM.C.tys)) (fun _=>false) globF pinF (fun _=>false) false []
theorem sD:Sound Tryz.prog SD:=mkS_sound mixed (fun t i h=>tyOf_ok (allT_app DV.tys_ok Go.AM.C.tys_ok) t i h) trivial globF_ok
theorem toS {f:FuncId} {args:List AVal} {H H':Heap} {v:AVal} (h:DoesC Tryz.prog SD f args H v H'):Has f args H v H':=DoesC.glob rfl rfl h
theorem ofS {f:FuncId} {args:List AVal} {H H':Heap} {v:AVal} (h:Has f args H v H'):DoesC Tryz.prog SD f args H v H':=DoesC.glob rfl rfl h
theorem mul_u {a b:Nat} (h:a * b < 18446744073709551616):AVal.int .u64 (wrapI .u64 ((a:Int) * (b:Int)))=uA (a * b):=by
  rw [← Int.natCast_mul,wrap_u64 (by omega)]
theorem mul_c {b:Nat} (h:b < 4294967296):AVal.int .u64 (wrapI .u64 (4294967296 * (b:Int)))=uA (4294967296 * b):=by
  rw [wrap_u64 (by omega)]
  rfl
theorem less_u {U p:Nat} (h:p≤U) (hU:U < 18446744073709551616):AVal.int .u64 (wrapI .u64 ((U:Int) - (p:Int)))=uA (U - p):=int_u64 (by omega) (by omega)
theorem div_norm {hi lo y s:Nat} (hh:hi < y) (hl:lo < 18446744073709551616) (hy:9223372036854775808≤y * 2 ^ s∧y * 2 ^ s < 18446744073709551616) (hs:s≤63):∃ v,v=lo / 2 ^ (64 - s)∧v < 2 ^ s∧hi * 2 ^ s + v < y * 2 ^ s∧(hi * 18446744073709551616 + lo) * 2 ^ s=(hi * 2 ^ s + v) * 18446744073709551616 + (lo * 2 ^ s) % 18446744073709551616:=by
  have e64:18446744073709551616=2 ^ (64 - s) * 2 ^ s:=by rw [← Nat.pow_add,show 64 - s + s=64 by omega]
  have hp:0 < 2 ^ s:=Nat.pow_pos (by decide)
  have hv:lo / 2 ^ (64 - s)=(lo * 2 ^ s) / 18446744073709551616:=by rw [e64,Nat.mul_div_mul_right _ _ hp]
  have hv2:lo / 2 ^ (64 - s) < 2 ^ s:=by
    rw [Nat.div_lt_iff_lt_mul (Nat.pow_pos (by decide)),Nat.mul_comm,← e64]
    exact hl
  have e1:(hi * 18446744073709551616 + lo) * 2 ^ s=(hi * 2 ^ s + lo / 2 ^ (64 - s)) * 18446744073709551616 + (lo * 2 ^ s) % 18446744073709551616:=by
    rw [hv,Nat.add_mul,Nat.add_mul,Nat.mul_right_comm]
    have:=Nat.div_add_mod (lo * 2 ^ s) 18446744073709551616
    omega
  refine ⟨lo / 2 ^ (64 - s),rfl,hv2,?_,e1⟩
  have h1:(hi + 1) * 2 ^ s≤y * 2 ^ s:=Nat.mul_le_mul_right _ hh
  rw [Nat.add_mul,Nat.one_mul] at h1
  omega
structure DN (hi lo y s Y v U w y1 y0 u1 u0 Q1 R1 Q0 R2:Nat):Prop where
  s1:s≤63
  low:2 ^ (64 - s - 1)≤y
  high:y < 2 ^ (64 - s)
  Yw:(y * 2 ^ s) % 18446744073709551616=Y
  hw:(hi * 2 ^ s) % 18446744073709551616=hi * 2 ^ s
  vv:lo / 2 ^ (64 - s)=v
  vl:v < 2 ^ s
  Uu:hi * 2 ^ s + v=U
  ww:(lo * 2 ^ s) % 18446744073709551616=w
  wl:w < 18446744073709551616
  a1:Y / 4294967296=y1
  a0:Y % 4294967296=y0
  b1:w / 4294967296=u1
  b0:w % 4294967296=u0
  YY:y1 * 4294967296 + y0=Y
  Yl:Y < 18446744073709551616
  y1p:0 < y1
  y1l:y1 < 4294967296
  y0l:y0 < 4294967296
  u1l:u1 < 4294967296
  u0l:u0 < 4294967296
  Ul:U < y1 * 4294967296 + y0
  Rl:R1 < y1 * 4294967296 + y0
  R2l:R2 < y1 * 4294967296 + y0
  q1:(U * 4294967296 + u1) / (y1 * 4294967296 + y0)=Q1
  q0:(R1 * 4294967296 + u0) / (y1 * 4294967296 + y0)=Q0
  Q1l:Q1 < 4294967296
  Q0l:Q0 < 4294967296
  e1:U * 4294967296 + u1=Q1 * Y + R1
  e0:R1 * 4294967296 + u0=Q0 * Y + R2
theorem div_plan {hi lo y:Nat} (hh:hi < y) (hl:lo < 18446744073709551616) (hy:y < 18446744073709551616):∃ s Y v U w y1 y0 u1 u0 Q1 R1 Q0 R2,DN hi lo y s Y v U w y1 y0 u1 u0 Q1 R1 Q0 R2 ∧
    (hi * 18446744073709551616 + lo) / y=Q1 * 4294967296 + Q0∧(hi * 18446744073709551616 + lo) % y=R2 / 2 ^ s:=by
  have hy0:y≠0:=by omega
  have hb:=Nat.log2_self_le hy0
  have hb2:=Nat.lt_log2_self (n:=y)
  have hL:y.log2 < 64:=(Nat.log2_lt hy0).2 hy
  obtain ⟨s,hs⟩:∃ s:Nat,s=63 - y.log2:=⟨_,rfl⟩
  have hs63:s≤63:=by omega
  have hp:0 < 2 ^ s:=Nat.pow_pos (by decide)
  have h1:2 ^ (64 - s - 1)≤y:=by rw [show 64 - s - 1=y.log2 by omega]; exact hb
  have h2:y < 2 ^ (64 - s):=by rw [show 64 - s=y.log2 + 1 by omega]; exact hb2
  have h3:9223372036854775808≤y * 2 ^ s:=by
    have:=Nat.mul_le_mul_right (2 ^ s) h1
    rw [← Nat.pow_add,show 64 - s - 1 + s=63 by omega] at this
    exact this
  have h4:y * 2 ^ s < 18446744073709551616:=by
    have:=Nat.mul_lt_mul_of_pos_right h2 hp
    rw [← Nat.pow_add,show 64 - s + s=64 by omega] at this
    exact this
  obtain ⟨v,hv,hv2,hU,hX⟩:=div_norm hh hl ⟨h3,h4⟩ hs63
  have hq:(hi * 18446744073709551616 + lo) / y=((hi * 18446744073709551616 + lo) * 2 ^ s) / (y * 2 ^ s):=(Nat.mul_div_mul_right _ _ hp).symm
  have hr:(hi * 18446744073709551616 + lo) % y=(((hi * 18446744073709551616 + lo) * 2 ^ s) % (y * 2 ^ s)) / 2 ^ s:=by rw [Nat.mul_mod_mul_right,Nat.mul_div_cancel _ hp]
  have hwl:(lo * 2 ^ s) % 18446744073709551616 < 18446744073709551616:=Nat.mod_lt _ (by decide)
  obtain ⟨w,hw⟩:∃ w,(lo * 2 ^ s) % 18446744073709551616=w:=⟨_,rfl⟩
  obtain ⟨U,hUe⟩:∃ U,hi * 2 ^ s + v=U:=⟨_,rfl⟩
  obtain ⟨Y,hYe⟩:∃ Y,y * 2 ^ s=Y:=⟨_,rfl⟩
  rw [hw] at hwl
  rw [hX,hw,hUe,hYe] at hq hr
  rw [hUe,hYe] at hU
  have hX2:U * 18446744073709551616 + w=(U * 4294967296 + w / 4294967296) * 4294967296 + w % 4294967296:=by clear hq hr hX; omega
  have hYp:0 < Y:=by omega
  rw [hX2] at hq hr
  rw [(div_step _ _ Y hYp).1] at hq
  rw [(div_step _ _ Y hYp).2] at hr
  have hYY:Y / 4294967296 * 4294967296 + Y % 4294967296=Y:=by clear hq hr hX hX2; omega
  have k1:0 < Y / 4294967296:=by clear hq hr hX hX2; omega
  have k2:Y / 4294967296 < 4294967296:=by clear hq hr hX hX2; omega
  have k3:Y % 4294967296 < 4294967296:=Nat.mod_lt _ (by decide)
  have k4:w / 4294967296 < 4294967296:=by clear hq hr hX hX2; omega
  have k5:w % 4294967296 < 4294967296:=Nat.mod_lt _ (by decide)
  have k6:U < Y / 4294967296 * 4294967296 + Y % 4294967296:=by rw [hYY]; exact hU
  have hR1:=Nat.mod_lt (U * 4294967296 + w / 4294967296) hYp
  have d1:=dig_small k1 k6 k4
  have k7:(U * 4294967296 + w / 4294967296) % Y < Y / 4294967296 * 4294967296 + Y % 4294967296:=by rw [hYY]; exact hR1
  have d0:=dig_small k1 k7 k5
  have m1:=Nat.div_add_mod (U * 4294967296 + w / 4294967296) Y
  have m0:=Nat.div_add_mod ((U * 4294967296 + w / 4294967296) % Y * 4294967296 + w % 4294967296) Y
  have hR2:=Nat.mod_lt ((U * 4294967296 + w / 4294967296) % Y * 4294967296 + w % 4294967296) hYp
  refine ⟨s,Y,v,U,w,Y / 4294967296,Y % 4294967296,w / 4294967296,w % 4294967296,(U * 4294967296 + w / 4294967296) / Y,(U * 4294967296 + w / 4294967296) % Y,
    ((U * 4294967296 + w / 4294967296) % Y * 4294967296 + w % 4294967296) / Y,((U * 4294967296 + w / 4294967296) % Y * 4294967296 + w % 4294967296) % Y,?_,hq,hr⟩
  rw [hYY] at d1 d0
  exact ⟨hs63,h1,h2,by rw [hYe]; exact Nat.mod_eq_of_lt (by rw [← hYe]; exact h4),Nat.mod_eq_of_lt (Nat.lt_of_le_of_lt (Nat.le_add_right _ v) (by rw [hUe]; exact Nat.lt_trans hU (by rw [← hYe]; exact h4))),hv.symm,hv2,hUe,hw,hwl,rfl,rfl,rfl,rfl,hYY,by rw [← hYe]; exact h4,k1,k2,k3,k4,k5,k6,k7,
    by rw [hYY]; exact hR2,by rw [hYY],by rw [hYY],d1,d0,by rw [Nat.mul_comm _ Y]; exact m1.symm,by rw [Nat.mul_comm _ Y]; exact m0.symm⟩
theorem mul_lt {q y0:Nat} (h1:q < 4294967296) (h2:y0 < 4294967296):q * y0 < 18446744073709551616:=by
  have h3:q * y0≤4294967295 * y0:=Nat.mul_le_mul_right y0 (by omega)
  omega
theorem add_u {r y1:Nat} (h1:r < 4294967296) (h2:y1 < 4294967296):AVal.int .u64 (wrapI .u64 ((r:Int) + (y1:Int)))=uA (r + y1):=int_u64 (by omega) (by omega)
theorem add_c {r u:Nat} (h1:r < 4294967296) (h2:u < 4294967296):AVal.int .u64 (wrapI .u64 (((4294967296 * r:Nat):Int) + (u:Int)))=uA (4294967296 * r + u):=int_u64 (by omega) (by omega)
theorem mul_d {q:Nat} (h1:q < 4294967296):AVal.int .u64 (wrapI .u64 ((q:Int) * 4294967296))=uA (q * 4294967296):=int_u64 (by omega) (by omega)
theorem add_d {q p:Nat} (h1:q < 4294967296) (h2:p < 4294967296):AVal.int .u64 (wrapI .u64 (((q * 4294967296:Nat):Int) + (p:Int)))=uA (q * 4294967296 + p):=int_u64 (by omega) (by omega)
abbrev dvF (y' s y1 y0 U u1 u0:Nat) (q r:Nat):List (Nat×AVal):=[(2,uA y'),(8,uA s),(9,uA y1),(10,uA y0),(11,uA U),(13,uA u1),(14,uA u0),(15,uA q),(16,uA r)]
abbrev dvG (y' s y1 y0 u0 Q1 R1:Nat) (q r:Nat):List (Nat×AVal):=[(2,uA y'),(8,uA s),(9,uA y1),(10,uA y0),(14,uA u0),(15,uA Q1),(17,uA R1),(18,uA q),(16,uA r)]
theorem sub_s {s:Nat} (h:s≤63):AVal.int .u64 (wrapI .u64 (64 - (s:Int)))=uA (64 - s):=int_u64 (by omega) (by omega)
set_option maxRecDepth 100000 in
set_option maxHeartbeats 4000000 in
theorem div64_has (hi lo y:Nat) (hh:hi < y) (hl:lo < 18446744073709551616) (hy:y < 18446744073709551616) (H:Heap) :
    Has 197 [uA hi,uA lo,uA y] H (.tup [uA ((hi * 18446744073709551616 + lo) / y),uA ((hi * 18446744073709551616 + lo) % y)]) H:=by
  have hy0:y≠0:=by omega
  have hyn:¬ (y:Int)=0:=by omega
  have hyh:¬ (y:Int)≤(hi:Int):=by omega
  by_cases h0:hi=0
  · subst h0
    have hz:0 * 18446744073709551616 + lo=lo:=by omega
    rw [hz]
    refine toS ?_
    refine does_pure sD (show SD.fn 197=some Tryz.f197 by kernel_rfl) rfl (by kernel_rfl) (Nat.le_of_ble_eq_true rfl) rfl rfl ?_
    refine W.seq (W.region ?_)
    refine WO.op rfl rfl ?_
    refine WO.op rfl rfl (WO.nil (W.seq (W.seq (W.region ?_))))
    refine WO.op rfl rfl ?_
    refine WO.as (v':=.bool false) rfl rfl (bdF hyn) (WO.nil (W.cond (b:=false) rfl (fun h=>by cases h) (fun _=>W.skip (W.seq (W.seq (W.region ?_))))))
    refine WO.op rfl rfl ?_
    refine WO.op rfl rfl ?_
    refine WO.as (v':=.bool false) rfl rfl (bdF hyh) (WO.nil (W.cond (b:=false) rfl (fun h=>by cases h) (fun _=>W.skip (W.seq (W.seq (W.region ?_))))))
    refine WO.op rfl rfl ?_
    refine WO.op rfl rfl (WO.nil (W.cond (b:=true) rfl (fun _=>?_) (fun h=>by cases h)))
    refine W.seq (W.draw0 rfl (by kernel_rfl) ?_)
    refine WT.op rfl rfl rfl ?_
    refine WT.op rfl rfl rfl ?_
    refine WT.op (quo_op rfl rfl hy0 hl) rfl rfl ?_
    refine WT.op rfl rfl rfl ?_
    refine WT.op rfl rfl rfl ?_
    refine WT.op (rem_op rfl rfl hy0) rfl rfl ?_
    refine WT.op rfl rfl rfl ?_
    exact WT.op rfl rfl rfl (WT.nil (W.ret ⟨trivial,.tup [uA (lo / y),uA (lo % y)],rfl,Seals.same _ rfl⟩))
  · have hin:¬ (hi:Int)=0:=by omega
    obtain ⟨s,Y,v,U,w,y1,y0,u1,u0,Q1,R1,Q0,R2,n,hq,hr⟩:=div_plan hh hl hy
    rw [hq,hr]
    have hlead:=lead_has y (64 - s) (by have:=n.s1; omega) (by omega) n.low n.high hy
    have e64:64 - (64 - s)=s:=by have:=n.s1; omega
    rw [e64] at hlead
    have hor:=or_add (u:=hi) n.vl (by rw [n.Uu]; exact Nat.lt_trans n.Ul (by rw [n.YY]; exact n.Yl))
    rw [n.Uu] at hor
    have hU64:U < 18446744073709551616:=Nat.lt_trans n.Ul (by rw [n.YY]; exact n.Yl)
    have hR64:R1 < 18446744073709551616:=Nat.lt_trans n.Rl (by rw [n.YY]; exact n.Yl)
    have hR264:R2 < 18446744073709551616:=Nat.lt_trans n.R2l (by rw [n.YY]; exact n.Yl)
    have hs64:s≤64:=by have:=n.s1; omega
    have hss:AVal.int .u64 (wrapI .u64 (s:Int))=uA s:=int_u64 (by omega) rfl
    have hdU:=dig_init (U:=U) (y0:=y0) n.y1p n.y1l n.u1l
    have hdR:=dig_init (U:=R1) (y0:=y0) n.y1p n.y1l n.u0l
    have hmU:=Nat.div_mul_le_self U y1
    have hmR:=Nat.div_mul_le_self R1 y1
    have hlU:U / y1 < 18446744073709551616:=Nat.lt_of_le_of_lt (Nat.div_le_self U y1) hU64
    have hlR:R1 / y1 < 18446744073709551616:=Nat.lt_of_le_of_lt (Nat.div_le_self R1 y1) hR64
    obtain ⟨qU,hqU⟩:∃ q,U / y1=q:=⟨_,rfl⟩
    obtain ⟨qR,hqR⟩:∃ q,R1 / y1=q:=⟨_,rfl⟩
    rw [hqU] at hdU hmU hlU
    rw [hqR] at hdR hmR hlR
    have hy1n:y1≠0:=Nat.ne_of_gt n.y1p
    have hvs:uA (lo / 2 ^ (64 - s))=uA v:=congrArg uA n.vv
    have hQ:uA (U / y1)=uA qU:=congrArg uA hqU
    have hQR:uA (R1 / y1)=uA qR:=congrArg uA hqR
    have ha1:uA (Y / 2 ^ 32)=uA y1:=congrArg uA n.a1
    have hb1:uA (w / 2 ^ 32)=uA u1:=congrArg uA n.b1
    have ha0:AVal.int .u64 (wrapI .u64 ((BitVec.ofInt 64 (Y:Int) &&& BitVec.ofInt 64 4294967295).toNat:Int))=uA y0:=by rw [and_mask n.Yl,n.a0]
    have hb0:AVal.int .u64 (wrapI .u64 ((BitVec.ofInt 64 (w:Int) &&& BitVec.ofInt 64 4294967295).toNat:Int))=uA u0:=by rw [and_mask n.wl,n.b0]
    refine toS ?_
    refine does_pure sD (show SD.fn 197=some Tryz.f197 by kernel_rfl) rfl (by kernel_rfl) (Nat.le_of_ble_eq_true rfl) rfl rfl ?_
    refine W.seq (W.region ?_)
    refine WO.op rfl rfl ?_
    refine WO.op rfl rfl (WO.nil (W.seq (W.seq (W.region ?_))))
    refine WO.op rfl rfl ?_
    refine WO.as (v':=.bool false) rfl rfl (bdF hyn) (WO.nil (W.cond (b:=false) rfl (fun h=>by cases h) (fun _=>W.skip (W.seq (W.seq (W.region ?_))))))
    refine WO.op rfl rfl ?_
    refine WO.op rfl rfl ?_
    refine WO.as (v':=.bool false) rfl rfl (bdF hyh) (WO.nil (W.cond (b:=false) rfl (fun h=>by cases h) (fun _=>W.skip (W.seq (W.seq (W.region ?_))))))
    refine WO.op rfl rfl ?_
    refine WO.as (v':=.bool false) rfl rfl (bdF hin) (WO.nil (W.cond (b:=false) rfl (fun h=>by cases h) (fun _=>W.skip (W.seq (W.region ?_)))))
    refine WO.op rfl rfl ?_
    refine WO.call rfl (ofS (hlead _)) rfl ?_
    refine WO.as (v':=uA s) rfl rfl hss ?_
    refine WO.op rfl rfl (WO.nil (W.seq (W.region ?_)))
    refine WO.op rfl rfl ?_
    refine WO.op rfl rfl ?_
    refine WO.op (shl_u rfl rfl hs64 n.Yw) rfl ?_
    refine WO.op rfl rfl (WO.nil (W.seq (W.region ?_)))
    refine WO.op rfl rfl ?_
    refine WO.as (v':=uA y1) rfl rfl ((shr_k Y 32 (by decide) rfl).trans ha1) ?_
    refine WO.op rfl rfl (WO.nil (W.seq (W.region ?_)))
    refine WO.op rfl rfl ?_
    refine WO.as (v':=uA y0) rfl rfl ha0 ?_
    refine WO.op rfl rfl (WO.nil (W.seq (W.region ?_)))
    refine WO.op rfl rfl ?_
    refine WO.op rfl rfl ?_
    refine WO.op (shl_u rfl rfl hs64 n.hw) rfl ?_
    refine WO.op rfl rfl ?_
    refine WO.op rfl rfl ?_
    refine WO.as (v':=uA (64 - s)) rfl rfl (sub_s n.s1) ?_
    refine WO.as (v':=uA v) (shr_u rfl rfl (Nat.sub_le _ _)) rfl hvs ?_
    refine WO.as (v':=uA U) rfl rfl (congrArg (AVal.int .u64) hor) ?_
    refine WO.op rfl rfl (WO.nil (W.seq (W.region ?_)))
    refine WO.op rfl rfl ?_
    refine WO.op rfl rfl ?_
    refine WO.op (shl_u rfl rfl hs64 n.ww) rfl ?_
    refine WO.op rfl rfl (WO.nil (W.seq (W.region ?_)))
    refine WO.op rfl rfl ?_
    refine WO.as (v':=uA u1) rfl rfl ((shr_k w 32 (by decide) rfl).trans hb1) ?_
    refine WO.op rfl rfl (WO.nil (W.seq (W.region ?_)))
    refine WO.op rfl rfl ?_
    refine WO.as (v':=uA u0) rfl rfl hb0 ?_
    refine WO.op rfl rfl (WO.nil (W.seq (W.region ?_)))
    refine WO.op rfl rfl ?_
    refine WO.op rfl rfl ?_
    refine WO.as (v':=uA qU) (quo_op rfl rfl hy1n hU64) rfl hQ ?_
    refine WO.op rfl rfl (WO.nil (W.seq (W.region ?_)))
    iterate 3 refine WO.op rfl rfl ?_
    refine WO.as (v':=uA (qU * y1)) rfl rfl (mul_u (Nat.lt_of_le_of_lt hmU hU64)) ?_
    refine WO.as (v':=uA (U - qU * y1)) rfl rfl (less_u hmU hU64) ?_
    refine WO.op rfl rfl (WO.nil ?_)
    refine W.midE (α:=Unit) (fun _=>True) (fun _=>[(2,uA Y),(8,uA s),(9,uA y1),(10,uA y0),(11,uA U),(13,uA u1),(14,uA u0),(15,uA Q1)]) (fun _=>[]) ?_ ?_
    · refine W.block ?_
      refine W.fits (F':=fr (dvF Y s y1 y0 U u1 u0 qU (U - qU * y1))) (fits_fr ⟨rfl,rfl,rfl,rfl,rfl,rfl,rfl,rfl,rfl,trivial⟩) ?_
      refine W.loopI (α:=Nat×Nat) (fun x=>QDig U y1 y0 u1 x.1 x.2∧x.1 < 18446744073709551616) (fun x=>x.1) (fun x=>fr (dvF Y s y1 y0 U u1 u0 x.1 x.2)) (fun _=>[]) ?_ (qU,U - qU * y1) ⟨hdU,hlU⟩
      rintro ⟨q,r⟩ ⟨hdig,hql⟩
      simp only at hdig hql
      change W _ _ _ _ (fr (dvF Y s y1 y0 U u1 u0 q r)) [] _
      have hrl:=hdig.lt
      refine W.seq (W.seq (W.region ?_))
      refine WO.op rfl rfl ?_
      by_cases hq:4294967296≤q
      · refine WO.as (v':=.bool true) rfl rfl (bdT (Int.ofNat_le.2 hq)) ?_
        refine WO.op rfl rfl ?_
        repeat refine WO.skip rfl ?_
        refine WO.op rfl rfl (WO.nil (W.cond (b:=true) rfl (fun _=>W.skip ?_) (fun h=>by cases h)))
        refine W.block (W.seq (W.region ?_))
        have hqp:0 < q:=Nat.lt_of_le_of_lt (Nat.zero_le _) (hdig.less n.y1p n.Ul n.u1l (.inl hq))
        refine WO.op rfl rfl ?_
        refine WO.as (v':=uA (q - 1)) rfl rfl (less_u (p:=1) hqp hql) ?_
        refine WO.op rfl rfl (WO.nil (W.seq (W.region ?_)))
        refine WO.op rfl rfl ?_
        refine WO.op rfl rfl ?_
        refine WO.as (v':=uA (r + y1)) rfl rfl (add_u hrl n.y1l) ?_
        refine WO.op rfl rfl (WO.nil (W.seq (W.region ?_)))
        refine WO.op rfl rfl ?_
        by_cases hb:4294967296≤r + y1
        · have hfin:=(hdig.brk n.y1p n.y0l n.Ul n.u1l (.inl hq) hb).trans n.q1
          refine WO.as (v':=.bool true) rfl rfl (bdT (Int.ofNat_le.2 hb)) (WO.nil (W.cond (b:=true) rfl (fun _=>W.exit ?_) (fun h=>by cases h)))
          exact ⟨rfl,(),trivial,⟨rfl,rfl,rfl,rfl,rfl,rfl,rfl,congrArg uA hfin,trivial⟩,rfl⟩
        · refine WO.as (v':=.bool false) rfl rfl (bdF (fun h=>hb (Int.ofNat_le.1 h))) (WO.nil (W.cond (b:=false) rfl (fun h=>by cases h) (fun _=>W.skip ?_)))
          exact ⟨(q - 1,r + y1),⟨hdig.next n.y1p n.Ul n.u1l (.inl hq) (Nat.lt_of_not_le hb),Nat.lt_of_le_of_lt (Nat.sub_le _ _) hql⟩,Nat.sub_lt hqp (by decide),fits_fr ⟨rfl,rfl,rfl,rfl,rfl,rfl,rfl,rfl,rfl,trivial⟩,rfl⟩
      · have hpm:=mul_lt (Nat.lt_of_not_le hq) n.y0l
        refine WO.as (v':=.bool false) rfl rfl (bdF (fun h=>hq (Int.ofNat_le.1 h))) ?_
        iterate 3 refine WO.op rfl rfl ?_
        refine WO.as (v':=uA (q * y0)) rfl rfl (mul_u hpm) ?_
        refine WO.op rfl rfl ?_
        refine WO.as (v':=uA (4294967296 * r)) rfl rfl (mul_c hrl) ?_
        refine WO.op rfl rfl ?_
        refine WO.as (v':=uA (4294967296 * r + u1)) rfl rfl (add_c hrl n.u1l) ?_
        by_cases hg:4294967296 * r + u1 < q * y0
        · refine WO.as (v':=.bool true) rfl rfl (bdT (Int.ofNat_lt.2 hg)) ?_
          refine WO.op rfl rfl (WO.nil (W.cond (b:=true) rfl (fun _=>W.skip ?_) (fun h=>by cases h)))
          refine W.block (W.seq (W.region ?_))
          have hqp:0 < q:=Nat.lt_of_le_of_lt (Nat.zero_le _) (hdig.less n.y1p n.Ul n.u1l (.inr hg))
          refine WO.op rfl rfl ?_
          refine WO.as (v':=uA (q - 1)) rfl rfl (less_u (p:=1) hqp hql) ?_
          refine WO.op rfl rfl (WO.nil (W.seq (W.region ?_)))
          refine WO.op rfl rfl ?_
          refine WO.op rfl rfl ?_
          refine WO.as (v':=uA (r + y1)) rfl rfl (add_u hrl n.y1l) ?_
          refine WO.op rfl rfl (WO.nil (W.seq (W.region ?_)))
          refine WO.op rfl rfl ?_
          by_cases hb:4294967296≤r + y1
          · have hfin:=(hdig.brk n.y1p n.y0l n.Ul n.u1l (.inr hg) hb).trans n.q1
            refine WO.as (v':=.bool true) rfl rfl (bdT (Int.ofNat_le.2 hb)) (WO.nil (W.cond (b:=true) rfl (fun _=>W.exit ?_) (fun h=>by cases h)))
            exact ⟨rfl,(),trivial,⟨rfl,rfl,rfl,rfl,rfl,rfl,rfl,congrArg uA hfin,trivial⟩,rfl⟩
          · refine WO.as (v':=.bool false) rfl rfl (bdF (fun h=>hb (Int.ofNat_le.1 h))) (WO.nil (W.cond (b:=false) rfl (fun h=>by cases h) (fun _=>W.skip ?_)))
            exact ⟨(q - 1,r + y1),⟨hdig.next n.y1p n.Ul n.u1l (.inr hg) (Nat.lt_of_not_le hb),Nat.lt_of_le_of_lt (Nat.sub_le _ _) hql⟩,Nat.sub_lt hqp (by decide),fits_fr ⟨rfl,rfl,rfl,rfl,rfl,rfl,rfl,rfl,rfl,trivial⟩,rfl⟩
        · have hfin:=(hdig.stop n.y1p (Nat.le_of_not_lt hg)).trans n.q1
          refine WO.as (v':=.bool false) rfl rfl (bdF (fun h=>hg (Int.ofNat_lt.1 h))) ?_
          refine WO.op rfl rfl (WO.nil (W.cond (b:=false) rfl (fun h=>by cases h) (fun _=>W.exit ?_)))
          exact ⟨rfl,(),trivial,⟨rfl,rfl,rfl,rfl,rfl,rfl,rfl,congrArg uA hfin,trivial⟩,rfl⟩
    intro _ _
    change W _ _ _ _ (fr [(2,uA Y),(8,uA s),(9,uA y1),(10,uA y0),(11,uA U),(13,uA u1),(14,uA u0),(15,uA Q1)]) [] _
    refine W.seq (W.region ?_)
    iterate 7 refine WO.op rfl rfl ?_
    refine WO.as (v':=uA R1) rfl rfl (word21 n.e1 hR64) ?_
    refine WO.op rfl rfl (WO.nil (W.seq (W.region ?_)))
    refine WO.op rfl rfl ?_
    refine WO.op rfl rfl ?_
    refine WO.as (v':=uA qR) (quo_op rfl rfl hy1n hR64) rfl hQR ?_
    refine WO.op rfl rfl (WO.nil (W.seq (W.region ?_)))
    iterate 3 refine WO.op rfl rfl ?_
    refine WO.as (v':=uA (qR * y1)) rfl rfl (mul_u (Nat.lt_of_le_of_lt hmR hR64)) ?_
    refine WO.as (v':=uA (R1 - qR * y1)) rfl rfl (less_u hmR hR64) ?_
    refine WO.op rfl rfl (WO.nil ?_)
    refine W.midE (α:=Unit) (fun _=>True) (fun _=>[(2,uA Y),(8,uA s),(14,uA u0),(15,uA Q1),(17,uA R1),(18,uA Q0)]) (fun _=>[]) ?_ ?_
    · refine W.block ?_
      refine W.fits (F':=fr (dvG Y s y1 y0 u0 Q1 R1 qR (R1 - qR * y1))) (fits_fr ⟨rfl,rfl,rfl,rfl,rfl,rfl,rfl,rfl,rfl,trivial⟩) ?_
      refine W.loopI (α:=Nat×Nat) (fun x=>QDig R1 y1 y0 u0 x.1 x.2∧x.1 < 18446744073709551616) (fun x=>x.1) (fun x=>fr (dvG Y s y1 y0 u0 Q1 R1 x.1 x.2)) (fun _=>[]) ?_ (qR,R1 - qR * y1) ⟨hdR,hlR⟩
      rintro ⟨q,r⟩ ⟨hdig,hql⟩
      simp only at hdig hql
      change W _ _ _ _ (fr (dvG Y s y1 y0 u0 Q1 R1 q r)) [] _
      have hrl:=hdig.lt
      refine W.seq (W.seq (W.region ?_))
      refine WO.op rfl rfl ?_
      by_cases hq:4294967296≤q
      · refine WO.as (v':=.bool true) rfl rfl (bdT (Int.ofNat_le.2 hq)) ?_
        refine WO.op rfl rfl ?_
        repeat refine WO.skip rfl ?_
        refine WO.op rfl rfl (WO.nil (W.cond (b:=true) rfl (fun _=>W.skip ?_) (fun h=>by cases h)))
        refine W.block (W.seq (W.region ?_))
        have hqp:0 < q:=Nat.lt_of_le_of_lt (Nat.zero_le _) (hdig.less n.y1p n.Rl n.u0l (.inl hq))
        refine WO.op rfl rfl ?_
        refine WO.as (v':=uA (q - 1)) rfl rfl (less_u (p:=1) hqp hql) ?_
        refine WO.op rfl rfl (WO.nil (W.seq (W.region ?_)))
        refine WO.op rfl rfl ?_
        refine WO.op rfl rfl ?_
        refine WO.as (v':=uA (r + y1)) rfl rfl (add_u hrl n.y1l) ?_
        refine WO.op rfl rfl (WO.nil (W.seq (W.region ?_)))
        refine WO.op rfl rfl ?_
        by_cases hb:4294967296≤r + y1
        · have hfin:=(hdig.brk n.y1p n.y0l n.Rl n.u0l (.inl hq) hb).trans n.q0
          refine WO.as (v':=.bool true) rfl rfl (bdT (Int.ofNat_le.2 hb)) (WO.nil (W.cond (b:=true) rfl (fun _=>W.exit ?_) (fun h=>by cases h)))
          exact ⟨rfl,(),trivial,⟨rfl,rfl,rfl,rfl,rfl,congrArg uA hfin,trivial⟩,rfl⟩
        · refine WO.as (v':=.bool false) rfl rfl (bdF (fun h=>hb (Int.ofNat_le.1 h))) (WO.nil (W.cond (b:=false) rfl (fun h=>by cases h) (fun _=>W.skip ?_)))
          exact ⟨(q - 1,r + y1),⟨hdig.next n.y1p n.Rl n.u0l (.inl hq) (Nat.lt_of_not_le hb),Nat.lt_of_le_of_lt (Nat.sub_le _ _) hql⟩,Nat.sub_lt hqp (by decide),fits_fr ⟨rfl,rfl,rfl,rfl,rfl,rfl,rfl,rfl,rfl,trivial⟩,rfl⟩
      · have hpm:=mul_lt (Nat.lt_of_not_le hq) n.y0l
        refine WO.as (v':=.bool false) rfl rfl (bdF (fun h=>hq (Int.ofNat_le.1 h))) ?_
        iterate 3 refine WO.op rfl rfl ?_
        refine WO.as (v':=uA (q * y0)) rfl rfl (mul_u hpm) ?_
        refine WO.op rfl rfl ?_
        refine WO.as (v':=uA (4294967296 * r)) rfl rfl (mul_c hrl) ?_
        refine WO.op rfl rfl ?_
        refine WO.as (v':=uA (4294967296 * r + u0)) rfl rfl (add_c hrl n.u0l) ?_
        by_cases hg:4294967296 * r + u0 < q * y0
        · refine WO.as (v':=.bool true) rfl rfl (bdT (Int.ofNat_lt.2 hg)) ?_
          refine WO.op rfl rfl (WO.nil (W.cond (b:=true) rfl (fun _=>W.skip ?_) (fun h=>by cases h)))
          refine W.block (W.seq (W.region ?_))
          have hqp:0 < q:=Nat.lt_of_le_of_lt (Nat.zero_le _) (hdig.less n.y1p n.Rl n.u0l (.inr hg))
          refine WO.op rfl rfl ?_
          refine WO.as (v':=uA (q - 1)) rfl rfl (less_u (p:=1) hqp hql) ?_
          refine WO.op rfl rfl (WO.nil (W.seq (W.region ?_)))
          refine WO.op rfl rfl ?_
          refine WO.op rfl rfl ?_
          refine WO.as (v':=uA (r + y1)) rfl rfl (add_u hrl n.y1l) ?_
          refine WO.op rfl rfl (WO.nil (W.seq (W.region ?_)))
          refine WO.op rfl rfl ?_
          by_cases hb:4294967296≤r + y1
          · have hfin:=(hdig.brk n.y1p n.y0l n.Rl n.u0l (.inr hg) hb).trans n.q0
            refine WO.as (v':=.bool true) rfl rfl (bdT (Int.ofNat_le.2 hb)) (WO.nil (W.cond (b:=true) rfl (fun _=>W.exit ?_) (fun h=>by cases h)))
            exact ⟨rfl,(),trivial,⟨rfl,rfl,rfl,rfl,rfl,congrArg uA hfin,trivial⟩,rfl⟩
          · refine WO.as (v':=.bool false) rfl rfl (bdF (fun h=>hb (Int.ofNat_le.1 h))) (WO.nil (W.cond (b:=false) rfl (fun h=>by cases h) (fun _=>W.skip ?_)))
            exact ⟨(q - 1,r + y1),⟨hdig.next n.y1p n.Rl n.u0l (.inr hg) (Nat.lt_of_not_le hb),Nat.lt_of_le_of_lt (Nat.sub_le _ _) hql⟩,Nat.sub_lt hqp (by decide),fits_fr ⟨rfl,rfl,rfl,rfl,rfl,rfl,rfl,rfl,rfl,trivial⟩,rfl⟩
        · have hfin:=(hdig.stop n.y1p (Nat.le_of_not_lt hg)).trans n.q0
          refine WO.as (v':=.bool false) rfl rfl (bdF (fun h=>hg (Int.ofNat_lt.1 h))) ?_
          refine WO.op rfl rfl (WO.nil (W.cond (b:=false) rfl (fun h=>by cases h) (fun _=>W.exit ?_)))
          exact ⟨rfl,(),trivial,⟨rfl,rfl,rfl,rfl,rfl,congrArg uA hfin,trivial⟩,rfl⟩
    intro _ _
    change W _ _ _ _ (fr [(2,uA Y),(8,uA s),(14,uA u0),(15,uA Q1),(17,uA R1),(18,uA Q0)]) [] _
    refine W.seq (W.region ?_)
    refine WO.op rfl rfl ?_
    refine WO.as (v':=uA (Q1 * 4294967296)) rfl rfl (mul_d n.Q1l) ?_
    refine WO.op rfl rfl ?_
    refine WO.as (v':=uA (Q1 * 4294967296 + Q0)) rfl rfl (add_d n.Q1l n.Q0l) ?_
    iterate 7 refine WO.op rfl rfl ?_
    refine WO.as (v':=uA R2) rfl rfl (word21 n.e0 hR264) ?_
    refine WO.op rfl rfl ?_
    refine WO.op (shr_u rfl rfl hs64) rfl ?_
    refine WO.op rfl rfl ?_
    exact WO.op rfl rfl (WO.nil (W.ret ⟨trivial,.tup [uA (Q1 * 4294967296 + Q0),uA (R2 / 2 ^ s)],rfl,Seals.same _ rfl⟩))
end
end Go.AM.C.DV
namespace Go.AM.C
open Go.Proofs
noncomputable section
def shortR (d:Nat):List Nat→List Nat×Nat
  | []=>([],0)
  | x :: l=>(((shortR d l).2 * B64 + x) / d :: (shortR d l).1,((shortR d l).2 * B64 + x) % d)
theorem shortR_lt (d:Nat) (hd:0 < d):∀ l,(shortR d l).2 < d
  | []=>hd
  | x :: l=>Nat.mod_lt _ hd
theorem shortR_len (d:Nat):∀ l,(shortR d l).1.length=l.length
  | []=>rfl
  | x :: l=>by simp only [shortR,List.length_cons,shortR_len d l]
theorem shortR_dig (d:Nat) (hd:0 < d):∀ l,Dig l→Dig (shortR d l).1
  | [],_=>Dig.nil
  | x :: l,h=>by
    obtain ⟨h1,h2⟩:=h.cons
    refine Dig.mk ?_ (shortR_dig d hd l h2)
    have:=shortR_lt d hd l
    rw [Nat.div_lt_iff_lt_mul hd]
    have h3:((shortR d l).2 + 1) * B64≤d * B64:=Nat.mul_le_mul_right _ this
    rw [Nat.add_mul,Nat.one_mul] at h3
    rw [Nat.mul_comm B64 d]
    omega
theorem shortR_val (d:Nat):∀ l,val (shortR d l).1 * d + (shortR d l).2=val l
  | []=>by simp [shortR,val]
  | x :: l=>by
    have ih:=shortR_val d l
    simp only [shortR,val]
    have h:=Nat.div_add_mod ((shortR d l).2 * B64 + x) d
    generalize (shortR d l).2=r at *
    generalize val (shortR d l).1=q at *
    generalize (r * B64 + x) / d=z at *
    generalize (r * B64 + x) % d=e at *
    rw [← ih,Nat.add_mul,Nat.mul_add,Nat.mul_assoc B64 q d,Nat.mul_comm z d]
    have:B64 * r=r * B64:=Nat.mul_comm _ _
    omega
theorem shortR_div {d:Nat} (hd:0 < d) (l:List Nat):val (shortR d l).1=val l / d∧(shortR d l).2=val l % d:=by
  have h1:=shortR_val d l
  have h2:=shortR_lt d hd l
  have e:=(Nat.div_mod_unique (a:=val l) (c:=(shortR d l).2) (d:=val (shortR d l).1) hd).2 ⟨by rw [Nat.mul_comm] at h1; omega,h2⟩
  exact ⟨e.1.symm,e.2.symm⟩
theorem shortR_at {d:Nat} {l:List Nat} {j:Nat} (h:j < l.length):shortR d (l.drop j)=(((shortR d (l.drop (j + 1))).2 * B64 + l.getD j 0) / d :: (shortR d (l.drop (j + 1))).1,((shortR d (l.drop (j + 1))).2 * B64 + l.getD j 0) % d):=by
  rw [List.drop_eq_getElem_cons h]
  simp only [shortR]
  rw [show l.getD j 0=l[j] by simp [List.getD_eq_getElem?_getD,List.getElem?_eq_getElem h]]
theorem zeros_set (j x:Nat) (Q:List Nat):(List.replicate (j + 1) 0 ++ Q).set j x=List.replicate j 0 ++ (x :: Q):=by
  rw [List.replicate_succ',List.append_assoc,List.set_append_right _ _ (by simp),List.length_replicate,Nat.sub_self]
  rfl
theorem prev_i64 (j:Nat):iA (((j + 1:Nat):Int) - 1)=iA (j:Int):=by
  show AVal.int .i64 _=.int .i64 _
  rw [show ((j + 1:Nat):Int) - 1=(j:Int) by omega]
set_option maxRecDepth 100000 in
theorem short_has {H:Heap} {va:AVal} {la:List Nat} (hs:∀ X,SlU S0 35 X va la) (hl:la.length < 1048576) (hdig:Dig la) {d:Nat} (hd:0 < d) (hdb:d < B64) :
    Has 112 [va,uA d] H (.tup [.sl H.length 0 la.length (some la.length) 1,uA (shortR d la).2]) (H ++ [.cells (u64s (shortR d la).1) 92]):=by
  refine does_run s0 (show S0.fn 112=some Tryz.f112 by kernel_rfl) rfl (by kernel_rfl) (Nat.le_of_ble_eq_true rfl) ?_
  refine W.seq (W.region ?_)
  refine WO.op rfl rfl ?_
  refine WO.op rfl rfl (WO.nil (W.seq (W.region ?_)))
  refine WO.op rfl rfl ?_
  refine WO.op ((hs _).lenG rfl rfl rfl) rfl ?_
  refine WO.op (G.make (l:=la.length) (c:=la.length) rfl rfl tU rfl tu rfl (Nat.le_refl _) (by show la.length * 8≤_; omega) (by omega)) rfl ?_
  refine WO.op rfl rfl (WO.nil (W.seq (W.region ?_)))
  refine WO.op rfl rfl (WO.nil (W.seq (W.seq (W.region ?_))))
  refine WO.op rfl rfl ?_
  refine WO.op ((hs _).lenG rfl rfl rfl) rfl ?_
  refine WO.as (v':=iA ((la.length:Int) - 1)) rfl rfl (int_i64 (by omega) rfl) ?_
  refine WO.op rfl rfl (WO.nil (W.block ?_))
  refine W.heq (H':=H ++ [.cells (u64s (List.replicate la.length 0 ++ (shortR d (la.drop la.length)).1)) 92]) (by rw [List.drop_length]; simp [shortR,u64s]) ?_
  refine W.fits (F':=fr [(0,va),(1,uA d),(6,.sl H.length 0 la.length (some la.length) 1),(7,uA (shortR d (la.drop la.length)).2),(8,iA ((la.length:Int) - 1))]) (fits_fr ⟨rfl,rfl,rfl,by rw [List.drop_length]; rfl,rfl,trivial⟩) ?_
  refine W.loopI (fun j:Nat=>j≤la.length) (fun j=>j) (fun j=>fr [(0,va),(1,uA d),(6,.sl H.length 0 la.length (some la.length) 1),(7,uA (shortR d (la.drop j)).2),(8,iA ((j:Int) - 1))])
    (fun j=>H ++ [.cells (u64s (List.replicate j 0 ++ (shortR d (la.drop j)).1)) 92]) ?_ la.length (Nat.le_refl _)
  intro j hj
  cases j with
  | zero =>
    rw [List.drop_zero]
    refine W.seq (W.seq (W.region ?_))
    refine WO.op rfl rfl ?_
    refine WO.as (v':=.bool false) rfl rfl (bdF (by omega)) (WO.nil (W.cond (b:=false) rfl (fun h=>by cases h) (fun _=>W.exit ?_)))
    refine W.seq (W.region ?_)
    iterate 3 refine WO.op rfl rfl ?_
    refine WO.op rfl rfl (WO.nil (W.ret ⟨trivial,.tup [.sl H.length 0 la.length (some la.length) 1,uA (shortR d la).2],rfl,Wk.refl _,?_⟩))
    rfl
  | succ j =>
    rw [prev_i64]
    have hjl:j < la.length:=by omega
    have hat:=shortR_at (d:=d) hjl
    have hr:=shortR_lt d hd (la.drop (j + 1))
    have hQl:=shortR_len d (la.drop (j + 1))
    have hx:la.getD j 0 < B64:=hdig.getD j
    generalize shortR d (la.drop (j + 1))=QR at *
    obtain ⟨Q,r⟩:=QR
    simp only at hat hr hQl ⊢
    rw [List.length_drop] at hQl
    obtain ⟨a1,a2,a3,ha1,ha2,ha3⟩:=(hs (H ++ [.cells (u64s (List.replicate (j + 1) 0 ++ Q)) 92])).at_ j hjl
    generalize la.getD j 0=x at *
    have hdv:=DV.div64_has r x d hr hx hdb
    refine W.seq (W.seq (W.region ?_))
    refine WO.op rfl rfl ?_
    refine WO.as (v':=.bool true) rfl rfl (bdT (by omega)) (WO.nil (W.cond (b:=true) rfl (fun _=>W.skip ?_) (fun h=>by cases h)))
    refine W.seq (W.block (W.region ?_))
    iterate 5 refine WO.op rfl rfl ?_
    refine WO.op (SlU.idxG rfl rfl ha1) rfl ?_
    refine WO.op (SlU.loadG rfl tu rfl ha2 ha3) rfl ?_
    refine WO.op rfl rfl ?_
    refine WO.call rfl (hdv _) rfl ?_
    iterate 3 refine WO.op rfl rfl ?_
    refine WO.op (G.idx_sl rfl rfl tU rfl tu rfl (by omega) (by omega)) rfl ?_
    refine WO.op (G.store_u64 rfl rfl tu rfl (app_at rfl) (by simp; omega)) rfl ?_
    refine WO.op rfl rfl (WO.nil (W.region ?_))
    refine WO.op rfl rfl ?_
    refine WO.as (v':=iA ((j:Int) - 1)) rfl rfl (int_i64 (by omega) rfl) ?_
    refine WO.op rfl rfl (WO.nil ⟨j,by omega,by omega,fits_fr ⟨rfl,rfl,rfl,?_,rfl,trivial⟩,?_⟩)
    · rw [hat]; rfl
    · rw [app_set rfl,zeros_set,hat]
end
end Go.AM.C
namespace Go.AM.C
open Go.Proofs
noncomputable section
set_option maxRecDepth 100000 in
theorem made_isl (n:Nat) (hn:n < B64) (H:Heap):Has 107 [.isl (limbs n) 0 (limbs n).length none true] H (.obj (.np n)) H:=by
  have hs:∀ X,SlU S0 35 X (.isl (limbs n) 0 (limbs n).length none true) (lims n):=fun X=>slu_np n X
  refine does_pure s0 (show S0.fn 107=some Tryz.f107 by kernel_rfl) rfl (by kernel_rfl) (Nat.le_of_ble_eq_true rfl) rfl rfl ?_
  refine W.seq (W.region ?_)
  repeat refine WO.op rfl rfl ?_
  refine WO.nil (W.seq (W.block (W.fits (F':=fr [(0,.isl (limbs n) 0 (limbs n).length none true)]) (fits_fr ⟨rfl,trivial⟩) ?_)))
  refine W.loopI (fun _:Unit=>True) (fun _=>0) (fun _=>fr [(0,.isl (limbs n) 0 (limbs n).length none true)]) (fun _=>[]) ?_ () trivial
  intro _ _
  refine W.seq (W.seq (W.region ?_))
  refine WO.op rfl rfl ?_
  refine WO.op ((hs _).lenG rfl rfl rfl) rfl ?_
  by_cases h0:n=0
  · have hl:(lims n).length=0:=lims_len_zero.2 h0
    refine WO.as (v':=.bool false) rfl rfl (bdF (by omega)) ?_
    refine WO.op rfl rfl ?_
    repeat refine WO.skip rfl ?_
    refine WO.op rfl rfl ?_
    refine WO.nil (W.cond (b:=false) rfl (fun h=>by cases h) (fun _=>W.exit ?_))
    refine W.seq (W.region ?_)
    repeat refine WO.op rfl rfl ?_
    exact WO.nil (W.ret ⟨trivial,_,rfl,seals_np_isl n⟩)
  · have hl:lims n=[n]:=lims_small hn h0
    have hl1:(lims n).length=1:=by rw [hl]; rfl
    rw [hl] at hs
    obtain ⟨a1,a2,a3,ha1,ha2,ha3⟩:=(hs []).at_ 0 (by simp)
    have ha3:a2[a3]?=some (.int .u64 (n:Int)):=ha3
    refine WO.as (v':=.bool true) rfl rfl (bdT (by omega)) ?_
    iterate 3 refine WO.op rfl rfl ?_
    refine WO.op ((hs _).lenG rfl rfl rfl) rfl ?_
    refine WO.as (v':=.int .i64 ((0:Nat):Int)) rfl rfl (int_i64 (by simp) (by simp)) ?_
    refine WO.op (SlU.idxG rfl rfl ha1) rfl ?_
    refine WO.op (SlU.loadG rfl tu rfl ha2 ha3) rfl ?_
    refine WO.as (v':=.bool false) rfl rfl (bdF (by omega)) ?_
    repeat refine WO.op rfl rfl ?_
    refine WO.nil (W.cond (b:=false) rfl (fun h=>by cases h) (fun _=>W.exit ?_))
    refine W.seq (W.region ?_)
    repeat refine WO.op rfl rfl ?_
    exact WO.nil (W.ret ⟨trivial,_,rfl,seals_np_isl n⟩)
set_option maxRecDepth 100000 in
theorem divS_np (n m:Nat) (hm:m≠0) (hmb:m < B64) (hn:(lims n).length < 1048576) (H:Heap) :
    Has 52 [.obj (.np n),.obj (.np m)] H (.tup [.obj (.np (n / m)),.obj (.np (n % m)),.nili]) H:=by
  have hl1:lims m=[m]:=lims_small hmb hm
  have tp:∀ X,SlU S0 35 X (.isl (limbs n) 0 (limbs n).length none true) (lims n):=fun X=>slu_np n X
  have tq:∀ X,SlU S0 35 X (.isl (limbs m) 0 (limbs m).length none true) (lims m):=fun X=>slu_np m X
  refine does_pure s0 (show S0.fn 52=some Tryz.f52 by kernel_rfl) rfl (by kernel_rfl) (Nat.le_of_ble_eq_true rfl) rfl rfl ?_
  refine W.seq (W.region ?_)
  refine WO.op rfl rfl ?_
  refine WO.op rfl rfl ?_
  refine WO.op rfl rfl (WO.nil (W.seq (W.region ?_)))
  refine WO.op rfl rfl ?_
  refine WO.call rfl (limbs_np n _) rfl ?_
  refine WO.op rfl rfl ?_
  refine WO.call rfl (limbs_np m _) rfl ?_
  refine WO.op rfl rfl ?_
  refine WO.op rfl rfl (WO.nil (W.seq (W.block ?_)))
  have hcmp:=fun X=>compare_sl (tp X) (tq X) (by omega) (by rw [hl1]; simp)
  rw [hl1] at tq
  have hmd:=fun hlt:n < m=>made_isl n (by omega)
  have hsh:=fun X=>short_has (H:=X) tp hn (dig_lims n) (Nat.pos_of_ne_zero hm) hmb
  generalize hP:(AVal.isl (limbs n) 0 (limbs n).length none true)=vp at *
  generalize hQ:(AVal.isl (limbs m) 0 (limbs m).length none true)=vq at *
  refine W.seq (W.region ?_)
  refine WO.op rfl rfl ?_
  refine WO.op ((tq _).lenG rfl rfl rfl) rfl ?_
  refine WO.op rfl rfl ?_
  refine WO.op rfl rfl (WO.nil (W.cond (b:=false) rfl (fun h=>by cases h) (fun _=>?_)))
  refine W.seq (W.region ?_)
  refine WO.op rfl rfl ?_
  refine WO.op rfl rfl ?_
  refine WO.call rfl (hcmp _) rfl ?_
  rw [cmpL_lims]
  by_cases hlt:n < m
  · rw [Nat.div_eq_of_lt hlt,Nat.mod_eq_of_lt hlt]
    refine WO.as (v':=.bool true) rfl rfl (bdT (by unfold cmpN; rw [if_pos hlt]; decide)) ?_
    refine WO.op rfl rfl (WO.nil (W.cond (b:=true) rfl (fun _=>?_) (fun h=>by cases h)))
    refine W.seq (W.region ?_)
    refine WO.call rfl (of_np 0 (by decide) _) rfl ?_
    refine WO.op rfl rfl ?_
    refine WO.call rfl (hmd hlt _) rfl ?_
    refine WO.op rfl rfl ?_
    refine WO.op rfl rfl ?_
    exact WO.op rfl rfl (WO.nil (W.ret ⟨trivial,.tup [.obj (.np 0),.obj (.np n),.nili],rfl,Seals.same _ rfl⟩))
  · refine WO.as (v':=.bool false) rfl rfl (bdF (by unfold cmpN; rw [if_neg hlt]; split <;> omega)) ?_
    refine WO.op rfl rfl (WO.nil (W.cond (b:=false) rfl (fun h=>by cases h) (fun _=>?_)))
    refine W.seq (W.region ?_)
    refine WO.op rfl rfl ?_
    refine WO.op ((tq _).lenG rfl rfl rfl) rfl ?_
    refine WO.op rfl rfl ?_
    refine WO.op rfl rfl (WO.nil (W.cond (b:=true) rfl (fun _=>?_) (fun h=>by cases h)))
    obtain ⟨b1,b2,b3,hb1,hb2,hb3⟩:=(tq []).at_ 0 (by simp)
    have hb3:b2[b3]?=some (.int .u64 (m:Int)):=hb3
    refine W.seq (W.region ?_)
    refine WO.op rfl rfl ?_
    refine WO.op rfl rfl ?_
    refine WO.op (SlU.idxG (j:=0) rfl rfl hb1) rfl ?_
    refine WO.op (SlU.loadG rfl tu rfl hb2 hb3) rfl ?_
    refine WO.call rfl (hsh _) rfl ?_
    have hql:=shortR_len m (lims n)
    have hqd:=shortR_dig m (Nat.pos_of_ne_zero hm) (lims n) (dig_lims n)
    obtain ⟨hv1,hv2⟩:=shortR_div (Nat.pos_of_ne_zero hm) (lims n)
    have hrl:=shortR_lt m (Nat.pos_of_ne_zero hm) (lims n)
    rw [val_lims] at hv1 hv2
    rw [← hv2]
    generalize shortR m (lims n)=QR at *
    obtain ⟨Q,r⟩:=QR
    simp only at hql hqd hv1 hv2 hrl ⊢
    iterate 4 refine WO.op rfl rfl ?_
    refine WO.op rfl rfl (WO.nil (W.seq (W.region ?_)))
    refine WO.op rfl rfl ?_
    refine WO.call rfl (made_sl 0 Q (lims n).length (lims n).length _ 92 rfl (by omega) (by omega) (by omega)) rfl ?_
    refine WO.op rfl rfl ?_
    refine WO.call rfl (of_np r (by omega) _) rfl ?_
    refine WO.op rfl rfl ?_
    refine WO.op rfl rfl ?_
    refine WO.op rfl rfl (WO.nil (W.ret ⟨trivial,.tup [.ip [.sl 0 0 (trimN Q (lims n).length) (some (lims n).length) 1] 0 false,.obj (.np r),.nili],rfl,?_⟩))
    refine Seals.tup _ _ rfl fun j a b ha hb=>?_
    match j,ha,hb with
    | 0,ha,hb=>cases ha; cases hb; exact seals_np (l:=Q) rfl (by have:=trimN_le Q (lims n).length; omega) (trim_of hqd hql.symm hv1)
    | 1,ha,hb=>cases ha; cases hb; exact Seals.same _ rfl
    | 2,ha,hb=>cases ha; cases hb; exact Seals.same _ rfl
end
end Go.AM.C
namespace Go.AM.C
def digs (n:Nat):List Nat:=if h:n=0 then [] else n % 1000000000 :: digs (n / 1000000000)
termination_by n
decreasing_by exact Nat.div_lt_self (by omega) (by decide)
def dval:List Nat→Nat
  | []=>0
  | d :: l=>d + 1000000000 * dval l
def Dg (l:List Nat):Prop:=∀ d∈l,d < 1000000000
def Top (l:List Nat):Prop:=∀ d,l.getLast?=some d→d≠0
theorem digs_zero:digs 0=[]:=by rw [digs]; rfl
theorem digs_pos {n:Nat} (h:n≠0):digs n=n % 1000000000 :: digs (n / 1000000000):=by rw [digs,dif_neg h]
theorem dval_digs:∀ n:Nat,dval (digs n)=n:=by
  intro n
  induction n using Nat.strongRecOn with
  | _ n ih =>
    by_cases h:n=0
    · subst h; rw [digs_zero]; rfl
    · rw [digs_pos h,dval,ih (n / 1000000000) (Nat.div_lt_self (by omega) (by decide))]
      omega
theorem digs_dg:∀ n:Nat,Dg (digs n):=by
  intro n
  induction n using Nat.strongRecOn with
  | _ n ih =>
    by_cases h:n=0
    · subst h; rw [digs_zero]; intro d hd; cases hd
    · rw [digs_pos h]
      intro d hd
      rcases List.mem_cons.1 hd with rfl | hd
      · exact Nat.mod_lt _ (by decide)
      · exact ih (n / 1000000000) (Nat.div_lt_self (by omega) (by decide)) d hd
theorem Dg.tail {d:Nat} {l:List Nat} (h:Dg (d :: l)):Dg l:=fun x hx=>h x (List.mem_cons_of_mem _ hx)
theorem Dg.take {l:List Nat} (h:Dg l) (k:Nat):Dg (l.take k):=fun x hx=>h x (List.mem_of_mem_take hx)
theorem Dg.app {l:List Nat} {d:Nat} (h:Dg l) (hd:d < 1000000000):Dg (l ++ [d]):=fun x hx=>by
  rcases List.mem_append.1 hx with hx | hx
  · exact h x hx
  · rw [List.mem_singleton.1 hx]; exact hd
theorem Top.tail {d:Nat} {l:List Nat} (h:Top (d :: l)):Top l:=by
  intro x hx
  cases l with
  | nil=>cases hx
  | cons e t=>exact h x (by rw [List.getLast?_cons_cons]; exact hx)
theorem digs_of:∀ l:List Nat,Dg l→Top l→digs (dval l)=l
  | [],_,_=>digs_zero
  | d :: t,hd,ht=>by
    have ih:=digs_of t hd.tail ht.tail
    have hdl:d < 1000000000:=hd d List.mem_cons_self
    have hne:dval (d :: t)≠0:=by
      intro h0
      have h1:d=0∧dval t=0:=by
        simp only [dval] at h0
        omega
      rw [h1.2,digs_zero] at ih
      rw [← ih] at ht
      exact ht d rfl h1.1
    have e1:(d + 1000000000 * dval t) % 1000000000=d:=by omega
    have e2:(d + 1000000000 * dval t) / 1000000000=dval t:=by omega
    rw [digs_pos hne]
    simp only [dval]
    rw [e1,e2,ih]
theorem digs_top (n:Nat):Top (digs n):=by
  induction n using Nat.strongRecOn with
  | _ n ih =>
    by_cases h:n=0
    · subst h; rw [digs_zero]; intro d hd; cases hd
    · rw [digs_pos h]
      by_cases h2:n / 1000000000=0
      · rw [h2,digs_zero]
        intro d hd
        have hd':n % 1000000000=d:=by simpa using hd
        omega
      · have:=ih (n / 1000000000) (Nat.div_lt_self (by omega) (by decide))
        rw [digs_pos h2] at this ⊢
        intro d hd
        rw [List.getLast?_cons_cons] at hd
        exact this d hd
theorem dval_app:∀ (l:List Nat) (x:List Nat),dval (l ++ x)=dval l + 1000000000 ^ l.length * dval x
  | [],x=>by simp [dval]
  | d :: l,x=>by
    simp only [List.cons_append,dval,dval_app l x,List.length_cons,Nat.pow_succ]
    rw [Nat.mul_add,← Nat.add_assoc,← Nat.mul_assoc,Nat.mul_comm 1000000000 (1000000000 ^ l.length)]
theorem dval_lt:∀ {l:List Nat},Dg l→dval l < 1000000000 ^ l.length
  | [],_=>by simp [dval]
  | d :: l,h=>by
    have h1:=dval_lt h.tail
    have h2:d < 1000000000:=h d List.mem_cons_self
    simp only [dval,List.length_cons,Nat.pow_succ]
    have:1000000000 * (dval l + 1)≤1000000000 * 1000000000 ^ l.length:=Nat.mul_le_mul_left _ h1
    rw [Nat.mul_comm (1000000000 ^ l.length)]
    rw [Nat.mul_add] at this
    omega
theorem dval_ge {l:List Nat} (hd:Dg l) (ht:Top l) (h:l≠[]):1000000000 ^ (l.length - 1)≤dval l:=by
  obtain ⟨i,d,rfl⟩:∃ i d,l=i ++ [d]:=⟨l.dropLast,l.getLast h,(List.dropLast_concat_getLast h).symm⟩
  have h0:d≠0:=ht d (by simp)
  rw [dval_app]
  simp only [List.length_append,List.length_singleton,Nat.add_sub_cancel,dval,Nat.mul_zero,Nat.add_zero]
  have:1000000000 ^ i.length * 1≤1000000000 ^ i.length * d:=Nat.mul_le_mul_left _ (by omega)
  omega
theorem top_of {l:List Nat} (hd:Dg l) (h:l≠[]→1000000000 ^ (l.length - 1)≤dval l):Top l:=by
  intro d hl h0
  subst h0
  have hne:l≠[]:=by intro e; rw [e] at hl; cases hl
  obtain ⟨i,rfl⟩:∃ i,l=i ++ [0]:=⟨l.dropLast,by
    have:=List.dropLast_concat_getLast hne
    rw [List.getLast?_eq_some_getLast hne] at hl
    rw [← Option.some.inj hl]
    exact this.symm⟩
  have h1:=h hne
  rw [dval_app] at h1
  simp only [List.length_append,List.length_singleton,Nat.add_sub_cancel,dval,Nat.mul_zero,Nat.add_zero] at h1
  have h2:dval i < 1000000000 ^ i.length:=dval_lt fun x hx=>hd x (List.mem_append_left _ hx)
  omega
theorem dval_take_succ {l:List Nat} {i d:Nat} (h:l[i]?=some d):dval (l.take (i + 1))=dval (l.take i) + 1000000000 ^ i * d:=by
  have hi:i < l.length:=(List.getElem?_eq_some_iff.1 h).1
  rw [List.take_add_one,h]
  show dval (l.take i ++ [d])=_
  rw [dval_app,List.length_take,Nat.min_eq_left (by omega)]
  simp only [dval,Nat.mul_zero,Nat.add_zero]
theorem dval_take_all {l:List Nat} {i:Nat} (h:l.length≤i):dval (l.take i)=dval l:=by rw [List.take_of_length_le h]
end Go.AM.C
namespace Go.AM.C
open Go.Proofs
noncomputable section
end
end Go.AM.C
namespace Go.AM.C
open Go.Proofs
noncomputable section
noncomputable def oneL (x:Nat):Bool:=Nat.ble 1 x && Nat.blt x 18446744073709551616
theorem oneL_ok {x:Nat} (h:oneL x=true):x≠0∧x < B64:=by
  unfold oneL at h
  rw [Bool.and_eq_true] at h
  exact ⟨by have:=Nat.le_of_ble_eq_true h.1; omega,blt_lt.1 h.2⟩
noncomputable def commonX:Ext:=fun args H=>match args with
  | [.isl [.int .u64 (.ofNat x)] 0 1 none true,.isl [.int .u64 (.ofNat y)] 0 1 none true]=>bif oneL x && oneL y then (match npV (Nat.gcd x y) with
    | some v=>some (v,H)
    | none=>none) else none
  | _=>none
theorem commonX_ok (S:Sg) (hg:S.glob=S0.glob) (hp:S.pin=S0.pin):ExtAt Tryz.prog S 307 commonX:=by
  intro args H v H' hx
  unfold commonX at hx
  split at hx
  · rename_i x y
    cases hb:oneL x && oneL y with
    | false=>rw [hb] at hx; cases hx
    | true =>
      rw [hb,cond_true,npV_eq] at hx
      rw [Bool.and_eq_true] at hb
      obtain ⟨hx0,hx1⟩:=oneL_ok hb.1
      obtain ⟨hy0,hy1⟩:=oneL_ok hb.2
      cases hx
      exact DoesC.glob hg hp (common_1 x y hx0 hy0 hx1 hy1 _)
  · cases hx
end
end Go.AM.C
