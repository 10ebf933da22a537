import Derived.Test.YtjlmihjhakfchaaGreatDoorA8
import Derived.Test.YtjlmihjhakfchaaGreatDoorN4
import Derived.Test.YtjlmihjhakfchaaGreatDoorB0
set_option linter.unusedVariables false
set_option linter.unusedSimpArgs false
noncomputable section
namespace Go.AM.C
open Go.Proofs
noncomputable section
abbrev SMF:Sg:=SC baseM10
theorem sMF:Sound Tryz.prog SMF:=sc_sound (baseM10_ok _ (sc_glob _) (sc_pin _))
theorem begun_den:givesB (den SMF 5000 9 [] []) true=true:=by kernel_rfl
theorem begun_has (H:Heap):Has 9 [] H (.bool true) H:=Has.un (run_B sMF rfl begun_den H)
end
end Go.AM.C
namespace Go.AM.C
open Go.Proofs
noncomputable section
theorem hlb2 {a b:List UInt8} {x y:Int} (hx:i64 x) (hy:i64 y) (ha:a.length≤20) (hb:b.length≤20):∀ p∈[(a,x),(b,y)],i64 p.2∧p.1.length < 4611686018427387904:=fun p hp=>by
  simp only [List.mem_cons,List.not_mem_nil,or_false] at hp
  rcases hp with rfl | rfl
  · exact ⟨hx,by simp only; omega⟩
  · exact ⟨hy,by simp only; omega⟩
theorem small64_of {z:Int} (h:i64 z):small64 z=true:=by unfold small64; unfold i64 at h; simp [h.1,h.2]
end
end Go.AM.C
namespace Go.AM.C
open Go.Proofs
noncomputable section
def amt (undo:Bool) (l:Posts) (k:List UInt8):Int:=(l.map fun p=>if p.1=k then sg undo p.2 else 0).sum
end
end Go.AM.C
namespace Go.AM
section
variable {S:Sg} {call:Calling} {d:Bool} {g:Operand→AVal} {H:Heap} {c:Call} {t e:TypeId} {ti te:TI} {news:List AVal} {cap2:Option Nat} {cl:Bool}
theorem isl_one {sz:Nat} (hn:news.length=sz):sliceCells H sz (.isl news 0 1 cap2 cl)=some (news,1):=by
  unfold sliceCells
  simp only
  rw [if_pos (by omega),List.drop_zero,List.take_of_length_le (by omega)]
theorem G.append_nils_isl (hc:c.callee=.builtin .append) (ha:c.args.toList.map g=[.nils,.isl news 0 1 cap2 cl]) (hta:c.argTypes.toList=[t,t]) (ht:S.ty t=some ti) (hd:ti.desc=.slice e) (he:S.ty e=some te) (hn:news.length=te.size) (hcl:news.all AVal.cell=true) (hb:te.bytes≤1024) :
    denG S call d g H (.call c)=some (.sl H.length 0 1 none te.size,H ++ [.cells news e]):=by
  obtain ⟨d1,d2,d3,d4,d5,d6,d7,d8⟩:=ti
  simp only at hd
  subst hd
  simp only [denG,hc,ha,hta,denAppend,ht,he,isl_one hn,hcl]
  have h1:(0 + 1) * te.bytes≤140737488355328:=by omega
  rw [if_neg (by decide),if_pos ⟨h1,by omega⟩]
theorem G.append_sl_isl {id len:Nat} {vs:List AVal} {ty:TypeId} (hc:c.callee=.builtin .append) (ha:c.args.toList.map g=[.sl id 0 len none te.size,.isl news 0 1 cap2 cl]) (hta:c.argTypes.toList=[t,t]) (ht:S.ty t=some ti) (hd:ti.desc=.slice e) (he:S.ty e=some te) (hn:news.length=te.size) (hcl:news.all AVal.cell=true) (hb:te.bytes≤1024) (hs:0 < te.size)
    (hI:H[id]?=some (.cells vs ty)) (hv:vs.length=len * te.size) (hl:len < 1073741824) :
    denG S call d g H (.call c)=some (.sl H.length 0 (len + 1) none te.size,H.set id .dead ++ [.cells (vs ++ news) e]):=by
  obtain ⟨d1,d2,d3,d4,d5,d6,d7,d8⟩:=ti
  simp only at hd
  subst hd
  have hso:sliceCells H te.size (.sl id 0 len none te.size)=some (vs,len):=by
    unfold sliceCells
    simp only [hI]
    rw [if_pos (by omega),List.drop_zero,List.take_of_length_le (by omega)]
  simp only [denG,hc,ha,hta,denAppend,ht,he,isl_one hn,hso,hcl]
  have h1:(len + (0 + 1)) * te.bytes≤140737488355328:=by
    have:(len + (0 + 1)) * te.bytes≤1073741824 * 1024:=Nat.mul_le_mul (by omega) hb
    omega
  rw [if_neg (by decide),if_pos ⟨trivial,hs,h1,by omega⟩]
end
end Go.AM
namespace Go.AM.C
open Go.Proofs
noncomputable section
end
end Go.AM.C
namespace Go.AM.C
open Go.Proofs
noncomputable section
def rD (n:Nat):AVal:=.isl (u64s (digs n)) 0 (digs n).length none true
def IsN (v:AVal) (n:Nat):Prop:=v=rD n∨v=.nils∧n=0
theorem tRN:S0.ty 36=some ti36:=rfl
theorem wk_nils0:Wk .nils (.isl [] 0 0 none true):=fun c w v h=>by
  cases h
  exact .isl0 _ _ _ _ _ _ (Nat.zero_le _) (fun n h=>by cases h)
def OutU (HH:Heap) (v:AVal) (l:List Nat):Prop:=v=.nils∧l=[]∨∃ id ty,v=.sl id 0 l.length none 1∧HH[id]?=some (.cells (u64s l) ty)
theorem outU_seal {HH:Heap} {v:AVal} {l:List Nat} (h:OutU HH v l):Seals HH v (.isl (u64s l) 0 l.length none true):=by
  rcases h with ⟨rfl,rfl⟩ | ⟨id,ty,rfl,hH⟩
  · exact .wk _ _ _ wk_nils0 (.same _ rfl)
  · refine Seals.sl id 0 _ none 1 _ ty _ hH (by rw [u64s_len]; omega) (by rw [u64s_len]; omega) (fun j a b ha hb=>?_) (u64s_closed l)
    rw [Nat.zero_add] at ha
    rw [ha] at hb
    cases hb
    exact Seals.same _ (closed1_ (u64s_closed l a (List.mem_of_getElem? ha)))
theorem outU_app {HH:Heap} {v:AVal} {l:List Nat} (x:Nat) (ho:OutU HH v l) (hl:l.length < 1073741824) :
    ∃ v' H',OutU H' v' (l ++ [x])∧∀ (S:Sg) (call:Calling) (d:Bool) (g:Operand→AVal) (c:Call),S.ty=S0.ty→c.callee=.builtin .append→c.args.toList.map g=[v,.sl HH.length 0 1 (some 1) 1]→c.argTypes.toList=[36,36] →
      denG S call d g (HH ++ [.cells (u64s [x]) 92]) (.call c)=some (v',H'):=by
  rcases ho with ⟨rfl,rfl⟩ | ⟨id,ty,rfl,hH⟩
  · refine ⟨_,_,.inr ⟨(HH ++ [AObj.cells (u64s [x]) 92]).length,92,rfl,app_at rfl⟩,fun S call d g c hS hc ha hta=>?_⟩
    exact G.append_nils (ti:=ti36) (te:=ti92) (id2:=HH.length) (cap2:=some 1) hc ha hta (by rw [hS]; rfl) rfl (by rw [hS]; rfl) (app_at rfl) rfl rfl (by decide)
  · have hidl:id < HH.length:=(List.getElem?_eq_some_iff.1 hH).1
    refine ⟨.sl (HH ++ [AObj.cells (u64s [x]) 92]).length 0 (l.length + 1) none 1,(HH ++ [AObj.cells (u64s [x]) 92]).set id .dead ++ [.cells (u64s l ++ u64s [x]) 92],.inr ⟨(HH ++ [AObj.cells (u64s [x]) 92]).length,92,by rw [show (l ++ [x]).length=l.length + 1 by simp],?_⟩,fun S call d g c hS hc ha hta=>?_⟩
    · rw [u64s_append]
      exact app_at (by simp)
    · exact G.append_sl (ti:=ti36) (te:=ti92) (id2:=HH.length) (cap2:=some 1) (id:=id) (len:=l.length) (vs:=u64s l) (ty:=ty) hc ha hta (by rw [hS]; rfl) rfl (by rw [hS]; rfl) (app_at rfl) rfl rfl (by decide) (by decide) (by rw [app_lt hidl]; exact hH) (by rw [u64s_len]; exact (Nat.mul_one _).symm) hl
theorem digs_len {x:Nat} (h:x < 18446744073709551616):(digs x).length≤3:=by
  rcases Nat.lt_or_ge 3 (digs x).length with h3 | h3
  · have h1:=dval_ge (digs_dg x) (digs_top x) (by intro e; rw [e] at h3; cases h3)
    rw [dval_digs] at h1
    have h2:1000000000 ^ 3≤1000000000 ^ ((digs x).length - 1):=Nat.pow_le_pow_right (by decide) (by omega)
    omega
  · exact h3
set_option maxRecDepth 100000 in
theorem ofU_has (x:Nat) (hx:x < 18446744073709551616) (H:Heap):Has 61 [.int .u64 (x:Int)] H (rD x) H:=by
  generalize hR:rD x=R
  refine does_pure s0 (show S0.fn 61=some Tryz.f61 by kernel_rfl) rfl (by kernel_rfl) (Nat.le_of_ble_eq_true rfl) rfl (by rw [← hR]; rfl) ?_
  have hlen:=digs_len hx
  refine W.seq (W.region ?_)
  refine WO.op rfl rfl (WO.nil (W.seq (W.region ?_)))
  refine WO.op rfl rfl (WO.nil (W.seq (W.block ?_)))
  refine W.fits (F':=fr [(0,.int .u64 (x:Int)),(3,.nils)]) (fits_fr ⟨rfl,rfl,trivial⟩) ?_
  refine W.loopI (α:=Nat×List Nat×Heap×AVal) (fun s=>OutU s.2.2.1 s.2.2.2 s.2.1∧s.2.1 ++ digs s.1=digs x∧s.1 < 18446744073709551616) (fun s=>s.1)
    (fun s=>fr [(0,.int .u64 (s.1:Int)),(3,s.2.2.2)]) (fun s=>s.2.2.1) ?_ (x,[],[],.nils) ⟨.inl ⟨rfl,rfl⟩,rfl,hx⟩
  rintro ⟨y,l,HH,v⟩ ⟨ho,he,hy⟩
  simp only at ho he hy
  refine W.seq (W.seq (W.region ?_))
  refine WO.op rfl rfl ?_
  by_cases h0:y=0
  · subst h0
    rw [digs_zero,List.append_nil] at he
    refine WO.as (v':=.bool false) rfl rfl (bdF (by omega)) (WO.nil (W.cond (b:=false) rfl (fun h=>by cases h) (fun _=>W.exit ?_)))
    refine W.seq (W.region ?_)
    refine WO.op rfl rfl ?_
    refine WO.op rfl rfl (WO.nil (W.ret ⟨trivial,_,rfl,?_⟩))
    rw [← hR]
    unfold rD
    rw [← he]
    exact outU_seal ho
  · have e1:((y:Int).tmod 1000000000)=((y % 1000000000:Nat):Int):=(Int.ofNat_tmod y 1000000000).symm
    have e2:((y:Int).tdiv 1000000000)=((y / 1000000000:Nat):Int):=(Int.ofNat_tdiv y 1000000000).symm
    refine WO.as (v':=.bool true) rfl rfl (bdT (by omega)) (WO.nil (W.cond (b:=true) rfl (fun _=>W.skip ?_) (fun h=>by cases h)))
    refine W.seq (W.block (W.region ?_))
    refine WO.op rfl rfl ?_
    refine WO.op rfl rfl ?_
    refine WO.as (v':=.int .u64 ((y % 1000000000:Nat):Int)) rfl rfl (int_eq e1) ?_
    refine WO.op (v:=.sl HH.length 0 1 (some 1) 1) (H1:=HH ++ [.cells (u64s [y % 1000000000]) 92]) rfl rfl ?_
    have hll:l.length < 1073741824:=by
      have:(l ++ digs y).length≤3:=by rw [he]; exact hlen
      rw [List.length_append] at this
      omega
    obtain ⟨v',H',ho',hd⟩:=outU_app (y % 1000000000) ho hll
    refine WO.op (hd _ _ _ _ _ rfl rfl rfl rfl) rfl ?_
    refine WO.op rfl rfl (WO.nil (W.region ?_))
    refine WO.op rfl rfl ?_
    refine WO.as (v':=.int .u64 ((y / 1000000000:Nat):Int)) rfl rfl (int_u64 (by rw [e2]; omega) e2) ?_
    refine WO.op rfl rfl (WO.nil ⟨(y / 1000000000,l ++ [y % 1000000000],H',v'),⟨ho',?_,by simp only; omega⟩,?_,fits_fr ⟨rfl,rfl,trivial⟩,rfl⟩)
    · rw [← he,digs_pos h0,List.append_assoc]; rfl
    · exact Nat.div_lt_self (by omega) (by decide)
end
end Go.AM.C
namespace Go.AM.C
open Go.Proofs
noncomputable section
theorem tU64:S0.ty 92=some ti92:=rfl
theorem Has.wk {f:FuncId} {args args':List AVal} {H H':Heap} {v:AVal} (h:Has f args H v H') (hl:args'.length=args.length) (hw:∀ (j:Nat) (a' a:AVal),args'[j]?=some a'→args[j]?=some a→Wk a' a):Has f args' H v H' :=
  fun c w cargs r g ha=>h c w cargs r g ⟨ha.1.trans hl,fun j x y hx hy=>by
    have hj:j < args'.length:=by rw [hl]; exact (List.getElem?_eq_some_iff.1 hx).1
    exact hw j _ x (List.getElem?_eq_getElem hj) hx _ _ _ (ha.2 j _ y (List.getElem?_eq_getElem hj) hy)⟩
theorem wk_nilsD:Wk .nils (rD 0):=by
  unfold rD
  rw [digs_zero]
  exact wk_nils0
theorem IsN.wk {v:AVal} {n:Nat} (h:IsN v n):Wk v (rD n):=by
  rcases h with rfl | ⟨rfl,rfl⟩
  · exact Wk.refl _
  · exact wk_nilsD
theorem digs_len_le {n k:Nat} (h:n < 1000000000 ^ k):(digs n).length≤k:=by
  rcases Nat.lt_or_ge k (digs n).length with h3 | h3
  · have h1:=dval_ge (digs_dg n) (digs_top n) (by intro e; rw [e] at h3; cases h3)
    rw [dval_digs] at h1
    have h2:1000000000 ^ k≤1000000000 ^ ((digs n).length - 1):=Nat.pow_le_pow_right (by decide) (by omega)
    omega
  · exact h3
theorem lt_of_len {m n:Nat} (h:(digs m).length < (digs n).length):m < n:=by
  have h1:=dval_lt (digs_dg m)
  have h2:=dval_ge (digs_dg n) (digs_top n) (by intro e; rw [e] at h; cases h)
  rw [dval_digs] at h1 h2
  have h3:1000000000 ^ (digs m).length≤1000000000 ^ ((digs n).length - 1):=Nat.pow_le_pow_right (by decide) (by omega)
  omega
theorem dval_split (l:List Nat) (k:Nat) (hk:k≤l.length):dval l=dval (l.take k) + 1000000000 ^ k * dval (l.drop k):=by
  have:=dval_app (l.take k) (l.drop k)
  rw [List.take_append_drop,List.length_take,Nat.min_eq_left hk] at this
  exact this
theorem dval_cmp {a b:List Nat} (ha:Dg a) (hb:Dg b) {k x y:Nat} (hx:a[k]?=some x) (hy:b[k]?=some y) (hd:a.drop (k + 1)=b.drop (k + 1)) (h:x < y):dval a < dval b:=by
  have la:k < a.length:=(List.getElem?_eq_some_iff.1 hx).1
  have lb:k < b.length:=(List.getElem?_eq_some_iff.1 hy).1
  rw [dval_split a (k + 1) la,dval_split b (k + 1) lb,hd,dval_take_succ hx,dval_take_succ hy]
  have h1:=dval_lt (ha.take k)
  rw [List.length_take,Nat.min_eq_left (by omega)] at h1
  have h2:1000000000 ^ k * (x + 1)≤1000000000 ^ k * y:=Nat.mul_le_mul_left _ h
  rw [Nat.mul_add] at h2
  omega
def cmpZ (m n:Nat):Int:=if m < n then -1 else if n < m then 1 else 0
set_option maxRecDepth 100000 in
theorem cmp_has (m n:Nat) (hm:(digs m).length < 4611686018427387904) (hn:(digs n).length < 4611686018427387904) (H:Heap):Has 18 [rD m,rD n] H (iA (cmpZ m n)) H:=by
  have lt1:cmpZ m n=-1↔m < n:=by unfold cmpZ; split <;> (try split) <;> omega
  have gt1:cmpZ m n=1↔n < m:=by unfold cmpZ; split <;> (try split) <;> omega
  have eq0:cmpZ m n=0↔m=n:=by unfold cmpZ; split <;> (try split) <;> omega
  generalize cmpZ m n=Z at lt1 gt1 eq0
  refine does_pure s0 (show S0.fn 18=some Tryz.f18 by kernel_rfl) rfl (by kernel_rfl) (Nat.le_of_ble_eq_true rfl) rfl rfl ?_
  have da:=digs_dg m
  have db:=digs_dg n
  have va:=dval_digs m
  have vb:=dval_digs n
  have ll:=@lt_of_len m n
  have gl:=@lt_of_len n m
  unfold rD
  generalize digs m=a at *
  generalize digs n=b at *
  refine W.seq (W.region ?_)
  refine WO.op rfl rfl (WO.nil (W.seq (W.seq (W.region ?_))))
  refine WO.op rfl rfl ?_
  refine WO.op (G.len_isl rfl rfl rfl tRN rfl) rfl ?_
  refine WO.op rfl rfl ?_
  refine WO.op (G.len_isl rfl rfl rfl tRN rfl) rfl ?_
  by_cases hl:a.length=b.length
  · refine WO.as (v':=.bool false) rfl rfl (bnT (by omega)) (WO.nil (W.cond (b:=false) rfl (fun h=>by cases h) (fun _=>W.skip (W.seq (W.seq (W.region ?_))))))
    refine WO.op rfl rfl ?_
    refine WO.op (G.len_isl rfl rfl rfl tRN rfl) rfl ?_
    refine WO.as (v':=iA ((a.length:Int) - 1)) rfl rfl (int_i64 (by omega) (by omega)) ?_
    refine WO.op rfl rfl (WO.nil (W.block ?_))
    refine W.fits (F':=fr [(0,.isl (u64s a) 0 a.length none true),(1,.isl (u64s b) 0 b.length none true),(5,iA ((a.length:Int) - 1))]) (fits_fr ⟨rfl,rfl,rfl,trivial⟩) ?_
    refine W.loopI (fun k:Nat=>k≤a.length∧a.drop k=b.drop k) (fun k=>k) (fun k=>fr [(0,.isl (u64s a) 0 a.length none true),(1,.isl (u64s b) 0 b.length none true),(5,iA ((k:Int) - 1))]) (fun _=>[]) ?_ a.length ⟨Nat.le_refl _,by rw [List.drop_length,hl,List.drop_length]⟩
    rintro k ⟨hk,hd⟩
    refine W.seq (W.seq (W.region ?_))
    refine WO.op rfl rfl ?_
    by_cases h0:k=0
    · subst h0
      refine WO.as (v':=.bool false) rfl rfl (bdF (by omega)) (WO.nil (W.cond (b:=false) rfl (fun h=>by cases h) (fun _=>W.exit ?_)))
      have hz:Z=0:=eq0.2 (by rw [← va,← vb]; exact congrArg dval (by simpa using hd))
      subst hz
      refine W.seq (W.region ?_)
      exact WO.op rfl rfl (WO.nil (W.ret ⟨trivial,_,rfl,Seals.same _ rfl⟩))
    · obtain ⟨i,rfl⟩:∃ i,k=i + 1:=⟨k - 1,by omega⟩
      have hia:i < a.length:=by omega
      have hib:i < b.length:=by omega
      obtain ⟨x,hx⟩:∃ x,a[i]?=some x:=⟨_,List.getElem?_eq_getElem hia⟩
      obtain ⟨y,hy⟩:∃ y,b[i]?=some y:=⟨_,List.getElem?_eq_getElem hib⟩
      have ix:0 + (((i + 1:Nat):Int) - 1).toNat * 1=i:=by omega
      have hxa:(u64s a)[0 + (((i + 1:Nat):Int) - 1).toNat * 1]?=some (.int .u64 (x:Int)):=by rw [ix]; exact u64s_get hx
      have hyb:(u64s b)[0 + (((i + 1:Nat):Int) - 1).toNat * 1]?=some (.int .u64 (y:Int)):=by rw [ix]; exact u64s_get hy
      refine WO.as (v':=.bool true) rfl rfl (bdT (by omega)) (WO.nil (W.cond (b:=true) rfl (fun _=>W.skip ?_) (fun h=>by cases h)))
      refine W.seq (W.block (W.seq (W.seq (W.draw0 rfl (by kernel_rfl) ?_))))
      refine WT.op rfl rfl rfl ?_
      refine WT.op rfl rfl rfl ?_
      refine WT.op (G.idx_isl rfl rfl tRN rfl tU64 (by omega) (by omega)) rfl rfl ?_
      refine WT.op (G.load_ip rfl tU64 rfl hxa) rfl rfl ?_
      refine WT.op rfl rfl rfl ?_
      refine WT.op rfl rfl rfl ?_
      refine WT.op (G.idx_isl rfl rfl tRN rfl tU64 (by omega) (by omega)) rfl rfl ?_
      refine WT.op (G.load_ip rfl tU64 rfl hyb) rfl rfl ?_
      refine WT.op rfl rfl rfl (WT.nil (W.cond (b:=decide ((x:Int) < (y:Int))) rfl (fun h=>?_) (fun h=>?_)))
      · have hz:Z=-1:=lt1.2 (by rw [← va,← vb]; exact dval_cmp da db hx hy hd (by simpa using h))
        subst hz
        refine W.seq (W.region ?_)
        exact WO.op rfl rfl (WO.nil (W.ret ⟨trivial,_,rfl,Seals.same _ rfl⟩))
      · refine W.skip (W.seq (W.draw0 rfl (by kernel_rfl) ?_))
        refine WT.op rfl rfl rfl ?_
        refine WT.op rfl rfl rfl ?_
        refine WT.op (G.idx_isl rfl rfl tRN rfl tU64 (by omega) (by omega)) rfl rfl ?_
        refine WT.op (G.load_ip rfl tU64 rfl hxa) rfl rfl ?_
        refine WT.op rfl rfl rfl ?_
        refine WT.op rfl rfl rfl ?_
        refine WT.op (G.idx_isl rfl rfl tRN rfl tU64 (by omega) (by omega)) rfl rfl ?_
        refine WT.op (G.load_ip rfl tU64 rfl hyb) rfl rfl ?_
        refine WT.op rfl rfl rfl (WT.nil (W.cond (b:=decide ((x:Int) > (y:Int))) rfl (fun h2=>?_) (fun h2=>?_)))
        · have hz:Z=1:=gt1.2 (by rw [← va,← vb]; exact dval_cmp db da hy hx hd.symm (by simpa using h2))
          subst hz
          refine W.seq (W.region ?_)
          exact WO.op rfl rfl (WO.nil (W.ret ⟨trivial,_,rfl,Seals.same _ rfl⟩))
        · have hxy:x=y:=by
            have h3:¬ (x:Int) < (y:Int):=by simpa using h
            have h4:¬ (x:Int) > (y:Int):=by simpa using h2
            omega
          refine W.skip (W.region ?_)
          refine WO.op rfl rfl ?_
          refine WO.as (v':=iA ((i:Int) - 1)) rfl rfl (int_i64 (by omega) (by omega)) ?_
          refine WO.op rfl rfl (WO.nil ⟨i,⟨by omega,?_⟩,by omega,fits_fr ⟨rfl,rfl,rfl,trivial⟩,rfl⟩)
          rw [List.drop_eq_getElem_cons hia,List.drop_eq_getElem_cons hib,hd]
          have e1:a[i]=x:=(List.getElem?_eq_some_iff.1 hx).2
          have e2:b[i]=y:=(List.getElem?_eq_some_iff.1 hy).2
          rw [e1,e2,hxy]
  · refine WO.as (v':=.bool true) rfl rfl (bnF (by omega)) (WO.nil (W.cond (b:=true) rfl (fun _=>?_) (fun h=>by cases h)))
    refine W.seq (W.seq (W.region ?_))
    refine WO.op rfl rfl ?_
    refine WO.op (G.len_isl rfl rfl rfl tRN rfl) rfl ?_
    refine WO.op rfl rfl ?_
    refine WO.op (G.len_isl rfl rfl rfl tRN rfl) rfl ?_
    by_cases hlt:a.length < b.length
    · have hz:Z=-1:=lt1.2 (ll hlt)
      subst hz
      refine WO.as (v':=.bool true) rfl rfl (bdT (by omega)) (WO.nil (W.cond (b:=true) rfl (fun _=>?_) (fun h=>by cases h)))
      refine W.seq (W.region ?_)
      exact WO.op rfl rfl (WO.nil (W.ret ⟨trivial,_,rfl,Seals.same _ rfl⟩))
    · have hz:Z=1:=gt1.2 (gl (by omega))
      subst hz
      refine WO.as (v':=.bool false) rfl rfl (bdF (by omega)) (WO.nil (W.cond (b:=false) rfl (fun h=>by cases h) (fun _=>W.skip ?_)))
      refine W.seq (W.region ?_)
      exact WO.op rfl rfl (WO.nil (W.ret ⟨trivial,_,rfl,Seals.same _ rfl⟩))
end
end Go.AM.C
namespace Go.AM.C
open Go.Proofs
noncomputable section
theorem take_step (l:List Nat) (k:Nat):dval (l.take (k + 1))=dval (l.take k) + 1000000000 ^ k * l.getD k 0:=by
  rcases Nat.lt_or_ge k l.length with h | h
  · have hg:l[k]?=some (l.getD k 0):=by rw [List.getD_eq_getElem?_getD,List.getElem?_eq_getElem h]; rfl
    exact dval_take_succ hg
  · rw [dval_take_all (by omega),dval_take_all h,List.getD_eq_getElem?_getD,List.getElem?_eq_none h]
    simp
theorem getD_dg {l:List Nat} (h:Dg l) (k:Nat):l.getD k 0 < 1000000000:=by
  rcases Nat.lt_or_ge k l.length with hk | hk
  · rw [List.getD_eq_getElem?_getD,List.getElem?_eq_getElem hk]
    exact h _ (List.getElem_mem hk)
  · rw [List.getD_eq_getElem?_getD,List.getElem?_eq_none hk]; decide
theorem getD_at {l:List Nat} {k:Nat} (h:k < l.length):(u64s l)[0 + (k:Int).toNat * 1]?=some (.int .u64 ((l.getD k 0:Nat):Int)):=u64s_at h
theorem getD_over {l:List Nat} {k:Nat} (h:l.length≤k):l.getD k 0=0:=by rw [List.getD_eq_getElem?_getD,List.getElem?_eq_none h]; rfl
structure AddI (a b l:List Nat) (k c:Nat):Prop where
  len:l.length=k
  dg:Dg l
  val:dval l + 1000000000 ^ k * c=dval (a.take k) + dval (b.take k)
  c1:c≤1
  kb:k + c≤a.length + b.length + 1
  top:k=0∨k - 1 < a.length∨k - 1 < b.length∨1000000000 ^ (k - 1)≤dval a + dval b
theorem AddI.step {a b l:List Nat} {k c s:Nat} (h:AddI a b l k c) (da:Dg a) (db:Dg b) (hs:s=c + a.getD k 0 + b.getD k 0) (go:k < a.length∨k < b.length∨0 < c):AddI a b (l ++ [s % 1000000000]) (k + 1) (s / 1000000000):=by
  obtain ⟨h1,h2,h3,h4,h5,h6⟩:=h
  have ga:=getD_dg da k
  have gb:=getD_dg db k
  have s1:s / 1000000000≤1:=by omega
  have hmod:=Nat.div_add_mod s 1000000000
  refine ⟨by simp [h1],h2.app (Nat.mod_lt _ (by decide)),?_,s1,?_,?_⟩
  · rw [dval_app,take_step,take_step,h1]
    simp only [dval,Nat.mul_zero,Nat.add_zero]
    have e1:1000000000 ^ (k + 1) * (s / 1000000000)=1000000000 ^ k * (1000000000 * (s / 1000000000)):=by rw [Nat.pow_succ,Nat.mul_assoc]
    have e2:1000000000 ^ k * s=1000000000 ^ k * (1000000000 * (s / 1000000000)) + 1000000000 ^ k * (s % 1000000000):=by rw [← Nat.mul_add,hmod]
    have e3:1000000000 ^ k * s=1000000000 ^ k * c + 1000000000 ^ k * a.getD k 0 + 1000000000 ^ k * b.getD k 0:=by rw [hs,Nat.mul_add,Nat.mul_add]
    rw [e1]
    omega
  · rcases go with g | g | g
    · omega
    · omega
    · by_cases g1:k < a.length
      · omega
      · by_cases g2:k < b.length
        · omega
        · rw [getD_over (by omega),getD_over (by omega)] at hs
          omega
  · rw [Nat.add_sub_cancel]
    rcases go with g | g | g
    · exact .inr (.inl g)
    · exact .inr (.inr (.inl g))
    · by_cases g1:k < a.length
      · exact .inr (.inl g1)
      · by_cases g2:k < b.length
        · exact .inr (.inr (.inl g2))
        · rw [dval_take_all (by omega),dval_take_all (by omega)] at h3
          have:1000000000 ^ k * 1≤1000000000 ^ k * c:=Nat.mul_le_mul_left _ g
          exact .inr (.inr (.inr (by omega)))
theorem AddI.fin {a b l:List Nat} {k:Nat} (h:AddI a b l k 0) (da:Dg a) (db:Dg b) (ta:Top a) (tb:Top b) (ha:a.length≤k) (hb:b.length≤k):l=digs (dval a + dval b):=by
  obtain ⟨h1,h2,h3,h4,h5,h6⟩:=h
  rw [dval_take_all ha,dval_take_all hb,Nat.mul_zero,Nat.add_zero] at h3
  rw [← h3]
  refine (digs_of l h2 (top_of h2 fun hne=>?_)).symm
  have hk:k≠0:=fun e=>hne (List.eq_nil_of_length_eq_zero (by omega))
  rw [h1,h3]
  rcases h6 with h6 | h6 | h6 | h6
  · exact absurd h6 hk
  · have:=dval_ge da ta (by intro e; rw [e] at h6; cases h6)
    rw [show a.length - 1=k - 1 by omega] at this
    omega
  · have:=dval_ge db tb (by intro e; rw [e] at h6; cases h6)
    rw [show b.length - 1=k - 1 by omega] at this
    omega
  · exact h6
set_option maxRecDepth 100000 in
theorem radd_has (m n:Nat) (hm:(digs m).length < 268435456) (hn:(digs n).length < 268435456) (H:Heap):Has 60 [rD m,rD n] H (rD (m + n)) H:=by
  generalize hR:rD (m + n)=R
  refine does_pure s0 (show S0.fn 60=some Tryz.f60 by kernel_rfl) rfl (by kernel_rfl) (Nat.le_of_ble_eq_true rfl) rfl (by rw [← hR]; rfl) ?_
  have da:=digs_dg m
  have db:=digs_dg n
  have ta:=digs_top m
  have tb:=digs_top n
  have va:=dval_digs m
  have vb:=dval_digs n
  unfold rD at hR ⊢
  rw [← va,← vb] at hR
  generalize digs m=a at *
  generalize digs n=b at *
  refine W.seq (W.region ?_)
  refine WO.op rfl rfl (WO.nil (W.seq (W.region ?_)))
  refine WO.op rfl rfl (WO.nil (W.seq (W.region ?_)))
  refine WO.op rfl rfl (WO.nil (W.seq (W.seq (W.region ?_))))
  refine WO.op rfl rfl (WO.nil (W.block ?_))
  let fF:Nat→Nat→AVal→Fr:=fun k c v=>fr [(0,.isl (u64s a) 0 a.length none true),(1,.isl (u64s b) 0 b.length none true),(5,v),(6,.int .u64 (c:Int)),(7,iA (k:Int))]
  refine W.fits (F':=fF 0 0 .nils) (fits_fr ⟨rfl,rfl,rfl,rfl,rfl,trivial⟩) ?_
  refine W.loopI (α:=(Nat×Nat×List Nat)×Heap×AVal) (fun s=>OutU s.2.1 s.2.2 s.1.2.2∧AddI a b s.1.2.2 s.1.1 s.1.2.1) (fun s=>2 * ((a.length - s.1.1) + (b.length - s.1.1)) + s.1.2.1)
    (fun s=>fF s.1.1 s.1.2.1 s.2.2) (fun s=>s.2.1) ?_ ((0,0,[]),[],.nils) ⟨.inl ⟨rfl,rfl⟩,show AddI a b [] 0 0 from ⟨rfl,fun d h=>(by cases h),by simp [dval],Nat.zero_le _,Nat.zero_le _,.inl rfl⟩⟩
  rintro ⟨⟨k,c,l⟩,HH,v⟩ ⟨ho,hi⟩
  simp only at ho hi
  change W _ _ _ _ (fr [(0,.isl (u64s a) 0 a.length none true),(1,.isl (u64s b) 0 b.length none true),(5,v),(6,.int .u64 (c:Int)),(7,iA (k:Int))]) HH _
  have hc:=hi.c1
  have hkb:=hi.kb
  have hll:l.length < 1073741824:=by rw [hi.len]; omega
  by_cases go:k < a.length∨k < b.length∨0 < c
  · have hst:=fun s hs=>hi.step (s:=s) da db hs go
    have ga:=getD_dg da k
    have gb:=getD_dg db k
    refine W.mid (H1:=HH) [(0,.isl (u64s a) 0 a.length none true),(1,.isl (u64s b) 0 b.length none true),(5,v),(6,.int .u64 (c:Int)),(7,iA (k:Int))] (W.seq (W.region ?_)) ?_
    · refine WO.op rfl rfl ?_
      refine WO.op rfl rfl ?_
      refine WO.op (G.len_isl rfl rfl rfl tRN rfl) rfl ?_
      by_cases g1:k < a.length
      · refine WO.as (v':=.bool true) rfl rfl (bdT (by omega)) ?_
        refine WO.op rfl rfl ?_
        refine WO.skip rfl (WO.skip rfl (WO.skip rfl (WO.skip rfl ?_)))
        refine WO.op rfl rfl ?_
        refine WO.op rfl rfl ?_
        refine WO.skip rfl (WO.skip rfl ?_)
        refine WO.op rfl rfl (WO.nil (W.cond (b:=true) rfl (fun _=>W.skip ?_) (fun h=>by cases h)))
        exact ⟨rfl,⟨rfl,rfl,rfl,rfl,rfl,trivial⟩,rfl⟩
      · refine WO.as (v':=.bool false) rfl rfl (bdF (by omega)) ?_
        iterate 3 refine WO.op rfl rfl ?_
        refine WO.op (G.len_isl rfl rfl rfl tRN rfl) rfl ?_
        by_cases g2:k < b.length
        · refine WO.as (v':=.bool true) rfl rfl (bdT (by omega)) ?_
          refine WO.op rfl rfl ?_
          refine WO.op rfl rfl ?_
          refine WO.skip rfl (WO.skip rfl ?_)
          refine WO.op rfl rfl (WO.nil (W.cond (b:=true) rfl (fun _=>W.skip ?_) (fun h=>by cases h)))
          exact ⟨rfl,⟨rfl,rfl,rfl,rfl,rfl,trivial⟩,rfl⟩
        · refine WO.as (v':=.bool false) rfl rfl (bdF (by omega)) ?_
          iterate 3 refine WO.op rfl rfl ?_
          refine WO.as (v':=.bool true) rfl rfl (bdT (by omega)) ?_
          refine WO.op rfl rfl (WO.nil (W.cond (b:=true) rfl (fun _=>W.skip ?_) (fun h=>by cases h)))
          exact ⟨rfl,⟨rfl,rfl,rfl,rfl,rfl,trivial⟩,rfl⟩
    · refine W.seq (W.block ?_)
      refine W.mid (H1:=HH) [(0,.isl (u64s a) 0 a.length none true),(1,.isl (u64s b) 0 b.length none true),(5,v),(6,.int .u64 ((c + a.getD k 0:Nat):Int)),(7,iA (k:Int))] (W.seq (W.region ?_)) ?_
      · refine WO.op rfl rfl ?_
        refine WO.op rfl rfl ?_
        refine WO.op (G.len_isl rfl rfl rfl tRN rfl) rfl ?_
        by_cases g1:k < a.length
        · refine WO.as (v':=.bool true) rfl rfl (bdT (by omega)) (WO.nil (W.cond (b:=true) rfl (fun _=>?_) (fun h=>by cases h)))
          refine W.region ?_
          iterate 3 refine WO.op rfl rfl ?_
          refine WO.op (G.idx_isl rfl rfl tRN rfl tU64 (by omega) (by omega)) rfl ?_
          refine WO.op (G.load_ip rfl tU64 rfl (getD_at g1)) rfl ?_
          refine WO.as (v':=.int .u64 ((c + a.getD k 0:Nat):Int)) rfl rfl (int_u64 (by omega) (by omega)) ?_
          exact WO.op rfl rfl (WO.nil ⟨rfl,⟨rfl,rfl,rfl,rfl,rfl,trivial⟩,rfl⟩)
        · refine WO.as (v':=.bool false) rfl rfl (bdF (by omega)) (WO.nil (W.cond (b:=false) rfl (fun h=>by cases h) (fun _=>W.skip ?_)))
          rw [getD_over (by omega)]
          exact ⟨rfl,⟨rfl,rfl,rfl,rfl,rfl,trivial⟩,rfl⟩
      refine W.mid (H1:=HH) [(0,.isl (u64s a) 0 a.length none true),(1,.isl (u64s b) 0 b.length none true),(5,v),(6,.int .u64 ((c + a.getD k 0 + b.getD k 0:Nat):Int)),(7,iA (k:Int))] (W.seq (W.region ?_)) ?_
      · refine WO.op rfl rfl ?_
        refine WO.op rfl rfl ?_
        refine WO.op (G.len_isl rfl rfl rfl tRN rfl) rfl ?_
        by_cases g1:k < b.length
        · refine WO.as (v':=.bool true) rfl rfl (bdT (by omega)) (WO.nil (W.cond (b:=true) rfl (fun _=>?_) (fun h=>by cases h)))
          refine W.region ?_
          iterate 3 refine WO.op rfl rfl ?_
          refine WO.op (G.idx_isl rfl rfl tRN rfl tU64 (by omega) (by omega)) rfl ?_
          refine WO.op (G.load_ip rfl tU64 rfl (getD_at g1)) rfl ?_
          refine WO.as (v':=.int .u64 ((c + a.getD k 0 + b.getD k 0:Nat):Int)) rfl rfl (int_u64 (by omega) (by omega)) ?_
          exact WO.op rfl rfl (WO.nil ⟨rfl,⟨rfl,rfl,rfl,rfl,rfl,trivial⟩,rfl⟩)
        · refine WO.as (v':=.bool false) rfl rfl (bdF (by omega)) (WO.nil (W.cond (b:=false) rfl (fun h=>by cases h) (fun _=>W.skip ?_)))
          rw [getD_over (by omega:b.length≤k)]
          exact ⟨rfl,⟨rfl,rfl,rfl,rfl,rfl,trivial⟩,rfl⟩
      have hs:=hst _ rfl
      have hsb:c + a.getD k 0 + b.getD k 0 < 2000000000:=by omega
      have hmu:2 * ((a.length - (k + 1)) + (b.length - (k + 1))) + (c + a.getD k 0 + b.getD k 0) / 1000000000 < 2 * ((a.length - k) + (b.length - k)) + c:=by
        have h1:=hs.c1
        by_cases g1:k < a.length
        · omega
        · by_cases g2:k < b.length
          · omega
          · have e1:=getD_over (l:=a) (k:=k) (by omega)
            have e2:=getD_over (l:=b) (k:=k) (by omega)
            omega
      generalize c + a.getD k 0 + b.getD k 0=s at hs hsb hmu
      have e1:((s:Int).tmod 1000000000)=((s % 1000000000:Nat):Int):=(Int.ofNat_tmod s 1000000000).symm
      have e2:((s:Int).tdiv 1000000000)=((s / 1000000000:Nat):Int):=(Int.ofNat_tdiv s 1000000000).symm
      refine W.seq (W.region ?_)
      refine WO.op rfl rfl ?_
      refine WO.op rfl rfl ?_
      refine WO.as (v':=.int .u64 ((s % 1000000000:Nat):Int)) rfl rfl (int_eq e1) ?_
      refine WO.op (v:=.sl HH.length 0 1 (some 1) 1) (H1:=HH ++ [.cells (u64s [s % 1000000000]) 92]) rfl rfl ?_
      obtain ⟨v',H',ho',hd⟩:=outU_app (s % 1000000000) ho hll
      refine WO.op (hd _ _ _ _ _ rfl rfl rfl rfl) rfl ?_
      refine WO.op rfl rfl (WO.nil (W.region ?_))
      refine WO.op rfl rfl ?_
      refine WO.as (v':=.int .u64 ((s / 1000000000:Nat):Int)) rfl rfl (int_u64 (by rw [e2]; omega) e2) ?_
      refine WO.op rfl rfl (WO.nil (W.region ?_))
      refine WO.op rfl rfl ?_
      refine WO.as (v':=iA ((k + 1:Nat):Int)) rfl rfl (int_i64 (by omega) (by omega)) ?_
      exact WO.op rfl rfl (WO.nil ⟨((k + 1,s / 1000000000,l ++ [s % 1000000000]),H',v'),⟨ho',hs⟩,hmu,fits_fr ⟨rfl,rfl,rfl,rfl,rfl,trivial⟩,rfl⟩)
  · have hc0:c=0:=by omega
    subst hc0
    have hf:=hi.fin da db ta tb (by omega) (by omega)
    refine W.seq (W.seq (W.region ?_))
    refine WO.op rfl rfl ?_
    refine WO.op rfl rfl ?_
    refine WO.op (G.len_isl rfl rfl rfl tRN rfl) rfl ?_
    refine WO.as (v':=.bool false) rfl rfl (bdF (by omega)) ?_
    iterate 3 refine WO.op rfl rfl ?_
    refine WO.op (G.len_isl rfl rfl rfl tRN rfl) rfl ?_
    refine WO.as (v':=.bool false) rfl rfl (bdF (by omega)) ?_
    iterate 3 refine WO.op rfl rfl ?_
    refine WO.as (v':=.bool false) rfl rfl (bdF (by omega)) ?_
    refine WO.op rfl rfl (WO.nil (W.cond (b:=false) rfl (fun h=>by cases h) (fun _=>W.exit ?_)))
    refine W.seq (W.region ?_)
    refine WO.op rfl rfl ?_
    refine WO.op rfl rfl (WO.nil (W.ret ⟨trivial,_,rfl,?_⟩))
    rw [← hR,← hf]
    exact outU_seal ho
end
end Go.AM.C
namespace Go.AM.C
open Go.Proofs
noncomputable section
set_option maxRecDepth 100000 in
theorem trim_sl (id:Nat) (l:List Nat) (k:Nat) (H:Heap) (ty:TypeId) (hH:H[id]?=some (.cells (u64s l) ty)) (hk:k≤l.length) (hb:k < 9223372036854775808) :
    Has 117 [.sl id 0 k none 1] H (.sl id 0 (trimN l k) none 1) H:=by
  generalize hT:trimN l k=T
  refine does_run s0 (show S0.fn 117=some Tryz.f117 by kernel_rfl) rfl (by kernel_rfl) (Nat.le_of_ble_eq_true rfl) ?_
  refine W.seq (W.region ?_)
  refine WO.op rfl rfl (WO.nil (W.seq (W.block (W.fits (F':=fr [(0,.sl id 0 k none 1)]) (fits_fr ⟨rfl,trivial⟩) ?_))))
  refine W.loopI (fun j:Nat=>j≤k∧trimN l j=T) (fun j=>j) (fun j=>fr [(0,.sl id 0 j none 1)]) (fun _=>H) ?_ k ⟨Nat.le_refl _,hT⟩
  rintro j ⟨hj,htr⟩
  by_cases hz:j=0∨l.getD (j - 1) 0≠0
  · -- it ends here
    have hend:j=T:=by
      rw [← htr]
      cases j with
      | zero=>rfl
      | succ j=>unfold trimN; rw [if_neg]; simpa using hz
    clear htr
    subst hend
    refine W.seq (W.seq (W.region ?_))
    refine WO.op rfl rfl ?_
    refine WO.op rfl rfl ?_
    cases j with
    | zero =>
      refine WO.as (v':=.bool false) rfl rfl rfl ?_
      refine WO.op rfl rfl ?_
      repeat refine WO.skip rfl ?_
      refine WO.op rfl rfl ?_
      refine WO.nil (W.cond (b:=false) rfl (fun h=>by cases h) (fun _=>W.exit ?_))
      refine W.seq (W.region ?_)
      repeat refine WO.op rfl rfl ?_
      exact WO.nil (W.ret ⟨trivial,_,rfl,Wk.refl _,rfl⟩)
    | succ j =>
      refine WO.as (v':=.bool true) rfl rfl (by simp) ?_
      iterate 4 refine WO.op rfl rfl ?_
      refine WO.as (v':=.int .i64 (j:Int)) rfl rfl (int_i64 (by omega) (by omega)) ?_
      refine WO.op (G.idx_sl rfl rfl tRN rfl tU64 rfl (by omega) (by omega)) rfl ?_
      refine WO.op (G.load_ptr rfl tU64 rfl hH (u64s_at (by omega))) rfl ?_
      refine WO.as (v':=.bool false) rfl rfl (by simpa using hz) ?_
      repeat refine WO.op rfl rfl ?_
      refine WO.nil (W.cond (b:=false) rfl (fun h=>by cases h) (fun _=>W.exit ?_))
      refine W.seq (W.region ?_)
      repeat refine WO.op rfl rfl ?_
      exact WO.nil (W.ret ⟨trivial,_,rfl,Wk.refl _,rfl⟩)
  · -- one less
    obtain ⟨j,rfl⟩:∃ m,j=m + 1:=⟨j - 1,by omega⟩
    have h0:l.getD j 0=0:=by
      by_cases h:l.getD j 0=0
      · exact h
      · exact absurd (.inr h) hz
    have hl0:(l.getD j 0:Nat)=0:=h0
    refine W.seq (W.seq (W.region ?_))
    refine WO.op rfl rfl ?_
    refine WO.op rfl rfl ?_
    refine WO.as (v':=.bool true) rfl rfl (by simp) ?_
    iterate 4 refine WO.op rfl rfl ?_
    refine WO.as (v':=.int .i64 (j:Int)) rfl rfl (int_i64 (by omega) (by omega)) ?_
    refine WO.op (G.idx_sl rfl rfl tRN rfl tU64 rfl (by omega) (by omega)) rfl ?_
    refine WO.op (G.load_ptr rfl tU64 rfl hH (u64s_at (by omega))) rfl ?_
    refine WO.as (v':=.bool true) rfl rfl (by rw [h0]; rfl) ?_
    refine WO.op rfl rfl (WO.nil (W.cond (b:=true) rfl (fun _=>W.skip ?_) (fun h=>by cases h)))
    refine W.block (W.region ?_)
    iterate 3 refine WO.op rfl rfl ?_
    refine WO.as (v':=.int .i64 (j:Int)) rfl rfl (int_i64 (by omega) (by omega)) ?_
    refine WO.op (G.slice_sl (l:=0) (h:=j) rfl tRN rfl tU64 rfl rfl ⟨_,rfl⟩ (by omega) (by simp) (by simp)) rfl ?_
    refine WO.op rfl rfl (WO.nil ⟨j,⟨by omega,?_⟩,by omega,fits_fr ⟨rfl,trivial⟩,rfl⟩)
    rw [← htr]
    show trimN l j=trimN l (j + 1)
    rw [trimN,if_pos h0]
theorem trim_nils (H:Heap):Has 117 [.nils] H .nils H:=by
  refine does_run s0 (show S0.fn 117=some Tryz.f117 by kernel_rfl) rfl (by kernel_rfl) (Nat.le_of_ble_eq_true rfl) ?_
  refine W.seq (W.region ?_)
  refine WO.op rfl rfl (WO.nil (W.seq (W.block (W.fits (F':=fr [(0,.nils)]) (fits_fr ⟨rfl,trivial⟩) ?_))))
  refine W.loopI (fun _:Nat=>True) (fun j=>j) (fun j=>fr [(0,.nils)]) (fun _=>H) ?_ 0 trivial
  rintro j _
  refine W.seq (W.seq (W.region ?_))
  iterate 4 refine WO.op rfl rfl ?_
  repeat refine WO.skip rfl ?_
  refine WO.op rfl rfl ?_
  refine WO.nil (W.cond (b:=false) rfl (fun h=>by cases h) (fun _=>W.exit ?_))
  refine W.seq (W.region ?_)
  repeat refine WO.op rfl rfl ?_
  exact WO.nil (W.ret ⟨trivial,_,rfl,Wk.refl _,rfl⟩)
end
end Go.AM.C
namespace Go.AM
section
variable {S:Sg} {call:Calling} {d:Bool} {g:Operand→AVal} {H:Heap} {c:Call} {t e:TypeId} {ti te:TI} {news:List AVal} {cap2:Option Nat} {cl:Bool}
theorem G.append_whole {n:Nat} (hc:c.callee=.builtin .append) (ha:c.args.toList.map g=[.nils,.isl news 0 (n + 1) cap2 cl]) (hta:c.argTypes.toList=[t,t]) (ht:S.ty t=some ti) (hd:ti.desc=.slice e) (he:S.ty e=some te) (hn:news.length=(n + 1) * te.size) (hcl:news.all AVal.cell=true) (hb:te.bytes≤1024) (hl:n < 1073741824) :
    denG S call d g H (.call c)=some (.sl H.length 0 (n + 1) none te.size,H ++ [.cells news e]):=by
  obtain ⟨d1,d2,d3,d4,d5,d6,d7,d8⟩:=ti
  simp only at hd
  subst hd
  have hsc:sliceCells H te.size (.isl news 0 (n + 1) cap2 cl)=some (news,n + 1):=by
    unfold sliceCells
    simp only
    rw [if_pos (by omega),List.drop_zero,List.take_of_length_le (by omega)]
  simp only [denG,hc,ha,hta,denAppend,ht,he,hsc,hcl]
  have h1:(n + 1) * te.bytes≤140737488355328:=by
    have:(n + 1) * te.bytes≤1073741824 * 1024:=Nat.mul_le_mul (by omega) hb
    omega
  rw [if_neg (by decide),if_pos ⟨h1,by omega⟩]
end
end Go.AM
namespace Go.AM.C
theorem dval_set:∀ {l:List Nat} {i x:Nat} (z:Nat),l[i]?=some x→dval (l.set i z) + 1000000000 ^ i * x=dval l + 1000000000 ^ i * z
  | [],i,x,z,h=>by simp at h
  | d :: l,0,x,z,h=>by
    have:d=x:=by simpa using h
    subst this
    simp only [List.set_cons_zero,dval,Nat.pow_zero,Nat.one_mul]
    omega
  | d :: l,i + 1,x,z,h=>by
    have ih:=dval_set z (show l[i]?=some x by simpa using h)
    simp only [List.set_cons_succ,dval,Nat.pow_succ]
    have e1:1000000000 ^ i * 1000000000 * x=1000000000 * (1000000000 ^ i * x):=by rw [Nat.mul_comm (1000000000 ^ i) 1000000000,Nat.mul_assoc]
    have e2:1000000000 ^ i * 1000000000 * z=1000000000 * (1000000000 ^ i * z):=by rw [Nat.mul_comm (1000000000 ^ i) 1000000000,Nat.mul_assoc]
    rw [e1,e2]
    omega
theorem set_dg {l:List Nat} (h:Dg l) {i z:Nat} (hz:z < 1000000000):Dg (l.set i z):=fun x hx=>by
  rcases List.mem_or_eq_of_mem_set hx with hx | hx
  · exact h x hx
  · rw [hx]; exact hz
structure SubI (a b l:List Nat) (i:Nat):Prop where
  len:l.length=a.length
  dg:Dg l
  val:dval l + dval (b.take i)=dval a
theorem SubI.easy {a b l:List Nat} {i x y:Nat} (h:SubI a b l i) (hx:l[i]?=some x) (hy:b[i]?=some y) (hxy:y≤x):SubI a b (l.set i (x - y)) (i + 1):=by
  obtain ⟨h1,h2,h3⟩:=h
  have hxb:=h2 x (List.mem_of_getElem? hx)
  refine ⟨by rw [List.length_set,h1],set_dg h2 (by omega),?_⟩
  have e:=dval_set (x - y) hx
  rw [dval_take_succ hy]
  have e2:1000000000 ^ i * x=1000000000 ^ i * (x - y) + 1000000000 ^ i * y:=by rw [← Nat.mul_add,Nat.sub_add_cancel hxy]
  omega
theorem sub_pos {a b l:List Nat} {i x y:Nat} (h:SubI a b l i) (hx:l[i]?=some x) (hy:b[i]?=some y) (hxy:x < y) (hba:dval b≤dval a):0 < dval (l.drop (i + 1)):=by
  obtain ⟨h1,h2,h3⟩:=h
  have hil:i < l.length:=(List.getElem?_eq_some_iff.1 hx).1
  have hib:i < b.length:=(List.getElem?_eq_some_iff.1 hy).1
  have s1:=dval_split l (i + 1) hil
  rw [dval_take_succ hx] at s1
  have s2:=dval_split b (i + 1) hib
  rw [dval_take_succ hy] at s2
  have t1:=dval_lt (h2.take i)
  rw [List.length_take,Nat.min_eq_left (by omega)] at t1
  have e2:1000000000 ^ i * (x + 1)≤1000000000 ^ i * y:=Nat.mul_le_mul_left _ hxy
  rw [Nat.mul_add] at e2
  rcases Nat.eq_zero_or_pos (dval (l.drop (i + 1))) with h0 | h0
  · rw [h0,Nat.mul_zero] at s1
    omega
  · exact h0
structure SubB (a l1 lk:List Nat) (i k:Nat):Prop where
  len:lk.length=a.length
  dg:Dg lk
  val:dval lk + 1000000000 ^ (i + 1)=dval l1 + 1000000000 ^ k
  drop:lk.drop k=l1.drop k
  pos:0 < dval (l1.drop k)
  ik:i < k
theorem SubB.start {a b l:List Nat} {i x y:Nat} (h:SubI a b l i) (hx:l[i]?=some x) (hy:b[i]?=some y) (hxy:x < y) (hyb:y < 1000000000) (hba:dval b≤dval a):SubB a (l.set i (x + (1000000000 - y))) (l.set i (x + (1000000000 - y))) i (i + 1):=by
  refine ⟨by rw [List.length_set,h.len],set_dg h.dg (by omega),rfl,rfl,?_,Nat.lt_succ_self i⟩
  rw [List.drop_set_of_lt (Nat.lt_succ_self i)]
  exact sub_pos h hx hy hxy hba
theorem SubB.lt {a l1 lk:List Nat} {i k:Nat} (h:SubB a l1 lk i k):k < lk.length:=by
  rcases Nat.lt_or_ge k lk.length with h1 | h1
  · exact h1
  · have:=h.pos
    rw [← h.drop,List.drop_eq_nil_of_le h1] at this
    exact absurd this (by decide)
theorem SubB.next {a l1 lk:List Nat} {i k:Nat} (h:SubB a l1 lk i k) (h0:lk[k]?=some 0):SubB a l1 (lk.set k 999999999) i (k + 1):=by
  obtain ⟨h1,h2,h3,h4,h5,h6⟩:=h
  have hk:k < lk.length:=(List.getElem?_eq_some_iff.1 h0).1
  have hd:lk.drop k=0 :: lk.drop (k + 1):=by
    rw [List.drop_eq_getElem_cons hk,(List.getElem?_eq_some_iff.1 h0).2]
  have hd1:lk.drop (k + 1)=l1.drop (k + 1):=by
    have e1:(lk.drop k).drop 1=(l1.drop k).drop 1:=by rw [h4]
    simpa [List.drop_drop] using e1
  refine ⟨by rw [List.length_set,h1],set_dg h2 (by decide),?_,by rw [List.drop_set_of_lt (Nat.lt_succ_self k),hd1],?_,by omega⟩
  · have e:=dval_set 999999999 h0
    rw [Nat.mul_zero,Nat.add_zero] at e
    rw [e,Nat.pow_succ 1000000000 k]
    omega
  · rw [← h4,hd] at h5
    simp only [dval] at h5
    rw [← hd1]
    omega
theorem SubB.last {a b l lk:List Nat} {i k x y z:Nat} (hi:SubI a b l i) (hx:l[i]?=some x) (hy:b[i]?=some y) (hxy:x < y) (hyb:y < 1000000000) (h:SubB a (l.set i (x + (1000000000 - y))) lk i k) (hz:lk[k]?=some z) (h0:z≠0):SubI a b (lk.set k (z - 1)) (i + 1):=by
  obtain ⟨h1,h2,h3,h4,h5,h6⟩:=h
  have hzb:=h2 z (List.mem_of_getElem? hz)
  refine ⟨by rw [List.length_set,h1],set_dg h2 (by omega),?_⟩
  have e1:=dval_set (z - 1) hz
  have e2:=dval_set (x + (1000000000 - y)) hx
  have v:=hi.val
  rw [dval_take_succ hy]
  have e3:1000000000 ^ k * z=1000000000 ^ k * (z - 1) + 1000000000 ^ k:=by
    have:z=(z - 1) + 1:=by omega
    rw [show 1000000000 ^ k * z=1000000000 ^ k * ((z - 1) + 1) by rw [← this],Nat.mul_add,Nat.mul_one]
  have e4:1000000000 ^ i * (x + (1000000000 - y)) + 1000000000 ^ i * y=1000000000 ^ i * x + 1000000000 ^ (i + 1):=by
    rw [← Nat.mul_add,show x + (1000000000 - y) + y=x + 1000000000 by omega,Nat.mul_add,Nat.pow_succ]
  omega
theorem trimD_val (l:List Nat):∀ k,k≤l.length→dval (l.take (trimN l k))=dval (l.take k)
  | 0,_=>rfl
  | k + 1,h=>by
    unfold trimN
    split
    · rename_i h0
      rw [trimD_val l k (by omega),take_step,h0,Nat.mul_zero,Nat.add_zero]
    · rfl
theorem trimD_top (l:List Nat):∀ k,k≤l.length→Top (l.take (trimN l k))
  | 0,_=>fun d h=>by simp [trimN] at h
  | k + 1,h=>by
    unfold trimN
    split
    · exact trimD_top l k (by omega)
    · rename_i h0
      intro d hd
      rw [take_succ_getD h,List.getLast?_concat] at hd
      rw [← Option.some.inj hd]
      exact h0
theorem trimD (l:List Nat) (h:Dg l):l.take (trimN l l.length)=digs (dval l):=by
  have h1:=trimD_val l l.length (Nat.le_refl _)
  rw [List.take_length] at h1
  rw [← h1]
  exact (digs_of _ (h.take _) (trimD_top l l.length (Nat.le_refl _))).symm
end Go.AM.C
namespace Go.AM.C
open Go.Proofs
noncomputable section
theorem u64s_atg {l:List Nat} {k x:Nat} (h:l[k]?=some x):(u64s l)[0 + (k:Int).toNat * 1]?=some (.int .u64 (x:Int)):=by rw [idx0]; exact u64s_get h
abbrev uO (l:List Nat):AObj:=.cells (u64s l) 92
set_option maxRecDepth 100000 in
theorem rsub_has (m n:Nat) (hnm:n≤m) (hm:(digs m).length < 268435456) (H:Heap):Has 64 [rD m,rD n] H (rD (m - n)) H:=by
  generalize hR:rD (m - n)=R
  refine does_pure s0 (show S0.fn 64=some Tryz.f64 by kernel_rfl) rfl (by kernel_rfl) (Nat.le_of_ble_eq_true rfl) rfl (by rw [← hR]; rfl) ?_
  have hle:(digs n).length≤(digs m).length:=by
    rcases Nat.lt_or_ge (digs m).length (digs n).length with h | h
    · have:=lt_of_len h; omega
    · exact h
  have da:=digs_dg m
  have db:=digs_dg n
  have va:=dval_digs m
  have vb:=dval_digs n
  unfold rD at hR ⊢
  have hba:dval (digs n)≤dval (digs m):=by rw [va,vb]; exact hnm
  rw [← va,← vb] at hR
  clear va vb
  generalize digs m=a at *
  generalize digs n=b at *
  refine W.seq (W.region ?_)
  refine WO.op rfl rfl (WO.nil (W.seq (W.region ?_)))
  refine WO.op rfl rfl ?_
  cases a with
  | nil =>
    have hb:b=[]:=List.eq_nil_of_length_eq_zero (by simpa using hle)
    subst hb
    refine WO.op rfl rfl ?_
    refine WO.op rfl rfl (WO.nil (W.seq (W.seq (W.region ?_))))
    refine WO.op rfl rfl (WO.nil (W.block ?_))
    refine W.fits (F':=fr [(1,.isl (u64s []) 0 0 none true),(5,.nils),(6,iA 0)]) (fits_fr ⟨rfl,rfl,rfl,trivial⟩) ?_
    refine W.loopI (fun _:Nat=>True) (fun j=>j) (fun j=>fr [(1,.isl (u64s []) 0 0 none true),(5,.nils),(6,iA 0)]) (fun _=>[]) ?_ 0 trivial
    rintro j _
    refine W.seq (W.seq (W.region ?_))
    iterate 3 refine WO.op rfl rfl ?_
    refine WO.op rfl rfl (WO.nil (W.cond (b:=false) rfl (fun h=>by cases h) (fun _=>W.exit ?_)))
    refine W.seq (W.region ?_)
    refine WO.op rfl rfl ?_
    refine WO.call rfl (trim_nils _) rfl ?_
    refine WO.op rfl rfl (WO.nil (W.ret ⟨trivial,_,rfl,?_⟩))
    rw [← hR]
    exact .wk _ _ _ wk_nilsD (.same _ rfl)
  | cons a0 a1 =>
    refine WO.op (G.append_whole (n:=a1.length) (ti:=ti36) (te:=ti92) (cap2:=none) (cl:=true) rfl rfl rfl tRN rfl tU64 (by rw [u64s_len]; exact (Nat.mul_one _).symm) (by simp [u64s,AVal.cell]) (by decide) (by simp at hm; omega)) rfl ?_
    refine WO.op rfl rfl (WO.nil (W.seq (W.seq (W.region ?_))))
    refine WO.op rfl rfl (WO.nil (W.block ?_))
    have hlen:(a0 :: a1).length=a1.length + 1:=rfl
    generalize hA:a0 :: a1=a at *
    refine W.heq (H':=[uO a]) rfl ?_
    refine W.fits (F':=fr [(1,.isl (u64s b) 0 b.length none true),(5,.sl 0 0 (a1.length + 1) none 1),(6,iA ((0:Nat):Int))]) (fits_fr ⟨rfl,rfl,rfl,trivial⟩) ?_
    refine W.loopI (α:=Nat×List Nat) (fun s=>SubI a b s.2 s.1∧s.1≤b.length) (fun s=>b.length - s.1) (fun s=>fr [(1,.isl (u64s b) 0 b.length none true),(5,.sl 0 0 (a1.length + 1) none 1),(6,iA (s.1:Int))]) (fun s=>[uO s.2]) ?_ (0,a) ⟨⟨rfl,da,by simp [dval]⟩,Nat.zero_le _⟩
    rintro ⟨i,l⟩ ⟨hi,hib⟩
    simp only at hi hib
    change W _ _ _ _ (fr [(1,.isl (u64s b) 0 b.length none true),(5,.sl 0 0 (a1.length + 1) none 1),(6,iA (i:Int))]) [uO l] _
    have hl:=hi.len
    refine W.seq (W.seq (W.region ?_))
    refine WO.op rfl rfl ?_
    refine WO.op rfl rfl ?_
    refine WO.op (G.len_isl rfl rfl rfl tRN rfl) rfl ?_
    by_cases hlt:i < b.length
    · refine WO.as (v':=.bool true) rfl rfl (bdT (by omega)) (WO.nil (W.cond (b:=true) rfl (fun _=>W.skip ?_) (fun h=>by cases h)))
      have hil:i < l.length:=by omega
      obtain ⟨x,hx⟩:∃ x,l[i]?=some x:=⟨_,List.getElem?_eq_getElem hil⟩
      obtain ⟨y,hy⟩:∃ y,b[i]?=some y:=⟨_,List.getElem?_eq_getElem hlt⟩
      have hxb:=hi.dg x (List.mem_of_getElem? hx)
      have hyb:=db y (List.mem_of_getElem? hy)
      refine W.seq (W.block (W.seq (W.seq (W.draw0 rfl (by kernel_rfl) ?_))))
      refine WT.op rfl rfl rfl ?_
      refine WT.op rfl rfl rfl ?_
      refine WT.op (G.idx_sl rfl rfl tRN rfl tU64 rfl (by omega) (by omega)) rfl rfl ?_
      refine WT.op (G.load_ptr rfl tU64 rfl (rfl:[uO l][0]?=some (uO l)) (u64s_atg hx)) rfl rfl ?_
      refine WT.op rfl rfl rfl ?_
      refine WT.op rfl rfl rfl ?_
      refine WT.op (G.idx_isl rfl rfl tRN rfl tU64 (by omega) (by omega)) rfl rfl ?_
      refine WT.op (G.load_ip rfl tU64 rfl (u64s_atg hy)) rfl rfl ?_
      refine WT.op rfl rfl rfl (WT.nil (W.cond (b:=decide ((x:Int) ≥ (y:Int))) rfl (fun h=>?_) (fun h=>?_)))
      · have hxy : y ≤ x := by have : (x : Int) ≥ (y : Int) := by simpa using h
                               omega
        refine W.seq (W.draw0 rfl (by kernel_rfl) ?_)
        refine WT.op rfl rfl rfl ?_
        refine WT.op rfl rfl rfl ?_
        refine WT.op (G.idx_sl rfl rfl tRN rfl tU64 rfl (by omega) (by omega)) rfl rfl ?_
        refine WT.op (G.load_ptr rfl tU64 rfl (rfl:[uO l][0]?=some (uO l)) (u64s_atg hx)) rfl rfl ?_
        refine WT.op rfl rfl rfl ?_
        refine WT.op rfl rfl rfl ?_
        refine WT.op (G.idx_isl rfl rfl tRN rfl tU64 (by omega) (by omega)) rfl rfl ?_
        refine WT.op (G.load_ip rfl tU64 rfl (u64s_atg hy)) rfl rfl ?_
        refine WT.as (v':=.int .u64 ((x - y:Nat):Int)) rfl rfl rfl (int_u64 (by omega) (by omega)) ?_
        refine WT.op (G.idx_sl rfl rfl tRN rfl tU64 rfl (by omega) (by omega)) rfl rfl ?_
        refine WT.op (G.store_u64 rfl rfl tU64 rfl (rfl:[uO l][0]?=some (uO l)) hil) rfl rfl (WT.nil (W.exit ?_))
        refine W.region ?_
        refine WO.op rfl rfl ?_
        refine WO.as (v':=iA ((i + 1:Nat):Int)) rfl rfl (int_i64 (by omega) (by omega)) ?_
        exact WO.op rfl rfl (WO.nil ⟨(i + 1,l.set i (x - y)),⟨hi.easy hx hy hxy,hlt⟩,by simp only; omega,fits_fr ⟨rfl,rfl,rfl,trivial⟩,rfl⟩)
      · have hxy : x < y := by have : ¬ (x : Int) ≥ (y : Int) := by simpa using h
                               omega
        have hsb:=SubB.start hi hx hy hxy hyb hba
        have hlst:=fun lk k z=>SubB.last (lk:=lk) (k:=k) (z:=z) hi hx hy hxy hyb
        refine W.skip (W.seq (W.draw0 rfl (by kernel_rfl) ?_))
        refine WT.op rfl rfl rfl ?_
        refine WT.op rfl rfl rfl ?_
        refine WT.op (G.idx_sl rfl rfl tRN rfl tU64 rfl (by omega) (by omega)) rfl rfl ?_
        refine WT.op (G.load_ptr rfl tU64 rfl (rfl:[uO l][0]?=some (uO l)) (u64s_atg hx)) rfl rfl ?_
        refine WT.op rfl rfl rfl ?_
        refine WT.op rfl rfl rfl ?_
        refine WT.op (G.idx_isl rfl rfl tRN rfl tU64 (by omega) (by omega)) rfl rfl ?_
        refine WT.op (G.load_ip rfl tU64 rfl (u64s_atg hy)) rfl rfl ?_
        refine WT.as (v':=.int .u64 ((1000000000 - y:Nat):Int)) rfl rfl rfl (int_u64 (by omega) (by omega)) ?_
        refine WT.as (v':=.int .u64 ((x + (1000000000 - y):Nat):Int)) rfl rfl rfl (int_u64 (by omega) (by omega)) ?_
        refine WT.op (G.idx_sl rfl rfl tRN rfl tU64 rfl (by omega) (by omega)) rfl rfl ?_
        refine WT.op (G.store_u64 rfl rfl tU64 rfl (rfl:[uO l][0]?=some (uO l)) hil) rfl rfl (WT.nil ?_)
        generalize l.set i (x + (1000000000 - y))=l1 at hsb hlst
        refine W.heq (H':=[uO l1]) rfl ?_
        refine W.seq (W.region ?_)
        refine WO.op rfl rfl ?_
        refine WO.as (v':=iA ((i + 1:Nat):Int)) rfl rfl (int_i64 (by omega) (by omega)) ?_
        refine WO.op rfl rfl (WO.nil (W.seq (W.block ?_)))
        refine W.fits (F':=fr [(1,.isl (u64s b) 0 b.length none true),(5,.sl 0 0 (a1.length + 1) none 1),(6,iA (i:Int)),(7,iA ((i + 1:Nat):Int))]) (fits_fr ⟨rfl,rfl,rfl,rfl,trivial⟩) ?_
        refine W.loopI (α:=Nat×List Nat) (fun s=>SubB a l1 s.2 i s.1) (fun s=>a.length - s.1) (fun s=>fr [(1,.isl (u64s b) 0 b.length none true),(5,.sl 0 0 (a1.length + 1) none 1),(6,iA (i:Int)),(7,iA (s.1:Int))]) (fun s=>[uO s.2]) ?_ (i + 1,l1) hsb
        rintro ⟨k,lk⟩ hk
        simp only at hk
        change W _ _ _ _ (fr [(1,.isl (u64s b) 0 b.length none true),(5,.sl 0 0 (a1.length + 1) none 1),(6,iA (i:Int)),(7,iA (k:Int))]) [uO lk] _
        have hkl:=hk.lt
        have hkn:=hk.len
        obtain ⟨z,hz⟩:∃ z,lk[k]?=some z:=⟨_,List.getElem?_eq_getElem hkl⟩
        have hzb:=hk.dg z (List.mem_of_getElem? hz)
        refine W.seq (W.seq (W.region ?_))
        refine WO.op rfl rfl ?_
        refine WO.op rfl rfl ?_
        refine WO.op (G.idx_sl rfl rfl tRN rfl tU64 rfl (by omega) (by omega)) rfl ?_
        refine WO.op (G.load_ptr rfl tU64 rfl (rfl:[uO lk][0]?=some (uO lk)) (u64s_atg hz)) rfl ?_
        by_cases h0:z=0
        · subst h0
          refine WO.as (v':=.bool true) rfl rfl rfl (WO.nil (W.cond (b:=true) rfl (fun _=>W.skip ?_) (fun h=>by cases h)))
          refine W.block (W.seq (W.region ?_))
          refine WO.op rfl rfl ?_
          refine WO.op rfl rfl ?_
          refine WO.op (G.idx_sl rfl rfl tRN rfl tU64 rfl (by omega) (by omega)) rfl ?_
          refine WO.op (G.store_u64 (x:=999999999) rfl rfl tU64 rfl (rfl:[uO lk][0]?=some (uO lk)) hkl) rfl ?_
          refine WO.nil (W.region ?_)
          refine WO.op rfl rfl ?_
          refine WO.as (v':=iA ((k + 1:Nat):Int)) rfl rfl (int_i64 (by omega) (by omega)) ?_
          exact WO.op rfl rfl (WO.nil ⟨(k + 1,lk.set k 999999999),hk.next hz,by simp only; omega,fits_fr ⟨rfl,rfl,rfl,rfl,trivial⟩,rfl⟩)
        · have hfin:=hlst lk k z hk hz h0
          refine WO.as (v':=.bool false) rfl rfl (by simpa using h0) (WO.nil (W.cond (b:=false) rfl (fun h=>by cases h) (fun _=>W.exit ?_)))
          refine W.region ?_
          refine WO.op rfl rfl ?_
          refine WO.op rfl rfl ?_
          refine WO.op (G.idx_sl rfl rfl tRN rfl tU64 rfl (by omega) (by omega)) rfl ?_
          refine WO.op (G.load_ptr rfl tU64 rfl (rfl:[uO lk][0]?=some (uO lk)) (u64s_atg hz)) rfl ?_
          refine WO.as (v':=.int .u64 ((z - 1:Nat):Int)) rfl rfl (int_u64 (by omega) (by omega)) ?_
          refine WO.op (G.idx_sl rfl rfl tRN rfl tU64 rfl (by omega) (by omega)) rfl ?_
          refine WO.op (G.store_u64 rfl rfl tU64 rfl (rfl:[uO lk][0]?=some (uO lk)) hkl) rfl ?_
          refine WO.nil (W.region ?_)
          refine WO.op rfl rfl ?_
          refine WO.as (v':=iA ((i + 1:Nat):Int)) rfl rfl (int_i64 (by omega) (by omega)) ?_
          exact WO.op rfl rfl (WO.nil ⟨(i + 1,lk.set k (z - 1)),⟨hfin,hlt⟩,by simp only; omega,fits_fr ⟨rfl,rfl,rfl,trivial⟩,rfl⟩)
    · have hie:i=b.length:=by omega
      subst hie
      have hv:=hi.val
      rw [List.take_length] at hv
      have ht:=trimD l hi.dg
      refine WO.as (v':=.bool false) rfl rfl (bdF (by omega)) (WO.nil (W.cond (b:=false) rfl (fun h=>by cases h) (fun _=>W.exit ?_)))
      refine W.seq (W.region ?_)
      refine WO.op rfl rfl ?_
      have hll:l.length=a1.length + 1:=by omega
      rw [hll] at ht
      have hTl:=trimN_le l (a1.length + 1)
      refine WO.call rfl (trim_sl 0 l (a1.length + 1) [uO l] 92 rfl (by omega) (by omega)) rfl ?_
      generalize trimN l (a1.length + 1)=T at ht hTl
      have hTT:(l.take T).length=T:=by rw [List.length_take]; omega
      have hvv:dval l=dval a - dval b:=by omega
      rw [hvv] at ht
      rw [← ht,hTT] at hR
      refine WO.op rfl rfl (WO.nil (W.ret ⟨trivial,_,rfl,?_⟩))
      rw [← hR]
      refine Seals.sl 0 0 T none 1 (u64s l) 92 _ rfl (by rw [u64s_len]; omega) (by rw [u64s_len]; omega) (fun j x y hx hy=>?_) (u64s_closed _)
      rw [Nat.zero_add] at hx
      have hxy:x=y:=by
        have hj:j < T:=by have:=(List.getElem?_eq_some_iff.1 hy).1; rw [u64s_len,hTT] at this; exact this
        rw [← u64s_take,List.getElem?_take_of_lt hj,hx] at hy
        exact Option.some.inj hy
      subst hxy
      exact Seals.same _ (closed1_ (u64s_closed _ _ (List.mem_of_getElem? hx)))
end
end Go.AM.C
namespace Go.AM.C
open Go.Proofs
noncomputable section
def rI (z:Int):AVal:=.agg [.bool (decide (z < 0)),rD z.natAbs]
theorem digs_nil {n:Nat}:(digs n).length=0↔n=0:=by
  constructor
  · intro h
    have:=dval_digs n
    rw [List.eq_nil_of_length_eq_zero h] at this
    exact this.symm
  · intro h; subst h; rw [digs_zero]; rfl
def sgn (neg:Bool) (n:Nat):Int:=bif neg then -(n:Int) else (n:Int)
theorem rI_sgn (neg:Bool) (n:Nat):rI (sgn neg n)=.agg [.bool (neg && decide (0 < ((digs n).length:Int))),rD n]:=by
  have h:=@digs_nil n
  cases neg with
  | false =>
    show AVal.agg [.bool (decide ((n:Int) < 0)),rD ((n:Int).natAbs)]=_
    rw [decide_eq_false (by omega),Int.natAbs_natCast]; rfl
  | true =>
    show AVal.agg [.bool (decide (-(n:Int) < 0)),rD ((-(n:Int)).natAbs)]=_
    rw [Int.natAbs_neg,Int.natAbs_natCast,Bool.true_and]
    congr 3
    exact decide_eq_decide.2 (by omega)
set_option maxRecDepth 100000 in
theorem rint_has (neg:Bool) (n:Nat) (hn:(digs n).length < 4611686018427387904) (H:Heap):Has 65 [.bool neg,rD n] H (rI (sgn neg n)) H:=by
  rw [rI_sgn]
  refine does_pure s0 (show S0.fn 65=some Tryz.f65 by kernel_rfl) rfl (by kernel_rfl) (Nat.le_of_ble_eq_true rfl) rfl rfl ?_
  unfold rD
  generalize digs n=d at hn
  refine W.seq (W.region ?_)
  refine WO.op rfl rfl (WO.nil (W.seq (W.region ?_)))
  refine WO.op rfl rfl ?_
  refine WO.op rfl rfl ?_
  cases neg with
  | false =>
    refine WO.skip rfl (WO.skip rfl (WO.skip rfl ?_))
    iterate 3 refine WO.op rfl rfl ?_
    refine WO.op rfl rfl (WO.nil (W.ret ⟨trivial,_,rfl,Seals.same _ rfl⟩))
  | true =>
    refine WO.op rfl rfl ?_
    refine WO.op (G.len_isl rfl rfl rfl tRN rfl) rfl ?_
    refine WO.op (v:=.bool (decide (0 < (d.length:Int)))) rfl rfl ?_
    iterate 3 refine WO.op rfl rfl ?_
    exact WO.op rfl rfl (WO.nil (W.ret ⟨trivial,_,rfl,Seals.same _ rfl⟩))
set_option maxRecDepth 100000 in
theorem rof_has (x:Int) (hx:i64 x) (H:Heap):Has 15 [iA x] H (rI x) H:=by
  unfold i64 at hx
  refine does_pure s0 (show S0.fn 15=some Tryz.f15 by kernel_rfl) rfl (by kernel_rfl) (Nat.le_of_ble_eq_true rfl) rfl rfl ?_
  refine W.seq (W.region ?_)
  refine WO.op rfl rfl (WO.nil (W.seq (W.seq (W.region ?_))))
  refine WO.op rfl rfl ?_
  by_cases h0:x < 0
  · have e:rI x=.agg [.bool true,rD x.natAbs]:=by unfold rI; rw [decide_eq_true h0]
    rw [e]
    refine WO.as (v':=.bool true) rfl rfl (bdT (by omega)) (WO.nil (W.cond (b:=true) rfl (fun _=>?_) (fun h=>by cases h)))
    refine W.seq (W.region ?_)
    refine WO.op rfl rfl ?_
    refine WO.as (v':=iA (x + 1)) rfl rfl (int_i64 (by omega) rfl) ?_
    refine WO.as (v':=iA (-(x + 1))) rfl rfl (int_i64 (by omega) (by omega)) ?_
    refine WO.as (v':=.int .u64 (-(x + 1))) rfl rfl (int_u64 (by omega) rfl) ?_
    refine WO.as (v':=.int .u64 ((x.natAbs:Nat):Int)) rfl rfl (int_u64 (by omega) (by omega)) ?_
    refine WO.call rfl (ofU_has x.natAbs (by omega) _) rfl ?_
    refine WO.op rfl rfl ?_
    exact WO.op rfl rfl (WO.nil (W.ret ⟨trivial,_,rfl,Seals.same _ rfl⟩))
  · have e:rI x=.agg [.bool false,rD x.natAbs]:=by unfold rI; rw [decide_eq_false h0]
    rw [e]
    refine WO.as (v':=.bool false) rfl rfl (bdF (by omega)) (WO.nil (W.cond (b:=false) rfl (fun h=>by cases h) (fun _=>W.skip ?_)))
    refine W.seq (W.region ?_)
    refine WO.op rfl rfl ?_
    refine WO.as (v':=.int .u64 ((x.natAbs:Nat):Int)) rfl rfl (int_u64 (by omega) (by omega)) ?_
    refine WO.call rfl (ofU_has x.natAbs (by omega) _) rfl ?_
    refine WO.op rfl rfl ?_
    exact WO.op rfl rfl (WO.nil (W.ret ⟨trivial,_,rfl,Seals.same _ rfl⟩))
theorem sgn_neg (z:Int):sgn (!decide (z < 0)) z.natAbs=-z:=by
  unfold sgn
  by_cases h:z < 0
  · rw [decide_eq_true h]; simp only [Bool.not_true,cond_false]; omega
  · rw [decide_eq_false h]; simp only [Bool.not_false,cond_true]; omega
theorem rminus_has (z:Int) (hz:(digs z.natAbs).length < 4611686018427387904) (H:Heap):Has 17 [rI z] H (rI (-z)) H:=by
  have hi:=fun H=>rint_has (!decide (z < 0)) z.natAbs hz H
  rw [sgn_neg] at hi
  refine does_pure s0 (show S0.fn 17=some Tryz.f17 by kernel_rfl) rfl (by kernel_rfl) (Nat.le_of_ble_eq_true rfl) rfl rfl ?_
  refine W.seq (W.region ?_)
  refine WO.op rfl rfl ?_
  refine WO.op rfl rfl (WO.nil (W.seq (W.region ?_)))
  iterate 5 refine WO.op rfl rfl ?_
  refine WO.call rfl (hi _) rfl ?_
  exact WO.op rfl rfl (WO.nil (W.ret ⟨trivial,_,rfl,Seals.same _ rfl⟩))
end
end Go.AM.C
namespace Go.AM.C
open Go.Proofs
noncomputable section
theorem u64s_inj:∀ {a b:List Nat},u64s a=u64s b→a=b
  | [],[],_=>rfl
  | [],_ :: _,h=>by simp [u64s] at h
  | _ :: _,[],h=>by simp [u64s] at h
  | x :: a,y :: b,h=>by
    have h':AVal.int .u64 (x:Int) :: u64s a=AVal.int .u64 (y:Int) :: u64s b:=h
    injection h' with h1 h2
    injection h1 with _ h3
    rw [u64s_inj h2,Int.ofNat.inj h3]
theorem rD_inj {m n:Nat} (h:rD m=rD n):m=n:=by
  unfold rD at h
  injection h with h1
  rw [← dval_digs m,← dval_digs n,u64s_inj h1]
def Sm (n:Nat):Prop:=(digs n).length < 268435456
def nOf (v:AVal):Option Nat:=by
  classical
  exact if h:∃ n,v=rD n∧Sm n then some (Classical.choose h) else none
theorem nOf_rD {n:Nat} (h:Sm n):nOf (rD n)=some n:=by
  unfold nOf
  have hx:∃ k,rD n=rD k∧Sm k:=⟨n,rfl,h⟩
  rw [dif_pos hx]
  exact congrArg some (rD_inj (Classical.choose_spec hx).1).symm
theorem nOf_is {v:AVal} {n:Nat} (h:nOf v=some n):v=rD n∧Sm n:=by
  unfold nOf at h
  split at h
  · rename_i hx
    cases h
    exact Classical.choose_spec hx
  · cases h
def raddX:Ext:=fun args H=>match args with
  | [u,v]=>match nOf u,nOf v with
    | some m,some n=>some (rD (m + n),H)
    | _,_=>none
  | _=>none
def rsubX:Ext:=fun args H=>match args with
  | [u,v]=>match nOf u,nOf v with
    | some m,some n=>if n≤m then some (rD (m - n),H) else none
    | _,_=>none
  | _=>none
def rintX:Ext:=fun args H=>match args with
  | [.bool b,v]=>match nOf v with
    | some n=>some (rI (sgn b n),H)
    | _=>none
  | _=>none
theorem raddX_ok (S:Sg) (hg:S.glob=S0.glob) (hp:S.pin=S0.pin):ExtAt Tryz.prog S 60 raddX:=by
  intro args H v H' hx
  unfold raddX at hx
  split at hx
  · split at hx
    · rename_i m n hu hv
      cases hx
      obtain ⟨rfl,h1⟩:=nOf_is hu
      obtain ⟨rfl,h2⟩:=nOf_is hv
      exact DoesC.glob hg hp (radd_has m n h1 h2 H)
    · cases hx
  · cases hx
theorem rsubX_ok (S:Sg) (hg:S.glob=S0.glob) (hp:S.pin=S0.pin):ExtAt Tryz.prog S 64 rsubX:=by
  intro args H v H' hx
  unfold rsubX at hx
  split at hx
  · split at hx
    · rename_i m n hu hv
      split at hx
      · rename_i hle
        cases hx
        obtain ⟨rfl,h1⟩:=nOf_is hu
        obtain ⟨rfl,h2⟩:=nOf_is hv
        exact DoesC.glob hg hp (rsub_has m n hle h1 H)
      · cases hx
    · cases hx
  · cases hx
theorem rintX_ok (S:Sg) (hg:S.glob=S0.glob) (hp:S.pin=S0.pin):ExtAt Tryz.prog S 65 rintX:=by
  intro args H v H' hx
  unfold rintX at hx
  split at hx
  · split at hx
    · rename_i n hv
      cases hx
      obtain ⟨rfl,h1⟩:=nOf_is hv
      exact DoesC.glob hg hp (rint_has _ n (Nat.lt_trans h1 (by decide)) H)
    · cases hx
  · cases hx
theorem raddX_quiet:true=true→∀ args H v H',raddX args H=some (v,H')→H'=H:=by
  intro _ args H v H' hx
  unfold raddX at hx
  split at hx
  · split at hx
    · cases hx; rfl
    · cases hx
  · cases hx
theorem rsubX_quiet:true=true→∀ args H v H',rsubX args H=some (v,H')→H'=H:=by
  intro _ args H v H' hx
  unfold rsubX at hx
  split at hx
  · split at hx
    · split at hx
      · cases hx; rfl
      · cases hx
    · cases hx
  · cases hx
theorem rintX_quiet:true=true→∀ args H v H',rintX args H=some (v,H')→H'=H:=by
  intro _ args H v H' hx
  unfold rintX at hx
  split at hx
  · split at hx
    · cases hx; rfl
    · cases hx
  · cases hx
abbrev raddE:Ent:=⟨60,raddX,true,raddX_quiet⟩
abbrev rsubE:Ent:=⟨64,rsubX,true,rsubX_quiet⟩
abbrev rintE:Ent:=⟨65,rintX,true,rintX_quiet⟩
abbrev SI:Sg:=mk [raddE,rsubE,rintE]
theorem sI:Sound Tryz.prog SI:=mk_sound ⟨raddX_ok _ rfl rfl,rsubX_ok _ rfl rfl,rintX_ok _ rfl rfl,trivial⟩
theorem raddA {m n:Nat} (hm:Sm m) (hn:Sm n) (H:Heap):callS SI 60 [rD m,rD n] H=some (rD (m + n),H):=by
  refine (show callS SI 60 [rD m,rD n] H=raddX [rD m,rD n] H from rfl).trans ?_
  unfold raddX
  simp only [nOf_rD hm,nOf_rD hn]
theorem rsubA {m n:Nat} (hm:Sm m) (hn:Sm n) (h:n≤m) (H:Heap):callS SI 64 [rD m,rD n] H=some (rD (m - n),H):=by
  refine (show callS SI 64 [rD m,rD n] H=rsubX [rD m,rD n] H from rfl).trans ?_
  unfold rsubX
  simp only [nOf_rD hm,nOf_rD hn,if_pos h]
theorem rintA {b:Bool} {n:Nat} (hn:Sm n) (H:Heap):callS SI 65 [.bool b,rD n] H=some (rI (sgn b n),H):=by
  refine (show callS SI 65 [.bool b,rD n] H=rintX [.bool b,rD n] H from rfl).trans ?_
  unfold rintX
  simp only [nOf_rD hn]
end
end Go.AM.C
namespace Go.AM.C
open Go.Proofs
noncomputable section
theorem Sm.mono {a b:Nat} (h:Sm b) (hab:a≤b):Sm a:=by
  unfold Sm at *
  rcases Nat.lt_or_ge (digs b).length (digs a).length with h1 | h1
  · have:=lt_of_len h1; omega
  · omega
theorem plus_same {x y:Int} (h:decide (x < 0)=decide (y < 0)):sgn (decide (x < 0)) (x.natAbs + y.natAbs)=x + y:=by
  have h':=decide_eq_decide.1 h
  unfold sgn
  by_cases hx:x < 0
  · rw [decide_eq_true hx,cond_true]; omega
  · rw [decide_eq_false hx,cond_false]; omega
theorem plus_left {x y:Int} (h:¬ decide (x < 0)=decide (y < 0)) (hl:y.natAbs≤x.natAbs):sgn (decide (x < 0)) (x.natAbs - y.natAbs)=x + y:=by
  have h':¬ (x < 0↔y < 0):=fun e=>h (decide_eq_decide.2 e)
  unfold sgn
  by_cases hx:x < 0
  · rw [decide_eq_true hx,cond_true]; omega
  · rw [decide_eq_false hx,cond_false]; omega
theorem plus_right {x y:Int} (h:¬ decide (x < 0)=decide (y < 0)) (hl:¬ y.natAbs≤x.natAbs):sgn (decide (y < 0)) (y.natAbs - x.natAbs)=x + y:=by
  have h':¬ (x < 0↔y < 0):=fun e=>h (decide_eq_decide.2 e)
  unfold sgn
  by_cases hy:y < 0
  · rw [decide_eq_true hy,cond_true]; omega
  · rw [decide_eq_false hy,cond_false]; omega
set_option maxRecDepth 100000 in
theorem rplus_has (x y:Int) (hx:Sm x.natAbs) (hy:Sm y.natAbs) (hxy:Sm (x.natAbs + y.natAbs)) (H:Heap):Has 14 [rI x,rI y] H (rI (x + y)) H:=by
  have e1:=@plus_same x y
  have e2:=@plus_left x y
  have e3:=@plus_right x y
  have hs1:Sm (x.natAbs - y.natAbs):=hx.mono (Nat.sub_le _ _)
  have hs2:Sm (y.natAbs - x.natAbs):=hy.mono (Nat.sub_le _ _)
  refine Has.of (l:=[raddE,rsubE,rintE]) ?_
  refine does_pure sI (show SI.fn 14=some Tryz.f14 by kernel_rfl) rfl (by kernel_rfl) (Nat.le_of_ble_eq_true rfl) rfl rfl ?_
  have hX:rI x=.agg [.bool (decide (x < 0)),rD x.natAbs]:=rfl
  have hY:rI y=.agg [.bool (decide (y < 0)),rD y.natAbs]:=rfl
  rw [hX,hY]
  generalize hZ:x + y=z at e1 e2 e3 ⊢
  clear hX hY hZ
  generalize x.natAbs=m at *
  generalize y.natAbs=n at *
  generalize decide (x < 0)=s at *
  generalize decide (y < 0)=t at *
  refine W.seq (W.region ?_)
  refine WO.op rfl rfl ?_
  refine WO.op rfl rfl ?_
  refine WO.op rfl rfl (WO.nil (W.seq (W.seq (W.region ?_))))
  iterate 4 refine WO.op rfl rfl ?_
  by_cases hst:s=t
  · subst hst
    have e:=e1 rfl
    refine WO.as (v':=.bool true) rfl rfl (by simp) (WO.nil (W.cond (b:=true) rfl (fun _=>?_) (fun h=>by cases h)))
    refine W.seq (W.draw0 rfl (by kernel_rfl) ?_)
    iterate 6 refine WT.op rfl rfl rfl ?_
    refine WT.op (raddA hx hy _) rfl rfl ?_
    refine WT.op (rintA hxy _) rfl rfl ?_
    rw [e]
    exact WT.op rfl rfl rfl (WT.nil (W.ret ⟨trivial,_,rfl,Seals.same _ rfl⟩))
  · refine WO.as (v':=.bool false) rfl rfl (by simp [hst]) (WO.nil (W.cond (b:=false) rfl (fun h=>by cases h) (fun _=>W.skip ?_)))
    refine W.seq (W.seq (W.region ?_))
    iterate 4 refine WO.op rfl rfl ?_
    refine WO.call rfl (cmp_has m n (Nat.lt_trans hx (by decide)) (Nat.lt_trans hy (by decide)) _).at rfl ?_
    by_cases hmn:n≤m
    · have e:=e2 hst hmn
      have hc:¬ cmpZ m n < 0:=by unfold cmpZ; split <;> (try split) <;> omega
      refine WO.as (v':=.bool true) rfl rfl (bdT (by omega)) (WO.nil (W.cond (b:=true) rfl (fun _=>?_) (fun h=>by cases h)))
      refine W.seq (W.draw0 rfl (by kernel_rfl) ?_)
      iterate 6 refine WT.op rfl rfl rfl ?_
      refine WT.op (rsubA hx hy hmn _) rfl rfl ?_
      refine WT.op (rintA hs1 _) rfl rfl ?_
      rw [e]
      exact WT.op rfl rfl rfl (WT.nil (W.ret ⟨trivial,_,rfl,Seals.same _ rfl⟩))
    · have e:=e3 hst hmn
      have hc:cmpZ m n < 0:=by unfold cmpZ; split <;> (try split) <;> omega
      refine WO.as (v':=.bool false) rfl rfl (bdF (by omega)) (WO.nil (W.cond (b:=false) rfl (fun h=>by cases h) (fun _=>W.skip ?_)))
      refine W.seq (W.draw0 rfl (by kernel_rfl) ?_)
      iterate 6 refine WT.op rfl rfl rfl ?_
      refine WT.op (rsubA hy hx (by omega) _) rfl rfl ?_
      refine WT.op (rintA hs2 _) rfl rfl ?_
      rw [e]
      exact WT.op rfl rfl rfl (WT.nil (W.ret ⟨trivial,_,rfl,Seals.same _ rfl⟩))
end
end Go.AM.C
namespace Go.AM.C
open Go.Proofs
noncomputable section
theorem drop_step {l:List Nat} {i x:Nat} (h:l[i]?=some x):dval (l.drop i)=x + 1000000000 * dval (l.drop (i + 1)):=by
  have hi:i < l.length:=(List.getElem?_eq_some_iff.1 h).1
  rw [List.drop_eq_getElem_cons hi,(List.getElem?_eq_some_iff.1 h).2]
  rfl
theorem drop_le (l:List Nat) (k:Nat) (hk:k≤l.length):dval (l.drop k)≤dval l:=by
  rw [dval_split l k hk]
  have:1 * dval (l.drop k)≤1000000000 ^ k * dval (l.drop k):=Nat.mul_le_mul_right _ (Nat.pow_pos (by decide))
  omega
def smallN (n:Nat):AVal:=if n < 18446744073709551616 then .tup [.int .u64 (n:Int),.bool true] else .tup [.int .u64 0,.bool false]
theorem smallN_closed (n:Nat):(smallN n).closed=true:=by unfold smallN; split <;> rfl
theorem sm_of {n:Nat} (h:n < 1000000000 ^ 100):Sm n:=Nat.lt_of_le_of_lt (digs_len_le h) (by decide)
set_option maxRecDepth 100000 in
theorem nsmall_has (n:Nat) (hn:Sm n) (H:Heap):Has 119 [rD n] H (smallN n) H:=by
  have hcl:=smallN_closed n
  refine does_pure s0 (show S0.fn 119=some Tryz.f119 by kernel_rfl) rfl (by kernel_rfl) (Nat.le_of_ble_eq_true rfl) rfl hcl ?_
  refine W.seq (W.region ?_)
  refine WO.op rfl rfl ?_
  refine WO.op rfl rfl (WO.nil (W.seq (W.seq (W.region ?_))))
  refine WO.op rfl rfl ?_
  refine WO.call rfl (ofU_has 18446744073709551615 (by decide) _) rfl ?_
  refine WO.call rfl (cmp_has n 18446744073709551615 (Nat.lt_trans hn (by decide)) (Nat.lt_of_le_of_lt (digs_len (by decide)) (by decide)) _) rfl ?_
  by_cases hb:n < 18446744073709551616
  · have hc:¬ cmpZ n 18446744073709551615 > 0:=by unfold cmpZ; split <;> (try split) <;> omega
    have hv:smallN n=.tup [.int .u64 (n:Int),.bool true]:=if_pos hb
    rw [hv]
    refine WO.as (v':=.bool false) rfl rfl (bdF hc) (WO.nil (W.cond (b:=false) rfl (fun h=>by cases h) (fun _=>W.skip ?_)))
    have da:=digs_dg n
    have va:=dval_digs n
    have hl:(digs n).length < 268435456:=hn
    clear hv hcl hc hn
    unfold rD
    generalize digs n=l at *
    refine W.seq (W.region ?_)
    refine WO.op rfl rfl (WO.nil (W.seq (W.seq (W.region ?_))))
    refine WO.op rfl rfl ?_
    refine WO.op (G.len_isl rfl rfl rfl tRN rfl) rfl ?_
    refine WO.as (v':=iA ((l.length:Int) - 1)) rfl rfl (int_i64 (by omega) (by omega)) ?_
    refine WO.op rfl rfl (WO.nil (W.block ?_))
    refine W.fits (F':=fr [(0,.isl (u64s l) 0 l.length none true),(4,.int .u64 ((dval (l.drop l.length):Nat):Int)),(5,iA ((l.length:Int) - 1))]) (fits_fr ⟨rfl,by rw [List.drop_length]; rfl,rfl,trivial⟩) ?_
    refine W.loopI (fun k:Nat=>k≤l.length) (fun k=>k) (fun k=>fr [(0,.isl (u64s l) 0 l.length none true),(4,.int .u64 ((dval (l.drop k):Nat):Int)),(5,iA ((k:Int) - 1))]) (fun _=>[]) ?_ l.length (Nat.le_refl _)
    intro k hk
    refine W.seq (W.seq (W.region ?_))
    refine WO.op rfl rfl ?_
    by_cases h0:k=0
    · subst h0
      refine WO.as (v':=.bool false) rfl rfl (bdF (by omega)) (WO.nil (W.cond (b:=false) rfl (fun h=>by cases h) (fun _=>W.exit ?_)))
      refine W.seq (W.region ?_)
      refine WO.op rfl rfl ?_
      refine WO.op rfl rfl ?_
      rw [List.drop_zero,va]
      exact WO.op rfl rfl (WO.nil (W.ret ⟨trivial,_,rfl,Seals.same _ rfl⟩))
    · obtain ⟨i,rfl⟩:∃ i,k=i + 1:=⟨k - 1,by omega⟩
      obtain ⟨x,hx⟩:∃ x,l[i]?=some x:=⟨_,List.getElem?_eq_getElem (by omega)⟩
      have ix:0 + (((i + 1:Nat):Int) - 1).toNat * 1=i:=by omega
      have hxa:(u64s l)[0 + (((i + 1:Nat):Int) - 1).toNat * 1]?=some (.int .u64 (x:Int)):=by rw [ix]; exact u64s_get hx
      have hs:=drop_step hx
      have hd:=drop_le l i (by omega)
      generalize dval (l.drop (i + 1))=y at *
      refine WO.as (v':=.bool true) rfl rfl (bdT (by omega)) (WO.nil (W.cond (b:=true) rfl (fun _=>W.skip ?_) (fun h=>by cases h)))
      refine W.seq (W.block (W.region ?_))
      refine WO.op rfl rfl ?_
      refine WO.as (v':=.int .u64 ((1000000000 * y:Nat):Int)) rfl rfl (int_u64 (by omega) (by omega)) ?_
      refine WO.op rfl rfl ?_
      refine WO.op rfl rfl ?_
      refine WO.op (G.idx_isl rfl rfl tRN rfl tU64 (by omega) (by omega)) rfl ?_
      refine WO.op (G.load_ip rfl tU64 rfl hxa) rfl ?_
      refine WO.as (v':=.int .u64 ((dval (l.drop i):Nat):Int)) rfl rfl (int_u64 (by omega) (by omega)) ?_
      refine WO.op rfl rfl (WO.nil (W.region ?_))
      refine WO.op rfl rfl ?_
      refine WO.as (v':=iA ((i:Int) - 1)) rfl rfl (int_i64 (by omega) (by omega)) ?_
      exact WO.op rfl rfl (WO.nil ⟨i,by omega,by omega,fits_fr ⟨rfl,rfl,rfl,trivial⟩,rfl⟩)
  · have hc:cmpZ n 18446744073709551615 > 0:=by unfold cmpZ; split <;> (try split) <;> omega
    have hv:smallN n=.tup [.int .u64 0,.bool false]:=if_neg hb
    rw [hv]
    refine WO.as (v':=.bool true) rfl rfl (bdT hc) (WO.nil (W.cond (b:=true) rfl (fun _=>?_) (fun h=>by cases h)))
    refine W.seq (W.region ?_)
    refine WO.op rfl rfl ?_
    exact WO.op rfl rfl (WO.nil (W.ret ⟨trivial,_,rfl,Seals.same _ rfl⟩))
end
end Go.AM.C
namespace Go.AM.C
open Go.Proofs
noncomputable section
def smallI (z:Int):AVal:=bif small64 z then .tup [iA z,.bool true] else .tup [iA 0,.bool false]
theorem smallI_closed (z:Int):(smallI z).closed=true:=by unfold smallI; cases small64 z <;> rfl
theorem smallI_in {z:Int} (h:i64 z):smallI z=.tup [iA z,.bool true]:=by unfold smallI; rw [small64_of h]; rfl
theorem smallI_out {z:Int} (h:¬ i64 z):smallI z=.tup [iA 0,.bool false]:=by
  unfold smallI
  cases hs:small64 z with
  | false=>rfl
  | true=>exact absurd (small_i64 hs) h
set_option maxRecDepth 100000 in
theorem ismall_has (z:Int) (hz:Sm z.natAbs) (H:Heap):Has 66 [rI z] H (smallI z) H:=by
  have hcl:=smallI_closed z
  refine does_pure s0 (show S0.fn 66=some Tryz.f66 by kernel_rfl) rfl (by kernel_rfl) (Nat.le_of_ble_eq_true rfl) rfl hcl ?_
  clear hcl
  have hin:=@smallI_in z
  have hout:=@smallI_out z
  generalize smallI z=R at *
  have hX:rI z=.agg [.bool (decide (z < 0)),rD z.natAbs]:=rfl
  rw [hX]
  clear hX
  refine W.seq (W.region ?_)
  refine WO.op rfl rfl ?_
  refine WO.op rfl rfl ?_
  refine WO.op rfl rfl (WO.nil (W.seq (W.region ?_)))
  refine WO.op rfl rfl ?_
  refine WO.op rfl rfl ?_
  refine WO.call rfl (nsmall_has z.natAbs hz _) rfl ?_
  by_cases hb:z.natAbs < 18446744073709551616
  · have hv:smallN z.natAbs=.tup [.int .u64 ((z.natAbs:Nat):Int),.bool true]:=if_pos hb
    rw [hv]
    clear hv
    iterate 4 refine WO.op rfl rfl ?_
    refine WO.op rfl rfl (WO.nil (W.seq (W.block (W.seq (W.region ?_)))))
    iterate 3 refine WO.op rfl rfl ?_
    by_cases hneg:z < 0
    · have hs:decide (z < 0)=true:=decide_eq_true hneg
      rw [hs]
      iterate 4 refine WO.op rfl rfl ?_
      refine WO.skip rfl (WO.skip rfl ?_)
      iterate 7 refine WO.op rfl rfl ?_
      by_cases hbig:i64 z
      · rw [hin hbig]
        unfold i64 at hbig
        refine WO.as (v':=.bool false) rfl rfl (bdF (by omega)) ?_
        refine WO.op rfl rfl ?_
        refine WO.op rfl rfl ?_
        refine WO.op rfl rfl (WO.nil (W.cond (b:=false) rfl (fun h=>by cases h) (fun _=>W.seq (W.region ?_))))
        refine WO.op rfl rfl ?_
        refine WO.op rfl rfl ?_
        refine WO.op rfl rfl (WO.nil (W.cond (b:=true) rfl (fun _=>?_) (fun h=>by cases h)))
        refine W.seq (W.region ?_)
        refine WO.op rfl rfl ?_
        refine WO.as (v':=.int .u64 (((z.natAbs - 1:Nat)):Int)) rfl rfl (int_u64 (by omega) (by omega)) ?_
        refine WO.as (v':=iA (((z.natAbs - 1:Nat)):Int)) rfl rfl (int_i64 (by omega) (by omega)) ?_
        refine WO.as (v':=iA (-((z.natAbs - 1:Nat):Int))) rfl rfl (int_i64 (by omega) (by omega)) ?_
        refine WO.as (v':=iA z) rfl rfl (int_i64 (by omega) (by omega)) ?_
        refine WO.op rfl rfl ?_
        exact WO.op rfl rfl (WO.nil (W.ret ⟨trivial,_,rfl,Seals.same _ rfl⟩))
      · rw [hout hbig]
        unfold i64 at hbig
        refine WO.as (v':=.bool true) rfl rfl (bdT (by omega)) ?_
        refine WO.op rfl rfl ?_
        refine WO.op rfl rfl ?_
        refine WO.op rfl rfl (WO.nil (W.cond (b:=true) rfl (fun _=>?_) (fun h=>by cases h)))
        refine W.seq (W.region ?_)
        refine WO.op rfl rfl ?_
        exact WO.op rfl rfl (WO.nil (W.ret ⟨trivial,_,rfl,Seals.same _ rfl⟩))
    · have hs:decide (z < 0)=false:=decide_eq_false hneg
      rw [hs]
      iterate 5 refine WO.op rfl rfl ?_
      by_cases hbig:i64 z
      · rw [hin hbig]
        unfold i64 at hbig
        refine WO.as (v':=.bool false) rfl rfl (bdF (by omega)) ?_
        iterate 6 refine WO.op rfl rfl ?_
        refine WO.skip rfl (WO.skip rfl ?_)
        refine WO.op rfl rfl ?_
        refine WO.op rfl rfl ?_
        refine WO.op rfl rfl (WO.nil (W.cond (b:=false) rfl (fun h=>by cases h) (fun _=>W.seq (W.region ?_))))
        refine WO.op rfl rfl ?_
        refine WO.op rfl rfl ?_
        refine WO.op rfl rfl (WO.nil (W.cond (b:=false) rfl (fun h=>by cases h) (fun _=>W.skip ?_)))
        refine W.seq (W.region ?_)
        refine WO.op rfl rfl ?_
        refine WO.as (v':=iA z) rfl rfl (int_i64 (by omega) (by omega)) ?_
        refine WO.op rfl rfl ?_
        exact WO.op rfl rfl (WO.nil (W.ret ⟨trivial,_,rfl,Seals.same _ rfl⟩))
      · rw [hout hbig]
        unfold i64 at hbig
        refine WO.as (v':=.bool true) rfl rfl (bdT (by omega)) ?_
        iterate 3 refine WO.op rfl rfl ?_
        repeat refine WO.skip rfl ?_
        refine WO.op rfl rfl ?_
        refine WO.op rfl rfl (WO.nil (W.cond (b:=true) rfl (fun _=>?_) (fun h=>by cases h)))
        refine W.seq (W.region ?_)
        refine WO.op rfl rfl ?_
        exact WO.op rfl rfl (WO.nil (W.ret ⟨trivial,_,rfl,Seals.same _ rfl⟩))
  · have hv:smallN z.natAbs=.tup [.int .u64 0,.bool false]:=if_neg hb
    have hni:¬ i64 z:=by unfold i64; omega
    rw [hv,hout hni]
    iterate 4 refine WO.op rfl rfl ?_
    refine WO.op rfl rfl (WO.nil (W.seq (W.block (W.seq (W.region ?_)))))
    iterate 3 refine WO.op rfl rfl ?_
    repeat refine WO.skip rfl ?_
    refine WO.op rfl rfl ?_
    refine WO.op rfl rfl ?_
    repeat refine WO.skip rfl ?_
    refine WO.op rfl rfl ?_
    refine WO.op rfl rfl (WO.nil (W.cond (b:=true) rfl (fun _=>?_) (fun h=>by cases h)))
    refine W.seq (W.region ?_)
    refine WO.op rfl rfl ?_
    exact WO.op rfl rfl (WO.nil (W.ret ⟨trivial,_,rfl,Seals.same _ rfl⟩))
end
end Go.AM.C
namespace Go.AM.C
open Go.Proofs
noncomputable section
end
end Go.AM.C
namespace Go.AM.C
open Go.Proofs
noncomputable section
end
end Go.AM.C
namespace Go.AM.C
open Go.Proofs
noncomputable section
end
end Go.AM.C
namespace Go.AM.C
open Go.Proofs
noncomputable section
end
end Go.AM.C
namespace Go.AM
section
variable {S:Sg} {call:Calling} {d:Bool} {g:Operand→AVal} {H:Heap} {c:Call} {t e:TypeId} {ti te:TI} {cells:List AVal} {cap2:Option Nat} {cl:Bool}
end
end Go.AM
namespace Go.AM.C
def srt (m:Posts):Posts:=(keysS m).map fun k=>(k,look 0 m k)
end Go.AM.C
namespace Go.AM.C
def SS (w:Posts):Prop:=(w.map (·.1)).Pairwise (· < ·)
end Go.AM.C
