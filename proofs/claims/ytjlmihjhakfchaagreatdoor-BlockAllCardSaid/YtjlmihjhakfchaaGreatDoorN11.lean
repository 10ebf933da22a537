import Derived.Test.YtjlmihjhakfchaaGreatDoorA8
import Derived.Test.YtjlmihjhakfchaaGreatDoorN4
import Derived.Test.YtjlmihjhakfchaaGreatDoorN9
import Derived.Test.YtjlmihjhakfchaaGreatDoorN10
set_option linter.unusedVariables false
set_option linter.unusedSimpArgs false
noncomputable section
namespace Go.AM.C
open Go.Proofs
noncomputable section
theorem wk_capD {id off len sz:Nat} {cap:Option Nat}:Wk (.sl id off len cap sz) (.sl id off len none sz):=by
  intro c w v hv
  cases hv with
  | sl _ _ _ _ _ b o ca h1 h2 h3 h4 h5=>exact .sl id off len none sz b o ca h1 h2 h3 (fun n h=>by cases h) h5
  | sl0 _ _ _ _ b o a h1 h2=>exact .sl0 id off none sz b o a h1 (fun n h=>by cases h)
theorem seals_row {H:Heap} {id T:Nat} {cap:Option Nat} {ty:TypeId} {l:List Nat} (hH:H[id]?=some (.cells (u64s l) ty)) (hT:T≤l.length) (hTT:(l.take T).length=T):Seals H (.sl id 0 T cap 1) (.isl (u64s (l.take T)) 0 T cap true):=by
  refine Seals.sl id 0 T cap 1 (u64s l) ty _ hH (by rw [u64s_len]; omega) (by rw [u64s_len]; omega) (fun j x y hx hy=>?_) (u64s_closed _)
  rw [Nat.zero_add] at hx
  have hxy:x=y:=by
    have hj:j < T:=by have:=(List.getElem?_eq_some_iff.1 hy).1; rw [u64s_len,hTT] at this; exact this
    rw [← u64s_take,List.getElem?_take_of_lt hj,hx] at hy
    exact Option.some.inj hy
  subst hxy
  exact Seals.same _ (closed1_ (u64s_closed _ _ (List.mem_of_getElem? hx)))
structure MI (a b:List Nat) (N i:Nat) (s:Nat×Nat×List Nat):Prop where
  k:s.1≤b.length + 1
  len:s.2.2.length=N
  dg:Dg s.2.2
  c:s.2.1 < 1000000000
  val:dval s.2.2 + 1000000000 ^ (i + s.1) * s.2.1=dval (a.take i) * dval b + 1000000000 ^ i * (a.getD i 0 * dval (b.take s.1))
  z:∀ j,i + b.length≤j→i + s.1≤j→s.2.2.getD j 0=0
  last:s.1=b.length + 1→s.2.1=0
theorem dval_takeD {l:List Nat} {i:Nat} (h:i < l.length):dval (l.take (i + 1))=dval (l.take i) + 1000000000 ^ i * l.getD i 0:=dval_take_succ (getD_some h)
theorem dval_setD {l:List Nat} {i:Nat} (z:Nat) (h:i < l.length):dval (l.set i z) + 1000000000 ^ i * l.getD i 0=dval l + 1000000000 ^ i * z:=dval_set z (getD_some h)
theorem dg_getD9 {l:List Nat} (h:Dg l) (j:Nat):l.getD j 0 < 1000000000:=by
  rw [List.getD_eq_getElem?_getD]
  cases hj:l[j]? with
  | none=>simp
  | some x=>exact h x (List.mem_of_getElem? hj)
theorem dval_zeros:∀ N:Nat,dval (List.replicate N 0)=0
  | 0=>rfl
  | N + 1=>by simp [List.replicate_succ,dval,dval_zeros N]
theorem MI.next {a b:List Nat} {N i k c:Nat} {l:List Nat} (h:MI a b N i (k,c,l)) (hk:k < b.length) (hiN:i + b.length < N) (ha:Dg a) (hb:Dg b) :
    l.getD (i + k) 0 + c + a.getD i 0 * b.getD k 0 < 1000000000 * 1000000000∧MI a b N i (k + 1,(l.getD (i + k) 0 + c + a.getD i 0 * b.getD k 0) / 1000000000,l.set (i + k) ((l.getD (i + k) 0 + c + a.getD i 0 * b.getD k 0) % 1000000000)):=by
  obtain ⟨h1,h2,h3,h4,h5,h6,h7⟩:=h
  simp only at h1 h2 h3 h4 h5 h6 h7
  have ho:=dg_getD9 h3 (i + k)
  have hx:=dg_getD9 ha i
  have hy:=dg_getD9 hb k
  have hs:=dval_setD (l:=l) (i:=i + k) ((l.getD (i + k) 0 + c + a.getD i 0 * b.getD k 0) % 1000000000) (by omega)
  have ht:=dval_takeD (l:=b) (i:=k) hk
  generalize l.getD (i + k) 0=o at *
  generalize hxe:a.getD i 0=x at *
  generalize b.getD k 0=y at *
  have hp:x * y≤999999999 * 999999999:=Nat.mul_le_mul (by omega) (by omega)
  have hlt:o + c + x * y < 1000000000 * 1000000000:=by omega
  have hm:=Nat.mod_add_div (o + c + x * y) 1000000000
  refine ⟨hlt,by simp only; omega,by simpa using h2,set_dg h3 (Nat.mod_lt _ (by decide)),Nat.div_lt_of_lt_mul hlt,?_,fun j hj1 hj2=>?_,fun e=>by simp only at e; omega⟩
  · simp only
    generalize (o + c + x * y) % 1000000000=d at *
    generalize (o + c + x * y) / 1000000000=c' at *
    have e:=congrArg (1000000000 ^ (i + k) * ·) hm
    simp only [Nat.mul_add] at e
    have e1:1000000000 ^ (i + (k + 1)) * c'=1000000000 ^ (i + k) * (1000000000 * c'):=by rw [← Nat.add_assoc,Nat.pow_succ,Nat.mul_assoc]
    have e2:1000000000 ^ (i + k) * (x * y)=1000000000 ^ i * (x * (1000000000 ^ k * y)):=by
      rw [Nat.pow_add,Nat.mul_assoc,Nat.mul_left_comm (1000000000 ^ k)]
    rw [hxe,ht,Nat.mul_add,Nat.mul_add,e1]
    omega
  · simp only
    rw [List.getD_eq_getElem?_getD,List.getElem?_set_ne (by simp only at hj2; omega),← List.getD_eq_getElem?_getD]
    exact h6 j hj1 (by simp only at hj2; omega)
theorem MI.carry {a b:List Nat} {N i k c:Nat} {l:List Nat} (h:MI a b N i (k,c,l)) (hk:¬ k < b.length) (hc:0 < c) (hiN:i + b.length < N):k=b.length∧l.getD (i + k) 0=0∧MI a b N i (k + 1,0,l.set (i + k) c):=by
  obtain ⟨h1,h2,h3,h4,h5,h6,h7⟩:=h
  simp only at h1 h2 h3 h4 h5 h6 h7
  have hkb:k=b.length:=by
    rcases Nat.lt_or_ge b.length k with hl | hl
    · have:=h7 (by omega); omega
    · omega
  subst hkb
  have h0:=h6 (i + b.length) (Nat.le_refl _) (Nat.le_refl _)
  have hs:=dval_setD (l:=l) (i:=i + b.length) c (by omega)
  rw [h0,Nat.mul_zero,Nat.add_zero] at hs
  refine ⟨rfl,h0,by simp only; omega,by simpa using h2,set_dg h3 h4,by simp only; omega,?_,fun j hj1 hj2=>?_,fun _=>rfl⟩
  · simp only
    rw [Nat.mul_zero,Nat.add_zero,hs,h5,List.take_of_length_le (Nat.le_refl _),List.take_of_length_le (Nat.le_succ _)]
  · simp only
    rw [List.getD_eq_getElem?_getD,List.getElem?_set_ne (by simp only at hj2; omega),← List.getD_eq_getElem?_getD]
    exact h6 j hj1 (by simp only at hj2; omega)
theorem MI.done {a b:List Nat} {N i k:Nat} {l:List Nat} (h:MI a b N i (k,0,l)) (hk:¬ k < b.length) (hi:i < a.length):dval l=dval (a.take (i + 1)) * dval b∧∀ j,i + 1 + b.length≤j→l.getD j 0=0:=by
  obtain ⟨h1,h2,h3,h4,h5,h6,h7⟩:=h
  simp only at h1 h2 h3 h4 h5 h6 h7
  refine ⟨?_,fun j hj=>h6 j (by omega) (by omega)⟩
  rw [Nat.mul_zero,Nat.add_zero,List.take_of_length_le (Nat.le_of_not_lt hk)] at h5
  rw [h5,dval_takeD hi,Nat.add_mul,Nat.mul_assoc]
set_option maxRecDepth 100000 in
set_option maxHeartbeats 2000000 in
theorem rmul_has (m n:Nat) (hm:(digs m).length < 268435456) (hn:(digs n).length < 268435456) (H:Heap):Has 63 [rD m,rD n] H (rD (m * n)) H:=by
  generalize hR:rD (m * n)=R
  refine does_pure s0 (show S0.fn 63=some Tryz.f63 by kernel_rfl) rfl (by kernel_rfl) (Nat.le_of_ble_eq_true rfl) rfl (by rw [← hR]; rfl) ?_
  have da:=digs_dg m
  have db:=digs_dg n
  have va:=dval_digs m
  have vb:=dval_digs n
  unfold rD at hR ⊢
  rw [← va,← vb] at hR
  clear va vb
  generalize digs m=a at *
  generalize digs n=b at *
  refine W.seq (W.region ?_)
  refine WO.op rfl rfl (WO.nil (W.seq ?_))
  refine W.mid (H1:=[]) [(0,.isl (u64s a) 0 a.length none true),(1,.isl (u64s b) 0 b.length none true),(17,.bool (decide (a.length=0∨b.length=0)))] ?_ ?_
  · refine W.region ?_
    refine WO.op rfl rfl ?_
    refine WO.op (G.len_isl rfl rfl rfl tRN rfl) rfl ?_
    by_cases h1:a.length=0
    · refine WO.as (v':=.bool true) rfl rfl (bdT (by omega)) ?_
      refine WO.op rfl rfl ?_
      iterate 3 refine WO.skip rfl ?_
      refine WO.op rfl rfl ?_
      exact WO.nil ⟨rfl,⟨rfl,rfl,(bdT (.inl h1)).symm,trivial⟩,rfl⟩
    · refine WO.as (v':=.bool false) rfl rfl (bdF (by omega)) ?_
      refine WO.op rfl rfl ?_
      refine WO.op rfl rfl ?_
      refine WO.op (G.len_isl rfl rfl rfl tRN rfl) rfl ?_
      refine WO.as (v':=.bool (decide (b.length=0))) rfl rfl (bdE (by omega)) ?_
      refine WO.op rfl rfl ?_
      exact WO.nil ⟨rfl,⟨rfl,rfl,bdE (by omega),trivial⟩,rfl⟩
  by_cases h0:a.length=0∨b.length=0
  · have hz:dval a * dval b=0:=by
      rcases h0 with h0 | h0
      · rw [List.eq_nil_of_length_eq_zero h0]; simp [dval]
      · rw [List.eq_nil_of_length_eq_zero h0]; simp [dval]
    rw [hz,digs_zero] at hR
    refine W.cond (b:=true) (bdT h0) (fun _=>?_) (fun h=>by cases h)
    refine W.seq (W.region ?_)
    refine WO.op rfl rfl (WO.nil (W.ret ⟨trivial,_,rfl,?_⟩))
    rw [← hR]
    exact .wk _ _ _ wk_nils0 (.same _ rfl)
  refine W.cond (b:=false) (bdF h0) (fun h=>by cases h) (fun _=>W.skip ?_)
  refine W.seq (W.region ?_)
  refine WO.op rfl rfl ?_
  refine WO.op (G.len_isl rfl rfl rfl tRN rfl) rfl ?_
  refine WO.op rfl rfl ?_
  refine WO.op (G.len_isl rfl rfl rfl tRN rfl) rfl ?_
  refine WO.as (v':=iA ((a.length + b.length:Nat):Int)) rfl rfl (int_i64 (by omega) (by omega)) ?_
  refine WO.op (G.make (l:=a.length + b.length) (c:=a.length + b.length) rfl rfl tRN rfl tU64 rfl (by omega) (by show (a.length + b.length) * 8≤_; omega) (by omega)) rfl ?_
  refine WO.op rfl rfl (WO.nil (W.seq (W.seq (W.region ?_))))
  refine WO.op rfl rfl (WO.nil (W.block ?_))
  generalize hN:a.length + b.length=N at *
  refine W.heq (H':=[uO (List.replicate N 0)]) (by simp [u64s]) ?_
  refine W.fits (F':=fr [(0,.isl (u64s a) 0 a.length none true),(1,.isl (u64s b) 0 b.length none true),(5,.sl 0 0 N (some N) 1),(6,iA ((0:Nat):Int))]) (fits_fr ⟨rfl,rfl,rfl,rfl,trivial⟩) ?_
  refine W.loopI (α:=Nat×List Nat) (fun s=>s.1≤a.length∧s.2.length=N∧Dg s.2∧dval s.2=dval (a.take s.1) * dval b∧∀ j,s.1 + b.length≤j→s.2.getD j 0=0) (fun s=>a.length - s.1)
    (fun s=>fr [(0,.isl (u64s a) 0 a.length none true),(1,.isl (u64s b) 0 b.length none true),(5,.sl 0 0 N (some N) 1),(6,iA (s.1:Int))]) (fun s=>[uO s.2]) ?_ (0,List.replicate N 0)
    ⟨Nat.zero_le _,by simp,fun d hd=>by rw [(List.mem_replicate.1 hd).2]; decide,by simp only [List.take_zero,dval,Nat.zero_mul]; exact dval_zeros N,fun j _=>by simp only; rw [List.getD_eq_getElem?_getD,List.getElem?_replicate]; split <;> rfl⟩
  rintro ⟨i,l⟩ ⟨hi,hl,hd,hv,hz⟩
  simp only at hi hl hd hv hz ⊢
  change W _ _ _ _ (fr [(0,.isl (u64s a) 0 a.length none true),(1,.isl (u64s b) 0 b.length none true),(5,.sl 0 0 N (some N) 1),(6,iA (i:Int))]) [uO l] _
  refine W.seq (W.seq (W.region ?_))
  refine WO.op rfl rfl ?_
  refine WO.op rfl rfl ?_
  refine WO.op (G.len_isl rfl rfl rfl tRN rfl) rfl ?_
  by_cases hia:i < a.length
  · have hiN:i + b.length < N:=by omega
    refine WO.as (v':=.bool true) rfl rfl (bdT (by omega)) (WO.nil (W.cond (b:=true) rfl (fun _=>W.skip ?_) (fun h=>by cases h)))
    refine W.seq (W.block (W.seq (W.region ?_)))
    refine WO.op rfl rfl (WO.nil (W.seq (W.region ?_)))
    refine WO.op rfl rfl (WO.nil (W.block ?_))
    refine W.fits (F':=fr [(0,.isl (u64s a) 0 a.length none true),(1,.isl (u64s b) 0 b.length none true),(5,.sl 0 0 N (some N) 1),(6,iA (i:Int)),(7,.int .u64 ((0:Nat):Int)),(8,iA ((0:Nat):Int))]) (fits_fr ⟨rfl,rfl,rfl,rfl,rfl,rfl,trivial⟩) ?_
    refine W.loopI (α:=Nat×Nat×List Nat) (MI a b N i) (fun s=>b.length + 1 - s.1)
      (fun s=>fr [(0,.isl (u64s a) 0 a.length none true),(1,.isl (u64s b) 0 b.length none true),(5,.sl 0 0 N (some N) 1),(6,iA (i:Int)),(7,.int .u64 (s.2.1:Int)),(8,iA (s.1:Int))]) (fun s=>[uO s.2.2]) ?_ (0,0,l)
      ⟨Nat.zero_le _,hl,hd,by show 0 < 1000000000; decide,by simp [dval,hv],fun j hj _=>hz j hj,fun e=>by simp only at e; omega⟩
    rintro ⟨k,c,l2⟩ hI
    have hk:=hI.k
    have hl2:=hI.len
    have hcb:=hI.c
    simp only at hk hl2 hcb ⊢
    change W _ _ _ _ (fr [(0,.isl (u64s a) 0 a.length none true),(1,.isl (u64s b) 0 b.length none true),(5,.sl 0 0 N (some N) 1),(6,iA (i:Int)),(7,.int .u64 (c:Int)),(8,iA (k:Int))]) [uO l2] _
    refine W.seq (W.seq (W.region ?_))
    refine WO.op rfl rfl ?_
    refine WO.op rfl rfl ?_
    refine WO.op (G.len_isl rfl rfl rfl tRN rfl) rfl ?_
    by_cases hkb:k < b.length
    · obtain ⟨hlt,hnx⟩:=hI.next hkb hiN da db
      have ho:(u64s l2)[0 + ((i + k:Nat):Int).toNat * 1]?=some (.int .u64 ((l2.getD (i + k) 0:Nat):Int)):=u64s_at (by omega)
      have hx:(u64s a)[0 + (i:Int).toNat * 1]?=some (.int .u64 ((a.getD i 0:Nat):Int)):=u64s_at hia
      have hy:(u64s b)[0 + (k:Int).toNat * 1]?=some (.int .u64 ((b.getD k 0:Nat):Int)):=u64s_at hkb
      have hob:=dg_getD9 hI.dg (i + k)
      have hxb:=dg_getD9 da i
      have hyb:=dg_getD9 db k
      simp only at hob
      generalize l2.getD (i + k) 0=o at *
      generalize a.getD i 0=x at *
      generalize b.getD k 0=y at *
      have hpb:x * y≤999999999 * 999999999:=Nat.mul_le_mul (by omega) (by omega)
      refine WO.as (v':=.bool true) rfl rfl (bdT (by omega)) ?_
      refine WO.op rfl rfl ?_
      refine WO.skip rfl ?_
      refine WO.skip rfl ?_
      refine WO.op rfl rfl (WO.nil (W.cond (b:=true) rfl (fun _=>W.skip ?_) (fun h=>by cases h)))
      refine W.seq (W.block (W.seq (W.region ?_)))
      iterate 3 refine WO.op rfl rfl ?_
      refine WO.as (v':=iA ((i + k:Nat):Int)) rfl rfl (int_i64 (by omega) (by omega)) ?_
      refine WO.op (G.idx_sl rfl rfl tRN rfl tU64 rfl (by omega) (by omega)) rfl ?_
      refine WO.op (G.load_ptr rfl tU64 rfl (rfl:[uO l2][0]?=some (uO l2)) ho) rfl ?_
      refine WO.op rfl rfl ?_
      refine WO.as (v':=.int .u64 ((o + c:Nat):Int)) rfl rfl (int_u64 (by omega) (by omega)) ?_
      refine WO.op rfl rfl (WO.nil ?_)
      refine W.seq (W.seq (W.region ?_))
      refine WO.op rfl rfl ?_
      refine WO.op rfl rfl ?_
      refine WO.op (G.len_isl rfl rfl rfl tRN rfl) rfl ?_
      refine WO.as (v':=.bool true) rfl rfl (bdT (by omega)) (WO.nil (W.cond (b:=true) rfl (fun _=>?_) (fun h=>by cases h)))
      refine W.draw0 rfl (by kernel_rfl) ?_
      iterate 3 refine WT.op rfl rfl rfl ?_
      refine WT.op (G.idx_isl rfl rfl tRN rfl tU64 (by omega) (by omega)) rfl rfl ?_
      refine WT.op (G.load_ip rfl tU64 rfl hx) rfl rfl ?_
      refine WT.op rfl rfl rfl ?_
      refine WT.op rfl rfl rfl ?_
      refine WT.op (G.idx_isl rfl rfl tRN rfl tU64 (by omega) (by omega)) rfl rfl ?_
      refine WT.op (G.load_ip rfl tU64 rfl hy) rfl rfl ?_
      refine WT.as (v':=.int .u64 ((x * y:Nat):Int)) rfl rfl rfl (by rw [← Int.natCast_mul]; exact int_u64 (by omega) rfl) ?_
      refine WT.as (v':=.int .u64 ((o + c + x * y:Nat):Int)) rfl rfl rfl (int_u64 (by omega) (by omega)) ?_
      refine WT.op rfl rfl rfl (WT.nil ?_)
      generalize o + c + x * y=X at *
      refine W.seq (W.region ?_)
      iterate 3 refine WO.op rfl rfl ?_
      refine WO.as (v':=iA ((i + k:Nat):Int)) rfl rfl (int_i64 (by omega) (by omega)) ?_
      refine WO.op rfl rfl ?_
      refine WO.as (v':=.int .u64 ((X % 1000000000:Nat):Int)) rfl rfl (int_eq (Int.ofNat_tmod X 1000000000).symm) ?_
      refine WO.op (G.idx_sl rfl rfl tRN rfl tU64 rfl (by omega) (by omega)) rfl ?_
      refine WO.op (G.store_u64 rfl rfl tU64 rfl (rfl:[uO l2][0]?=some (uO l2)) (by omega)) rfl (WO.nil (W.region ?_))
      refine WO.op rfl rfl ?_
      refine WO.as (v':=.int .u64 ((X / 1000000000:Nat):Int)) rfl rfl (by rw [show ((X:Nat):Int).tdiv 1000000000=((X / 1000000000:Nat):Int) from (Int.ofNat_tdiv X 1000000000).symm]; exact int_u64 (by omega) rfl) ?_
      refine WO.op rfl rfl (WO.nil (W.region ?_))
      refine WO.op rfl rfl ?_
      refine WO.as (v':=iA ((k + 1:Nat):Int)) rfl rfl (int_i64 (by omega) (by omega)) ?_
      exact WO.op rfl rfl (WO.nil ⟨(k + 1,_,_),hnx,by simp only; omega,fits_fr ⟨rfl,rfl,rfl,rfl,rfl,rfl,trivial⟩,rfl⟩)
    · refine WO.as (v':=.bool false) rfl rfl (bdF (by omega)) ?_
      refine WO.op rfl rfl ?_
      refine WO.op rfl rfl ?_
      by_cases hc0:0 < c
      · obtain ⟨hke,ho0,hnx⟩:=hI.carry hkb hc0 hiN
        have ho:(u64s l2)[0 + ((i + k:Nat):Int).toNat * 1]?=some (.int .u64 ((l2.getD (i + k) 0:Nat):Int)):=u64s_at (by omega)
        rw [ho0] at ho
        refine WO.as (v':=.bool true) rfl rfl (bdT (by omega)) ?_
        refine WO.op rfl rfl (WO.nil (W.cond (b:=true) rfl (fun _=>W.skip ?_) (fun h=>by cases h)))
        refine W.seq (W.block (W.seq (W.region ?_)))
        iterate 3 refine WO.op rfl rfl ?_
        refine WO.as (v':=iA ((i + k:Nat):Int)) rfl rfl (int_i64 (by omega) (by omega)) ?_
        refine WO.op (G.idx_sl rfl rfl tRN rfl tU64 rfl (by omega) (by omega)) rfl ?_
        refine WO.op (G.load_ptr rfl tU64 rfl (rfl:[uO l2][0]?=some (uO l2)) ho) rfl ?_
        refine WO.op rfl rfl ?_
        refine WO.as (v':=.int .u64 (c:Int)) rfl rfl (int_u64 (by omega) (by omega)) ?_
        refine WO.op rfl rfl (WO.nil ?_)
        refine W.seq (W.seq (W.region ?_))
        refine WO.op rfl rfl ?_
        refine WO.op rfl rfl ?_
        refine WO.op (G.len_isl rfl rfl rfl tRN rfl) rfl ?_
        refine WO.as (v':=.bool false) rfl rfl (bdF (by omega)) (WO.nil (W.cond (b:=false) rfl (fun h=>by cases h) (fun _=>W.skip ?_)))
        refine W.seq (W.region ?_)
        iterate 3 refine WO.op rfl rfl ?_
        refine WO.as (v':=iA ((i + k:Nat):Int)) rfl rfl (int_i64 (by omega) (by omega)) ?_
        refine WO.op rfl rfl ?_
        refine WO.as (v':=.int .u64 (c:Int)) rfl rfl (int_eq ((Int.ofNat_tmod c 1000000000).symm.trans (by rw [Nat.mod_eq_of_lt hcb]))) ?_
        refine WO.op (G.idx_sl rfl rfl tRN rfl tU64 rfl (by omega) (by omega)) rfl ?_
        refine WO.op (G.store_u64 rfl rfl tU64 rfl (rfl:[uO l2][0]?=some (uO l2)) (by omega)) rfl (WO.nil (W.region ?_))
        refine WO.op rfl rfl ?_
        refine WO.as (v':=.int .u64 ((0:Nat):Int)) rfl rfl (by rw [show ((c:Nat):Int).tdiv 1000000000=((c / 1000000000:Nat):Int) from (Int.ofNat_tdiv c 1000000000).symm,Nat.div_eq_of_lt hcb]; rfl) ?_
        refine WO.op rfl rfl (WO.nil (W.region ?_))
        refine WO.op rfl rfl ?_
        refine WO.as (v':=iA ((k + 1:Nat):Int)) rfl rfl (int_i64 (by omega) (by omega)) ?_
        exact WO.op rfl rfl (WO.nil ⟨(k + 1,_,_),hnx,by simp only; omega,fits_fr ⟨rfl,rfl,rfl,rfl,rfl,rfl,trivial⟩,rfl⟩)
      · have hce:c=0:=by omega
        subst hce
        obtain ⟨hdv,hdz⟩:=hI.done hkb hia
        have hdg:=hI.dg
        refine WO.as (v':=.bool false) rfl rfl (bdF (by omega)) ?_
        refine WO.op rfl rfl (WO.nil (W.cond (b:=false) rfl (fun h=>by cases h) (fun _=>W.exit ?_)))
        refine W.region ?_
        refine WO.op rfl rfl ?_
        refine WO.as (v':=iA ((i + 1:Nat):Int)) rfl rfl (int_i64 (by omega) (by omega)) ?_
        exact WO.op rfl rfl (WO.nil ⟨(i + 1,l2),⟨by simp only; omega,hl2,hdg,hdv,hdz⟩,by simp only; omega,fits_fr ⟨rfl,rfl,rfl,rfl,trivial⟩,rfl⟩)
  · have hie:i=a.length:=by omega
    subst hie
    rw [List.take_length] at hv
    have ht:=trimD l hd
    refine WO.as (v':=.bool false) rfl rfl (bdF (by omega)) (WO.nil (W.cond (b:=false) rfl (fun h=>by cases h) (fun _=>W.exit ?_)))
    refine W.seq (W.region ?_)
    refine WO.less (.sl 0 0 N none 1) rfl rfl wk_capD ?_
    rw [hl] at ht
    have hTl:=trimN_le l N
    refine WO.call rfl (trim_sl 0 l N [uO l] 92 rfl (by omega) (by omega)) rfl ?_
    generalize trimN l N=T at ht hTl
    have hTT:(l.take T).length=T:=by rw [List.length_take]; omega
    rw [hv] at ht
    rw [← ht,hTT] at hR
    refine WO.op rfl rfl (WO.nil (W.ret ⟨trivial,_,rfl,?_⟩))
    rw [← hR]
    exact seals_row rfl (by omega) hTT
end
end Go.AM.C
namespace Go.AM.C
open Go.Proofs
noncomputable section
theorem digs_mul_len {m n:Nat}:(digs (m * n)).length≤(digs m).length + (digs n).length:=by
  have h1:=dval_lt (digs_dg m)
  have h2:=dval_lt (digs_dg n)
  rw [dval_digs] at h1 h2
  refine digs_len_le ?_
  rw [Nat.pow_add]
  exact Nat.mul_lt_mul'' h1 h2
theorem digs_top_ge {n:Nat} (h:0 < n):0 < (digs n).length∧(digs n).getD ((digs n).length - 1) 0≠0:=by
  have h0:(digs n).length≠0:=fun e=>by have:=digs_nil.1 e; omega
  refine ⟨by omega,?_⟩
  have ht:=digs_top n
  have hl:(digs n).getLast?=some ((digs n).getD ((digs n).length - 1) 0):=by
    rw [List.getLast?_eq_getElem?]
    exact getD_some (by omega)
  exact ht _ hl
theorem dval_top {l:List Nat} {k:Nat} (hl:l.length=k + 1) (hd:Dg l):∃ low,low < 1000000000 ^ k∧dval l=low + 1000000000 ^ k * l.getD k 0:=by
  refine ⟨dval (l.take k),?_,?_⟩
  · have:=dval_lt (hd.take k)
    rwa [List.length_take,Nat.min_eq_left (by omega)] at this
  · have:=dval_takeD (l:=l) (i:=k) (by omega)
    rwa [List.take_of_length_le (by omega)] at this
theorem most_high {R D k:Nat} (hr:(digs R).length=k + 1) (hd:(digs D).length=k + 1) (hD:0 < D):0 < (digs D).getD k 0∧R < D * ((digs R).getD k 0 / (digs D).getD k 0 + 1)∧(digs R).getD k 0 / (digs D).getD k 0 + 1≤1000000000:=by
  obtain ⟨l1,h1,e1⟩:=dval_top hr (digs_dg R)
  obtain ⟨l2,h2,e2⟩:=dval_top hd (digs_dg D)
  have ht:=(digs_top_ge hD).2
  rw [hd,Nat.add_sub_cancel] at ht
  have hrb:=dg_getD9 (digs_dg R) k
  rw [dval_digs] at e1 e2
  generalize (digs R).getD k 0=x at *
  generalize (digs D).getD k 0=y at *
  have hy:0 < y:=by omega
  refine ⟨hy,?_,?_⟩
  · have h3:x < y * (x / y + 1):=Nat.lt_mul_div_succ x hy
    generalize x / y + 1=q at *
    have h4:1000000000 ^ k * (x + 1)≤1000000000 ^ k * (y * q):=Nat.mul_le_mul_left _ h3
    rw [e1,e2,Nat.add_mul,Nat.mul_assoc]
    rw [Nat.mul_add,Nat.mul_one] at h4
    have:0≤l2 * q:=Nat.zero_le _
    omega
  · have:=Nat.div_le_self x y
    omega
theorem cmpZ_le {m n:Nat}:cmpZ m n≤0↔m≤n:=by unfold cmpZ; split <;> (try split) <;> omega
set_option maxRecDepth 100000 in
set_option maxHeartbeats 2000000 in
theorem rmost_has (R D:Nat) (hR:(digs R).length < 134217728) (hD:(digs D).length < 134217728) (hDp:0 < D) (hlt:R < D * 1000000000) (H:Heap):Has 118 [rD R,rD D] H (uA (R / D)) H:=by
  refine does_pure s0 (show S0.fn 118=some Tryz.f118 by kernel_rfl) rfl (by kernel_rfl) (Nat.le_of_ble_eq_true rfl) rfl rfl ?_
  have hDl:=(digs_top_ge hDp).1
  refine W.seq (W.region ?_)
  refine WO.op rfl rfl (WO.nil (W.seq (W.region ?_)))
  refine WO.op rfl rfl ?_
  refine WO.op rfl rfl (WO.nil (W.seq (W.seq (W.region ?_))))
  refine WO.op rfl rfl ?_
  refine WO.op (v:=iA (((digs R).length:Nat):Int)) (H1:=[]) (G.len_isl rfl rfl rfl tRN rfl) rfl ?_
  refine WO.op rfl rfl ?_
  refine WO.op (v:=iA (((digs D).length:Nat):Int)) (H1:=[]) (G.len_isl rfl rfl rfl tRN rfl) rfl ?_
  by_cases hl:(digs R).length < (digs D).length
  · have hRD:=lt_of_len hl
    rw [Nat.div_eq_of_lt hRD]
    refine WO.as (v':=.bool true) rfl rfl (bdT (by omega)) (WO.nil (W.cond (b:=true) rfl (fun _=>?_) (fun h=>by cases h)))
    refine W.seq (W.region ?_)
    exact WO.op rfl rfl (WO.nil (W.ret ⟨trivial,_,rfl,Seals.same _ rfl⟩))
  refine WO.as (v':=.bool false) rfl rfl (bdF (by omega)) (WO.nil (W.cond (b:=false) rfl (fun h=>by cases h) (fun _=>W.skip ?_)))
  obtain ⟨hi,hhi,hhb,hcase⟩:∃ hi,R < D * hi∧hi≤1000000000∧((∃ k,(digs R).length=k + 1∧(digs D).length=k + 1∧0 < (digs D).getD k 0∧hi=(digs R).getD k 0 / (digs D).getD k 0 + 1)∨¬ (digs R).length=(digs D).length∧hi=1000000000):=by
    by_cases he:(digs R).length=(digs D).length
    · obtain ⟨k,hk⟩:∃ k,(digs D).length=k + 1:=⟨(digs D).length - 1,by omega⟩
      obtain ⟨h1,h2,h3⟩:=most_high (he.trans hk) hk hDp
      exact ⟨_,h2,h3,.inl ⟨k,he.trans hk,hk,h1,rfl⟩⟩
    · exact ⟨1000000000,hlt,Nat.le_refl _,.inr ⟨he,rfl⟩⟩
  refine W.mid (H1:=[]) [(0,rD R),(1,rD D),(5,uA 0),(6,uA hi)] ?_ ?_
  · refine W.seq (W.region ?_)
    refine WO.op rfl rfl ?_
    refine WO.op (v:=iA (((digs R).length:Nat):Int)) (H1:=[]) (G.len_isl rfl rfl rfl tRN rfl) rfl ?_
    refine WO.op rfl rfl ?_
    refine WO.op (v:=iA (((digs D).length:Nat):Int)) (H1:=[]) (G.len_isl rfl rfl rfl tRN rfl) rfl ?_
    rcases hcase with ⟨k,hk1,hk2,hy0,rfl⟩ | ⟨hne,rfl⟩
    · have hx:(u64s (digs R))[0 + (k:Int).toNat * 1]?=some (uA ((digs R).getD k 0)):=u64s_at (by omega)
      have hy:(u64s (digs D))[0 + (k:Int).toNat * 1]?=some (uA ((digs D).getD k 0)):=u64s_at (by omega)
      have hxb:=dg_getD9 (digs_dg R) k
      unfold rD
      generalize (digs R).getD k 0=x at *
      generalize (digs D).getD k 0=y at *
      generalize digs R=lr at *
      generalize digs D=ld at *
      have hdv:x / y≤x:=Nat.div_le_self _ _
      have hzz:(0:Int)≤((x / y:Nat):Int):=Int.natCast_nonneg _
      refine WO.as (v':=.bool true) rfl rfl (bdT (by omega)) (WO.nil (W.cond (b:=true) rfl (fun _=>?_) (fun h=>by cases h)))
      refine W.draw0 rfl (by kernel_rfl) ?_
      refine WT.op rfl rfl rfl ?_
      refine WT.op rfl rfl rfl ?_
      refine WT.op (v:=iA ((lr.length:Nat):Int)) (H1:=[]) (G.len_isl rfl rfl rfl tRN rfl) rfl rfl ?_
      refine WT.as (v':=iA (k:Int)) rfl rfl rfl (int_i64 (by omega) (by omega)) ?_
      refine WT.op (G.idx_isl rfl rfl tRN rfl tU64 (by omega) (by omega)) rfl rfl ?_
      refine WT.op (G.load_ip rfl tU64 rfl hx) rfl rfl ?_
      refine WT.op rfl rfl rfl ?_
      refine WT.op rfl rfl rfl ?_
      refine WT.op (v:=iA ((ld.length:Nat):Int)) (H1:=[]) (G.len_isl rfl rfl rfl tRN rfl) rfl rfl ?_
      refine WT.as (v':=iA (k:Int)) rfl rfl rfl (int_i64 (by omega) (by omega)) ?_
      refine WT.op (G.idx_isl rfl rfl tRN rfl tU64 (by omega) (by omega)) rfl rfl ?_
      refine WT.op (G.load_ip rfl tU64 rfl hy) rfl rfl ?_
      refine WT.op (quo_op (m:=x) (k:=y) rfl rfl (by omega) (by omega)) rfl rfl ?_
      refine WT.as (v':=uA (x / y + 1)) rfl rfl rfl (int_u64 (by omega) (by omega)) ?_
      exact WT.op rfl rfl rfl (WT.nil ⟨rfl,⟨rfl,rfl,rfl,rfl,trivial⟩,rfl⟩)
    · refine WO.as (v':=.bool false) rfl rfl (bdF (by omega)) (WO.nil (W.cond (b:=false) rfl (fun h=>by cases h) (fun _=>W.skip ?_)))
      exact ⟨rfl,⟨rfl,rfl,rfl,rfl,trivial⟩,rfl⟩
  refine W.seq (W.block ?_)
  refine W.loopI (α:=Nat×Nat) (fun s=>s.1 < s.2∧s.2≤1000000000∧D * s.1≤R∧R < D * s.2) (fun s=>s.2 - s.1) (fun s=>fr [(0,rD R),(1,rD D),(5,uA s.1),(6,uA s.2)]) (fun _=>[]) ?_ (0,hi)
    ⟨by
      rcases Nat.eq_zero_or_pos hi with e | e
      · rw [e] at hhi; omega
      · exact e,hhb,by simp,hhi⟩
  rintro ⟨lo,hg⟩ ⟨h1,h2,h3,h4⟩
  simp only at h1 h2 h3 h4 ⊢
  change W _ _ _ _ (fr [(0,rD R),(1,rD D),(5,uA lo),(6,uA hg)]) [] _
  refine W.seq (W.seq (W.region ?_))
  refine WO.op rfl rfl ?_
  refine WO.op rfl rfl ?_
  refine WO.as (v':=uA (hg - lo)) rfl rfl (int_u64 (by omega) (by omega)) ?_
  by_cases hm:1 < hg - lo
  · obtain ⟨md,hmd⟩:∃ md,md=(lo + hg) / 2:=⟨_,rfl⟩
    have hml:(digs md).length≤3:=digs_len (by omega)
    have hpl:=digs_mul_len (m:=D) (n:=md)
    refine WO.as (v':=.bool true) rfl rfl (bdT (by omega)) (WO.nil (W.cond (b:=true) rfl (fun _=>W.skip ?_) (fun h=>by cases h)))
    refine W.block (W.seq (W.region ?_))
    refine WO.op rfl rfl ?_
    refine WO.op rfl rfl ?_
    refine WO.as (v':=uA (lo + hg)) rfl rfl (int_u64 (by omega) (by omega)) ?_
    refine WO.as (v':=uA md) (quo_op (m:=lo + hg) (k:=2) rfl rfl (by decide) (by omega)) rfl (by rw [hmd]) ?_
    refine WO.op rfl rfl (WO.nil (W.seq (W.region ?_)))
    refine WO.op rfl rfl ?_
    refine WO.op rfl rfl ?_
    refine WO.call rfl (ofU_has md (by omega) _) rfl ?_
    refine WO.call rfl (rmul_has D md (by omega) (by omega) _) rfl ?_
    refine WO.op rfl rfl ?_
    refine WO.call rfl (cmp_has (D * md) R (by omega) (by omega) _) rfl ?_
    by_cases hle:D * md≤R
    · refine WO.as (v':=.bool true) rfl rfl (bdT (cmpZ_le.2 hle)) (WO.nil (W.cond (b:=true) rfl (fun _=>W.region ?_) (fun h=>by cases h)))
      refine WO.op rfl rfl ?_
      exact WO.op rfl rfl (WO.nil ⟨(md,hg),⟨by simp only; omega,h2,hle,h4⟩,by simp only; omega,fits_fr ⟨rfl,rfl,rfl,rfl,trivial⟩,rfl⟩)
    · refine WO.as (v':=.bool false) rfl rfl (bdF (fun h=>hle (cmpZ_le.1 h))) (WO.nil (W.cond (b:=false) rfl (fun h=>by cases h) (fun _=>W.region ?_)))
      refine WO.op rfl rfl ?_
      exact WO.op rfl rfl (WO.nil ⟨(lo,md),⟨by simp only; omega,by simp only; omega,h3,by simp only; omega⟩,by simp only; omega,fits_fr ⟨rfl,rfl,rfl,rfl,trivial⟩,rfl⟩)
  · have hgl:hg=lo + 1:=by omega
    subst hgl
    have hq:R / D=lo:=by
      refine Nat.le_antisymm ?_ ?_
      · exact Nat.le_of_lt_succ ((Nat.div_lt_iff_lt_mul hDp).2 (by rw [Nat.mul_comm]; exact h4))
      · exact (Nat.le_div_iff_mul_le hDp).2 (by rw [Nat.mul_comm]; exact h3)
    rw [hq]
    refine WO.as (v':=.bool false) rfl rfl (bdF (by omega)) (WO.nil (W.cond (b:=false) rfl (fun h=>by cases h) (fun _=>W.exit ?_)))
    refine W.seq (W.region ?_)
    refine WO.op rfl rfl ?_
    exact WO.op rfl rfl (WO.nil (W.ret ⟨trivial,_,rfl,Seals.same _ rfl⟩))
theorem dstep {x Y D:Nat} (hD:0 < D):(x + 1000000000 * Y) / D=1000000000 * (Y / D) + (x + 1000000000 * (Y % D)) / D∧(x + 1000000000 * Y) % D=(x + 1000000000 * (Y % D)) % D:=by
  have h:=Nat.div_add_mod Y D
  have e:x + 1000000000 * Y=(x + 1000000000 * (Y % D)) + D * (1000000000 * (Y / D)):=by
    have:D * (1000000000 * (Y / D))=1000000000 * (D * (Y / D)):=Nat.mul_left_comm _ _ _
    rw [this]
    generalize D * (Y / D)=z at h ⊢
    omega
  constructor
  · rw [e,Nat.add_mul_div_left _ _ hD]
    omega
  · rw [e,Nat.add_mul_mod_self_left]
theorem sub_mod {X D:Nat}:X - D * (X / D)=X % D:=by
  have:=Nat.mod_add_div X D
  omega
section
variable {S:Sg} {call:Calling} {d:Bool} {g:Operand→AVal} {H:Heap} {c:Call} {t e:TypeId} {ti te:TI}
theorem app_none {id:Nat} {x:AVal} (hc:c.callee=.builtin .append) (ha:c.args.toList.map g=[.sl id 0 1 (some 1) te.size,x]) (hta:c.argTypes.toList=[t,t]) (ht:S.ty t=some ti) (hd:ti.desc=.slice e) (he:S.ty e=some te) (hx:sliceCells H te.size x=some ([],0)) :
    denG S call d g H (.call c)=some (.sl id 0 1 (some 1) te.size,H):=by
  obtain ⟨d1,d2,d3,d4,d5,d6,d7,d8⟩:=ti
  simp only at hd
  subst hd
  simp only [denG,hc,ha,hta,denAppend,ht,he,hx]
  rw [if_neg (by decide)]
theorem app_many {id m:Nat} {a:AVal} {news:List AVal} {ty:TypeId} {cap:Option Nat} {cl:Bool} (hc:c.callee=.builtin .append) (ha:c.args.toList.map g=[.sl id 0 1 (some 1) te.size,.isl news 0 (m + 1) cap cl]) (hta:c.argTypes.toList=[t,t]) (ht:S.ty t=some ti) (hd:ti.desc=.slice e) (he:S.ty e=some te)
    (hs:te.size=1) (hn:news.length=m + 1) (hcl:news.all AVal.cell=true) (hb:te.bytes≤1024) (hI:H[id]?=some (.cells [a] ty)) (hm:m < 1073741824) :
    denG S call d g H (.call c)=some (.sl H.length 0 (1 + (m + 1)) none te.size,H ++ [.cells ([a] ++ news) e]):=by
  obtain ⟨d1,d2,d3,d4,d5,d6,d7,d8⟩:=ti
  simp only at hd
  subst hd
  have hsx:sliceCells H te.size (.isl news 0 (m + 1) cap cl)=some (news,m + 1):=by
    unfold sliceCells
    simp only
    rw [hs,if_pos (by omega),List.drop_zero,List.take_of_length_le (by omega)]
  have hso:sliceCells H te.size (.sl id 0 1 (some 1) te.size)=some ([a],1):=by
    unfold sliceCells
    simp only [hI]
    rw [hs]
    rfl
  simp only [denG,hc,ha,hta,denAppend,ht,he,hsx,hso,hcl]
  have h1:(1 + (m + 1)) * te.bytes≤140737488355328:=by
    have:(1 + (m + 1)) * te.bytes≤1073741826 * 1024:=Nat.mul_le_mul (by omega) hb
    omega
  rw [if_neg (by decide),if_pos ⟨trivial,by omega,h1,by omega⟩,if_neg (by omega)]
end
theorem app_front {H : Heap} {v : AVal} {X x : Nat} (hv : IsN v X) (hl : (digs X).length < 134217728) (h0 : 0 < H.length) : ∃ id cap H', id ≠ 0 ∧ H'[id]? = some (uO (x :: digs X)) ∧ (∀ j, j < H.length → H'[j]? = H[j]?) ∧ (∀ (call : Calling) (d : Bool) (g : Operand → AVal) (c : Call), c.callee = .builtin .append → c.args.toList.map g = [.sl H.length 0 1 (some 1) 1, v] → c.argTypes.toList = [36, 36] →
      denG S0 call d g (H ++ [.cells [uA x] 92]) (.call c)=some (.sl id 0 (x :: digs X).length cap 1,H')):=by
  by_cases hX:X=0
  · subst hX
    have hd:digs 0=[]:=digs_zero
    refine ⟨H.length,some 1,H ++ [.cells [uA x] 92],by omega,?_,fun j hj=>app_lt hj,fun call d g c hc ha hta=>?_⟩
    · rw [hd]; exact app_at rfl
    · rw [hd]
      refine app_none (ti:=ti36) (te:=ti92) hc ha hta tRN rfl tU64 ?_
      rcases hv with rfl | ⟨rfl,_⟩
      · unfold rD; rw [hd]; rfl
      · rfl
  · have hlen:(digs X).length≠0:=fun e=>hX (digs_nil.1 e)
    obtain ⟨m,hm⟩:∃ m,(digs X).length=m + 1:=⟨(digs X).length - 1,by omega⟩
    rcases hv with rfl | ⟨_,h⟩
    · refine ⟨(H ++ [AObj.cells [uA x] 92]).length,none,H ++ [.cells [uA x] 92] ++ [uO (x :: digs X)],by simp,app_at rfl,fun j hj=>?_,fun call d g c hc ha hta=>?_⟩
      · rw [app_lt (by simp; omega),app_lt hj]
      · unfold rD at ha
        rw [hm] at ha
        have:=app_many (S:=S0) (call:=call) (d:=d) (H:=H ++ [.cells [uA x] 92]) (ti:=ti36) (te:=ti92) (a:=uA x) hc ha hta tRN rfl tU64 rfl (by rw [u64s_len]; exact hm) (by simp [u64s,AVal.cell]) (by decide) (app_at rfl) (by omega)
        rw [this]
        show some (AVal.sl _ 0 (1 + (m + 1)) none 1,_)=_
        rw [List.length_cons,hm,Nat.add_comm 1 (m + 1)]
        rfl
    · exact absurd h hX
structure DI (A D n:Nat) (s:Nat×AVal×List Nat×Heap):Prop where
  k:s.1≤n
  v:IsN s.2.1 (dval ((digs A).drop s.1) % D)
  len:s.2.2.1.length=n
  dg:Dg s.2.2.1
  val:dval s.2.2.1=1000000000 ^ s.1 * (dval ((digs A).drop s.1) / D)
  z:∀ j,j < s.1→s.2.2.1.getD j 0=0
  h:s.2.2.2[0]?=some (uO s.2.2.1)
set_option maxRecDepth 100000 in
set_option maxHeartbeats 2000000 in
theorem rdiv_has (A D:Nat) (hA:(digs A).length < 67108864) (hD:(digs D).length < 67108864) (hDp:0 < D) (H:Heap):Has 62 [rD A,rD D] H (.tup [rD (A / D),rD (A % D)]) H:=by
  refine does_pure s0 (show S0.fn 62=some Tryz.f62 by kernel_rfl) rfl (by kernel_rfl) (Nat.le_of_ble_eq_true rfl) rfl rfl ?_
  obtain ⟨n,hn⟩:∃ n,n=(digs A).length:=⟨_,rfl⟩
  have hmodl:∀ X,(digs (X % D)).length≤(digs D).length:=fun X=>by
    rcases Nat.lt_or_ge (digs D).length (digs (X % D)).length with h | h
    · have:=lt_of_len h
      have:=Nat.mod_lt X hDp
      omega
    · exact h
  refine W.seq (W.region ?_)
  refine WO.op rfl rfl ?_
  refine WO.op rfl rfl (WO.nil (W.seq (W.region ?_)))
  refine WO.op rfl rfl (WO.nil (W.seq (W.region ?_)))
  refine WO.op rfl rfl ?_
  refine WO.op (v:=iA ((n:Nat):Int)) (H1:=[]) (by rw [hn]; exact G.len_isl rfl rfl rfl tRN rfl) rfl ?_
  refine WO.op (G.make (l:=n) (c:=n) rfl rfl tRN rfl tU64 rfl (Nat.le_refl _) (by show n * 8≤_; omega) (by omega)) rfl ?_
  refine WO.op rfl rfl (WO.nil (W.seq (W.seq (W.region ?_))))
  refine WO.heq (H':=[uO (List.replicate n 0)]) (by simp [u64s]) ?_
  refine WO.op rfl rfl ?_
  refine WO.op (v:=iA ((n:Nat):Int)) (H1:=[uO (List.replicate n 0)]) (by rw [hn]; exact G.len_isl rfl rfl rfl tRN rfl) rfl ?_
  refine WO.as (v':=iA ((n:Int) - 1)) rfl rfl (int_i64 (by omega) rfl) ?_
  refine WO.op rfl rfl (WO.nil (W.block ?_))
  refine W.fits (F':=fr [(0,rD A),(1,rD D),(6,.nils),(7,.sl 0 0 n (some n) 1),(8,iA ((n:Int) - 1))]) (fits_fr ⟨rfl,rfl,rfl,rfl,rfl,trivial⟩) ?_
  refine W.loopI (α:=Nat×AVal×List Nat×Heap) (DI A D n) (fun s=>s.1) (fun s=>fr [(0,rD A),(1,rD D),(6,s.2.1),(7,.sl 0 0 n (some n) 1),(8,iA ((s.1:Int) - 1))]) (fun s=>s.2.2.2) ?_ (n,.nils,List.replicate n 0,[uO (List.replicate n 0)])
    ⟨Nat.le_refl _,by simp only; rw [hn,List.drop_length]; exact .inr ⟨rfl,Nat.zero_mod _⟩,by simp,fun d hd=>by rw [(List.mem_replicate.1 hd).2]; decide,by simp only; rw [hn,List.drop_length]; simp [dval,dval_zeros],fun j _=>by simp only; rw [List.getD_eq_getElem?_getD,List.getElem?_replicate]; split <;> rfl,rfl⟩
  rintro ⟨k,v,q,HH⟩ ⟨hk,hv,hql,hqd,hqv,hqz,hH⟩
  simp only at hk hv hql hqd hqv hqz hH ⊢
  change W _ _ _ _ (fr [(0,rD A),(1,rD D),(6,v),(7,.sl 0 0 n (some n) 1),(8,iA ((k:Int) - 1))]) HH _
  refine W.seq (W.seq (W.region ?_))
  refine WO.op rfl rfl ?_
  cases k with
  | zero =>
    rw [List.drop_zero,dval_digs] at hv hqv
    rw [Nat.pow_zero,Nat.one_mul] at hqv
    refine WO.as (v':=.bool false) rfl rfl (bdF (by omega)) (WO.nil (W.cond (b:=false) rfl (fun h=>by cases h) (fun _=>W.exit ?_)))
    have ht:=trimD q hqd
    rw [hql,hqv] at ht
    have hTl:=trimN_le q n
    refine W.seq (W.region ?_)
    refine WO.less (.sl 0 0 n none 1) rfl rfl wk_capD ?_
    refine WO.call rfl (trim_sl 0 q n _ 92 hH (by omega) (by omega)) rfl ?_
    refine WO.op rfl rfl ?_
    refine WO.op rfl rfl ?_
    refine WO.op rfl rfl (WO.nil (W.ret ⟨trivial,.tup [.sl 0 0 (trimN q n) none 1,v],rfl,?_⟩))
    generalize trimN q n=T at ht hTl
    have hTT:(q.take T).length=T:=by rw [List.length_take]; omega
    refine seals_tup2 ?_ ?_
    · unfold rD
      rw [← ht,hTT]
      exact seals_row hH (by omega) hTT
    · rcases hv with rfl | ⟨rfl,h⟩
      · exact .same _ rfl
      · rw [h]
        exact .wk _ _ _ wk_nilsD (.same _ rfl)
  | succ i =>
    rw [prev_i64 i]
    have hin:i < (digs A).length:=by omega
    have hx:(u64s (digs A))[0 + (i:Int).toNat * 1]?=some (uA ((digs A).getD i 0)):=u64s_at hin
    have hxb:=dg_getD9 (digs_dg A) i
    have hst:=drop_step (getD_some hin)
    obtain ⟨e1,e2⟩:=dstep (x:=(digs A).getD i 0) (Y:=dval ((digs A).drop (i + 1))) hDp
    rw [← hst] at e1 e2
    generalize (digs A).getD i 0=x at *
    have hml:=hmodl (dval ((digs A).drop (i + 1)))
    have hmlt:dval ((digs A).drop (i + 1)) % D < D:=Nat.mod_lt _ hDp
    generalize dval ((digs A).drop (i + 1)) % D=Y at *
    have hH0:0 < HH.length:=(List.getElem?_eq_some_iff.1 hH).1
    obtain ⟨id,cap,H',hid,hHid,hkeep,hden⟩:=app_front (x:=x) hv (by omega) hH0
    have hH'0:H'[0]?=some (uO q):=(hkeep 0 hH0).trans hH
    have hLd:Dg (x :: digs Y):=fun d hd=>by
      rcases List.mem_cons.1 hd with rfl | hd
      · exact hxb
      · exact digs_dg Y d hd
    have hLv:dval (x :: digs Y)=x + 1000000000 * Y:=by rw [dval,dval_digs]
    have ht:=trimD (x :: digs Y) hLd
    rw [hLv] at ht
    have hXlt:x + 1000000000 * Y < D * 1000000000:=by omega
    obtain ⟨X,hX⟩:∃ X,X=x + 1000000000 * Y:=⟨_,rfl⟩
    rw [← hX] at ht hXlt e1 e2
    obtain ⟨T,hT⟩:∃ T,T=trimN (x :: digs Y) (x :: digs Y).length:=⟨_,rfl⟩
    have hTl:=trimN_le (x :: digs Y) (x :: digs Y).length
    rw [← hT] at ht hTl
    have hTT:((x :: digs Y).take T).length=T:=by rw [List.length_take]; omega
    have hXl:(digs X).length≤(digs Y).length + 1:=by rw [← ht,hTT]; simpa using hTl
    have hq9:X / D < 1000000000:=(Nat.div_lt_iff_lt_mul hDp).2 (by rw [Nat.mul_comm]; exact hXlt)
    have hql3:(digs (X / D)).length≤3:=digs_len (by omega)
    have hpl:=digs_mul_len (m:=D) (n:=X / D)
    have hmulle:D * (X / D)≤X:=Nat.mul_div_le X D
    have hsm:=sub_mod (X:=X) (D:=D)
    have hvs:=dval_setD (l:=q) (i:=i) (X / D) (by omega)
    rw [hqz i (Nat.lt_succ_self i),Nat.mul_zero,Nat.add_zero,hqv] at hvs
    have hqset:q.length=n:=hql
    refine WO.as (v':=.bool true) rfl rfl (bdT (by omega)) (WO.nil (W.cond (b:=true) rfl (fun _=>W.skip ?_) (fun h=>by cases h)))
    refine W.seq (W.block (W.seq (W.region ?_)))
    refine WO.op rfl rfl ?_
    refine WO.op rfl rfl ?_
    refine WO.op (v:=.ip (u64s (digs A)) (0 + (i:Int).toNat * 1) true) (H1:=HH) (G.idx_isl rfl rfl tRN rfl tU64 (by omega) (by omega)) rfl ?_
    refine WO.op (G.load_ip rfl tU64 rfl hx) rfl ?_
    refine WO.op (v:=.sl HH.length 0 1 (some 1) 1) (H1:=HH ++ [.cells [uA x] 92]) rfl rfl ?_
    refine WO.op rfl rfl ?_
    refine WO.less (.sl id 0 (x :: digs Y).length none 1) (hden _ _ _ _ rfl rfl rfl) rfl wk_capD ?_
    refine WO.call rfl (trim_sl id (x :: digs Y) (x :: digs Y).length H' 92 hHid (Nat.le_refl _) (by simp; omega)) rfl ?_
    rw [← hT]
    refine WO.seal1 (id:=id) (t:=26) (a':=rD X) (by decide) hHid rfl (fun c w u hu=>?_) ?_ ?_
    · have hu':VR c w (.sl id 0 T none 1) u:=hu
      cases hu' with
      | sl _ _ _ _ _ b o ca h=>exact ⟨_,h⟩
      | sl0 _ _ _ _ b o a h=>exact ⟨_,h⟩
    · show Seals _ (.sl id 0 T none 1) _
      unfold rD
      rw [← ht,hTT]
      exact seals_row ((only_at H' id).trans hHid) hTl hTT
    have hHd:(H'.set id .dead)[0]?=some (uO q):=by rw [List.getElem?_set_ne hid]; exact hH'0
    generalize H'.set id .dead=H2 at hHd ⊢
    refine WO.op rfl rfl (WO.nil (W.seq (W.region ?_)))
    iterate 4 refine WO.op rfl rfl ?_
    refine WO.call rfl (rmost_has X D (by omega) (by omega) hDp hXlt _) rfl ?_
    refine WO.op (G.idx_sl rfl rfl tRN rfl tU64 rfl (by omega) (by omega)) rfl ?_
    refine WO.op (G.store_u64 rfl rfl tU64 rfl hHd (by omega)) rfl (WO.nil (W.region ?_))
    have hH2l:0 < H2.length:=(List.getElem?_eq_some_iff.1 hHd).1
    have hHs:(H2.set 0 (uO (q.set i (X / D))))[0]?=some (uO (q.set i (X / D))):=List.getElem?_set_self hH2l
    iterate 4 refine WO.op rfl rfl ?_
    refine WO.op (G.idx_sl rfl rfl tRN rfl tU64 rfl (by omega) (by omega)) rfl ?_
    refine WO.op (G.load_ptr rfl tU64 rfl hHs (u64s_at (by rw [List.length_set]; omega))) rfl ?_
    rw [getD_set_at (by omega)]
    refine WO.call rfl (ofU_has (X / D) (by omega) _) rfl ?_
    refine WO.call rfl (rmul_has D (X / D) (by omega) (by omega) _) rfl ?_
    refine WO.call rfl (rsub_has X (D * (X / D)) hmulle (by omega) _) rfl ?_
    rw [hsm]
    refine WO.op rfl rfl (WO.nil (W.region ?_))
    refine WO.op rfl rfl ?_
    refine WO.as (v':=iA ((i:Int) - 1)) rfl rfl (int_i64 (by omega) rfl) ?_
    refine WO.op rfl rfl (WO.nil ⟨(i,rD (X % D),q.set i (X / D),_),⟨by simp only; omega,?_,by simpa using hql,set_dg hqd hq9,?_,fun j hj=>?_,hHs⟩,by simp only; omega,fits_fr ⟨rfl,rfl,rfl,rfl,rfl,trivial⟩,rfl⟩)
    · simp only
      rw [e2]
      exact .inl rfl
    · simp only
      rw [hvs,e1,Nat.mul_add,Nat.pow_succ,Nat.mul_assoc]
    · simp only at hj ⊢
      rw [List.getD_eq_getElem?_getD,List.getElem?_set_ne (by omega),← List.getD_eq_getElem?_getD]
      exact hqz j (by omega)
end
end Go.AM.C
namespace Go.AM.C
open Go.Proofs
noncomputable section
theorem times_sgn {x y:Int}:sgn (decide (x < 0) != decide (y < 0)) (x.natAbs * y.natAbs)=x * y:=by
  unfold sgn
  by_cases hx:x < 0 <;> by_cases hy:y < 0
  · rw [decide_eq_true hx,decide_eq_true hy]
    show ((x.natAbs * y.natAbs:Nat):Int)=_
    rw [Int.natCast_mul,show (x.natAbs:Int)=-x by omega,show (y.natAbs:Int)=-y by omega,Int.neg_mul_neg]
  · rw [decide_eq_true hx,decide_eq_false hy]
    show -((x.natAbs * y.natAbs:Nat):Int)=_
    rw [Int.natCast_mul,show (x.natAbs:Int)=-x by omega,show (y.natAbs:Int)=y by omega,Int.neg_mul,Int.neg_neg]
  · rw [decide_eq_false hx,decide_eq_true hy]
    show -((x.natAbs * y.natAbs:Nat):Int)=_
    rw [Int.natCast_mul,show (x.natAbs:Int)=x by omega,show (y.natAbs:Int)=-y by omega,Int.mul_neg,Int.neg_neg]
  · rw [decide_eq_false hx,decide_eq_false hy]
    show ((x.natAbs * y.natAbs:Nat):Int)=_
    rw [Int.natCast_mul,show (x.natAbs:Int)=x by omega,show (y.natAbs:Int)=y by omega]
set_option maxRecDepth 100000 in
theorem rtimes_has (x y:Int) (hx:(digs x.natAbs).length < 67108864) (hy:(digs y.natAbs).length < 67108864) (H:Heap):Has 16 [rI x,rI y] H (rI (x * y)) H:=by
  have hX:rI x=.agg [.bool (decide (x < 0)),rD x.natAbs]:=rfl
  have hY:rI y=.agg [.bool (decide (y < 0)),rD y.natAbs]:=rfl
  have hz:=@times_sgn x y
  have hml:=digs_mul_len (m:=x.natAbs) (n:=y.natAbs)
  rw [hX,hY]
  generalize hZ:x * y=z at *
  clear hX hY hZ
  generalize x.natAbs=m at *
  generalize y.natAbs=n at *
  generalize decide (x < 0)=s at *
  generalize decide (y < 0)=t at *
  have h1:=fun H=>rmul_has m n (by omega) (by omega) H
  have h2:=fun H=>rint_has (s != t) (m * n) (by omega) H
  rw [hz] at h2
  have sl:Sound Tryz.prog (mk [oneE 63 [rD m,rD n] (rD (m * n)),oneE 65 [.bool (s != t),rD (m * n)] (rI z)]):=mk_sound ⟨oneE_ok h1 _ rfl rfl,oneE_ok h2 _ rfl rfl,trivial⟩
  refine Has.of (l:=[oneE 63 [rD m,rD n] (rD (m * n)),oneE 65 [.bool (s != t),rD (m * n)] (rI z)]) ?_
  refine does_pure sl (show Sg.fn (mk _) 16=some Tryz.f16 by kernel_rfl) rfl (by kernel_rfl) (Nat.le_of_ble_eq_true rfl) rfl rfl ?_
  refine W.seq (W.region ?_)
  refine WO.op rfl rfl ?_
  refine WO.op rfl rfl ?_
  refine WO.op rfl rfl (WO.nil (W.seq (W.draw0 rfl (by kernel_rfl) ?_)))
  iterate 4 refine WT.op rfl rfl rfl ?_
  refine WT.as (v':=.bool (s != t)) rfl rfl rfl (by cases s <;> cases t <;> rfl) ?_
  iterate 4 refine WT.op rfl rfl rfl ?_
  refine WT.op oneE_eq rfl rfl ?_
  refine WT.op oneE_eq rfl rfl ?_
  exact WT.op rfl rfl rfl (WT.nil (W.ret ⟨trivial,_,rfl,Seals.same _ rfl⟩))
set_option maxRecDepth 100000 in
theorem rcmpi_has (x y:Int) (hx:Sm x.natAbs) (hy:Sm y.natAbs) (hxy:Sm (x.natAbs + y.natAbs)) (H:Heap):Has 19 [rI x,rI y] H (iA (if x < y then -1 else if x=y then 0 else 1)) H:=by
  have h1:=fun H=>rminus_has y (Nat.lt_trans hy (by decide)) H
  have h2:=fun H=>rplus_has x (-y) hx (by rw [Int.natAbs_neg]; exact hy) (by rw [Int.natAbs_neg]; exact hxy) H
  have hsub:x + -y=x - y:=rfl
  rw [hsub] at h2
  have hD:rI (x - y)=.agg [.bool (decide (x - y < 0)),rD (x - y).natAbs]:=rfl
  have hres:(if x < y then (-1:Int) else if x=y then 0 else 1)=if (digs (x - y).natAbs).length=0 then 0 else if x - y < 0 then -1 else 1:=by
    by_cases h:x=y
    · rw [if_neg (by omega),if_pos h,if_pos (digs_nil.2 (by omega))]
    · rw [if_neg (fun e:(digs (x - y).natAbs).length=0=>h (by have:=digs_nil.1 e; omega))]
      by_cases h3:x < y
      · rw [if_pos h3,if_pos (by omega)]
      · rw [if_neg h3,if_neg h,if_neg (by omega)]
  rw [hres]
  have hcl:(iA (if (digs (x - y).natAbs).length=0 then 0 else if x - y < 0 then -1 else 1)).closed=true:=rfl
  have hX:rI x=.agg [.bool (decide (x < 0)),rD x.natAbs]:=rfl
  have hY:rI y=.agg [.bool (decide (y < 0)),rD y.natAbs]:=rfl
  have hN:rI (-y)=.agg [.bool (decide (-y < 0)),rD (-y).natAbs]:=rfl
  rw [hX,hN] at h2
  rw [hY,hN] at h1
  rw [hX,hY]
  rw [hD] at h2
  have hcA:([.agg [.bool (decide (x < 0)),rD x.natAbs],.agg [.bool (decide (y < 0)),rD y.natAbs]]:List AVal).all AVal.closed=true:=rfl
  have hzb:(x - y).natAbs≤x.natAbs + y.natAbs:=by omega
  generalize x - y=z at *
  generalize decide (x < 0)=bx at *
  generalize decide (y < 0)=bb at *
  generalize decide (-y < 0)=bn at *
  generalize rD x.natAbs=dx at *
  generalize rD y.natAbs=dy at *
  generalize rD (-y).natAbs=dn at *
  unfold rD at h2
  have hlz:(digs z.natAbs).length < 4611686018427387904:=by
    have:(digs z.natAbs).length < 268435456:=hxy.mono hzb
    omega
  generalize hdz:digs z.natAbs=lz at *
  clear hX hY hN hD
  have sl:Sound Tryz.prog (mk [oneE 17 [.agg [.bool bb,dy]] (.agg [.bool bn,dn]),oneE 14 [.agg [.bool bx,dx],.agg [.bool bn,dn]] (.agg [.bool (decide (z < 0)),.isl (u64s lz) 0 lz.length none true])]):=mk_sound ⟨oneE_ok h1 _ rfl rfl,oneE_ok h2 _ rfl rfl,trivial⟩
  refine Has.of (l:=[oneE 17 [.agg [.bool bb,dy]] (.agg [.bool bn,dn]),oneE 14 [.agg [.bool bx,dx],.agg [.bool bn,dn]] (.agg [.bool (decide (z < 0)),.isl (u64s lz) 0 lz.length none true])]) ?_
  refine does_pure sl (show Sg.fn (mk _) 19=some Tryz.f19 by kernel_rfl) rfl (by kernel_rfl) (Nat.le_of_ble_eq_true rfl) hcA rfl ?_
  refine W.seq (W.region ?_)
  refine WO.op rfl rfl ?_
  refine WO.op rfl rfl ?_
  refine WO.op rfl rfl (WO.nil (W.seq (W.draw rfl (by kernel_rfl) ?_)))
  refine WT.op rfl rfl rfl ?_
  refine WT.op rfl rfl rfl ?_
  refine WT.op oneE_eq rfl rfl ?_
  refine WT.op oneE_eq rfl rfl ?_
  refine WT.alloc rfl rfl ?_
  refine WT.op rfl rfl rfl (WT.nil (W.seq (W.block (W.seq (W.region ?_)))))
  refine WO.op rfl rfl ?_
  refine WO.op rfl rfl ?_
  refine WO.op (v:=iA ((lz.length:Nat):Int)) (G.len_isl rfl rfl rfl tRN rfl) rfl ?_
  by_cases h0:lz.length=0
  · rw [if_pos h0]
    refine WO.as (v':=.bool true) rfl rfl (bdT (by omega)) ?_
    refine WO.op rfl rfl (WO.nil (W.cond (b:=true) rfl (fun _=>?_) (fun h=>by cases h)))
    refine W.seq (W.region ?_)
    exact WO.op rfl rfl (WO.nil (W.ret ⟨trivial,_,rfl,Seals.same _ rfl⟩))
  rw [if_neg h0]
  refine WO.as (v':=.bool false) rfl rfl (bdF (by omega)) ?_
  refine WO.op rfl rfl (WO.nil (W.cond (b:=false) rfl (fun h=>by cases h) (fun _=>?_)))
  refine W.seq (W.region ?_)
  refine WO.op rfl rfl ?_
  refine WO.op rfl rfl ?_
  refine WO.op rfl rfl (WO.nil ?_)
  by_cases h3:z < 0
  · rw [if_pos h3]
    refine W.cond (b:=true) (bdT h3) (fun _=>?_) (fun h=>by cases h)
    refine W.seq (W.region ?_)
    exact WO.op rfl rfl (WO.nil (W.ret ⟨trivial,_,rfl,Seals.same _ rfl⟩))
  · rw [if_neg h3]
    refine W.cond (b:=false) (bdF h3) (fun h=>by cases h) (fun _=>W.skip ?_)
    refine W.seq (W.region ?_)
    exact WO.op rfl rfl (WO.nil (W.ret ⟨trivial,_,rfl,Seals.same _ rfl⟩))
end
end Go.AM.C
namespace Go.AM.C
open Go.Proofs
noncomputable section
def parR {α:Type} (Pre:α→Prop) (ar:α→List AVal) (vr:α→AVal) (args:List AVal) (H:Heap) (v:AVal) (H':Heap):Prop:=∃ a,Pre a∧args=ar a∧v=vr a∧H'=H
theorem parR_fun {α:Type} {Pre:α→Prop} {ar:α→List AVal} {vr:α→AVal} (hf:∀ a b,Pre a→Pre b→ar a=ar b→vr a=vr b):∀ args H v H1 u H2,parR Pre ar vr args H v H1→parR Pre ar vr args H u H2→v=u∧H1=H2:=by
  rintro _ H _ _ _ _ ⟨a,ha,rfl,rfl,rfl⟩ ⟨b,hb,e,rfl,rfl⟩
  exact ⟨hf a b ha hb e,rfl⟩
abbrev parE {α:Type} (f:FuncId) (Pre:α→Prop) (ar:α→List AVal) (vr:α→AVal):Ent:=⟨f,relX (parR Pre ar vr),true,relX_quiet fun _ _ _ _ ⟨_,_,_,_,h⟩=>h⟩
theorem parE_ok {α:Type} {f:FuncId} {Pre:α→Prop} {ar:α→List AVal} {vr:α→AVal} (h:∀ a,Pre a→∀ H,Has f (ar a) H (vr a) H) (S:Sg) (hg:S.glob=S0.glob) (hp:S.pin=S0.pin):ExtAt Tryz.prog S f (relX (parR Pre ar vr)) :=
  relX_ok (fun _ H _ _ ⟨a,ha,e1,e2,e3⟩=>by subst e1 e2 e3; exact h a ha _) S hg hp
theorem parE_eq {α:Type} {Pre:α→Prop} {ar:α→List AVal} {vr:α→AVal} (hf:∀ a b,Pre a→Pre b→ar a=ar b→vr a=vr b) (a:α) (ha:Pre a) {H:Heap}:relX (parR Pre ar vr) (ar a) H=some (vr a,H) :=
  relX_eq (parR_fun hf) ⟨a,ha,rfl,rfl,rfl⟩
end
end Go.AM.C
namespace Go.AM.C.RP
open Go.Proofs Go.AM.C.BK
noncomputable section
noncomputable def ti113:TI:=⟨.slice 36,1,24,[.nils],false,[],false,msOf Tryz.prog 113⟩
theorem ti113_ok:tiOf Tryz.prog 113=some ti113:=by kernel_rfl
noncomputable def ti114:TI:=⟨odsOf Tryz.prog 114,1,0,[.any],false,[],false,msOf Tryz.prog 114⟩
theorem ti114_ok:tiOf Tryz.prog 114=some ti114:=by kernel_rfl
noncomputable def ti32:TI:=⟨odsOf Tryz.prog 32,1,0,[.any],false,[],false,msOf Tryz.prog 32⟩
theorem ti32_ok:tiOf Tryz.prog 32=some ti32:=by kernel_rfl
noncomputable def tys:List (Nat×TI):=[(113,ti113),(114,ti114),(32,ti32)]
theorem tys_ok:AllT Tryz.prog tys:=⟨ti113_ok,ti114_ok,ti32_ok,trivial⟩
abbrev mkR (l:List Ent):Sg:=mkS Tryz.prog (tyOf (RP.tys ++ Go.AM.C.tys)) (fun _=>false) globF pinF (fun _=>false) false l
theorem mkR_sound {l:List Ent} (h:AllE Tryz.prog (mkR l) l):Sound Tryz.prog (mkR l):=mkS_sound mixed (fun t i h=>tyOf_ok (DV.allT_app RP.tys_ok Go.AM.C.tys_ok) t i h) h globF_ok
theorem unR {l:List Ent} {f:FuncId} {args:List AVal} {H H':Heap} {v:AVal} (h:DoesC Tryz.prog (mkR l) f args H v H'):Has f args H v H':=DoesC.glob rfl rfl h
theorem inR {l:List Ent} {f:FuncId} {args:List AVal} {H H':Heap} {v:AVal} (h:Has f args H v H'):DoesC Tryz.prog (mkR l) f args H v H':=DoesC.glob rfl rfl h
theorem u64s_inj:∀ {a b:List Nat},u64s a=u64s b→a=b
  | [],[],_=>rfl
  | [],y :: b,h=>by cases h
  | x :: a,[],h=>by cases h
  | x :: a,y :: b,h=>by
    have h':AVal.int .u64 (x:Int) :: u64s a=AVal.int .u64 (y:Int) :: u64s b:=h
    injection h' with h1 h2
    injection h1 with _ h1
    rw [u64s_inj h2,Int.natCast_inj.1 h1]
theorem rD_inj {m n:Nat} (h:rD m=rD n):m=n:=by
  unfold rD at h
  injection h with h1
  have:=u64s_inj h1
  rw [← dval_digs m,this,dval_digs]
theorem isN_inj {v:AVal} {m n:Nat} (h:IsN v m) (k:IsN v n):m=n:=by
  rcases h with rfl | ⟨rfl,rfl⟩
  · rcases k with k | ⟨k,_⟩
    · exact rD_inj k
    · unfold rD at k; cases k
  · rcases k with k | ⟨_,rfl⟩
    · unfold rD at k; cases k
    · rfl
theorem rI_inj {x y:Int} (h:rI x=rI y):x=y:=by
  unfold rI at h
  injection h with h
  injection h with h1 h2
  injection h2 with h2
  injection h1 with h1
  have e:=rD_inj h2
  have e1:=decide_eq_decide.1 h1
  omega
abbrev Ln (n:Nat):Prop:=(digs n).length < 16777216
theorem Ln.of {n:Nat} (h:n < 1000000000 ^ 100):Ln n:=Nat.lt_of_le_of_lt (digs_len_le h) (by decide)
abbrev ofuE:Ent:=parE 61 (fun x:Nat=>x < 18446744073709551616) (fun x=>[uA x]) (fun x=>rD x)
abbrev mulE:Ent:=parE 63 (fun p:Nat×Nat=>Ln p.1∧Ln p.2) (fun p=>[rD p.1,rD p.2]) (fun p=>rD (p.1 * p.2))
abbrev divE:Ent:=parE 62 (fun p:Nat×Nat=>Ln p.1∧Ln p.2∧0 < p.2) (fun p=>[rD p.1,rD p.2]) (fun p=>.tup [rD (p.1 / p.2),rD (p.1 % p.2)])
abbrev cmpE:Ent:=parE 18 (fun p:(AVal×Nat)×(AVal×Nat)=>IsN p.1.1 p.1.2∧IsN p.2.1 p.2.2∧Ln p.1.2∧Ln p.2.2) (fun p=>[p.1.1,p.2.1]) (fun p=>iA (cmpZ p.1.2 p.2.2))
abbrev addE:Ent:=parE 60 (fun p:Nat×Nat=>Ln p.1∧Ln p.2) (fun p=>[rD p.1,rD p.2]) (fun p=>rD (p.1 + p.2))
abbrev intE:Ent:=parE 65 (fun p:Bool×Nat=>Ln p.2) (fun p=>[.bool p.1,rD p.2]) (fun p=>rI (sgn p.1 p.2))
abbrev smlE:Ent:=parE 66 (fun z:Int=>Ln z.natAbs) (fun z=>[rI z]) (fun z=>smallI z)
theorem cons2 {a b c d:AVal} (h:[a,b]=[c,d]):a=c∧b=d:=by
  injection h with h1 h2
  injection h2 with h2
  exact ⟨h1,h2⟩
theorem ofu_f:∀ a b:Nat,a < 18446744073709551616→b < 18446744073709551616→[uA a]=[uA b]→rD a=rD b:=fun a b _ _ h=>by
  injection h with h
  injection h with _ h
  rw [Int.natCast_inj.1 h]
theorem pair_f {p q:Nat×Nat} (h:[rD p.1,rD p.2]=[rD q.1,rD q.2]):p=q:=by
  obtain ⟨h1,h2⟩:=cons2 h
  exact Prod.ext (rD_inj h1) (rD_inj h2)
theorem rwk {f:FuncId} {a b a' b':AVal} {H:Heap} {v:AVal} (h:Has f [a,b] H v H) (h1:Wk a' a) (h2:Wk b' b):Has f [a',b'] H v H :=
  h.wk rfl fun j x y hx hy=>by
    match j with
    | 0=>cases hx; cases hy; exact h1
    | 1=>cases hx; cases hy; exact h2
    | j + 2=>simp at hx
theorem isN_wk {v:AVal} {n:Nat} (h:IsN v n):Wk v (rD n):=by
  rcases h with rfl | ⟨rfl,rfl⟩
  · exact Wk.refl _
  · exact wk_nilsD
theorem rcmp_is {u v:AVal} {m n:Nat} (hu:IsN u m) (hv:IsN v n) (hm:Ln m) (hn:Ln n) (H:Heap):Has 18 [u,v] H (iA (cmpZ m n)) H:=rwk (cmp_has m n (by unfold Ln at hm; omega) (by unfold Ln at hn; omega) H) (isN_wk hu) (isN_wk hv)
theorem radd_is {u v:AVal} {m n:Nat} (hu:IsN u m) (hv:IsN v n) (hm:Ln m) (hn:Ln n) (H:Heap):Has 60 [u,v] H (rD (m + n)) H:=rwk (radd_has m n (by unfold Ln at hm; omega) (by unfold Ln at hn; omega) H) (isN_wk hu) (isN_wk hv)
abbrev SRl:List Ent:=[ofuE,mulE,divE,cmpE,addE,intE,smlE]
abbrev SR:Sg:=mkR SRl
theorem sR:Sound Tryz.prog SR:=mkR_sound ⟨parE_ok (fun x h H=>ofU_has x h H) _ rfl rfl,parE_ok (fun p h H=>rmul_has p.1 p.2 (by have:=h.1; unfold Ln at this; omega) (by have:=h.2; unfold Ln at this; omega) H) _ rfl rfl,
  parE_ok (fun p h H=>rdiv_has p.1 p.2 (by have:=h.1; unfold Ln at this; omega) (by have:=h.2.1; unfold Ln at this; omega) h.2.2 H) _ rfl rfl,parE_ok (fun p h H=>rcmp_is h.1 h.2.1 h.2.2.1 h.2.2.2 H) _ rfl rfl,
  parE_ok (fun p h H=>radd_has p.1 p.2 (by have:=h.1; unfold Ln at this; omega) (by have:=h.2; unfold Ln at this; omega) H) _ rfl rfl,parE_ok (fun p h H=>rint_has p.1 p.2 (by unfold Ln at h; omega) H) _ rfl rfl,
  parE_ok (fun z h H=>ismall_has z (by unfold Sm; unfold Ln at h; omega) H) _ rfl rfl,trivial⟩
theorem ofuR {x:Nat} (h:x < 18446744073709551616) (H:Heap):callS SR 61 [uA x] H=some (rD x,H):=(show callS SR 61 [uA x] H=relX _ _ _ from rfl).trans (parE_eq ofu_f x h)
theorem mulR {m n:Nat} (hm:Ln m) (hn:Ln n) (H:Heap):callS SR 63 [rD m,rD n] H=some (rD (m * n),H):=(show callS SR 63 [rD m,rD n] H=relX _ _ _ from rfl).trans (parE_eq (ar:=fun p:Nat×Nat=>[rD p.1,rD p.2]) (fun a b _ _ h=>by rw [pair_f h]) (m,n) ⟨hm,hn⟩)
theorem divR {m n:Nat} (hm:Ln m) (hn:Ln n) (h0:0 < n) (H:Heap):callS SR 62 [rD m,rD n] H=some (.tup [rD (m / n),rD (m % n)],H):=(show callS SR 62 [rD m,rD n] H=relX _ _ _ from rfl).trans (parE_eq (ar:=fun p:Nat×Nat=>[rD p.1,rD p.2]) (fun a b _ _ h=>by rw [pair_f h]) (m,n) ⟨hm,hn,h0⟩)
theorem addR {m n:Nat} (hm:Ln m) (hn:Ln n) (H:Heap):callS SR 60 [rD m,rD n] H=some (rD (m + n),H):=(show callS SR 60 [rD m,rD n] H=relX _ _ _ from rfl).trans (parE_eq (ar:=fun p:Nat×Nat=>[rD p.1,rD p.2]) (fun a b _ _ h=>by rw [pair_f h]) (m,n) ⟨hm,hn⟩)
theorem cmpR {u v:AVal} {m n:Nat} (hu:IsN u m) (hv:IsN v n) (hm:Ln m) (hn:Ln n) (H:Heap):callS SR 18 [u,v] H=some (iA (cmpZ m n),H) :=
  (show callS SR 18 [u,v] H=relX _ _ _ from rfl).trans (parE_eq (ar:=fun p:(AVal×Nat)×(AVal×Nat)=>[p.1.1,p.2.1]) (fun a b ha hb h=>by
    obtain ⟨⟨u1,m1⟩,⟨v1,n1⟩⟩:=a
    obtain ⟨⟨u2,m2⟩,⟨v2,n2⟩⟩:=b
    obtain ⟨h1,h2⟩:=cons2 h
    simp only at h1 h2 ha hb ⊢
    subst h1 h2
    rw [isN_inj ha.1 hb.1,isN_inj ha.2.1 hb.2.1]) ((u,m),(v,n)) ⟨hu,hv,hm,hn⟩)
theorem intR {b:Bool} {n:Nat} (hn:Ln n) (H:Heap):callS SR 65 [.bool b,rD n] H=some (rI (sgn b n),H):=(show callS SR 65 [.bool b,rD n] H=relX _ _ _ from rfl).trans (parE_eq (ar:=fun p:Bool×Nat=>[.bool p.1,rD p.2]) (fun a b _ _ h=>by
    obtain ⟨h1,h2⟩:=cons2 h
    injection h1 with h1
    rw [h1,rD_inj h2]) (b,n) hn)
theorem smlR {z:Int} (hz:Ln z.natAbs) (H:Heap):callS SR 66 [rI z] H=some (smallI z,H):=(show callS SR 66 [rI z] H=relX _ _ _ from rfl).trans (parE_eq (ar:=fun z:Int=>[rI z]) (fun a b _ _ h=>by
    injection h with h
    rw [rI_inj h]) z hz)
def bestF (r:List Nat):Nat→Nat
  | 0=>0
  | 1=>0
  | i + 2=>if r.getD (bestF r (i + 1)) 0 < r.getD (i + 1) 0 then i + 1 else bestF r (i + 1)
theorem bestF_lt (r:List Nat):∀ i,0 < i→bestF r i < i
  | 1,_=>by unfold bestF; omega
  | i + 2,_=>by
    unfold bestF
    split
    · omega
    · have:=bestF_lt r (i + 1) (by omega)
      omega
def pickN:Nat→List Nat×List Nat→List Nat×List Nat
  | 0,s=>s
  | m + 1,s=>pickN m (s.1.set (bestF s.2 s.2.length) (s.1.getD (bestF s.2 s.2.length) 0 + 1),s.2.set (bestF s.2 s.2.length) 0)
theorem pickN_len:∀ (m:Nat) (s:List Nat×List Nat),(pickN m s).1.length=s.1.length
  | 0,s=>rfl
  | m + 1,s=>by rw [pickN,pickN_len m]; simp
def rds (l:List Nat):List AVal:=l.map rD
theorem rds_at {l:List Nat} {j:Nat} (h:j < l.length):(rds l)[j]?=some (rD (l.getD j 0)):=by
  unfold rds
  rw [List.getElem?_map,List.getD_eq_getElem?_getD,List.getElem?_eq_getElem h]
  rfl
theorem rds_len (l:List Nat):(rds l).length=l.length:=by unfold rds; simp
theorem rds_set (l:List Nat) (j x:Nat):(rds l).set j (rD x)=rds (l.set j x):=by unfold rds; rw [List.map_set]
theorem rds_snoc (l:List Nat) (x:Nat):rds (l ++ [x])=rds l ++ [rD x]:=by unfold rds; rw [List.map_append]; rfl
end
end Go.AM.C.RP
namespace Go.AM.C.RP
open Go.Proofs Go.AM.C.BK
noncomputable section
theorem rN:SR.ty 113=some ti113:=rfl
theorem rn:SR.ty 36=some ti36:=rfl
theorem rL:SR.ty 23=some ti23:=rfl
theorem rl:SR.ty 2=some ti2:=rfl
theorem lnS {n:Nat} (h:n < 1606938044258990275541962092341162602522202993782792835301376):Ln n:=Ln.of (Nat.lt_trans h (by decide))
theorem lnP {a b:Nat} (ha:a≤9223372036854775808) (hb:b < 9223372036854775808):Ln (a * b):=lnS (Nat.lt_of_le_of_lt (Nat.mul_le_mul ha (Nat.le_of_lt hb)) (by decide))
theorem smallI_eq (z:Int):smallI z=.tup [iA (smI z),.bool (small64 z)]:=by
  unfold smallI smI
  cases small64 z <;> rfl
theorem len_digs_pos {m:Nat}:(0 < (digs m).length)↔0 < m:=by
  have:=@digs_nil m
  constructor <;> intro h <;> omega
structure RSt (A S:Nat) (sh:List Nat) (tc:List AVal) (k:Nat) (G:Heap) (vq vr:AVal):Prop where
  hk:k≤sh.length
  q:RowK G vq (rds ((qsN A S sh).take k)) 36
  r:RowK G vr (rds ((rsN A S sh).take k)) 36
  c:G[0]?=some (.cells tc 38)
  q0:idK vq≠some 0
  r0:idK vr≠some 0
  qr:∀ j,idK vq=some j→idK vr≠some j
def AppD2 (G:Heap) (v x v':AVal) (e:TypeId) (G':Heap):Prop :=
  ∀ {S:Sg} {call:Calling} {d:Bool} {g:Operand→AVal} {c:Call} {t:TypeId} {ti te:TI} {cap2:Option Nat},c.callee=.builtin .append→c.args.toList.map g=[v,.sl G.length 0 1 cap2 1]→c.argTypes.toList=[t,t]→S.ty t=some ti→ti.desc=.slice e→S.ty e=some te→te.size=1→te.bytes≤1024 →
    denG S call d g (G ++ [.cells [x] e]) (.call c)=some (v',G')
theorem RowK.grow {H:Heap} {v:AVal} {cs:List AVal} {ty:TypeId} (h:RowK H v cs ty) (e:TypeId) (x:AVal) (hx:x.cell=true) (hl:cs.length < 1073741824) :
    ∃ H',AppD2 H v x (.sl (H.length + 1) 0 (cs ++ [x]).length none 1) e H'∧H'.length=H.length + 2∧RowK H' (.sl (H.length + 1) 0 (cs ++ [x]).length none 1) (cs ++ [x]) e∧∀ j,j < H.length→idK v≠some j→H'[j]?=H[j]?:=by
  have h1:=h.mono (H':=H ++ [.cells [x] e]) fun j hj=>app_lt (h.lt hj)
  obtain ⟨H',a,l,r,k⟩:=h1.app2 e x hx hl (app_at rfl)
  have hlen:(H ++ [AObj.cells [x] e]).length=H.length + 1:=by simp
  rw [hlen] at a l r
  refine ⟨H',?_,by omega,r,fun j hj hn=>(k j (by omega) hn).trans (app_lt hj)⟩
  intro S call d g c t ti te cap2 hc ha hta ht hd he hs hb
  exact a hc ha hta ht hd he hs hb
theorem RSt.step {A S:Nat} {sh:List Nat} {tc:List AVal} {k:Nat} {G:Heap} {vq vr:AVal} (h:RSt A S sh tc k G vq vr) (hk:k < sh.length) (hb:sh.length < 1048576) :
    ∃ G1 G2 vq' vr',AppD2 G vq (rD (A * sh.getD k 0 / S)) vq' 36 G1∧AppD2 G1 vr (rD (A * sh.getD k 0 % S)) vr' 36 G2∧RSt A S sh tc (k + 1) G2 vq' vr':=by
  have hql:(rds ((qsN A S sh).take k)).length < 1073741824:=by rw [rds_len,List.length_take]; omega
  have hrl:(rds ((rsN A S sh).take k)).length < 1073741824:=by rw [rds_len,List.length_take]; omega
  have h0:0 < G.length:=(List.getElem?_eq_some_iff.1 h.c).1
  obtain ⟨G1,a1,l1,r1,k1⟩:=RowK.grow h.q 36 (rD (A * sh.getD k 0 / S)) rfl hql
  have hr1:=h.r.mono (H':=G1) fun j hj=>k1 j (h.r.lt hj) (fun e=>h.qr j e hj)
  have hc1:G1[0]?=some (.cells tc 38):=by rw [k1 0 h0 h.q0]; exact h.c
  obtain ⟨G2,a2,l2,r2,k2⟩:=RowK.grow hr1 36 (rD (A * sh.getD k 0 % S)) rfl hrl
  have hc2:G2[0]?=some (.cells tc 38):=by rw [k2 0 (by omega) h.r0]; exact hc1
  have eQ:rds ((qsN A S sh).take k) ++ [rD (A * sh.getD k 0 / S)]=rds ((qsN A S sh).take (k + 1)):=by rw [takeD (by rw [qs_len]; exact hk),rds_snoc,qs_getD hk]
  have eR:rds ((rsN A S sh).take k) ++ [rD (A * sh.getD k 0 % S)]=rds ((rsN A S sh).take (k + 1)):=by rw [takeD (by rw [rs_len]; exact hk),rds_snoc,rs_getD hk]
  refine ⟨G1,G2,_,_,a1,a2,hk,?_,?_,hc2,?_,?_,?_⟩
  · rw [← eQ]
    refine r1.mono fun j hj=>?_
    cases hj
    exact k2 _ (by omega) (fun e=>by have:=h.r.lt e; omega)
  · rw [← eR]
    exact r2
  · intro e; injection e with e; omega
  · intro e; injection e with e; omega
  · intro j hj e
    injection hj with hj
    injection e with e
    omega
structure PI (A S n M:Nat) (fin:List Nat×List Nat) (s:Nat×List Nat×List AVal×List Nat):Prop where
  m:s.1≤M
  ql:s.2.1.length=n
  cl:s.2.2.1.length=n
  rl:s.2.2.2.length=n
  qb:∀ x∈s.2.1,x + s.1≤A + M
  rb:∀ x∈s.2.2.2,x≤S
  c:∀ i,i < n→∃ v,s.2.2.1[i]?=some v∧IsN v (s.2.2.2.getD i 0)
  fin:pickN s.1 (s.2.1,s.2.2.2)=fin
theorem PI.step {A S n M m:Nat} {fin:List Nat×List Nat} {q r:List Nat} {rc:List AVal} (h:PI A S n M fin (m + 1,q,rc,r)) (hn:0 < n) :
    PI A S n M fin (m,q.set (bestF r n) (q.getD (bestF r n) 0 + 1),rc.set (bestF r n) .nils,r.set (bestF r n) 0):=by
  obtain ⟨h1,h2,h3,h4,h5,h6,h7,h8⟩:=h
  simp only at h1 h2 h3 h4 h5 h6 h7 h8
  have hb:=bestF_lt r n hn
  refine ⟨by simp only; omega,by simpa using h2,by simpa using h3,by simpa using h4,fun x hx=>?_,fun x hx=>?_,fun i hi=>?_,?_⟩
  · simp only at hx ⊢
    rcases List.mem_or_eq_of_mem_set hx with hx | rfl
    · have:=h5 x hx; omega
    · have:=h5 _ (getD_mem (l:=q) (j:=bestF r n) (by omega)); omega
  · rcases List.mem_or_eq_of_mem_set hx with hx | rfl
    · exact h6 x hx
    · omega
  · simp only
    by_cases he:i=bestF r n
    · subst he
      refine ⟨.nils,List.getElem?_set_self (by omega),.inr ⟨rfl,?_⟩⟩
      rw [List.getD_eq_getElem?_getD,List.getElem?_set_self (by omega)]
      rfl
    · obtain ⟨v,hv,hi'⟩:=h7 i hi
      refine ⟨v,by rw [List.getElem?_set_ne (Ne.symm he)]; exact hv,?_⟩
      rw [List.getD_eq_getElem?_getD,List.getElem?_set_ne (Ne.symm he),← List.getD_eq_getElem?_getD]
      exact hi'
  · simp only
    rw [← h8,pickN,h4]
theorem cmpZ_pos {m n:Nat}:(0 < cmpZ m n)↔n < m:=by unfold cmpZ; split <;> (try split) <;> omega
abbrev pF (t:AVal) (a b n m:Nat):List (Nat×AVal):=[(8,.ptr 0 0),(9,rD m),(10,.sl a 0 n none 1),(11,.sl b 0 n none 1)]
abbrev pH (Y:Heap) (a b:Nat) (q:List Nat) (rc:List AVal):Heap:=(Y.set a (.cells (rds q) 36)).set b (.cells rc 36)
set_option maxRecDepth 100000 in
set_option maxHeartbeats 8000000 in
theorem rparts_ok (t:Int) (ht:i64 t) (sh:List Nat) (hs:∀ s∈sh,s < 9223372036854775808) (h20:sh.length≤20) (h0:0 < sh.sum) (H:Heap) :
    Has 12 [iA t,.isl (ints sh) 0 sh.length none true] H (.tup [.isl (outsA t (pickN (missN t.natAbs sh) (qsN t.natAbs sh.sum sh,rsN t.natAbs sh.sum sh)).1) 0 sh.length none true,iA 0]) H:=by
  have hS:sh.sum < 340282366920938463463374607431768211456:=by
    have:=sum_bound (M:=9223372036854775808) sh hs
    omega
  have hl0:0 < sh.length:=by
    cases sh with
    | nil=>simp at h0
    | cons=>simp
  have hA:t.natAbs≤9223372036854775808:=by unfold i64 at ht; omega
  have hlnS:Ln sh.sum:=lnS (by omega)
  have hlnA:Ln t.natAbs:=lnS (by omega)
  refine unR (l:=SRl) ?_
  refine does_pure sR (show SR.fn 12=some Tryz.f12 by kernel_rfl) rfl (by kernel_rfl) (Nat.le_of_ble_eq_true rfl) rfl rfl ?_
  refine W.seq (W.region ?_)
  refine WO.op rfl rfl ?_
  refine WO.op rfl rfl (WO.nil (W.seq (W.seq (W.region ?_))))
  refine WO.op rfl rfl ?_
  refine WO.op rfl rfl ?_
  refine WO.as (v':=.bool false) rfl rfl (bdF (by omega)) ?_
  iterate 3 refine WO.op rfl rfl ?_
  refine WO.as (v':=.bool false) rfl rfl (bdF (by omega)) ?_
  refine WO.op rfl rfl (WO.nil (W.cond (b:=false) rfl (fun h=>by cases h) (fun _=>W.skip ?_)))
  refine W.seq (W.region ?_)
  refine WO.op rfl rfl (WO.nil ?_)
  refine W.mid (H1:=[]) [(0,iA t),(1,.isl (ints sh) 0 sh.length none true),(6,rD sh.sum)] ?_ ?_
  · refine W.seq (W.region ?_)
    refine WO.op rfl rfl (WO.nil (W.block ?_))
    refine W.fits (F':=fr [(0,iA t),(1,.isl (ints sh) 0 sh.length none true),(6,.nils),(7,iA ((0:Nat):Int))]) (fits_fr ⟨rfl,rfl,rfl,rfl,trivial⟩) ?_
    refine W.loopI (α:=Nat×AVal) (fun x=>x.1≤sh.length∧IsN x.2 (sh.take x.1).sum) (fun x=>sh.length - x.1) (fun x=>fr [(0,iA t),(1,.isl (ints sh) 0 sh.length none true),(6,x.2),(7,iA (x.1:Int))]) (fun _=>[]) ?_ (0,.nils) ⟨Nat.zero_le _,.inr ⟨rfl,by simp⟩⟩
    rintro ⟨k,v⟩ ⟨hk,hv⟩
    simp only at hk hv ⊢
    change W _ _ _ _ (fr [(0,iA t),(1,.isl (ints sh) 0 sh.length none true),(6,v),(7,iA (k:Int))]) [] _
    refine W.seq (W.seq (W.region ?_))
    iterate 3 refine WO.op rfl rfl ?_
    by_cases hlt:k < sh.length
    · have hsk:=hs _ (getD_mem hlt)
      have hsum:=sum_takeD hlt
      have hsum1:=sum_take_le sh k
      have hx:(ints sh)[0 + ((k:Nat):Int).toNat * 1]?=some (iA (sh.getD k 0:Nat)):=by rw [idx0]; exact ints_at hlt
      generalize sh.getD k 0=s at *
      refine WO.as (v':=.bool true) rfl rfl (bdT (by omega)) (WO.nil (W.cond (b:=true) rfl (fun _=>W.skip ?_) (fun h=>by cases h)))
      refine W.seq (W.block (W.seq (W.seq (W.region ?_))))
      refine WO.op rfl rfl ?_
      refine WO.op rfl rfl ?_
      refine WO.op (G.idx_isl rfl rfl rL rfl rl (by omega) (by omega)) rfl ?_
      refine WO.op (G.load_ip rfl rl rfl hx) rfl ?_
      refine WO.as (v':=.bool false) rfl rfl (bdF (by omega)) (WO.nil (W.cond (b:=false) rfl (fun h=>by cases h) (fun _=>W.skip ?_)))
      refine W.region ?_
      iterate 3 refine WO.op rfl rfl ?_
      refine WO.op (G.idx_isl rfl rfl rL rfl rl (by omega) (by omega)) rfl ?_
      refine WO.op (G.load_ip rfl rl rfl hx) rfl ?_
      refine WO.as (v':=uA s) rfl rfl (int_u64 (by omega) rfl) ?_
      refine WO.call rfl (inR (ofU_has s (by omega) _)) rfl ?_
      refine WO.call rfl (inR (radd_is hv (.inl rfl) (lnS (by omega)) (lnS (by omega)) _)) rfl ?_
      refine WO.op rfl rfl (WO.nil (W.region ?_))
      refine WO.op rfl rfl ?_
      refine WO.as (v':=iA ((k + 1:Nat):Int)) rfl rfl (int_i64 (by omega) (by omega)) ?_
      exact WO.op rfl rfl (WO.nil ⟨(k + 1,_),⟨by simp only; omega,by simp only; rw [hsum]; exact .inl rfl⟩,by simp only; omega,fits_fr ⟨rfl,rfl,rfl,rfl,trivial⟩,rfl⟩)
    · have hke:k=sh.length:=by omega
      subst hke
      rw [List.take_length] at hv
      refine WO.as (v':=.bool false) rfl rfl (bdF (by omega)) (WO.nil (W.cond (b:=false) rfl (fun h=>by cases h) (fun _=>W.exit ?_)))
      refine ⟨rfl,⟨rfl,rfl,?_,trivial⟩,rfl⟩
      rcases hv with rfl | ⟨_,h⟩
      · rfl
      · omega
  have hSd:0 < (digs sh.sum).length:=len_digs_pos.2 h0
  refine W.seq (W.seq (W.region ?_))
  refine WO.op rfl rfl ?_
  refine WO.op (v:=iA (((digs sh.sum).length:Nat):Int)) (H1:=[]) (G.len_isl rfl rfl rfl tRN rfl) rfl ?_
  refine WO.as (v':=.bool false) rfl rfl (bdF (by omega)) (WO.nil (W.cond (b:=false) rfl (fun h=>by cases h) (fun _=>W.skip ?_)))
  have hI:rI t=.agg [.bool (decide (t < 0)),rD t.natAbs]:=rfl
  have hrof:=fun H=>rof_has t ht H
  rw [hI] at hrof
  refine W.seq (W.region ?_)
  refine WO.op rfl rfl ?_
  refine WO.call rfl (inR (hrof _)) rfl ?_
  refine WO.op rfl rfl ?_
  refine WO.op rfl rfl (WO.nil (W.seq (W.region ?_)))
  refine WO.op rfl rfl ?_
  refine WO.op rfl rfl ?_
  refine WO.op rfl rfl (WO.nil (W.seq (W.region ?_)))
  refine WO.op rfl rfl ?_
  refine WO.op rfl rfl (WO.nil ?_)
  generalize hAe:t.natAbs=A at *
  generalize htc:([AVal.bool (decide (t < 0)),rD A]:List AVal)=tc
  refine W.midE (α:=Heap×AVal×AVal) (fun x=>RSt A sh.sum sh tc sh.length x.1 x.2.1 x.2.2) (fun x=>[(8,.ptr 0 0),(9,rD (missN A sh)),(10,x.2.1),(11,x.2.2)]) (fun x=>x.1) ?_ ?_
  · refine W.seq (W.region ?_)
    refine WO.op rfl rfl (WO.nil (W.block ?_))
    refine W.heq (H':=[.cells tc 38]) (by rw [← htc]; rfl) ?_
    refine W.fits (F':=fr [(1,.isl (ints sh) 0 sh.length none true),(6,rD sh.sum),(8,.ptr 0 0),(9,rD (A - ((qsN A sh.sum sh).take 0).sum)),(10,.nils),(11,.nils),(12,iA ((0:Nat):Int))]) (fits_fr ⟨rfl,rfl,rfl,rfl,rfl,rfl,rfl,trivial⟩) ?_
    refine W.loopI (α:=Nat×Heap×AVal×AVal) (fun x=>RSt A sh.sum sh tc x.1 x.2.1 x.2.2.1 x.2.2.2) (fun x=>sh.length - x.1)
      (fun x=>fr [(1,.isl (ints sh) 0 sh.length none true),(6,rD sh.sum),(8,.ptr 0 0),(9,rD (A - ((qsN A sh.sum sh).take x.1).sum)),(10,x.2.2.1),(11,x.2.2.2),(12,iA (x.1:Int))]) (fun x=>x.2.1) ?_
      (0,[.cells tc 38],.nils,.nils) ⟨Nat.zero_le _,.inl ⟨rfl,rfl⟩,.inl ⟨rfl,rfl⟩,rfl,(fun h=>by cases h),(fun h=>by cases h),(fun _ h=>by cases h)⟩
    rintro ⟨k,Y,vq,vr⟩ hst
    simp only at hst ⊢
    change W _ _ _ _ (fr [(1,.isl (ints sh) 0 sh.length none true),(6,rD sh.sum),(8,.ptr 0 0),(9,rD (A - ((qsN A sh.sum sh).take k).sum)),(10,vq),(11,vr),(12,iA (k:Int))]) Y _
    refine W.seq (W.seq (W.region ?_))
    iterate 3 refine WO.op rfl rfl ?_
    by_cases hlt:k < sh.length
    · have hsk:=hs _ (getD_mem hlt)
      have hqs:=qs_sum_le (A:=A) h0
      have hqt:=sum_take_le (qsN A sh.sum sh) (k + 1)
      have hqd:=sum_takeD (l:=qsN A sh.sum sh) (k:=k) (by rw [qs_len]; exact hlt)
      rw [qs_getD hlt] at hqd
      have hx:(ints sh)[0 + ((k:Nat):Int).toNat * 1]?=some (iA (sh.getD k 0:Nat)):=by rw [idx0]; exact ints_at hlt
      have hlnP:Ln (A * sh.getD k 0):=lnP hA hsk
      obtain ⟨G1,G2,vq',vr',a1,a2,hst'⟩:=hst.step hlt (by omega)
      have hc:=hst.c
      rw [← htc] at hc
      refine WO.as (v':=.bool true) rfl rfl (bdT (by omega)) (WO.nil (W.cond (b:=true) rfl (fun _=>W.skip ?_) (fun h=>by cases h)))
      refine W.seq (W.block (W.seq (W.draw0 rfl (by kernel_rfl) ?_)))
      refine WT.op rfl rfl rfl ?_
      refine WT.op (G.load_ptr rfl rn rfl hc rfl) rfl rfl ?_
      refine WT.op rfl rfl rfl ?_
      refine WT.op rfl rfl rfl ?_
      refine WT.op (G.idx_isl rfl rfl rL rfl rl (by omega) (by omega)) rfl rfl ?_
      refine WT.op (G.load_ip rfl rl rfl hx) rfl rfl ?_
      refine WT.as (v':=uA (sh.getD k 0)) rfl rfl rfl (int_u64 (by omega) rfl) ?_
      refine WT.op (ofuR (by omega) _) rfl rfl ?_
      refine WT.op (mulR hlnA (lnS (by omega)) _) rfl rfl ?_
      refine WT.op rfl rfl rfl ?_
      refine WT.op (divR hlnP hlnS h0 _) rfl rfl ?_
      iterate 4 refine WT.op rfl rfl rfl ?_
      refine WT.op rfl rfl rfl (WT.nil (W.seq (W.region ?_)))
      have hmi:A - ((qsN A sh.sum sh).take k).sum - A * sh.getD k 0 / sh.sum=A - ((qsN A sh.sum sh).take (k + 1)).sum:=by omega
      refine WO.op rfl rfl ?_
      refine WO.op rfl rfl ?_
      refine WO.op (v:=.sl Y.length 0 1 (some 1) 1) (H1:=Y ++ [.cells [rD (A * sh.getD k 0 / sh.sum)] 36]) rfl rfl ?_
      refine WO.op (a1 (cap2:=some 1) rfl rfl rfl rN rfl rn rfl (by decide)) rfl ?_
      refine WO.op rfl rfl ?_
      refine WO.op rfl rfl ?_
      refine WO.op (v:=.sl G1.length 0 1 (some 1) 1) (H1:=G1 ++ [.cells [rD (A * sh.getD k 0 % sh.sum)] 36]) rfl rfl ?_
      refine WO.op (a2 (cap2:=some 1) rfl rfl rfl rN rfl rn rfl (by decide)) rfl ?_
      refine WO.op rfl rfl ?_
      refine WO.op rfl rfl (WO.nil (W.region ?_))
      refine WO.op rfl rfl ?_
      refine WO.op rfl rfl ?_
      refine WO.call rfl (inR (rsub_has (A - ((qsN A sh.sum sh).take k).sum) (A * sh.getD k 0 / sh.sum) (by omega) (by have:Ln (A - ((qsN A sh.sum sh).take k).sum):=lnS (by omega); unfold Ln at this; omega) _)) rfl ?_
      rw [hmi]
      refine WO.op rfl rfl (WO.nil (W.region ?_))
      refine WO.op rfl rfl ?_
      refine WO.as (v':=iA ((k + 1:Nat):Int)) rfl rfl (int_i64 (by omega) (by omega)) ?_
      exact WO.op rfl rfl (WO.nil ⟨(k + 1,G2,vq',vr'),hst',by simp only; omega,fits_fr ⟨rfl,rfl,rfl,rfl,rfl,rfl,rfl,trivial⟩,rfl⟩)
    · have hke:k=sh.length:=by have:=hst.hk; omega
      subst hke
      refine WO.as (v':=.bool false) rfl rfl (bdF (by omega)) (WO.nil (W.cond (b:=false) rfl (fun h=>by cases h) (fun _=>W.exit ?_)))
      refine ⟨rfl,(Y,vq,vr),hst,⟨rfl,?_,rfl,rfl,trivial⟩,rfl⟩
      show rD (A - ((qsN A sh.sum sh).take sh.length).sum)=_
      rw [List.take_of_length_le (by rw [qs_len]; exact Nat.le_refl _)]
      rfl
  rintro ⟨Y,vq,vr⟩ hst
  simp only at hst ⊢
  have hqn:rds ((qsN A sh.sum sh).take sh.length)≠[]:=fun e=>by have:=congrArg List.length e; rw [rds_len,List.length_take,qs_len] at this; rw [List.length_nil] at this; omega
  have hrn:rds ((rsN A sh.sum sh).take sh.length)≠[]:=fun e=>by have:=congrArg List.length e; rw [rds_len,List.length_take,rs_len] at this; rw [List.length_nil] at this; omega
  obtain ⟨a,rfl,ea,ha⟩:=hst.q.cons hqn
  obtain ⟨b,rfl,eb,hb⟩:=hst.r.cons hrn
  have hc:=hst.c
  have ha0:a≠0:=fun e=>hst.q0 (by rw [ea,e])
  have hb0:b≠0:=fun e=>hst.r0 (by rw [eb,e])
  have hab:a≠b:=fun e=>hst.qr a ea (by rw [eb,e])
  rw [List.take_of_length_le (by rw [qs_len]; exact Nat.le_refl _)] at ha
  rw [List.take_of_length_le (by rw [rs_len]; exact Nat.le_refl _)] at hb
  rw [List.take_of_length_le (l:=qsN A sh.sum sh) (by rw [qs_len]; exact Nat.le_refl _),List.take_of_length_le (l:=rsN A sh.sum sh) (by rw [rs_len]; exact Nat.le_refl _)]
  rw [rds_len,rds_len,qs_len,rs_len]
  have hYa:a < Y.length:=(List.getElem?_eq_some_iff.1 ha).1
  have hYb:b < Y.length:=(List.getElem?_eq_some_iff.1 hb).1
  have hpa:∀ q rc,(pH Y a b q rc)[a]?=some (.cells (rds q) 36):=fun q rc=>by rw [List.getElem?_set_ne (Ne.symm hab),List.getElem?_set_self hYa]
  have hpb:∀ q rc,(pH Y a b q rc)[b]?=some (.cells rc 36):=fun q rc=>List.getElem?_set_self (by rw [List.length_set]; exact hYb)
  have hp0:∀ q rc,(pH Y a b q rc)[0]?=some (.cells tc 38):=fun q rc=>by rw [List.getElem?_set_ne hb0,List.getElem?_set_ne ha0]; exact hc
  have hsa:∀ q rc q',(pH Y a b q rc).set a (.cells (rds q') 36)=pH Y a b q' rc:=fun q rc q'=>by
    unfold pH
    rw [List.set_comm _ _ hab.symm,List.set_set]
  have hsb:∀ q rc rc',(pH Y a b q rc).set b (.cells rc' 36)=pH Y a b q rc':=fun q rc rc'=>List.set_set _
  have hmiss:=miss_lt (A:=A) h0
  have hmA:missN A sh≤A:=by unfold missN; omega
  have hqle:∀ x∈qsN A sh.sum sh,x≤A:=fun x hx=>by
    have:=mem_le_sum hx
    have:=qs_sum_le (A:=A) h0
    omega
  have hPI:PI A sh.sum sh.length (missN A sh) (pickN (missN A sh) (qsN A sh.sum sh,rsN A sh.sum sh)) (missN A sh,qsN A sh.sum sh,rds (rsN A sh.sum sh),rsN A sh.sum sh) :=
    ⟨Nat.le_refl _,qs_len _ _ _,by simp only; rw [rds_len,rs_len],rs_len _ _ _,fun x hx=>by have:=hqle x hx; simp only; omega,fun x hx=>by
      obtain ⟨s,_,rfl⟩:=List.mem_map.1 hx
      exact Nat.le_of_lt (Nat.mod_lt _ h0),fun i hi=>⟨_,rds_at (by rw [rs_len]; exact hi),.inl rfl⟩,rfl⟩
  clear hst hqn hrn ea eb
  have hPl:(pickN (missN A sh) (qsN A sh.sum sh,rsN A sh.sum sh)).1.length=sh.length:=by rw [pickN_len]; exact qs_len _ _ _
  refine W.heq (H':=pH Y a b (qsN A sh.sum sh) (rds (rsN A sh.sum sh))) (by unfold pH; rw [set_same ha,set_same hb]) ?_
  clear ha hb hc
  generalize pickN (missN A sh) (qsN A sh.sum sh,rsN A sh.sum sh)=FIN at *
  generalize missN A sh=M at *
  generalize qsN A sh.sum sh=Q at *
  generalize rsN A sh.sum sh=R at *
  generalize rds R=RC at *
  generalize hn:sh.length=n at *
  generalize sh.sum=S at *
  refine W.midE (α:=List Nat×List AVal) (fun x=>x.1=FIN.1∧∀ y∈x.1,Ln y) (fun x=>[(8,.ptr 0 0),(10,.sl a 0 n none 1)]) (fun x=>pH Y a b x.1 x.2) ?_ ?_
  · refine W.block ?_
    refine W.loopI (α:=Nat×List Nat×List AVal×List Nat) (PI A S n M FIN) (fun x=>x.1) (fun x=>fr (pF (iA t) a b n x.1)) (fun x=>pH Y a b x.2.1 x.2.2.1) ?_ (M,Q,RC,R) hPI
    rintro ⟨m,q,rc,r⟩ hI
    have hm:=hI.m
    have hql:=hI.ql
    have hcl:=hI.cl
    have hrl:=hI.rl
    have hrc:=hI.c
    have hqb:=hI.qb
    have hrb:=hI.rb
    simp only at hm hql hcl hrl hrc hqb hrb ⊢
    change W _ _ _ _ (fr (pF (iA t) a b n m)) (pH Y a b q rc) _
    refine W.seq (W.seq (W.region ?_))
    refine WO.op rfl rfl ?_
    refine WO.op (v:=iA (((digs m).length:Nat):Int)) (H1:=pH Y a b q rc) (G.len_isl rfl rfl rfl tRN rfl) rfl ?_
    cases m with
    | zero =>
      have hf:=hI.fin
      simp only [pickN] at hf
      refine WO.as (v':=.bool false) rfl rfl (bdF (by rw [digs_zero]; simp)) (WO.nil (W.cond (b:=false) rfl (fun h=>by cases h) (fun _=>W.exit ?_)))
      exact ⟨rfl,(q,rc),⟨by rw [← hf],fun y hy=>lnS (by have:=hqb y hy; omega)⟩,⟨rfl,rfl,trivial⟩,rfl⟩
    | succ m =>
      have hnx:=hI.step hl0
      have hdp:0 < (digs (m + 1)).length:=len_digs_pos.2 (by omega)
      have hlr:∀ i,i < n→Ln (r.getD i 0):=fun i hi=>lnS (by have:=hrb _ (getD_mem (l:=r) (j:=i) (by omega)); omega)
      refine WO.as (v':=.bool true) rfl rfl (bdT (by omega)) (WO.nil (W.cond (b:=true) rfl (fun _=>W.skip ?_) (fun h=>by cases h)))
      refine W.seq (W.block (W.seq (W.region ?_)))
      refine WO.op rfl rfl (WO.nil ?_)
      refine W.mid (H1:=pH Y a b q rc) [(8,.ptr 0 0),(9,rD (m + 1)),(10,.sl a 0 n none 1),(11,.sl b 0 n none 1),(15,iA ((bestF r n:Nat):Int))] ?_ ?_
      · refine W.seq (W.region ?_)
        refine WO.op rfl rfl (WO.nil (W.block ?_))
        refine W.fits (F':=fr [(8,.ptr 0 0),(9,rD (m + 1)),(10,.sl a 0 n none 1),(11,.sl b 0 n none 1),(15,iA ((bestF r 1:Nat):Int)),(16,iA ((1:Nat):Int))]) (fits_fr ⟨rfl,rfl,rfl,rfl,rfl,rfl,trivial⟩) ?_
        refine W.loopI (fun i:Nat=>1≤i∧i≤n) (fun i=>n - i) (fun i=>fr [(8,.ptr 0 0),(9,rD (m + 1)),(10,.sl a 0 n none 1),(11,.sl b 0 n none 1),(15,iA ((bestF r i:Nat):Int)),(16,iA (i:Int))]) (fun _=>pH Y a b q rc) ?_ 1 ⟨Nat.le_refl _,hl0⟩
        rintro i ⟨hi1,hin⟩
        refine W.seq (W.seq (W.region ?_))
        iterate 3 refine WO.op rfl rfl ?_
        by_cases hlt:i < n
        · have hbl:=bestF_lt r i (by omega)
          obtain ⟨v,hv,hvN⟩:=hrc i hlt
          obtain ⟨u,hu,huN⟩:=hrc (bestF r i) (by omega)
          have hl1:=hlr i hlt
          have hl2:=hlr (bestF r i) (by omega)
          have hv':rc[0 + ((i:Nat):Int).toNat * 1]?=some v:=by rw [idx0]; exact hv
          have hu':rc[0 + ((bestF r i:Nat):Int).toNat * 1]?=some u:=by rw [idx0]; exact hu
          have hnb:bestF r (i + 1)=if r.getD (bestF r i) 0 < r.getD i 0 then i else bestF r i:=by
            obtain ⟨j,rfl⟩:∃ j,i=j + 1:=⟨i - 1,by omega⟩
            rfl
          generalize hbi:bestF r i=bi at *
          refine WO.as (v':=.bool true) rfl rfl (bdT (by omega)) (WO.nil (W.cond (b:=true) rfl (fun _=>W.skip ?_) (fun h=>by cases h)))
          refine W.seq (W.block (W.seq (W.draw0 rfl (by kernel_rfl) ?_)))
          refine WT.op rfl rfl rfl ?_
          refine WT.op rfl rfl rfl ?_
          refine WT.op (G.idx_sl rfl rfl rN rfl rn rfl (by omega) (by omega)) rfl rfl ?_
          refine WT.op (G.load_ptr rfl rn rfl (hpb _ _) hv') rfl rfl ?_
          refine WT.op rfl rfl rfl ?_
          refine WT.op rfl rfl rfl ?_
          refine WT.op (G.idx_sl rfl rfl rN rfl rn rfl (by omega) (by omega)) rfl rfl ?_
          refine WT.op (G.load_ptr rfl rn rfl (hpb _ _) hu') rfl rfl ?_
          refine WT.op (cmpR hvN huN hl1 hl2 _) rfl rfl ?_
          by_cases hg:r.getD bi 0 < r.getD i 0
          · rw [if_pos hg] at hnb
            refine WT.as (v':=.bool true) rfl rfl rfl (bdT (cmpZ_pos.2 hg)) (WT.nil (W.cond (b:=true) rfl (fun _=>?_) (fun h=>by cases h)))
            refine W.region ?_
            refine WO.op rfl rfl ?_
            refine WO.op rfl rfl (WO.nil (W.region ?_))
            refine WO.op rfl rfl ?_
            refine WO.as (v':=iA ((i + 1:Nat):Int)) rfl rfl (int_i64 (by omega) (by omega)) ?_
            exact WO.op rfl rfl (WO.nil ⟨i + 1,⟨by omega,by omega⟩,by omega,fits_fr ⟨rfl,rfl,rfl,rfl,by rw [hnb]; rfl,rfl,trivial⟩,rfl⟩)
          · rw [if_neg hg] at hnb
            refine WT.as (v':=.bool false) rfl rfl rfl (bdF (fun h=>hg (cmpZ_pos.1 h))) (WT.nil (W.cond (b:=false) rfl (fun h=>by cases h) (fun _=>W.skip ?_)))
            refine W.region ?_
            refine WO.op rfl rfl ?_
            refine WO.as (v':=iA ((i + 1:Nat):Int)) rfl rfl (int_i64 (by omega) (by omega)) ?_
            exact WO.op rfl rfl (WO.nil ⟨i + 1,⟨by omega,by omega⟩,by omega,fits_fr ⟨rfl,rfl,rfl,rfl,by rw [hnb]; rfl,rfl,trivial⟩,rfl⟩)
        · have hie:i=n:=by omega
          subst hie
          refine WO.as (v':=.bool false) rfl rfl (bdF (by omega)) (WO.nil (W.cond (b:=false) rfl (fun h=>by cases h) (fun _=>W.exit ?_)))
          exact ⟨rfl,⟨rfl,rfl,rfl,rfl,rfl,trivial⟩,rfl⟩
      have hbn:=bestF_lt r n hl0
      have hqx:(rds q)[0 + ((bestF r n:Nat):Int).toNat * 1]?=some (rD (q.getD (bestF r n) 0)):=by rw [idx0]; exact rds_at (by omega)
      have hqB:=hqb _ (getD_mem (l:=q) (j:=bestF r n) (by omega))
      generalize bestF r n=bi at *
      generalize hqv:q.getD bi 0=qv at *
      refine W.draw0 rfl (by kernel_rfl) ?_
      iterate 6 refine WT.op rfl rfl rfl ?_
      refine WT.op (G.idx_sl rfl rfl rN rfl rn rfl (by omega) (by omega)) rfl rfl ?_
      refine WT.op (G.load_ptr rfl rn rfl (hpa _ _) hqx) rfl rfl ?_
      refine WT.op (ofuR (x:=1) (by decide) _) rfl rfl ?_
      refine WT.op (addR (n:=1) (lnS (by omega)) (lnS (by decide)) _) rfl rfl ?_
      refine WT.op (G.idx_sl rfl rfl rN rfl rn rfl (by omega) (by omega)) rfl rfl ?_
      refine WT.op (G.store_ptr (v:=rD (qv + 1)) rfl rfl rfl rn rfl (hpa _ _) (by rw [idx0,rds_len]; omega)) rfl rfl ?_
      rw [idx0,rds_set,hsa]
      refine WT.op (G.idx_sl rfl rfl rN rfl rn rfl (by omega) (by omega)) rfl rfl ?_
      refine WT.op (G.store_ptr (v:=.nils) rfl rfl rfl rn rfl (hpb _ _) (by rw [idx0]; omega)) rfl rfl (WT.nil (W.region ?_))
      rw [idx0,hsb]
      refine WO.op rfl rfl ?_
      refine WO.call rfl (inR (ofU_has 1 (by decide) _)) rfl ?_
      refine WO.call rfl (inR (rsub_has (m + 1) 1 (by omega) (by have:Ln (m + 1):=lnS (by omega); unfold Ln at this; omega) _)) rfl ?_
      rw [Nat.add_sub_cancel]
      exact WO.op rfl rfl (WO.nil ⟨(m,_,_,_),hnx,by simp only; omega,fits_fr ⟨rfl,rfl,rfl,rfl,trivial⟩,rfl⟩)
  rintro ⟨q,rc⟩ ⟨hqe,hFb⟩
  simp only at hqe hFb ⊢
  subst hqe
  have hFa:=hpa FIN.1 rc
  have hF0:=hp0 FIN.1 rc
  generalize pH Y a b FIN.1 rc=Z at *
  generalize FIN.1=PR at *
  clear hpa hpb hp0 hsa hsb hPI
  refine W.seq (W.region ?_)
  refine WO.op rfl rfl (WO.nil (W.seq (W.seq (W.region ?_))))
  refine WO.op rfl rfl (WO.nil (W.block ?_))
  refine W.fits (F':=fr [(8,.ptr 0 0),(10,.sl a 0 n none 1),(17,.nils),(18,iA ((0:Nat):Int))]) (fits_fr ⟨rfl,rfl,rfl,rfl,trivial⟩) ?_
  refine W.loopI (α:=Nat×Heap×AVal) (fun x=>x.1≤n∧RowK x.2.1 x.2.2 (outsA t (PR.take x.1)) 2∧x.2.1[a]?=some (.cells (rds PR) 36)∧x.2.1[0]?=some (.cells tc 38)∧idK x.2.2≠some a∧idK x.2.2≠some 0) (fun x=>n - x.1)
    (fun x=>fr [(8,.ptr 0 0),(10,.sl a 0 n none 1),(17,x.2.2),(18,iA (x.1:Int))]) (fun x=>x.2.1) ?_ (0,Z,.nils) ⟨Nat.zero_le _,.inl ⟨rfl,rfl⟩,hFa,hF0,(fun h=>by cases h),(fun h=>by cases h)⟩
  rintro ⟨k,X,vo⟩ ⟨hk,hr,hXa,hX0,hne,hne0⟩
  simp only at hk hr hXa hX0 hne hne0 ⊢
  change W _ _ _ _ (fr [(8,.ptr 0 0),(10,.sl a 0 n none 1),(17,vo),(18,iA (k:Int))]) X _
  refine W.seq (W.seq (W.region ?_))
  iterate 3 refine WO.op rfl rfl ?_
  by_cases hlt:k < n
  · have hx:(rds PR)[0 + ((k:Nat):Int).toNat * 1]?=some (rD (PR.getD k 0)):=by rw [idx0]; exact rds_at (by omega)
    have hlp:=hFb _ (getD_mem (l:=PR) (j:=k) (by omega))
    have hot:=outs_take t (l:=PR) (k:=k) (by omega)
    have hse:=smallI_eq (sgn (decide (t < 0)) (PR.getD k 0))
    have hsz:sz (decide (t < 0)) (PR.getD k 0)=sgn (decide (t < 0)) (PR.getD k 0):=rfl
    have hsa:(sgn (decide (t < 0)) (PR.getD k 0)).natAbs=PR.getD k 0:=sz_abs _ _
    have hXal:a < X.length:=(List.getElem?_eq_some_iff.1 hXa).1
    have hX0l:0 < X.length:=(List.getElem?_eq_some_iff.1 hX0).1
    rw [hsz] at hot
    obtain ⟨X',hden,hXl',hr',hkeep⟩:=RowK.grow hr 2 (iA (smI (sgn (decide (t < 0)) (PR.getD k 0)))) rfl (by rw [outs_len,List.length_take]; omega)
    rw [hot] at hr' hden
    rw [← htc] at hX0
    refine WO.as (v':=.bool true) rfl rfl (bdT (by omega)) (WO.nil (W.cond (b:=true) rfl (fun _=>W.skip ?_) (fun h=>by cases h)))
    refine W.seq (W.block (W.seq (W.draw0 rfl (by kernel_rfl) ?_)))
    refine WT.op rfl rfl rfl ?_
    refine WT.op (G.load_ptr (v:=.bool (decide (t < 0))) rfl (show SR.ty 4=some ti4 from rfl) rfl hX0 rfl) rfl rfl ?_
    refine WT.op rfl rfl rfl ?_
    refine WT.op rfl rfl rfl ?_
    refine WT.op (G.idx_sl rfl rfl rN rfl rn rfl (by omega) (by omega)) rfl rfl ?_
    refine WT.op (G.load_ptr rfl rn rfl hXa hx) rfl rfl ?_
    refine WT.op (intR hlp _) rfl rfl ?_
    refine WT.op (smlR (by rw [hsa]; exact hlp) _) rfl rfl ?_
    rw [hse]
    iterate 4 refine WT.op rfl rfl rfl ?_
    refine WT.op rfl rfl rfl (WT.nil (W.region ?_))
    refine WO.op rfl rfl ?_
    refine WO.op rfl rfl ?_
    refine WO.op (v:=.sl X.length 0 1 (some 1) 1) (H1:=X ++ [.cells [iA (smI (sgn (decide (t < 0)) (PR.getD k 0)))] 2]) rfl rfl ?_
    refine WO.op (hden (cap2:=some 1) rfl rfl rfl rL rfl rl rfl (by decide)) rfl ?_
    refine WO.op rfl rfl (WO.nil (W.region ?_))
    refine WO.op rfl rfl ?_
    refine WO.as (v':=iA ((k + 1:Nat):Int)) rfl rfl (int_i64 (by omega) (by omega)) ?_
    refine WO.op rfl rfl (WO.nil ⟨(k + 1,X',.sl (X.length + 1) 0 (outsA t (PR.take (k + 1))).length none 1),⟨by simp only; omega,hr',(hkeep a hXal hne).trans hXa,(hkeep 0 hX0l hne0).trans (by rw [← htc]; exact hX0),?_,?_⟩,by simp only; omega,fits_fr ⟨rfl,rfl,rfl,rfl,trivial⟩,rfl⟩)
    · intro e; injection e with e; omega
    · intro e; injection e with e; omega
  · have hke:k=n:=by omega
    subst hke
    refine WO.as (v':=.bool false) rfl rfl (bdF (by omega)) (WO.nil (W.cond (b:=false) rfl (fun h=>by cases h) (fun _=>W.exit ?_)))
    rw [List.take_of_length_le (by omega)] at hr
    obtain ⟨id,rfl,_,hid⟩:=hr.cons (fun e=>by have:=congrArg List.length e; rw [outs_len,List.length_nil] at this; omega)
    refine W.seq (W.region ?_)
    refine WO.op rfl rfl ?_
    refine WO.op rfl rfl ?_
    refine WO.op rfl rfl (WO.nil (W.ret ⟨trivial,.tup [.sl id 0 (outsA t PR).length none 1,iA 0],rfl,?_⟩))
    refine seals_tup2 ?_ (Seals.same _ rfl)
    rw [outs_len,hPl]
    refine Seals.sl id 0 k none 1 _ _ _ hid (by rw [outs_len]; omega) (by rw [outs_len]; omega) (fun j x y hx hy=>?_) (outs_closed _ _)
    rw [Nat.zero_add,hy] at hx
    cases hx
    exact Seals.same _ (closed1_ (outs_closed _ _ _ (List.mem_of_getElem? hy)))
end
end Go.AM.C.RP
namespace Go.AM.C.RP
open Go.Proofs Go.AM.C.BK
noncomputable section
def sumZ (l:List Int) (k:Nat):Nat:=((l.take k).map Int.natAbs).sum
theorem sumZ_next {l:List Int} {k:Nat} (h:k < l.length):sumZ l (k + 1)=sumZ l k + (l.getD k 0).natAbs:=by
  unfold sumZ
  rw [List.take_add_one,List.getD_eq_getElem?_getD,List.getElem?_eq_getElem h,List.map_append,List.sum_append]
  simp
theorem sumZ_le {l:List Int} (hi:∀ z∈l,i64 z):∀ k,sumZ l k≤k * 9223372036854775808
  | 0=>by simp [sumZ]
  | k + 1=>by
    have ih:=sumZ_le hi k
    by_cases h:k < l.length
    · rw [sumZ_next h]
      have h1:=hi (l.getD k 0) (by rw [List.getD_eq_getElem?_getD,List.getElem?_eq_getElem h]; exact List.getElem_mem h)
      unfold i64 at h1
      omega
    · have:sumZ l (k + 1)=sumZ l k:=by unfold sumZ; rw [List.take_of_length_le (by omega),List.take_of_length_le (by omega)]
      omega
set_option maxRecDepth 100000 in
theorem rparts_bad (t:Int) (l:List Int) (hi:∀ z∈l,i64 z) (hn:l.length < 1048576) (hbad:l.length=0∨20 < l.length∨l.any isNeg=true) (H:Heap) :
    Has 12 [iA t,.isl (zA l) 0 l.length none true] H (.tup [.nils,iA 2]) H:=by
  refine unR (l:=SRl) ?_
  refine does_pure sR (show SR.fn 12=some Tryz.f12 by kernel_rfl) rfl (by kernel_rfl) (Nat.le_of_ble_eq_true rfl) rfl rfl ?_
  refine W.seq (W.region ?_)
  refine WO.op rfl rfl ?_
  refine WO.op rfl rfl (WO.nil ?_)
  refine W.seq ?_
  refine W.mid (H1:=[]) [(0,iA t),(1,.isl (zA l) 0 l.length none true),(28,.bool (decide (l.length=0∨20 < l.length)))] ?_ ?_
  · refine W.region ?_
    refine WO.op rfl rfl ?_
    refine WO.op rfl rfl ?_
    by_cases h0:l.length=0
    · refine WO.as (v':=.bool true) rfl rfl (bdT (by omega)) ?_
      refine WO.op rfl rfl ?_
      iterate 3 refine WO.skip rfl ?_
      exact WO.op rfl rfl (WO.nil ⟨rfl,⟨rfl,rfl,(bdT (.inl h0)).symm,trivial⟩,rfl⟩)
    · refine WO.as (v':=.bool false) rfl rfl (bdF (by omega)) ?_
      iterate 4 refine WO.op rfl rfl ?_
      exact WO.op rfl rfl (WO.nil ⟨rfl,⟨rfl,rfl,bdE (by omega),trivial⟩,rfl⟩)
  by_cases hlen:l.length=0∨20 < l.length
  · refine W.cond (b:=true) (bdT hlen) (fun _=>?_) (fun h=>by cases h)
    refine W.seq (W.region ?_)
    refine WO.op rfl rfl ?_
    exact WO.op rfl rfl (WO.nil (W.ret ⟨trivial,_,rfl,Seals.same _ rfl⟩))
  have hneg:l.any isNeg=true:=by
    rcases hbad with h | h | h
    · exact absurd (.inl h) hlen
    · exact absurd (.inr h) hlen
    · exact h
  refine W.cond (b:=false) (bdF hlen) (fun h=>by cases h) (fun _=>W.skip ?_)
  refine W.seq (W.region ?_)
  refine WO.op rfl rfl (WO.nil ?_)
  refine W.seq (W.seq (W.region ?_))
  refine WO.op rfl rfl (WO.nil (W.block ?_))
  refine W.fits (F':=fr [(0,iA t),(1,.isl (zA l) 0 l.length none true),(6,.nils),(7,iA ((0:Nat):Int))]) (fits_fr ⟨rfl,rfl,rfl,rfl,trivial⟩) ?_
  refine W.loopI (α:=Nat×AVal) (fun x=>x.1≤l.length∧IsN x.2 (sumZ l x.1)∧(l.drop x.1).any isNeg=true) (fun x=>l.length - x.1) (fun x=>fr [(0,iA t),(1,.isl (zA l) 0 l.length none true),(6,x.2),(7,iA (x.1:Int))]) (fun _=>[]) ?_ (0,.nils) ⟨Nat.zero_le _,.inr ⟨rfl,by simp [sumZ]⟩,by simpa using hneg⟩
  rintro ⟨k,v⟩ ⟨hk,hv,hany⟩
  simp only at hk hv hany ⊢
  change W _ _ _ _ (fr [(0,iA t),(1,.isl (zA l) 0 l.length none true),(6,v),(7,iA (k:Int))]) [] _
  refine W.seq (W.seq (W.region ?_))
  iterate 3 refine WO.op rfl rfl ?_
  have hlt:k < l.length:=by
    rcases Nat.lt_or_ge k l.length with h | h
    · exact h
    · rw [List.drop_eq_nil_of_le h] at hany
      exact absurd hany (by decide)
  have hx:(zA l)[0 + ((k:Nat):Int).toNat * 1]?=some (iA (l.getD k 0)):=by rw [idx0]; exact zA_at hlt
  have hz:i64 (l.getD k 0):=hi _ (by rw [List.getD_eq_getElem?_getD,List.getElem?_eq_getElem hlt]; exact List.getElem_mem hlt)
  have hsn:=sumZ_next hlt
  have hsl:=sumZ_le hi k
  rw [any_split hlt] at hany
  generalize l.getD k 0=z at *
  unfold i64 at hz
  refine WO.as (v':=.bool true) rfl rfl (bdT (by omega)) (WO.nil (W.cond (b:=true) rfl (fun _=>W.skip ?_) (fun h=>by cases h)))
  refine W.seq (W.block (W.seq (W.seq (W.region ?_))))
  refine WO.op rfl rfl ?_
  refine WO.op rfl rfl ?_
  refine WO.op (G.idx_isl rfl rfl rL rfl rl (by omega) (by omega)) rfl ?_
  refine WO.op (G.load_ip rfl rl rfl hx) rfl ?_
  by_cases hz0:z < 0
  · refine WO.as (v':=.bool true) rfl rfl (bdT (by omega)) (WO.nil (W.cond (b:=true) rfl (fun _=>?_) (fun h=>by cases h)))
    refine W.seq (W.region ?_)
    refine WO.op rfl rfl ?_
    exact WO.op rfl rfl (WO.nil (W.ret ⟨trivial,_,rfl,Seals.same _ rfl⟩))
  have hn0:isNeg z=false:=decide_eq_false hz0
  rw [hn0,Bool.false_or] at hany
  refine WO.as (v':=.bool false) rfl rfl (bdF (by omega)) (WO.nil (W.cond (b:=false) rfl (fun h=>by cases h) (fun _=>W.skip ?_)))
  refine W.region ?_
  iterate 3 refine WO.op rfl rfl ?_
  refine WO.op (G.idx_isl rfl rfl rL rfl rl (by omega) (by omega)) rfl ?_
  refine WO.op (G.load_ip rfl rl rfl hx) rfl ?_
  refine WO.as (v':=uA z.natAbs) rfl rfl (int_u64 (by omega) (by omega)) ?_
  refine WO.call rfl (inR (ofU_has z.natAbs (by omega) _)) rfl ?_
  refine WO.call rfl (inR (radd_is hv (.inl rfl) (lnS (by omega)) (lnS (by omega)) _)) rfl ?_
  refine WO.op rfl rfl (WO.nil (W.region ?_))
  refine WO.op rfl rfl ?_
  refine WO.as (v':=iA ((k + 1:Nat):Int)) rfl rfl (int_i64 (by omega) (by omega)) ?_
  exact WO.op rfl rfl (WO.nil ⟨(k + 1,_),⟨by simp only; omega,by simp only; rw [hsn]; exact .inl rfl,hany⟩,by simp only; omega,fits_fr ⟨rfl,rfl,rfl,rfl,trivial⟩,rfl⟩)
set_option maxRecDepth 100000 in
theorem rparts_nought (t:Int) (sh:List Nat) (hs:∀ s∈sh,s=0) (h20:sh.length≤20) (hl0:0 < sh.length) (H:Heap) :
    Has 12 [iA t,.isl (ints sh) 0 sh.length none true] H (.tup [.nils,iA 3]) H:=by
  have hz:∀ k,(sh.take k).sum=0:=fun k=>by
    rw [List.sum_eq_zero_iff_forall_eq_nat]
    intro x hx
    exact hs x (List.mem_of_mem_take hx)
  refine unR (l:=SRl) ?_
  refine does_pure sR (show SR.fn 12=some Tryz.f12 by kernel_rfl) rfl (by kernel_rfl) (Nat.le_of_ble_eq_true rfl) rfl rfl ?_
  refine W.seq (W.region ?_)
  refine WO.op rfl rfl ?_
  refine WO.op rfl rfl (WO.nil (W.seq (W.seq (W.region ?_))))
  refine WO.op rfl rfl ?_
  refine WO.op rfl rfl ?_
  refine WO.as (v':=.bool false) rfl rfl (bdF (by omega)) ?_
  iterate 3 refine WO.op rfl rfl ?_
  refine WO.as (v':=.bool false) rfl rfl (bdF (by omega)) ?_
  refine WO.op rfl rfl (WO.nil (W.cond (b:=false) rfl (fun h=>by cases h) (fun _=>W.skip ?_)))
  refine W.seq (W.region ?_)
  refine WO.op rfl rfl (WO.nil ?_)
  refine W.mid (H1:=[]) [(6,rD 0)] ?_ ?_
  · refine W.seq (W.region ?_)
    refine WO.op rfl rfl (WO.nil (W.block ?_))
    refine W.fits (F':=fr [(0,iA t),(1,.isl (ints sh) 0 sh.length none true),(6,.nils),(7,iA ((0:Nat):Int))]) (fits_fr ⟨rfl,rfl,rfl,rfl,trivial⟩) ?_
    refine W.loopI (α:=Nat×AVal) (fun x=>x.1≤sh.length∧IsN x.2 0∧(0 < x.1→x.2=rD 0)) (fun x=>sh.length - x.1) (fun x=>fr [(0,iA t),(1,.isl (ints sh) 0 sh.length none true),(6,x.2),(7,iA (x.1:Int))]) (fun _=>[]) ?_ (0,.nils) ⟨Nat.zero_le _,.inr ⟨rfl,rfl⟩,fun h=>by simp only at h; omega⟩
    rintro ⟨k,v⟩ ⟨hk,hv,hv0⟩
    simp only at hk hv hv0 ⊢
    change W _ _ _ _ (fr [(0,iA t),(1,.isl (ints sh) 0 sh.length none true),(6,v),(7,iA (k:Int))]) [] _
    refine W.seq (W.seq (W.region ?_))
    iterate 3 refine WO.op rfl rfl ?_
    by_cases hlt:k < sh.length
    · have hsk:=hs _ (getD_mem hlt)
      have hx:(ints sh)[0 + ((k:Nat):Int).toNat * 1]?=some (iA (sh.getD k 0:Nat)):=by rw [idx0]; exact ints_at hlt
      rw [hsk] at hx
      refine WO.as (v':=.bool true) rfl rfl (bdT (by omega)) (WO.nil (W.cond (b:=true) rfl (fun _=>W.skip ?_) (fun h=>by cases h)))
      refine W.seq (W.block (W.seq (W.seq (W.region ?_))))
      refine WO.op rfl rfl ?_
      refine WO.op rfl rfl ?_
      refine WO.op (G.idx_isl rfl rfl rL rfl rl (by omega) (by omega)) rfl ?_
      refine WO.op (G.load_ip rfl rl rfl hx) rfl ?_
      refine WO.as (v':=.bool false) rfl rfl rfl (WO.nil (W.cond (b:=false) rfl (fun h=>by cases h) (fun _=>W.skip ?_)))
      refine W.region ?_
      iterate 3 refine WO.op rfl rfl ?_
      refine WO.op (G.idx_isl rfl rfl rL rfl rl (by omega) (by omega)) rfl ?_
      refine WO.op (G.load_ip rfl rl rfl hx) rfl ?_
      refine WO.as (v':=uA 0) rfl rfl rfl ?_
      refine WO.call rfl (inR (ofU_has 0 (by decide) _)) rfl ?_
      refine WO.call rfl (inR (radd_is hv (.inl rfl) (lnS (by decide)) (lnS (by decide)) _)) rfl ?_
      refine WO.op rfl rfl (WO.nil (W.region ?_))
      refine WO.op rfl rfl ?_
      refine WO.as (v':=iA ((k + 1:Nat):Int)) rfl rfl (int_i64 (by omega) (by omega)) ?_
      exact WO.op rfl rfl (WO.nil ⟨(k + 1,_),⟨by simp only; omega,.inl rfl,fun _=>rfl⟩,by simp only; omega,fits_fr ⟨rfl,rfl,rfl,rfl,trivial⟩,rfl⟩)
    · have hke:k=sh.length:=by omega
      subst hke
      refine WO.as (v':=.bool false) rfl rfl (bdF (by omega)) (WO.nil (W.cond (b:=false) rfl (fun h=>by cases h) (fun _=>W.exit ?_)))
      exact ⟨rfl,⟨hv0 hl0,trivial⟩,rfl⟩
  refine W.seq (W.seq (W.region ?_))
  refine WO.op rfl rfl ?_
  refine WO.op (v:=iA (((digs 0).length:Nat):Int)) (H1:=[]) (G.len_isl rfl rfl rfl tRN rfl) rfl ?_
  refine WO.as (v':=.bool true) rfl rfl (bdT (by rw [digs_zero]; rfl)) (WO.nil (W.cond (b:=true) rfl (fun _=>?_) (fun h=>by cases h)))
  refine W.seq (W.region ?_)
  refine WO.op rfl rfl ?_
  exact WO.op rfl rfl (WO.nil (W.ret ⟨trivial,_,rfl,Seals.same _ rfl⟩))
end
end Go.AM.C.RP
namespace Go.AM.C.RP
open Go.Proofs Go.AM.C.BK
noncomputable section
def gk (f:Nat→Nat) (N i:Nat):Nat:=f i * N + (N - 1 - i)
theorem gk_lt {f:Nat→Nat} {N a b:Nat} (ha:a < N) (hb:b < N):gk f N a < gk f N b↔f a < f b∨f a=f b∧b < a:=by
  unfold gk
  rcases Nat.lt_trichotomy (f a) (f b) with h | h | h
  · have:(f a + 1) * N≤f b * N:=Nat.mul_le_mul_right _ h
    rw [Nat.add_mul,Nat.one_mul] at this
    omega
  · rw [h]; omega
  · have:(f b + 1) * N≤f a * N:=Nat.mul_le_mul_right _ h
    rw [Nat.add_mul,Nat.one_mul] at this
    omega
theorem sink_eq {lt lt':Nat→Nat→Bool}:∀ (j:Nat) (l:List Nat),j < l.length→(∀ p,p < j→lt (l.getD j 0) (l.getD p 0)=lt' (l.getD j 0) (l.getD p 0))→sink lt j l=sink lt' j l
  | 0,l,_,_=>rfl
  | j + 1,l,hj,h=>by
    unfold sink
    rw [h j (Nat.lt_succ_self j)]
    split
    · refine sink_eq j _ (by rw [swp_len]; omega) fun p hp=>?_
      rw [swp_getD hj,swp_getD hj,if_pos rfl,if_neg (by omega),if_neg (by omega)]
      exact h p (by omega)
    · rfl
theorem sink_hi (lt:Nat→Nat→Bool):∀ (j:Nat) (l:List Nat) (p:Nat),j < l.length→j < p→(sink lt j l).getD p 0=l.getD p 0
  | 0,l,p,_,_=>rfl
  | j + 1,l,p,hj,hp=>by
    unfold sink
    split
    · rw [sink_hi lt j _ p (by rw [swp_len]; omega) (by omega),swp_getD hj,if_neg (by omega),if_neg (by omega)]
    · rfl
theorem sink_lo (lt:Nat→Nat→Bool):∀ (j:Nat) (l:List Nat) (p:Nat),j < l.length→p≤j→∃ q,q≤j∧(sink lt j l).getD p 0=l.getD q 0
  | 0,l,p,_,hp=>⟨p,hp,rfl⟩
  | j + 1,l,p,hj,hp=>by
    unfold sink
    split
    · by_cases hpj:p≤j
      · obtain ⟨q,hq,he⟩:=sink_lo lt j (swp l j) p (by rw [swp_len]; omega) hpj
        rw [he,swp_getD hj]
        by_cases h1:q=j
        · exact ⟨j + 1,Nat.le_refl _,by rw [if_pos h1]⟩
        · exact ⟨q,by omega,by rw [if_neg h1,if_neg (by omega)]⟩
      · rw [sink_hi lt j _ p (by rw [swp_len]; omega) (by omega),swp_getD hj,if_neg (by omega),if_pos (by omega)]
        exact ⟨j,by omega,rfl⟩
    · exact ⟨p,hp,rfl⟩
theorem isort_hi (lt:Nat→Nat→Bool) (l:List Nat):∀ (i p:Nat),i < l.length→i < p→(isortK lt i l).getD p 0=l.getD p 0
  | 0,p,_,_=>rfl
  | i + 1,p,hi,hp=>by
    show (sink lt (i + 1) (isortK lt i l)).getD p 0=_
    rw [sink_hi lt _ _ p (by rw [isort_len]; exact hi) hp,isort_hi lt l i p (by omega) (by omega)]
theorem isort_lo (lt:Nat→Nat→Bool) (l:List Nat):∀ (i p:Nat),i < l.length→p≤i→∃ q,q≤i∧(isortK lt i l).getD p 0=l.getD q 0
  | 0,p,_,hp=>⟨p,hp,rfl⟩
  | i + 1,p,hi,hp=>by
    obtain ⟨q,hq,he⟩:=sink_lo lt (i + 1) (isortK lt i l) p (by rw [isort_len]; exact hi) hp
    show ∃ q,q≤i + 1∧(sink lt (i + 1) (isortK lt i l)).getD p 0=_
    rw [he]
    by_cases hqi:q≤i
    · obtain ⟨q',hq',he'⟩:=isort_lo lt l i q (by omega) hqi
      exact ⟨q',by omega,he'⟩
    · exact ⟨q,hq,isort_hi lt l i q (by omega) (by omega)⟩
theorem range_getD {n i:Nat} (h:i < n):(List.range n).getD i 0=i:=by
  rw [List.getD_eq_getElem?_getD,List.getElem?_range h]
  rfl
theorem isort_eq {lt lt':Nat→Nat→Bool} {n:Nat} (h:∀ a b,a < n→b < a→lt a b=lt' a b):∀ i,i < n→isortK lt i (List.range n)=isortK lt' i (List.range n)
  | 0,_=>rfl
  | i + 1,hi=>by
    show sink lt (i + 1) (isortK lt i (List.range n))=sink lt' (i + 1) (isortK lt' i (List.range n))
    rw [isort_eq h i (by omega)]
    refine sink_eq (i + 1) _ (by rw [isort_len,List.length_range]; exact hi) fun p hp=>?_
    rw [isort_hi lt' _ i (i + 1) (by rw [List.length_range]; omega) (by omega),range_getD hi]
    obtain ⟨q,hq,he⟩:=isort_lo lt' (List.range n) i p (by rw [List.length_range]; omega) (by omega)
    rw [he,range_getD (by omega)]
    exact h (i + 1) q hi (by omega)
theorem ord_srt {A:Nat} {sh:List Nat} (hl:0 < sh.length):SrtTo (gk (fun x=>(rsN A sh.sum sh).getD x 0) sh.length) (ordN A sh) (sh.length - 1):=by
  have e:ordN A sh=isortK (fun a b=>decide (gk (fun x=>(rsN A sh.sum sh).getD x 0) sh.length b < gk (fun x=>(rsN A sh.sum sh).getD x 0) sh.length a)) (sh.length - 1) (List.range sh.length):=by
    unfold ordN
    refine isort_eq (fun a b ha hb=>?_) _ (by omega)
    rw [Bool.eq_iff_iff,ltR_iff,decide_eq_true_eq,gk_lt (by omega) ha]
    omega
  rw [e]
  exact isort_srt _ _ (fun a b=>by rw [decide_eq_true_eq]) _ _ (by rw [List.length_range]; omega)
theorem best_spec (r:List Nat):∀ i,0 < i→(∀ j,j < i→r.getD j 0≤r.getD (bestF r i) 0)∧∀ j,j < bestF r i→r.getD j 0 < r.getD (bestF r i) 0
  | 1, _ => ⟨fun j hj => by have : j = 0 := by omega
                            subst this; exact Nat.le_refl _,fun j hj=>by unfold bestF at hj; omega⟩
  | i + 2,_=>by
    obtain ⟨h1,h2⟩:=best_spec r (i + 1) (by omega)
    unfold bestF
    split
    · rename_i hlt
      refine ⟨fun j hj=>?_,fun j hj=>?_⟩
      · by_cases he:j=i + 1
        · subst he; exact Nat.le_refl _
        · have:=h1 j (by omega); omega
      · have:=h1 j (by omega); omega
    · rename_i hlt
      refine ⟨fun j hj=>?_,h2⟩
      by_cases he:j=i + 1
      · subst he; omega
      · exact h1 j (by omega)
theorem best_uniq {r:List Nat} {i b:Nat} (hi:0 < i) (hb:b < i) (h1:∀ j,j < i→r.getD j 0≤r.getD b 0) (h2:∀ j,j < b→r.getD j 0 < r.getD b 0):bestF r i=b:=by
  obtain ⟨g1,g2⟩:=best_spec r i hi
  have hl:=bestF_lt r i hi
  rcases Nat.lt_trichotomy (bestF r i) b with h | h | h
  · have:=h2 _ h
    have:=g1 b hb
    omega
  · exact h
  · have:=g2 b h
    have:=h1 _ hl
    omega
def zeroN:List Nat→List Nat→List Nat
  | [],r=>r
  | i :: o,r=>zeroN o (r.set i 0)
theorem zeroN_len:∀ (o r:List Nat),(zeroN o r).length=r.length
  | [],r=>rfl
  | i :: o,r=>by rw [zeroN,zeroN_len o,List.length_set]
theorem zeroN_getD:∀ (o r:List Nat) (j:Nat),(∀ x∈o,x < r.length)→(zeroN o r).getD j 0=if j∈o then 0 else r.getD j 0
  | [],r,j,_=>by simp [zeroN]
  | i :: o,r,j,h=>by
    have hi:=h i List.mem_cons_self
    rw [zeroN,zeroN_getD o _ j (fun x hx=>by rw [List.length_set]; exact h x (List.mem_cons_of_mem _ hx)),getD_set hi]
    by_cases hj:j∈o
    · rw [if_pos hj,if_pos (List.mem_cons_of_mem _ hj)]
    · rw [if_neg hj]
      by_cases hji:j=i
      · rw [if_pos hji,if_pos (by rw [hji]; exact List.mem_cons_self)]
      · rw [if_neg hji,if_neg (by simp [hji,hj])]
theorem zeroN_snoc (i:Nat):∀ (o r:List Nat),zeroN (o ++ [i]) r=(zeroN o r).set i 0
  | [],r=>rfl
  | j :: o,r=>zeroN_snoc i o _
theorem pick_eq {O q0 rs:List Nat} {n M:Nat} (hO:O.Perm (List.range n)) (hr:rs.length=n) (hn:0 < n) (hsrt:SrtTo (gk (fun x=>rs.getD x 0) n) O (n - 1)) (hM:M≤n) (hpos:∀ i∈O.take M,0 < rs.getD i 0) :
    ∀ d k,k + d=M→pickN d (bumpN (O.take k) q0,zeroN (O.take k) rs)=(bumpN (O.take M) q0,zeroN (O.take M) rs)
  | 0,k,h=>by
    have:k=M:=by omega
    subst this
    rfl
  | d + 1,k,h=>by
    have hOl:O.length=n:=by rw [hO.length_eq,List.length_range]
    have hmem:∀ x∈O,x < n:=fun x hx=>List.mem_range.1 (hO.mem_iff.1 hx)
    have hnd:O.Nodup:=hO.nodup_iff.2 List.nodup_range
    have hkO:k < O.length:=by omega
    have hb:O.getD k 0 < n:=hmem _ (getD_mem hkO)
    have hzl:(zeroN (O.take k) rs).length=n:=by rw [zeroN_len]; exact hr
    have hzg:∀ j,(zeroN (O.take k) rs).getD j 0=if j∈O.take k then 0 else rs.getD j 0:=fun j=>zeroN_getD _ _ j fun x hx=>by rw [hr]; exact hmem x (List.mem_of_mem_take hx)
    have hbnot:O.getD k 0 ∉ O.take k:=fun hin=>by
      obtain ⟨p,hp,he⟩:=List.getElem_of_mem hin
      rw [List.length_take] at hp
      rw [List.getElem_take] at he
      have e2:O.getD k 0=O[k]:=by rw [List.getD_eq_getElem?_getD,List.getElem?_eq_getElem hkO]; rfl
      rw [e2] at he
      have hp2:p < O.length:=by omega
      exact List.pairwise_iff_getElem.1 hnd p k hp2 hkO (by omega) he
    have hbpos:0 < rs.getD (O.getD k 0) 0:=hpos _ (by
      have e1:O.getD k 0=O[k]:=by rw [List.getD_eq_getElem?_getD,List.getElem?_eq_getElem hkO]; rfl
      rw [e1]
      exact List.mem_take_iff_getElem.2 ⟨k,by omega,rfl⟩)
    have hplace:∀ j,j < n→j ∉ O.take k→∃ p,k≤p∧p < n∧O.getD p 0=j:=fun j hj hnot=>by
      have hin:j∈O:=hO.mem_iff.2 (List.mem_range.2 hj)
      obtain ⟨p,hp,he⟩:=List.getElem_of_mem hin
      refine ⟨p,?_,by omega,by rw [List.getD_eq_getElem?_getD,List.getElem?_eq_getElem hp,← he]; rfl⟩
      rcases Nat.lt_or_ge p k with hpk | hpk
      · exact absurd (List.mem_take_iff_getElem.2 ⟨p,by omega,he⟩) hnot
      · exact hpk
    have hbest:bestF (zeroN (O.take k) rs) n=O.getD k 0:=by
      refine best_uniq hn hb (fun j hj=>?_) (fun j hj=>?_)
      · rw [hzg,hzg,if_neg hbnot]
        by_cases hjt:j∈O.take k
        · rw [if_pos hjt]; omega
        · rw [if_neg hjt]
          obtain ⟨p,hp1,hp2,hp3⟩:=hplace j hj hjt
          by_cases hpk:p=k
          · rw [← hp3,hpk]; exact Nat.le_refl _
          · have hs:=hsrt k p (by omega) (by omega)
            rw [hp3] at hs
            rcases Nat.lt_or_ge (rs.getD (O.getD k 0) 0) (rs.getD j 0) with hc | hc
            · have:=(gk_lt (f:=fun x=>rs.getD x 0) hb hj).2 (.inl hc)
              omega
            · exact hc
      · rw [hzg,hzg,if_neg hbnot]
        by_cases hjt:j∈O.take k
        · rw [if_pos hjt]; omega
        · rw [if_neg hjt]
          obtain ⟨p,hp1,hp2,hp3⟩:=hplace j (by omega) hjt
          by_cases hpk:p=k
          · rw [hpk] at hp3; omega
          · have hs:=hsrt k p (by omega) (by omega)
            rw [hp3] at hs
            rcases Nat.lt_or_ge (rs.getD j 0) (rs.getD (O.getD k 0) 0) with hc | hc
            · exact hc
            · have:rs.getD (O.getD k 0) 0 < rs.getD j 0∨rs.getD (O.getD k 0) 0=rs.getD j 0∧j < O.getD k 0:=by omega
              have:=(gk_lt (f:=fun x=>rs.getD x 0) hb (show j < n by omega)).2 this
              omega
    have hot:O.take (k + 1)=O.take k ++ [O.getD k 0]:=takeD hkO
    rw [← pick_eq hO hr hn hsrt hM hpos d (k + 1) (by omega),hot,bump_snoc,zeroN_snoc]
    show pickN (d + 1) _=_
    rw [pickN,hzl,hbest]
theorem parts_same {A:Nat} {sh:List Nat} (h0:0 < sh.sum):(pickN (missN A sh) (qsN A sh.sum sh,rsN A sh.sum sh)).1=partsN A sh:=by
  have hl:0 < sh.length:=by
    cases sh with
    | nil=>simp at h0
    | cons=>simp
  have h:=pick_eq (O:=ordN A sh) (q0:=qsN A sh.sum sh) (rs:=rsN A sh.sum sh) (n:=sh.length) (M:=missN A sh) (isort_perm _ _ _ (by rw [List.length_range]; omega)) (rs_len _ _ _) hl (ord_srt hl) (Nat.le_of_lt (miss_lt h0)) (ord_pos h0) (missN A sh) 0 (by omega)
  rw [List.take_zero] at h
  change pickN (missN A sh) (qsN A sh.sum sh,rsN A sh.sum sh)=_ at h
  rw [h]
  rfl
end
end Go.AM.C.RP
namespace Go.AM.C.RP
open Go.Proofs Go.AM.C.BK
noncomputable section
theorem sum_set:∀ {l:List Nat} {i x:Nat},i < l.length→(l.set i x).sum + l.getD i 0=l.sum + x
  | a :: l,0,x,_=>by simp; omega
  | a :: l,i + 1,x,h=>by
    have:=sum_set (l:=l) (i:=i) (x:=x) (by simpa using h)
    simp only [List.set_cons_succ,List.sum_cons,List.getD_cons_succ]
    omega
theorem bump_sum:∀ (o l:List Nat),(∀ x∈o,x < l.length)→(bumpN o l).sum=l.sum + o.length
  | [],l,_=>rfl
  | i :: o,l,h=>by
    have hi:=h i List.mem_cons_self
    show (bumpN o (l.set i _)).sum=_
    rw [bump_sum o _ (fun x hx=>by rw [List.length_set]; exact h x (List.mem_cons_of_mem _ hx)),List.length_cons]
    have:=sum_set (x:=l.getD i 0 + 1) hi
    omega
theorem bump_in:∀ (o l:List Nat) (i:Nat),o.Nodup→i∈o→i < l.length→(bumpN o l).getD i 0=l.getD i 0 + 1
  | j :: o,l,i,hn,hi,hl=>by
    obtain ⟨h1,h2⟩:=List.nodup_cons.1 hn
    show (bumpN o (l.set j _)).getD i 0=_
    by_cases e:i=j
    · subst e
      rw [bump_out o _ i h1,getD_set hl,if_pos rfl]
    · have hm:i∈o:=by
        rcases List.mem_cons.1 hi with h | h
        · exact absurd h e
        · exact h
      rw [bump_in o _ i h2 hm (by rw [List.length_set]; exact hl)]
      simp only [List.getD_eq_getElem?_getD,List.getElem?_set_ne (Ne.symm e)]
theorem len_pos {sh:List Nat} (h0:0 < sh.sum):0 < sh.length:=by
  cases sh with
  | nil=>simp at h0
  | cons=>simp
theorem parts_len (A:Nat) (sh:List Nat):(partsN A sh).length=sh.length:=by unfold partsN; rw [bump_len,qs_len]
theorem parts_sum {A:Nat} {sh:List Nat} (h0:0 < sh.sum):(partsN A sh).sum=A:=by
  have h1:=miss_lt (A:=A) h0
  have h2:=qs_sum_le (A:=A) h0
  unfold partsN
  rw [bump_sum _ _ (fun x hx=>by rw [qs_len]; exact ord_lt A sh (len_pos h0) x (List.mem_of_mem_take hx)),List.length_take,ord_len,Nat.min_eq_left (Nat.le_of_lt h1)]
  unfold missN at *
  omega
theorem parts_near {A:Nat} {sh:List Nat} (h0:0 < sh.sum) {k:Nat} (hk:k < sh.length):A * sh.getD k 0 < sh.sum * (partsN A sh).getD k 0 + sh.sum∧sh.sum * (partsN A sh).getD k 0 < A * sh.getD k 0 + sh.sum:=by
  have hd:=Nat.div_add_mod (A * sh.getD k 0) sh.sum
  have hm:=Nat.mod_lt (A * sh.getD k 0) h0
  have hnd:((ordN A sh).take (missN A sh)).Nodup:=by
    refine List.Nodup.sublist (List.take_sublist _ _) ?_
    exact (isort_perm _ _ _ (by rw [List.length_range]; have:=len_pos h0; omega)).nodup_iff.2 List.nodup_range
  unfold partsN
  by_cases h:k∈(ordN A sh).take (missN A sh)
  · have hp:=ord_pos h0 k h
    rw [rs_getD hk] at hp
    rw [bump_in _ _ k hnd h (by rw [qs_len]; exact hk),qs_getD hk,Nat.mul_add,Nat.mul_one]
    omega
  · rw [bump_out _ _ k h,qs_getD hk]
    omega
theorem sgn_add (b:Bool) (m n:Nat):sgn b m + sgn b n=sgn b (m + n):=by
  cases b <;> unfold sgn <;> simp <;> omega
theorem sgn_self (z:Int):sgn (decide (z < 0)) z.natAbs=z:=by
  unfold sgn
  by_cases h:z < 0
  · rw [decide_eq_true h]; simp; omega
  · rw [decide_eq_false h]; simp; omega
theorem sgn_abs (b:Bool) (n:Nat):(sgn b n).natAbs=n:=by cases b <;> unfold sgn <;> simp
theorem sgn_mul (b:Bool) (m n:Nat):sgn b m * (n:Int)=sgn b (m * n):=by
  cases b <;> unfold sgn
  · show (m:Int) * n=((m * n:Nat):Int)
    rw [Int.natCast_mul]
  · show -(m:Int) * n=-((m * n:Nat):Int)
    rw [Int.natCast_mul,Int.neg_mul]
theorem near_sgn (b:Bool) {A S s z:Nat} (h1:A * s < S * z + S) (h2:S * z < A * s + S):((S:Int) * sgn b z + -(sgn b A * (s:Int))).natAbs < S:=by
  rw [sgn_mul,Int.mul_comm,sgn_mul,Nat.mul_comm z S]
  generalize A * s=x at *
  generalize S * z=y at *
  cases b <;> unfold sgn <;> simp <;> omega
def sgA (b:Bool) (l:List Nat):List AVal:=l.map fun (p:Nat)=>iA (sgn b p)
theorem sgA_at {b:Bool} {l:List Nat} {j:Nat} (h:j < l.length):(sgA b l)[j]?=some (iA (sgn b (l.getD j 0))):=by
  unfold sgA
  rw [List.getElem?_map,List.getD_eq_getElem?_getD,List.getElem?_eq_getElem h]
  rfl
theorem outs_sgA {t:Int} (ht:i64 t) {l:List Nat} (h:∀ p∈l,p≤t.natAbs):outsA t l=sgA (decide (t < 0)) l:=by
  unfold outsA sgA
  refine List.map_congr_left fun p hp=>?_
  have:=h p hp
  have hi:i64 (sz (decide (t < 0)) p):=by
    unfold i64 at *
    unfold sz
    by_cases h0:t < 0
    · rw [decide_eq_true h0]; simp; omega
    · rw [decide_eq_false h0]; simp; omega
  unfold smI
  rw [small64_of hi]
  rfl
theorem sgn_i64 {t:Int} (ht:i64 t) {p:Nat} (h:p≤t.natAbs):i64 (sgn (decide (t < 0)) p):=by
  unfold i64 at *
  unfold sgn
  by_cases h0:t < 0
  · rw [decide_eq_true h0]; simp; omega
  · rw [decide_eq_false h0]; simp; omega
abbrev Bd (n:Nat):Prop:=n < 1606938044258990275541962092341162602522202993782792835301376
theorem Bd.sm {n:Nat} (h:Bd n):Sm n:=sm_of (Nat.lt_trans h (by decide))
theorem Bd.ln {n:Nat} (h:Bd n):(digs n).length < 16777216:=lnS h
abbrev rofJ:Ent:=parE 15 i64 (fun x=>[iA x]) rI
abbrev rplusJ:Ent:=parE 14 (fun p:(AVal×Int)×(AVal×Int)=>IsI p.1.1 p.1.2∧IsI p.2.1 p.2.2∧Bd p.1.2.natAbs∧Bd p.2.2.natAbs∧Bd (p.1.2.natAbs + p.2.2.natAbs)) (fun p=>[p.1.1,p.2.1]) (fun p=>rI (p.1.2 + p.2.2))
abbrev rtimesJ:Ent:=parE 16 (fun p:Int×Int=>Bd p.1.natAbs∧Bd p.2.natAbs) (fun p=>[rI p.1,rI p.2]) (fun p=>rI (p.1 * p.2))
abbrev rminusJ:Ent:=parE 17 (fun z:Int=>Bd z.natAbs) (fun z=>[rI z]) (fun z=>rI (-z))
abbrev rcmpiJ:Ent:=parE 19 (fun p:Int×Int=>Bd p.1.natAbs∧Bd p.2.natAbs∧Bd (p.1.natAbs + p.2.natAbs)) (fun p=>[rI p.1,rI p.2]) (fun p=>iA (if p.1 < p.2 then -1 else if p.1=p.2 then 0 else 1))
abbrev JRl:List Ent:=[rofJ,rplusJ,rtimesJ,rminusJ,rcmpiJ]
abbrev JR:Sg:=mkR JRl
theorem jR:Sound Tryz.prog JR:=mkR_sound ⟨parE_ok (fun x h H=>rof_has x h H) _ rfl rfl,
  parE_ok (fun p h H=>rplus_is h.1 h.2.1 h.2.2.1.sm h.2.2.2.1.sm h.2.2.2.2.sm H) _ rfl rfl,
  parE_ok (fun p h H=>rtimes_has p.1 p.2 (Nat.lt_trans h.1.ln (by decide)) (Nat.lt_trans h.2.ln (by decide)) H) _ rfl rfl,
  parE_ok (fun z h H=>rminus_has z (Nat.lt_trans h.ln (by decide)) H) _ rfl rfl,
  parE_ok (fun p h H=>rcmpi_has p.1 p.2 h.1.sm h.2.1.sm h.2.2.sm H) _ rfl rfl,trivial⟩
theorem ipair_f {p q:Int×Int} (h:[rI p.1,rI p.2]=[rI q.1,rI q.2]):p=q:=by
  obtain ⟨h1,h2⟩:=cons2 h
  exact Prod.ext (rI_inj h1) (rI_inj h2)
theorem ofJ {x:Int} (h:i64 x) (H:Heap):callS JR 15 [iA x] H=some (rI x,H):=(show callS JR 15 [iA x] H=relX _ _ _ from rfl).trans (parE_eq (ar:=fun x:Int=>[iA x]) (fun a b _ _ h=>by
  injection h with h
  injection h with _ h
  rw [h]) x h)
theorem plusJ {u v:AVal} {x y:Int} (hu:IsI u x) (hv:IsI v y) (h1:Bd x.natAbs) (h2:Bd y.natAbs) (h3:Bd (x.natAbs + y.natAbs)) (H:Heap):callS JR 14 [u,v] H=some (rI (x + y),H) :=
  (show callS JR 14 [u,v] H=relX _ _ _ from rfl).trans (parE_eq (ar:=fun p:(AVal×Int)×(AVal×Int)=>[p.1.1,p.2.1]) (fun a b ha hb h=>by
    obtain ⟨⟨u1,m1⟩,⟨v1,n1⟩⟩:=a
    obtain ⟨⟨u2,m2⟩,⟨v2,n2⟩⟩:=b
    obtain ⟨h1,h2⟩:=cons2 h
    simp only at h1 h2 ha hb ⊢
    subst h1 h2
    rw [isI_inj ha.1 hb.1,isI_inj ha.2.1 hb.2.1]) ((u,x),(v,y)) ⟨hu,hv,h1,h2,h3⟩)
theorem timesJ {x y:Int} (h1:Bd x.natAbs) (h2:Bd y.natAbs) (H:Heap):callS JR 16 [rI x,rI y] H=some (rI (x * y),H):=(show callS JR 16 [rI x,rI y] H=relX _ _ _ from rfl).trans (parE_eq (ar:=fun p:Int×Int=>[rI p.1,rI p.2]) (fun a b _ _ h=>by rw [ipair_f h]) (x,y) ⟨h1,h2⟩)
theorem minusJ {z:Int} (h:Bd z.natAbs) (H:Heap):callS JR 17 [rI z] H=some (rI (-z),H):=(show callS JR 17 [rI z] H=relX _ _ _ from rfl).trans (parE_eq (ar:=fun z:Int=>[rI z]) (fun a b _ _ h=>by
    injection h with h
    rw [rI_inj h]) z h)
theorem cmpiJ {x y:Int} (h1:Bd x.natAbs) (h2:Bd y.natAbs) (h3:Bd (x.natAbs + y.natAbs)) (H:Heap):callS JR 19 [rI x,rI y] H=some (iA (if x < y then -1 else if x=y then 0 else 1),H):=(show callS JR 19 [rI x,rI y] H=relX _ _ _ from rfl).trans (parE_eq (ar:=fun p:Int×Int=>[rI p.1,rI p.2]) (fun a b _ _ h=>by rw [ipair_f h]) (x,y) ⟨h1,h2,h3⟩)
end
end Go.AM.C.RP
namespace Go.AM.C.RP
open Go.Proofs Go.AM.C.BK
noncomputable section
theorem rI':JR.ty 38=some ti38:=rfl
theorem rn':JR.ty 36=some ti36:=rfl
theorem rL':JR.ty 23=some ti23:=rfl
theorem rl':JR.ty 2=some ti2:=rfl
theorem cmpZ_ge {m n:Nat} (h:m < n):¬ (0≤cmpZ m n):=by unfold cmpZ; split <;> (try split) <;> omega
theorem min_opS {S:Sg} {call:Calling} {d:Bool} {g:Operand→AVal} {H:Heap} {c:Call} {j k:Nat} {t t':TypeId} (hc:c.callee=.builtin .min) (ha:c.args.toList.map g=[.int .i64 (j:Int),.int .i64 (k:Int)]) (hta:c.argTypes.toList=[t,t']) :
    denG S call d g H (.call c)=some (.int .i64 ((min j k:Nat):Int),H):=by
  simp only [denG,hc,ha,hta]
  have e:(if ((k:Int) < (j:Int)) then (k:Int) else (j:Int))=((min j k:Nat):Int):=by
    rw [Nat.min_def]
    split <;> split <;> omega
  show withH H (some (AVal.int .i64 (if ((k:Int) < (j:Int)) then (k:Int) else (j:Int))))=_
  rw [e]
  rfl
theorem take_isl (l:List Int):Wk (.isl (zA l) (0 + 0 * 1) (min l.length 22 - 0) none true) (.isl (zA (l.take 22)) 0 (l.take 22).length none true):=by
  refine Wk.trans (Wk.isl_sub (n:=22)) (Wk.isl_eq ?_ (by rw [List.length_take]; omega))
  unfold zA
  rw [List.drop_zero,List.map_take]
set_option maxRecDepth 100000 in
theorem ball_bad (t:Int) (l:List Int) (k:Nat) (hk:k < 9223372036854775808) (hk0:k≠0) (hl:l.length < 9223372036854775808) (cs:List AVal) (n:Nat)
    (hw:Wk (.isl (zA l) (0 + 0 * 1) (min l.length 22 - 0) none true) (.isl cs 0 n none true))
    (hp:∀ H,Has 10 [iA t,.isl cs 0 n none true] H (.tup [.nils,errA k]) H)
    (hr:∀ H,Has 12 [iA t,.isl cs 0 n none true] H (.tup [.nils,iA (k:Int)]) H) (H:Heap) :
    Has 5 [iA t,.isl (zA l) 0 l.length none true] H (.bool true) H:=by
  have hsame:=fun H=>same_has k k hk H
  have he:errA k=.iface 171 (.int .i64 (k:Int)):=if_neg hk0
  rw [decide_eq_true (rfl:k=k)] at hsame
  rw [he] at hp hsame
  refine unR (l:=JRl) ?_
  refine does_pure jR (show JR.fn 5=some Tryz.f5 by kernel_rfl) rfl (by kernel_rfl) (Nat.le_of_ble_eq_true rfl) rfl rfl ?_
  refine W.seq (W.region ?_)
  refine WO.op rfl rfl (WO.nil (W.seq (W.region ?_)))
  refine WO.call rfl (inR (begun_has _)) rfl ?_
  refine WO.op rfl rfl (WO.nil (W.seq (W.seq (W.region ?_))))
  refine WO.op rfl rfl ?_
  refine WO.op rfl rfl (WO.nil (W.cond (b:=false) rfl (fun h=>by cases h) (fun _=>W.skip (W.seq (W.region ?_)))))
  iterate 3 refine WO.op rfl rfl ?_
  refine WO.op (min_opS (j:=l.length) (k:=22) rfl rfl rfl) rfl ?_
  refine WO.less (.isl cs 0 n none true) (G.slice_isl (l:=0) (h:=min l.length 22) rfl rL' rfl rl' rfl ⟨_,rfl⟩ (Nat.zero_le _) (Nat.min_le_left _ _)) rfl hw ?_
  refine WO.op rfl rfl (WO.nil (W.seq (W.region ?_)))
  refine WO.op rfl rfl ?_
  refine WO.op rfl rfl ?_
  refine WO.call rfl (inR (hp _)) rfl ?_
  iterate 4 refine WO.op rfl rfl ?_
  refine WO.op rfl rfl (WO.nil (W.seq (W.region ?_)))
  refine WO.op rfl rfl ?_
  refine WO.op rfl rfl ?_
  refine WO.call rfl (inR (hr _)) rfl ?_
  iterate 4 refine WO.op rfl rfl ?_
  refine WO.op rfl rfl (WO.nil (W.seq (W.seq (W.region ?_))))
  refine WO.op rfl rfl ?_
  refine WO.op rfl rfl ?_
  refine WO.call rfl (inR (hsame _)) rfl ?_
  iterate 7 refine WO.op rfl rfl ?_
  refine WO.op rfl rfl (WO.nil (W.cond (b:=false) rfl (fun h=>by cases h) (fun _=>W.skip ?_)))
  refine W.seq (W.region ?_)
  iterate 4 refine WO.op rfl rfl ?_
  refine WO.op (G.store_agg rfl rfl rfl rI' rfl rfl rfl) rfl ?_
  refine WO.op (G.store_agg rfl rfl rfl rI' rfl rfl rfl) rfl (WO.nil ?_)
  refine W.seq (W.seq (W.region ?_))
  refine WO.op rfl rfl ?_
  refine WO.op rfl rfl ?_
  refine WO.op rfl rfl (WO.nil (W.block ?_))
  refine W.fits (F':=fr [(7,.iface 171 (.int .i64 (k:Int))),(6,.nils),(49,iA 0),(50,iA 0)]) (fits_fr ⟨rfl,rfl,rfl,rfl,trivial⟩) ?_
  refine W.loopI (α:=Unit) (fun _=>True) (fun _=>0) (fun _=>fr [(7,.iface 171 (.int .i64 (k:Int))),(6,.nils),(49,iA 0),(50,iA 0)]) (fun _=>[.cells [.bool false,.nils] 38,.cells [.bool false,.nils] 38]) ?_ () trivial
  intro _ _
  refine W.seq (W.region ?_)
  refine WO.op rfl rfl (WO.nil (W.seq (W.cond (b:=false) rfl (fun h=>by cases h) (fun _=>W.exit ?_))))
  refine W.seq (W.seq (W.region ?_))
  refine WO.op rfl rfl ?_
  refine WO.op rfl rfl ?_
  refine WO.op rfl rfl (WO.nil (W.block ?_))
  refine W.fits (F':=fr [(7,.iface 171 (.int .i64 (k:Int))),(78,iA 0),(79,iA 0)]) (fits_fr ⟨rfl,rfl,rfl,trivial⟩) ?_
  refine W.loopI (α:=Unit) (fun _=>True) (fun _=>0) (fun _=>fr [(7,.iface 171 (.int .i64 (k:Int))),(78,iA 0),(79,iA 0)]) (fun _=>[.cells [.bool false,.nils] 38,.cells [.bool false,.nils] 38]) ?_ () trivial
  intro _ _
  refine W.seq (W.region ?_)
  refine WO.op rfl rfl (WO.nil (W.seq (W.cond (b:=false) rfl (fun h=>by cases h) (fun _=>W.exit ?_))))
  refine W.seq (W.draw0 rfl (by kernel_rfl) ?_)
  iterate 3 refine WT.op rfl rfl rfl ?_
  iterate 5 refine WT.skip rfl rfl ?_
  refine WT.op rfl rfl rfl ?_
  refine WT.op rfl rfl rfl (WT.nil ?_)
  exact W.ret ⟨trivial,_,rfl,Seals.same _ rfl⟩
def rC (z:Int):AVal×AVal:=(.bool (decide (z < 0)),rD z.natAbs)
theorem isI_rC (z:Int):IsI (.agg [(rC z).1,(rC z).2]) z:=.inl rfl
abbrev cI (p:AVal×AVal):AObj:=.cells [p.1,p.2] 38
set_option maxRecDepth 100000 in
set_option maxHeartbeats 4000000 in
theorem ball_good (t:Int) (ht:i64 t) (l:List Int) (sh PR:List Nat) (hs:∀ s∈sh,s < 9223372036854775808) (hn0:0 < sh.length) (h20:sh.length≤20) (hPl:PR.length=sh.length) (hPs:PR.sum=t.natAbs) (hl:l.length < 9223372036854775808) (n:Nat) (hn:n=sh.length)
    (hnear:∀ k,k < sh.length→((sh.sum:Int) * sgn (decide (t < 0)) (PR.getD k 0) + -(t * (sh.getD k 0:Nat))).natAbs < sh.sum)
    (cs:List AVal) (hcs:cs=ints sh)
    (hw:Wk (.isl (zA l) (0 + 0 * 1) (min l.length 22 - 0) none true) (.isl cs 0 n none true))
    (hp:∀ H,Has 10 [iA t,.isl cs 0 n none true] H (.tup [.isl (sgA (decide (t < 0)) PR) 0 n none true,.nili]) H)
    (hr:∀ H,Has 12 [iA t,.isl cs 0 n none true] H (.tup [.isl (sgA (decide (t < 0)) PR) 0 n none true,iA 0]) H) (H:Heap) :
    Has 5 [iA t,.isl (zA l) 0 l.length none true] H (.bool true) H:=by
  have hsame:∀ H,Has 13 [.nili,iA 0] H (.bool true) H:=fun H=>same_has 0 0 (by decide) H
  have hSb:sh.sum≤20 * 9223372036854775808:=Nat.le_trans (sum_bound (M:=9223372036854775808) sh hs) (Nat.mul_le_mul h20 (Nat.le_refl _))
  have hA:t.natAbs≤9223372036854775808:=by unfold i64 at ht; omega
  refine unR (l:=JRl) ?_
  refine does_pure jR (show JR.fn 5=some Tryz.f5 by kernel_rfl) rfl (by kernel_rfl) (Nat.le_of_ble_eq_true rfl) rfl rfl ?_
  refine W.seq (W.region ?_)
  refine WO.op rfl rfl (WO.nil (W.seq (W.region ?_)))
  refine WO.call rfl (inR (begun_has _)) rfl ?_
  refine WO.op rfl rfl (WO.nil (W.seq (W.seq (W.region ?_))))
  refine WO.op rfl rfl ?_
  refine WO.op rfl rfl (WO.nil (W.cond (b:=false) rfl (fun h=>by cases h) (fun _=>W.skip (W.seq (W.region ?_)))))
  iterate 3 refine WO.op rfl rfl ?_
  refine WO.op (min_opS (j:=l.length) (k:=22) rfl rfl rfl) rfl ?_
  refine WO.less (.isl cs 0 n none true) (G.slice_isl (l:=0) (h:=min l.length 22) rfl rL' rfl rl' rfl ⟨_,rfl⟩ (Nat.zero_le _) (Nat.min_le_left _ _)) rfl hw ?_
  refine WO.op rfl rfl (WO.nil (W.seq (W.region ?_)))
  refine WO.op rfl rfl ?_
  refine WO.op rfl rfl ?_
  refine WO.call rfl (inR (hp _)) rfl ?_
  iterate 4 refine WO.op rfl rfl ?_
  refine WO.op rfl rfl (WO.nil (W.seq (W.region ?_)))
  refine WO.op rfl rfl ?_
  refine WO.op rfl rfl ?_
  refine WO.call rfl (inR (hr _)) rfl ?_
  iterate 4 refine WO.op rfl rfl ?_
  refine WO.op rfl rfl (WO.nil (W.seq (W.seq (W.region ?_))))
  refine WO.op rfl rfl ?_
  refine WO.op rfl rfl ?_
  refine WO.call rfl (inR (hsame _)) rfl ?_
  iterate 6 refine WO.op rfl rfl ?_
  refine WO.as (v':=.bool false) rfl rfl (bnT rfl) ?_
  refine WO.op rfl rfl (WO.nil (W.cond (b:=false) rfl (fun h=>by cases h) (fun _=>W.skip ?_)))
  refine W.seq (W.region ?_)
  iterate 4 refine WO.op rfl rfl ?_
  refine WO.op (G.store_agg rfl rfl rfl rI' rfl rfl rfl) rfl ?_
  refine WO.op (G.store_agg rfl rfl rfl rI' rfl rfl rfl) rfl (WO.nil ?_)
  subst hn
  subst hcs
  generalize hb:decide (t < 0)=b at *
  refine W.mid (H1:=[cI (rC t),cI (rC sh.sum)]) [(0,iA t),(1,.isl (ints sh) 0 sh.length none true),(6,.isl (sgA b PR) 0 sh.length none true),(7,.nili),(10,.ptr 0 0),(11,.ptr 1 0)] ?_ ?_
  · refine W.seq (W.region ?_)
    refine WO.op rfl rfl ?_
    refine WO.op rfl rfl ?_
    refine WO.op rfl rfl (WO.nil (W.block ?_))
    refine W.heq (H':=[cI (.bool false,.nils),cI (.bool false,.nils)]) rfl ?_
    refine W.fits (F':=fr [(0,iA t),(1,.isl (ints sh) 0 sh.length none true),(6,.isl (sgA b PR) 0 sh.length none true),(7,.nili),(8,.isl (sgA b PR) 0 sh.length none true),(10,.ptr 0 0),(11,.ptr 1 0),(49,iA (sh.length:Int)),(50,iA ((0:Nat):Int))]) (fits_fr ⟨rfl,rfl,rfl,rfl,rfl,rfl,rfl,rfl,rfl,trivial⟩) ?_
    refine W.loopI (α:=Nat×(AVal×AVal)×(AVal×AVal)) (fun x=>x.1≤sh.length∧IsI (.agg [x.2.1.1,x.2.1.2]) (sgn b (PR.take x.1).sum)∧IsI (.agg [x.2.2.1,x.2.2.2]) ((sh.take x.1).sum:Nat)∧(0 < x.1→x.2.1=rC (sgn b (PR.take x.1).sum)∧x.2.2=rC ((sh.take x.1).sum:Nat))) (fun x=>sh.length - x.1)
      (fun x=>fr [(0,iA t),(1,.isl (ints sh) 0 sh.length none true),(6,.isl (sgA b PR) 0 sh.length none true),(7,.nili),(8,.isl (sgA b PR) 0 sh.length none true),(10,.ptr 0 0),(11,.ptr 1 0),(49,iA (sh.length:Int)),(50,iA (x.1:Int))]) (fun x=>[cI x.2.1,cI x.2.2]) ?_
      (0,(.bool false,.nils),(.bool false,.nils)) ⟨Nat.zero_le _,.inr ⟨rfl,by cases b <;> rfl⟩,.inr ⟨rfl,rfl⟩,fun h=>absurd h (Nat.lt_irrefl 0)⟩
    rintro ⟨k,p,q⟩ ⟨hk,hpI,hqI,hex⟩
    simp only at hk hpI hqI hex ⊢
    change W _ _ _ _ (fr [(0,iA t),(1,.isl (ints sh) 0 sh.length none true),(6,.isl (sgA b PR) 0 sh.length none true),(7,.nili),(8,.isl (sgA b PR) 0 sh.length none true),(10,.ptr 0 0),(11,.ptr 1 0),(49,iA (sh.length:Int)),(50,iA (k:Int))]) [cI p,cI q] _
    refine W.seq (W.region ?_)
    by_cases hlt:k < sh.length
    · have hsk:=hs _ (getD_mem hlt)
      have hx:(ints sh)[0 + ((k:Nat):Int).toNat * 1]?=some (iA (sh.getD k 0:Nat)):=by rw [idx0]; exact ints_at hlt
      have hy:(sgA b PR)[0 + ((k:Nat):Int).toNat * 1]?=some (iA (sgn b (PR.getD k 0))):=by rw [idx0]; exact sgA_at (by omega)
      have hpt:=sum_takeD (l:=PR) (k:=k) (by omega)
      have hst:=sum_takeD hlt
      have hp1:=sum_take_le PR (k + 1)
      have hs1:=sum_take_le sh (k + 1)
      have hi:i64 (sgn b (PR.getD k 0)):=by rw [← hb]; exact sgn_i64 ht (by omega)
      have hi2:i64 ((sh.getD k 0:Nat):Int):=by unfold i64; omega
      have e1:sgn b (PR.take k).sum + sgn b (PR.getD k 0)=sgn b (PR.take (k + 1)).sum:=by rw [sgn_add,hpt]
      have e2:(((sh.take k).sum:Nat):Int) + ((sh.getD k 0:Nat):Int)=((sh.take (k + 1)).sum:Nat):=by omega
      have g1:=fun H=>plusJ hpI (.inl rfl:IsI (rI (sgn b (PR.getD k 0))) _) (by rw [sgn_abs]; unfold Bd; omega) (by rw [sgn_abs]; unfold Bd; omega) (by rw [sgn_abs,sgn_abs]; unfold Bd; omega) H
      have g2:=fun H=>plusJ hqI (.inl rfl:IsI (rI ((sh.getD k 0:Nat):Int)) _) (by unfold Bd; omega) (by unfold Bd; omega) (by unfold Bd; omega) H
      rw [e1] at g1
      rw [e2] at g2
      refine WO.as (v':=.bool true) rfl rfl (bdT (by omega)) (WO.nil (W.seq (W.cond (b:=true) rfl (fun _=>W.skip ?_) (fun h=>by cases h))))
      refine W.seq (W.block (W.seq (W.region ?_)))
      refine WO.op rfl rfl ?_
      refine WO.op rfl rfl (WO.nil (W.seq (W.seq (W.draw0 rfl (by kernel_rfl) ?_))))
      refine WT.op rfl rfl rfl ?_
      refine WT.op rfl rfl rfl ?_
      refine WT.op (G.idx_isl rfl rfl rL' rfl rl' (by omega) (by omega)) rfl rfl ?_
      refine WT.op (G.load_ip rfl rl' rfl hy) rfl rfl ?_
      refine WT.op rfl rfl rfl ?_
      refine WT.op rfl rfl rfl ?_
      refine WT.op (G.idx_isl rfl rfl rL' rfl rl' (by omega) (by omega)) rfl rfl ?_
      refine WT.op (G.load_ip rfl rl' rfl hy) rfl rfl ?_
      refine WT.as (v':=.bool false) rfl rfl rfl (bnT rfl) (WT.nil (W.cond (b:=false) rfl (fun h=>by cases h) (fun _=>W.skip ?_)))
      refine W.draw0 rfl (by kernel_rfl) ?_
      refine WT.op (G.load_agg2 rfl rI' rfl rfl (row_ptr rfl) rfl rfl) rfl rfl ?_
      refine WT.op rfl rfl rfl ?_
      refine WT.op rfl rfl rfl ?_
      refine WT.op (G.idx_isl rfl rfl rL' rfl rl' (by omega) (by omega)) rfl rfl ?_
      refine WT.op (G.load_ip rfl rl' rfl hy) rfl rfl ?_
      refine WT.op (ofJ hi _) rfl rfl ?_
      refine WT.op (g1 _) rfl rfl ?_
      refine WT.op (G.load_agg2 rfl rI' rfl rfl (row_ptr rfl) rfl rfl) rfl rfl ?_
      refine WT.op rfl rfl rfl ?_
      refine WT.op rfl rfl rfl ?_
      refine WT.op (G.idx_isl rfl rfl rL' rfl rl' (by omega) (by omega)) rfl rfl ?_
      refine WT.op (G.load_ip rfl rl' rfl hx) rfl rfl ?_
      refine WT.op (ofJ hi2 _) rfl rfl ?_
      refine WT.op (g2 _) rfl rfl ?_
      refine WT.op (G.store_agg (vs:=[p.1,p.2]) rfl rfl rfl rI' rfl rfl rfl) rfl rfl ?_
      refine WT.op (G.store_agg (vs:=[q.1,q.2]) rfl rfl rfl rI' rfl rfl rfl) rfl rfl (WT.nil ?_)
      refine W.region ?_
      refine WO.as (v':=iA ((k + 1:Nat):Int)) rfl rfl (int_i64 (by omega) (by omega)) ?_
      exact WO.op rfl rfl (WO.nil ⟨(k + 1,rC (sgn b (PR.take (k + 1)).sum),rC ((sh.take (k + 1)).sum:Nat)),⟨by simp only; omega,isI_rC _,isI_rC _,fun _=>⟨rfl,rfl⟩⟩,by simp only; omega,fits_fr ⟨rfl,rfl,rfl,rfl,rfl,rfl,rfl,rfl,rfl,trivial⟩,rfl⟩)
    · have hke:k=sh.length:=by omega
      subst hke
      obtain ⟨rfl,rfl⟩:=hex hn0
      refine WO.as (v':=.bool false) rfl rfl (bdF (by omega)) (WO.nil (W.seq (W.cond (b:=false) rfl (fun h=>by cases h) (fun _=>W.exit ?_))))
      refine ⟨rfl,⟨rfl,rfl,rfl,rfl,rfl,rfl,trivial⟩,?_⟩
      show [cI (rC (sgn b (PR.take sh.length).sum)),cI (rC ((sh.take sh.length).sum:Nat))]=_
      rw [List.take_length,List.take_of_length_le (by omega),hPs,← hb,sgn_self]
  have hS0:0 < sh.sum:=by
    have:=hnear 0 hn0
    omega
  refine W.midE (α:=Heap) (fun X=>X[0]?=some (cI (rC t))) (fun _=>[(0,iA t),(7,.nili),(10,.ptr 0 0)]) (fun X=>X) ?_ ?_
  · refine W.seq (W.region ?_)
    refine WO.op rfl rfl ?_
    refine WO.op rfl rfl ?_
    refine WO.op rfl rfl (WO.nil (W.block ?_))
    refine W.fits (F':=fr [(0,iA t),(1,.isl (ints sh) 0 sh.length none true),(6,.isl (sgA b PR) 0 sh.length none true),(7,.nili),(10,.ptr 0 0),(11,.ptr 1 0),(78,iA (sh.length:Int)),(79,iA ((0:Nat):Int))]) (fits_fr ⟨rfl,rfl,rfl,rfl,rfl,rfl,rfl,rfl,trivial⟩) ?_
    refine W.loopI (α:=Nat×Heap) (fun x=>x.1≤sh.length∧x.2[0]?=some (cI (rC t))∧x.2[1]?=some (cI (rC sh.sum))) (fun x=>sh.length - x.1)
      (fun x=>fr [(0,iA t),(1,.isl (ints sh) 0 sh.length none true),(6,.isl (sgA b PR) 0 sh.length none true),(7,.nili),(10,.ptr 0 0),(11,.ptr 1 0),(78,iA (sh.length:Int)),(79,iA (x.1:Int))]) (fun x=>x.2) ?_ (0,[cI (rC t),cI (rC sh.sum)]) ⟨Nat.zero_le _,rfl,rfl⟩
    rintro ⟨k,X⟩ ⟨hk,hX0,hX1⟩
    simp only at hk hX0 hX1 ⊢
    change W _ _ _ _ (fr [(0,iA t),(1,.isl (ints sh) 0 sh.length none true),(6,.isl (sgA b PR) 0 sh.length none true),(7,.nili),(10,.ptr 0 0),(11,.ptr 1 0),(78,iA (sh.length:Int)),(79,iA (k:Int))]) X _
    have hX0l:0 < X.length:=(List.getElem?_eq_some_iff.1 hX0).1
    have hX1l:1 < X.length:=(List.getElem?_eq_some_iff.1 hX1).1
    refine W.seq (W.region ?_)
    by_cases hlt:k < sh.length
    · have hsk:=hs _ (getD_mem hlt)
      have hnk:=hnear k hlt
      have hx:(ints sh)[0 + ((k:Nat):Int).toNat * 1]?=some (iA (sh.getD k 0:Nat)):=by rw [idx0]; exact ints_at hlt
      have hy:(sgA b PR)[0 + ((k:Nat):Int).toNat * 1]?=some (iA (sgn b (PR.getD k 0))):=by rw [idx0]; exact sgA_at (by omega)
      have hpk:=getD_le_sum (l:=PR) (k:=k) (by omega)
      have hi:i64 (sgn b (PR.getD k 0)):=by rw [← hb]; exact sgn_i64 ht (by omega)
      have hi2:i64 ((sh.getD k 0:Nat):Int):=by unfold i64; omega
      have hza:(sgn b (PR.getD k 0)).natAbs≤9223372036854775808:=by rw [sgn_abs]; omega
      generalize sgn b (PR.getD k 0)=z at *
      generalize hse:sh.getD k 0=s at *
      have hm1:((sh.sum:Int) * z).natAbs≤20 * 9223372036854775808 * 9223372036854775808:=by rw [Int.natAbs_mul]; exact Nat.mul_le_mul (by omega) hza
      have hm2:(t * (s:Int)).natAbs≤9223372036854775808 * 9223372036854775808:=by rw [Int.natAbs_mul]; exact Nat.mul_le_mul hA (by omega)
      have hS:Bd ((sh.sum:Nat):Int).natAbs:=by unfold Bd; omega
      have c1:=fun H=>timesJ (x:=((sh.sum:Nat):Int)) (y:=z) hS (by unfold Bd; omega) H
      have c2:=fun H=>timesJ (x:=t) (y:=(s:Int)) (by unfold Bd; omega) (by unfold Bd; omega) H
      have c3:=fun H=>minusJ (z:=t * (s:Int)) (by unfold Bd; omega) H
      have c4:=fun H=>plusJ (u:=rI ((sh.sum:Int) * z)) (v:=rI (-(t * (s:Int)))) (.inl rfl) (.inl rfl) (by unfold Bd; omega) (by rw [Int.natAbs_neg]; unfold Bd; omega) (by rw [Int.natAbs_neg]; unfold Bd; omega) H
      have c5:=fun H=>cmp_has (((sh.sum:Int) * z + -(t * (s:Int))).natAbs) sh.sum (by have:Ln (((sh.sum:Int) * z + -(t * (s:Int))).natAbs):=lnS (by omega); unfold Ln at this; omega) (by have:Ln sh.sum:=lnS (by omega); unfold Ln at this; omega) H
      have c6:=cmpZ_ge hnk
      generalize (sh.sum:Int) * z + -(t * (s:Int))=d at *
      have hY:∀ j,j < X.length→(X ++ [AObj.cells [.bool false,.nils] 38])[j]?=X[j]?:=fun j hj=>app_lt hj
      refine WO.as (v':=.bool true) rfl rfl (bdT (by omega)) (WO.nil (W.seq (W.cond (b:=true) rfl (fun _=>W.skip ?_) (fun h=>by cases h))))
      refine W.seq (W.block (W.seq (W.region ?_)))
      refine WO.op rfl rfl ?_
      refine WO.op rfl rfl (WO.nil (W.seq (W.draw rfl (by kernel_rfl) ?_)))
      refine WT.op (G.load_agg2 rfl rI' rfl rfl (row_ptr ((hY 1 hX1l).trans hX1)) rfl rfl) rfl rfl ?_
      refine WT.op rfl rfl rfl ?_
      refine WT.op rfl rfl rfl ?_
      refine WT.op (G.idx_isl rfl rfl rL' rfl rl' (by omega) (by omega)) rfl rfl ?_
      refine WT.op (G.load_ip rfl rl' rfl hy) rfl rfl ?_
      refine WT.op (ofJ hi _) rfl rfl ?_
      refine WT.op (c1 _) rfl rfl ?_
      refine WT.op rfl rfl rfl ?_
      refine WT.op (ofJ ht _) rfl rfl ?_
      refine WT.op rfl rfl rfl ?_
      refine WT.op rfl rfl rfl ?_
      refine WT.op (G.idx_isl rfl rfl rL' rfl rl' (by omega) (by omega)) rfl rfl ?_
      refine WT.op (G.load_ip rfl rl' rfl hx) rfl rfl ?_
      refine WT.op (ofJ hi2 _) rfl rfl ?_
      refine WT.op (c2 _) rfl rfl ?_
      refine WT.op (c3 _) rfl rfl ?_
      refine WT.op (c4 _) rfl rfl ?_
      refine WT.alloc rfl rfl ?_
      refine WT.op (G.store_agg (app_at rfl) rfl rfl rI' rfl rfl rfl) rfl rfl (WT.nil (W.seq (W.region ?_)))
      have hZ:((X ++ [AObj.cells [.bool false,.nils] 38]).set X.length (cI (rC d)))[X.length]?=some (cI (rC d)):=List.getElem?_set_self (by simp)
      have hZj:∀ j,j < X.length→((X ++ [AObj.cells [.bool false,.nils] 38]).set X.length (cI (rC d)))[j]?=X[j]?:=fun j hj=>by rw [List.getElem?_set_ne (by omega)]; exact app_lt hj
      refine WO.op rfl rfl ?_
      refine WO.op (G.load_ptr rfl rn' rfl hZ rfl) rfl ?_
      refine WO.op rfl rfl ?_
      refine WO.op (G.load_ptr rfl rn' rfl ((hZj 1 hX1l).trans hX1) rfl) rfl ?_
      refine WO.call rfl (inR (c5 _)) rfl ?_
      refine WO.as (v':=.bool false) rfl rfl (bdF c6) (WO.nil (W.cond (b:=false) rfl (fun h=>by cases h) (fun _=>W.skip ?_)))
      refine W.region ?_
      refine WO.as (v':=iA ((k + 1:Nat):Int)) rfl rfl (int_i64 (by omega) (by omega)) ?_
      exact WO.op rfl rfl (WO.nil ⟨(k + 1,(X ++ [AObj.cells [.bool false,.nils] 38]).set X.length (cI (rC d))),⟨by simp only; omega,(hZj 0 hX0l).trans hX0,(hZj 1 hX1l).trans hX1⟩,by simp only; omega,fits_fr ⟨rfl,rfl,rfl,rfl,rfl,rfl,rfl,rfl,trivial⟩,rfl⟩)
    · refine WO.as (v':=.bool false) rfl rfl (bdF (by omega)) (WO.nil (W.seq (W.cond (b:=false) rfl (fun h=>by cases h) (fun _=>W.exit ?_))))
      exact ⟨rfl,X,hX0,⟨rfl,rfl,rfl,trivial⟩,rfl⟩
  intro X hX0
  have hcm:=fun H=>cmpiJ (x:=t) (y:=t) (by unfold Bd; omega) (by unfold Bd; omega) (by unfold Bd; omega) H
  rw [if_neg (Int.lt_irrefl t),if_pos rfl] at hcm
  refine W.seq (W.draw0 rfl (by kernel_rfl) ?_)
  iterate 3 refine WT.op rfl rfl rfl ?_
  refine WT.op (G.load_agg2 rfl rI' rfl rfl (row_ptr hX0) rfl rfl) rfl rfl ?_
  refine WT.op rfl rfl rfl ?_
  refine WT.op (ofJ ht _) rfl rfl ?_
  refine WT.op (hcm _) rfl rfl ?_
  refine WT.op rfl rfl rfl ?_
  refine WT.op rfl rfl rfl ?_
  refine WT.op rfl rfl rfl (WT.nil ?_)
  exact W.ret ⟨trivial,_,rfl,Seals.same _ rfl⟩
theorem nat_of:∀ (l:List Int),l.any isNeg=false→l=(l.map Int.natAbs).map fun (n:Nat)=>(n:Int)
  | [],_=>rfl
  | x :: l,h=>by
    rw [List.any_cons,Bool.or_eq_false_iff] at h
    have h1:=of_decide_eq_false h.1
    rw [List.map_cons,List.map_cons,← nat_of l h.2]
    congr 1
    omega
theorem ball_has (t:Int) (ht:i64 t) (l:List Int) (hi:∀ z∈l,i64 z) (hl:l.length < 9223372036854775808) (H:Heap):Has 5 [iA t,.isl (zA l) 0 l.length none true] H (.bool true) H:=by
  have hw:=take_isl l
  have hi22:∀ z∈l.take 22,i64 z:=fun z hz=>hi z (List.mem_of_mem_take hz)
  have hl22:(l.take 22).length < 1048576:=by rw [List.length_take]; omega
  by_cases hbad:(l.take 22).length=0∨20 < (l.take 22).length∨(l.take 22).any isNeg=true
  · exact ball_bad t l 2 (by decide) (by decide) hl _ _ hw (fun H=>parts_bad t _ hl22 hbad H) (fun H=>rparts_bad t _ hi22 hl22 hbad H) H
  have hneg:(l.take 22).any isNeg=false:=by
    cases h:(l.take 22).any isNeg with
    | false=>rfl
    | true=>exact absurd (.inr (.inr h)) hbad
  have hsh:=nat_of _ hneg
  have hlen:(l.take 22).length=((l.take 22).map Int.natAbs).length:=by rw [List.length_map]
  have hs:∀ s∈(l.take 22).map Int.natAbs,s < 9223372036854775808:=fun s h=>by
    obtain ⟨z,hz,rfl⟩:=List.mem_map.1 h
    have h1:=hi22 z hz
    have h2:=List.any_eq_false.1 hneg z hz
    unfold isNeg at h2
    rw [decide_eq_true_eq] at h2
    unfold i64 at h1
    omega
  have hz:zA (l.take 22)=ints ((l.take 22).map Int.natAbs):=by rw [← zA_ints,← hsh]
  rw [hz,hlen] at hw
  rw [hlen] at hbad
  generalize (l.take 22).map Int.natAbs=sh at *
  clear hsh hz hlen hneg hi22 hl22
  have h20:sh.length≤20:=by omega
  have hn0:0 < sh.length:=by omega
  by_cases h0:0 < sh.sum
  · have hPm:∀ p∈partsN t.natAbs sh,p≤t.natAbs:=fun p h=>by
      have:=mem_le_sum h
      rw [parts_sum h0] at this
      exact this
    have hp:=fun H=>parts_big t ht sh hs h20 h0 H
    have hr:=fun H=>rparts_ok t ht sh hs h20 h0 H
    rw [parts_same h0] at hr
    rw [outs_sgA ht hPm] at hp hr
    refine ball_good t ht l sh (partsN t.natAbs sh) hs hn0 h20 (parts_len _ _) (parts_sum h0) hl sh.length rfl (fun k hk=>?_) (ints sh) rfl hw hp hr H
    obtain ⟨h1,h2⟩:=parts_near (A:=t.natAbs) h0 hk
    have:=near_sgn (decide (t < 0)) h1 h2
    rw [sgn_self] at this
    exact this
  · have hz:∀ s∈sh,s=0:=fun s h=>by
      have:=mem_le_sum h
      omega
    exact ball_bad t l 3 (by decide) (by decide) hl _ _ hw (fun H=>parts_nought t sh hz h20 hn0 H) (fun H=>rparts_nought t sh hz h20 hn0 H) H
end
end Go.AM.C.RP
