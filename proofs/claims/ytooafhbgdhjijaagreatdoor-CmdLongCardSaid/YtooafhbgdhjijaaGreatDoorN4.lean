/- Part of a proof over the program's translation: Contracts, 17: errors.As; fault.Code.; Contracts, 22: Mul64; Mul.; Contracts, 23: num: Mul. .. -/
import Derived.Test.YtooafhbgdhjijaaGreatDoorA8
import Derived.Test.YtooafhbgdhjijaaGreatDoorE0
noncomputable section
/- Contracts, 17: errors.As; fault.Code. -/
namespace Go.AM.C
open Go.Proofs Go.RowKit
noncomputable section
set_option linter.unusedVariables false
set_option linter.unusedSimpArgs false

def faultV (k : Int) : AVal := .ip [.int .i64 k, .str [], .nili] 0 true

theorem pin_of {c : Ctx} {w : World} (hg : Glob S0 c w) : w.cell? ⟨0, 0, none⟩ = some (.iface 336 (.agg #[.pointer (some ⟨16, 45, none⟩)])) := ((hg 0).2 _ rfl).2

theorem as_enter : ∀ w cargs, (callFunc 101 cargs).run Tryz.prog w = .ok (.enter 101 cargs) w := fun w cargs => enters_of Tryz.func101 (by kernel_rfl) rfl cargs w

theorem ptr_of {c : Ctx} {w : World} {t : TypeId} {id off : Nat} {v : Value} (h : VR c w (.iface t (.ptr id off)) v) : ∃ b o, c.ι id = some (b, o) ∧ v = .iface t (.pointer (some ⟨b, o + off, none⟩)) := by
  cases h with
  | iface _ _ u hu => cases hu with | ptr _ _ b o hι => exact ⟨b, o, hι, rfl⟩

theorem as_plain_has (k : Int) (H : Heap) (id off : Nat) (vs : List AVal) (ty : TypeId) (hH : H[id]? = some (.cells vs ty)) (hoff : off < vs.length) :
    Has 101 [.iface 172 (.int .i64 k), .iface 167 (.ptr id off)] H (.bool true) (H.set id (.cells (vs.set off (faultV k)) ty)) := by
  intro c w cargs r hg ha
  obtain ⟨v1, v2, rfl, h1, h2⟩ := ha.two
  obtain ⟨b, o, hι, rfl⟩ := ptr_of h2
  cases h1 with
  | iface _ _ u hu =>
    cases hu
    obtain ⟨old, hc, hf⟩ := cell_at r hH hι hoff
    refine .inl ⟨fun w => as_enter w _, (as_plain k ⟨b, o + off, none⟩ old w (pin_of hg) hc hf).mono ?_⟩
    rintro e w' ⟨rfl, rfl⟩
    refine ⟨_, rfl, ?_⟩
    have b3 := ((((Below.refl w.heap.size w).alloc (Nat.le_refl _) (.cells #[.pointer (some ⟨b, o + off, none⟩)] 167)).alloc (by simp) (.cells #[.pointer (some ⟨16, 167, none⟩), .pointer (some ⟨w.heap.size, 0, none⟩), .int .u64 150] 257)).alloc (by simp; omega) (.cells #[.pointer (some ⟨16, 167, none⟩), .pointer (some ⟨w.heap.size, 0, none⟩), .int .u64 150] 257))
    obtain ⟨r3, p3⟩ := below_post r b3
    obtain ⟨c4, r4, p4, hF, g, hg1, hg2⟩ := new_imm r3 #[.int .i64 k, .string ⟨#[]⟩, .nilIface] 169 (0, 0) [.int .i64 k, .str [], .nili] (by simp) (fun j a v ha hv => by
      match j with
      | 0 => simp at ha hv; subst ha; subst hv; exact .int _ _
      | 1 => simp at ha hv; subst ha; subst hv; exact .str _ _ rfl
      | 2 => simp at ha hv; subst ha; subst hv; exact .nili
      | j + 3 => simp at ha)
    have hv4 := VR.ip (c := c4) [.int .i64 k, .str [], .nili] 0 true _ 0 g (fun _ a ha => by
      simp only [List.mem_cons, List.not_mem_nil, or_false] at ha
      rcases ha with rfl | rfl | rfl <;> rfl) hF hg1 hg2
    simp only [World.size_alloc] at hv4
    obtain ⟨r5, p5⟩ := set_cell r4 hH (p4.ι _ _ hι) (off := off) hoff hv4
    exact ⟨c4, r5, (p3.trans r p4).trans r p5, .bool _⟩

theorem as_hit_has (cells : List AVal) (off' : Nat) (cl : Bool) (H : Heap) (id off : Nat) (vs : List AVal) (ty : TypeId) (hH : H[id]? = some (.cells vs ty)) (hoff : off < vs.length) :
    Has 101 [.iface 165 (.ip cells off' cl), .iface 167 (.ptr id off)] H (.bool true) (H.set id (.cells (vs.set off (.ip cells off' cl)) ty)) := by
  intro c w cargs r hg ha
  obtain ⟨v1, v2, rfl, h1, h2⟩ := ha.two
  obtain ⟨b, o, hι, rfl⟩ := ptr_of h2
  cases h1 with
  | iface _ _ u hu =>
    obtain ⟨e, rfl⟩ : ∃ e, u = .pointer (some e) := by cases hu with | ip _ _ _ b o g _ _ _ _ => exact ⟨_, rfl⟩
    obtain ⟨old, hc, hf⟩ := cell_at r hH hι hoff
    refine .inl ⟨fun w => as_enter w _, (as_hit e ⟨b, o + off, none⟩ old w (pin_of hg) hc hf).mono ?_⟩
    rintro ev w' ⟨rfl, rfl⟩
    refine ⟨_, rfl, ?_⟩
    have b4 := (((((Below.refl w.heap.size w).alloc (Nat.le_refl _) (.cells #[.pointer (some ⟨b, o + off, none⟩)] 167)).alloc (by simp) (.cells #[.pointer (some ⟨16, 167, none⟩), .pointer (some ⟨w.heap.size, 0, none⟩), .int .u64 150] 257)).alloc (by simp; omega) (.cells #[.pointer (some ⟨16, 167, none⟩), .pointer (some ⟨w.heap.size, 0, none⟩), .int .u64 150] 257)).alloc (by simp; omega) (.cells #[.pointer (some e)] 165))
    obtain ⟨r4, p4⟩ := below_post r b4
    obtain ⟨r5, p5⟩ := set_cell r4 hH (p4.ι _ _ hι) (off := off) hoff (hu.mono (p4.le r))
    exact ⟨c, r5, p4.trans r p5, .bool _⟩

/-! #### fault.Code -/
theorem code_nil (H : Heap) : Has 47 [.nili] H (.int .i64 0) H := by
  refine does_pure s0 (show S0.fn 47 = some Tryz.f47 by kernel_rfl) rfl (by kernel_rfl) (Nat.le_of_ble_eq_true rfl) rfl rfl ?_
  refine W.seq (W.region ?_)
  repeat refine WO.op rfl rfl ?_
  refine WO.nil (W.seq (W.region ?_))
  repeat refine WO.op rfl rfl ?_
  refine WO.nil (W.seq (W.block (W.seq (W.region ?_))))
  repeat refine WO.op rfl rfl ?_
  refine WO.nil (W.cond (b := true) rfl (fun _ => W.seq (W.region ?_)) (fun h => by cases h))
  exact WO.op rfl rfl (WO.nil (W.ret ⟨trivial, _, rfl, Seals.same _ rfl⟩))

theorem code_of (t : TypeId) (a : AVal) (k : Int) (rest : List AVal) (cl : Bool) (hcl : (AVal.iface t a).closed = true) (h : ∀ (H : Heap) (id off : Nat) (vs : List AVal) (ty : TypeId), H[id]? = some (.cells vs ty) → off < vs.length →
      Has 101 [.iface t a, .iface 167 (.ptr id off)] H (.bool true) (H.set id (.cells (vs.set off (.ip (.int .i64 k :: rest) 0 cl)) ty))) (H : Heap) : Has 47 [.iface t a] H (.int .i64 k) H := by
  refine does_pure s0 (show S0.fn 47 = some Tryz.f47 by kernel_rfl) rfl (by kernel_rfl) (Nat.le_of_ble_eq_true rfl) (by simp [hcl]) rfl ?_
  refine W.seq (W.region ?_)
  repeat refine WO.op rfl rfl ?_
  refine WO.nil (W.seq (W.region ?_))
  refine WO.op (v := .ptr 0 0) (H1 := [.cells [.nilp] 165]) rfl rfl (WO.nil (W.seq (W.block (W.seq (W.region ?_)))))
  repeat refine WO.op rfl rfl ?_
  refine WO.nil (W.cond (b := false) rfl (fun h => by cases h) (fun _ => W.seq (W.region ?_)))
  refine WO.op rfl rfl ?_
  refine WO.op rfl rfl ?_
  refine WO.call rfl (h [.cells [.nilp] 165] 0 0 _ _ rfl (by decide)) rfl ?_
  repeat refine WO.op rfl rfl ?_
  refine WO.nil (W.cond (b := true) rfl (fun _ => W.seq (W.region ?_)) (fun h => by cases h))
  repeat refine WO.op rfl rfl ?_
  exact WO.nil (W.ret ⟨trivial, _, rfl, Seals.same _ rfl⟩)

theorem code_plain (k : Int) (H : Heap) : Has 47 [.iface 172 (.int .i64 k)] H (.int .i64 k) H := code_of _ _ k [.str [], .nili] true rfl (fun H id off vs ty hH ho => as_plain_has k H id off vs ty hH ho) H
theorem code_fault (k : Int) (rest : List AVal) (H : Heap) : Has 47 [.iface 165 (.ip (.int .i64 k :: rest) 0 true)] H (.int .i64 k) H := code_of _ _ k rest true rfl (fun H id off vs ty hH ho => as_hit_has _ 0 true H id off vs ty hH ho) H
theorem code_err (k : Nat) (H : Heap) : Has 47 [errA k] H (.int .i64 (k : Int)) H := by
  unfold errA
  split
  · rename_i h; subst h; exact code_nil H
  · exact code_plain k H

/-- fault.Code, as the machine may use it. -/
def codeX : Ext := fun args H => match args with
  | [.nili] => some (.int .i64 0, H)
  | [.iface t (.int .i64 k)] => bif Nat.beq t 172 then some (.int .i64 k, H) else none
  | [.iface t (.ip (.int .i64 k :: _) 0 true)] => bif Nat.beq t 165 then some (.int .i64 k, H) else none
  | _ => none
theorem codeX_ok (S : Sg) (hg : S.glob = S0.glob) (hp : S.pin = S0.pin) : ExtAt Tryz.prog S 47 codeX := by
  intro args H v H' hx
  unfold codeX at hx
  split at hx
  · cases hx; exact DoesC.glob hg hp (code_nil H)
  · rename_i t k
    cases hb : Nat.beq t 172 with
    | false => rw [hb] at hx; cases hx
    | true => rw [hb] at hx; cases hx; rw [Nat.eq_of_beq_eq_true hb]; exact DoesC.glob hg hp (code_plain k H)
  · rename_i t k rest
    cases hb : Nat.beq t 165 with
    | false => rw [hb] at hx; cases hx
    | true => rw [hb] at hx; cases hx; rw [Nat.eq_of_beq_eq_true hb]; exact DoesC.glob hg hp (code_fault k rest H)
  · cases hx
end
end Go.AM.C

/- Contracts, 22: Mul64; Mul. -/
namespace Go.AM.C
open Go.Proofs Go.RowKit Go.Shelf
noncomputable section
set_option linter.unusedVariables false
set_option linter.unusedSimpArgs false

theorem mul64_has (x y : Nat) (hx : x < B64) (hy : y < B64) (H : Heap) : Has 109 [.int .u64 (x : Int), .int .u64 (y : Int)] H (.tup [.int .u64 ((x * y / B64 : Nat) : Int), .int .u64 ((x * y % B64 : Nat) : Int)]) H := by
  intro c w cargs r hg ha
  obtain ⟨v1, v2, rfl, h1, h2⟩ := ha.two
  cases h1; cases h2
  refine .inl ⟨fun w => enters_of Tryz.func109 (by kernel_rfl) rfl _ w, (Any.bits_Mul64 Tryz.lays264 x y hx hy w).mono ?_⟩
  rintro e w' ⟨rfl, rfl⟩
  exact ⟨_, rfl, c, r, Post.refl _ _ _, VR.pair (.int _ _) (.int _ _)⟩

/-- One limb of a row is set: what that is worth. -/
theorem val_set : ∀ (l : List Nat) (j x : Nat), j < l.length → val (l.set j x) + B64 ^ j * l.getD j 0 = val l + B64 ^ j * x
  | [], j, x, h => by simp at h
  | d :: l, 0, x, _ => by simp [val]; omega
  | d :: l, j + 1, x, h => by
    have ih := val_set l j x (by simpa using h)
    simp only [List.set_cons_succ, val, List.getD_cons_succ, Nat.pow_succ]
    have e := congrArg (B64 * ·) ih
    simp only [Nat.mul_add] at e
    have e1 : B64 * (B64 ^ j * l.getD j 0) = B64 ^ j * B64 * l.getD j 0 := by rw [← Nat.mul_assoc, Nat.mul_comm B64]
    have e2 : B64 * (B64 ^ j * x) = B64 ^ j * B64 * x := by rw [← Nat.mul_assoc, Nat.mul_comm B64]
    omega

theorem val_zeros : ∀ N : Nat, val (List.replicate N 0) = 0
  | 0 => rfl
  | N + 1 => by simp [List.replicate_succ, val, val_zeros N]

theorem mul64_ex (x y : Nat) (hx : x < B64) (hy : y < B64) : ∃ h0 lo : Nat, (∀ H, Has 109 [.int .u64 (x : Int), .int .u64 (y : Int)] H (.tup [.int .u64 (h0 : Int), .int .u64 (lo : Int)]) H) ∧ lo < B64 ∧ lo + B64 * h0 = x * y :=
  ⟨_, _, fun H => mul64_has x y hx hy H, Nat.mod_lt _ (show 0 < B64 by decide), Nat.mod_add_div _ _⟩
theorem add64_ex (x y c : Nat) (hc : c ≤ 1) : ∃ s d : Nat, (∀ H, Has 108 [.int .u64 (x : Int), .int .u64 (y : Int), .int .u64 (c : Int)] H (.tup [.int .u64 (s : Int), .int .u64 (d : Int)]) H) ∧ s < B64 ∧ s + B64 * d = x + y + c :=
  ⟨_, _, fun H => add64_has x y c hc H, Nat.mod_lt _ (show 0 < B64 by decide), Nat.mod_add_div _ _⟩
theorem mul_limb {x y o c h0 lo s1 c1 s2 c2 : Nat} (hx : x < B64) (hy : y < B64) (ho : o < B64) (hc : c < B64) (h1 : lo + B64 * h0 = x * y) (h2 : s1 + B64 * c1 = lo + o + 0) (h3 : s2 + B64 * c2 = s1 + c + 0) :
    h0 + c1 + c2 < B64 ∧ s2 + B64 * (h0 + c1 + c2) = x * y + o + c := by
  have e : s2 + B64 * (h0 + c1 + c2) = x * y + o + c := by rw [Nat.mul_add, Nat.mul_add]; omega
  refine ⟨?_, e⟩
  have hp : x * y ≤ (B64 - 1) * (B64 - 1) := Nat.mul_le_mul (by omega) (by omega)
  have hq : (B64 - 1) * (B64 - 1) + (B64 - 1) + (B64 - 1) < B64 * B64 := by decide
  have : B64 * (h0 + c1 + c2) < B64 * B64 := by omega
  exact Nat.lt_of_mul_lt_mul_left this

set_option maxRecDepth 100000 in
theorem mul_np (n m : Nat) (hn : Fit n) (hm : Fit m) (H : Heap) : Has 62 [.obj (.np n), .obj (.np m)] H (.obj (.np (n * m))) H := by
  unfold Fit at hn hm
  refine does_pure s0 (show S0.fn 62 = some Tryz.f62 by kernel_rfl) rfl (by kernel_rfl) (Nat.le_of_ble_eq_true rfl) rfl rfl ?_
  refine W.seq (W.region ?_)
  refine WO.op rfl rfl (WO.nil (W.seq (W.region ?_)))
  refine WO.op rfl rfl ?_
  refine WO.call rfl (limbs_np n _) rfl ?_
  refine WO.op rfl rfl ?_
  refine WO.call rfl (limbs_np m _) rfl ?_
  have tp := slu_np n
  have tq := slu_np m
  have hdn := dig_lims n
  have hdm := dig_lims m
  rw [show n * m = val (lims n) * val (lims m) by rw [val_lims, val_lims]]
  generalize hP : (AVal.isl (limbs n) 0 (limbs n).length none true) = vp at *
  generalize hQ : (AVal.isl (limbs m) 0 (limbs m).length none true) = vq at *
  generalize lims n = a at *
  generalize lims m = b at *
  refine WO.op rfl rfl ?_
  refine WO.op rfl rfl (WO.nil (W.seq (W.region ?_)))
  refine WO.op rfl rfl ?_
  refine WO.op ((tp _).lenG rfl rfl rfl) rfl ?_
  refine WO.op rfl rfl ?_
  refine WO.op ((tq _).lenG rfl rfl rfl) rfl ?_
  refine WO.as (v' := .int .i64 ((a.length + b.length : Nat) : Int)) rfl rfl (int_i64 (by omega) (by omega)) ?_
  refine WO.op (G.make (l := a.length + b.length) (c := a.length + b.length) rfl rfl tU rfl tu rfl (by omega) (by show (a.length + b.length) * 8 ≤ _; omega) (by omega)) rfl ?_
  refine WO.op rfl rfl (WO.nil (W.seq (W.seq (W.region ?_))))
  refine WO.op rfl rfl ?_
  refine WO.op ((tp _).lenG rfl rfl rfl) rfl ?_
  refine WO.op rfl rfl (WO.nil (W.block ?_))
  generalize hN : a.length + b.length = N at *
  refine W.heq (H' := [.cells (u64s (List.replicate N 0)) 97]) (by simp [u64s]) ?_
  refine W.fits (F' := fr [(5, vp), (6, vq), (7, .sl 0 0 N (some N) 1), (26, vp), (27, .int .i64 (a.length : Int)), (28, .int .i64 ((0 : Nat) : Int))]) (fits_fr ⟨rfl, rfl, rfl, rfl, rfl, rfl, trivial⟩) ?_
  refine W.loopI (α := Nat × List Nat) (fun s => s.1 ≤ a.length ∧ s.2.length = N ∧ Dig s.2 ∧ val s.2 = val (a.take s.1) * val b ∧ ∀ j, s.1 + b.length ≤ j → s.2.getD j 0 = 0) (fun s => a.length - s.1)
    (fun s => fr [(5, vp), (6, vq), (7, .sl 0 0 N (some N) 1), (26, vp), (27, .int .i64 (a.length : Int)), (28, .int .i64 (s.1 : Int))]) (fun s => [.cells (u64s s.2) 97]) ?_ (0, List.replicate N 0)
    ⟨Nat.zero_le _, by simp, Dig.replicate _ (by decide), ?_, ?_⟩
  rintro ⟨i, l⟩ ⟨hi, hl, hd, hv, hz⟩
  simp only at hi hl hd hv hz
  refine W.seq (W.region ?_)
  by_cases hia : i < a.length
  · refine WO.as (v' := .bool true) rfl rfl (bdT (by simp only; omega)) (WO.nil (W.seq (W.cond (b := true) rfl (fun _ => W.skip ?_) (fun h => by cases h))))
    obtain ⟨a1, a2, a3, ha1, ha2, ha3⟩ := (tp [.cells (u64s l) 97]).at_ i hia
    refine W.seq (W.block (W.seq (W.region ?_)))
    refine WO.op rfl rfl ?_
    refine WO.op (SlU.idxG rfl rfl ha1) rfl ?_
    refine WO.op (SlU.loadG rfl tu rfl ha2 ha3) rfl ?_
    refine WO.op rfl rfl ?_
    refine WO.op rfl rfl (WO.nil (W.seq (W.region ?_)))
    have hx : a.getD i 0 < B64 := hdn.getD i
    have htk : val (a.take (i + 1)) = val (a.take i) + B64 ^ i * a.getD i 0 := val_take_succ hia
    generalize a.getD i 0 = x at *
    refine WO.op rfl rfl (WO.nil (W.seq (W.seq (W.region ?_))))
    refine WO.op rfl rfl ?_
    refine WO.op ((tq _).lenG rfl rfl rfl) rfl ?_
    refine WO.op rfl rfl (WO.nil (W.block ?_))
    refine W.fits (F' := fr [(5, vp), (6, vq), (7, .sl 0 0 N (some N) 1), (26, vp), (27, .int .i64 (a.length : Int)), (28, .int .i64 (i : Int)), (8, .int .i64 (i : Int)), (9, .int .u64 (x : Int)), (10, .int .u64 ((0 : Nat) : Int)), (33, vq), (34, .int .i64 (b.length : Int)), (35, .int .i64 ((0 : Nat) : Int))]) (fits_fr ⟨rfl, rfl, rfl, rfl, rfl, rfl, rfl, rfl, rfl, rfl, rfl, rfl, trivial⟩) ?_
    refine W.loopI (α := Nat × List Nat × Nat) (fun s => s.1 ≤ b.length ∧ s.2.1.length = N ∧ Dig s.2.1 ∧ s.2.2 < B64 ∧ val s.2.1 + B64 ^ (i + s.1) * s.2.2 = val (a.take i) * val b + B64 ^ i * x * val (b.take s.1) ∧ ∀ j, i + b.length ≤ j → s.2.1.getD j 0 = 0) (fun s => b.length - s.1)
      (fun s => fr [(5, vp), (6, vq), (7, .sl 0 0 N (some N) 1), (26, vp), (27, .int .i64 (a.length : Int)), (28, .int .i64 (i : Int)), (8, .int .i64 (i : Int)), (9, .int .u64 (x : Int)), (10, .int .u64 (s.2.2 : Int)), (33, vq), (34, .int .i64 (b.length : Int)), (35, .int .i64 (s.1 : Int))]) (fun s => [.cells (u64s s.2.1) 97]) ?_ (0, l, 0)
      ⟨Nat.zero_le _, hl, hd, by simp only; unfold B64; omega, by simp [val, hv], hz⟩
    rintro ⟨k, l2, c⟩ ⟨hk, hl2, hd2, hc, hv2, hz2⟩
    simp only at hk hl2 hd2 hc hv2 hz2
    refine W.seq (W.region ?_)
    by_cases hkb : k < b.length
    · refine WO.as (v' := .bool true) rfl rfl (bdT (by simp only; omega)) (WO.nil (W.seq (W.cond (b := true) rfl (fun _ => W.skip ?_) (fun h => by cases h))))
      obtain ⟨b1, b2, b3, hb1, hb2, hb3⟩ := (tq [.cells (u64s l2) 97]).at_ k hkb
      have hy : b.getD k 0 < B64 := hdm.getD k
      have htb : val (b.take (k + 1)) = val (b.take k) + B64 ^ k * b.getD k 0 := val_take_succ hkb
      have ho : l2.getD (i + k) 0 < B64 := hd2.getD (i + k)
      obtain ⟨h0, lo, hmul, hlo, q1⟩ := mul64_ex x (b.getD k 0) hx hy
      obtain ⟨s1, c1, hadd1, hs1, q2⟩ := add64_ex lo (l2.getD (i + k) 0) 0 (by omega)
      obtain ⟨s2, c2, hadd2, hs2, q3⟩ := add64_ex s1 c 0 (by omega)
      obtain ⟨m2, m3⟩ := mul_limb hx hy ho hc q1 q2 q3
      clear q1 q2 q3
      have hB : B64 = 18446744073709551616 := rfl
      refine W.seq (W.block (W.seq (W.region ?_)))
      refine WO.op rfl rfl ?_
      refine WO.op (SlU.idxG rfl rfl hb1) rfl ?_
      refine WO.op (SlU.loadG rfl tu rfl hb2 hb3) rfl ?_
      refine WO.op rfl rfl ?_
      refine WO.op rfl rfl (WO.nil (W.seq (W.region ?_)))
      refine WO.op rfl rfl ?_
      refine WO.op rfl rfl ?_
      refine WO.call rfl (hmul _) rfl ?_
      refine WO.op rfl rfl ?_
      refine WO.op rfl rfl ?_
      refine WO.op rfl rfl ?_
      refine WO.op rfl rfl ?_
      refine WO.op rfl rfl (WO.nil (W.seq (W.region ?_)))
      refine WO.op rfl rfl (WO.nil (W.seq (W.region ?_)))
      refine WO.op rfl rfl ?_
      refine WO.op rfl rfl ?_
      refine WO.op rfl rfl ?_
      refine WO.op rfl rfl ?_
      refine WO.as (v' := .int .i64 ((i + k : Nat) : Int)) rfl rfl (int_i64 (by omega) (by omega)) ?_
      refine WO.op (G.idx_sl rfl rfl tU rfl tu rfl (by omega) (by omega)) rfl ?_
      refine WO.op (G.load_ptr rfl tu rfl rfl (u64s_at (by simp only; omega))) rfl ?_
      refine WO.call rfl (hadd1 _) rfl ?_
      refine WO.op rfl rfl ?_
      refine WO.op rfl rfl ?_
      refine WO.op rfl rfl ?_
      refine WO.op rfl rfl ?_
      refine WO.op rfl rfl (WO.nil (W.seq (W.region ?_)))
      refine WO.op rfl rfl ?_
      refine WO.op rfl rfl ?_
      refine WO.as (v' := .int .u64 ((h0 + c1 : Nat) : Int)) rfl rfl (int_u64 (by omega) (by omega)) ?_
      refine WO.op rfl rfl (WO.nil (W.seq (W.region ?_)))
      refine WO.op rfl rfl ?_
      refine WO.op rfl rfl ?_
      refine WO.call rfl (hadd2 _) rfl ?_
      refine WO.op rfl rfl ?_
      refine WO.op rfl rfl ?_
      refine WO.op rfl rfl ?_
      refine WO.op rfl rfl ?_
      refine WO.op rfl rfl (WO.nil (W.region ?_))
      refine WO.op rfl rfl ?_
      refine WO.op rfl rfl ?_
      refine WO.op rfl rfl ?_
      refine WO.as (v' := .int .i64 ((i + k : Nat) : Int)) rfl rfl (int_i64 (by omega) (by omega)) ?_
      refine WO.op rfl rfl ?_
      refine WO.op rfl rfl ?_
      refine WO.op rfl rfl ?_
      refine WO.as (v' := .int .u64 ((h0 + c1 + c2 : Nat) : Int)) rfl rfl (int_u64 (by omega) (by omega)) ?_
      refine WO.op (G.idx_sl rfl rfl tU rfl tu rfl (by omega) (by omega)) rfl ?_
      refine WO.op (G.store_u64 rfl rfl tu rfl rfl (by simp only; omega)) rfl ?_
      refine WO.op rfl rfl (WO.nil (W.region ?_))
      refine WO.as (v' := .int .i64 ((k + 1 : Nat) : Int)) rfl rfl (int_i64 (by omega) (by omega)) ?_
      refine WO.op rfl rfl (WO.nil ⟨(k + 1, l2.set (i + k) s2, h0 + c1 + c2), ⟨by simp only; omega, by simpa using hl2, hd2.set _ hs2, m2, ?_, ?_⟩, by simp only; omega, fits_fr ⟨rfl, rfl, rfl, rfl, rfl, rfl, rfl, rfl, rfl, rfl, rfl, rfl, trivial⟩, rfl⟩)
      · have hs := val_set l2 (i + k) s2 (by omega)
        simp only
        rw [htb]
        generalize h0 + c1 + c2 = cc at *
        have e1 : B64 ^ (i + (k + 1)) * cc = B64 ^ (i + k) * (B64 * cc) := by rw [← Nat.add_assoc, Nat.pow_succ, Nat.mul_assoc]
        have e2 := congrArg (B64 ^ (i + k) * ·) m3
        simp only [Nat.mul_add] at e2
        have e3 : B64 ^ (i + k) * (x * b.getD k 0) = B64 ^ i * x * (B64 ^ k * b.getD k 0) := by
          rw [Nat.pow_add]
          simp only [Nat.mul_assoc, Nat.mul_left_comm, Nat.mul_comm]
        rw [Nat.mul_add, e1]
        omega
      · intro j hj
        simp only
        rw [List.getD_eq_getElem?_getD, List.getElem?_set_ne (by omega), ← List.getD_eq_getElem?_getD]
        exact hz2 j hj
    · have hke : k = b.length := by omega
      subst hke
      rw [List.take_length] at hv2
      refine WO.as (v' := .bool false) rfl rfl (bdF (by simp only; omega)) (WO.nil (W.seq (W.cond (b := false) rfl (fun h => by cases h) (fun _ => W.exit (W.region ?_)))))
      refine WO.op rfl rfl ?_
      refine WO.op rfl rfl ?_
      refine WO.op rfl rfl ?_
      refine WO.op ((tq _).lenG rfl rfl rfl) rfl ?_
      refine WO.as (v' := .int .i64 ((i + b.length : Nat) : Int)) rfl rfl (int_i64 (by omega) (by omega)) ?_
      refine WO.op rfl rfl ?_
      refine WO.op (G.idx_sl rfl rfl tU rfl tu rfl (by omega) (by omega)) rfl ?_
      refine WO.op (G.store_u64 rfl rfl tu rfl rfl (by simp only; omega)) rfl (WO.nil (W.region ?_))
      refine WO.as (v' := .int .i64 ((i + 1 : Nat) : Int)) rfl rfl (int_i64 (by omega) (by omega)) ?_
      refine WO.op rfl rfl (WO.nil ⟨(i + 1, l2.set (i + b.length) c), ⟨by simp only; omega, by simpa using hl2, hd2.set _ hc, ?_, ?_⟩, by simp only; omega, fits_fr ⟨rfl, rfl, rfl, rfl, rfl, rfl, trivial⟩, rfl⟩)
      · have hs := val_set l2 (i + b.length) c (by omega)
        rw [hz2 _ (Nat.le_refl _), Nat.mul_zero, Nat.add_zero] at hs
        simp only
        rw [hs, hv2, htk, Nat.add_mul]
      · intro j hj
        simp only
        rw [List.getD_eq_getElem?_getD, List.getElem?_set_ne (by simp only at hj; omega), ← List.getD_eq_getElem?_getD]
        exact hz2 j (by simp only at hj; omega)
  · have hie : i = a.length := by omega
    subst hie
    rw [List.take_length] at hv
    refine WO.as (v' := .bool false) rfl rfl (bdF (by simp only; omega)) (WO.nil (W.seq (W.cond (b := false) rfl (fun h => by cases h) (fun _ => W.exit ?_))))
    refine W.seq (W.region ?_)
    refine WO.op rfl rfl ?_
    refine WO.call rfl (made_sl 0 l N N _ 97 rfl (by omega) (by omega) (by omega)) rfl ?_
    refine WO.op rfl rfl (WO.nil (W.ret ⟨trivial, _, rfl, ?_⟩))
    refine seals_np rfl (by have := trimN_le l N; simp only; omega) ?_
    exact trim_of hd hl.symm hv
  · simp only [List.take_zero, val, Nat.zero_mul]
    exact val_zeros N
  · intro j _
    simp only
    rw [List.getD_eq_getElem?_getD, List.getElem?_replicate]
    split <;> rfl
end
end Go.AM.C

/- Contracts, 23: num: Mul. -/
namespace Go.AM.C
open Go.Proofs
noncomputable section
set_option linter.unusedVariables false
set_option linter.unusedSimpArgs false

theorem sign_mul_lt (x y : Int) : x.sign * y.sign < 0 ↔ x * y < 0 := by
  rw [← Int.sign_mul]
  exact sign_lt
theorem sign_range (x : Int) : x.sign = -1 ∨ x.sign = 0 ∨ x.sign = 1 := by
  rcases Int.lt_trichotomy x 0 with h | h | h
  · exact .inl (Int.sign_eq_neg_one_of_neg h)
  · subst h; exact .inr (.inl rfl)
  · exact .inr (.inr (Int.sign_eq_one_of_pos h))

theorem mulz {u v : AVal} {x y : Int} (hu : IsZ u x) (hv : IsZ v y) (hx : FitZ x) (hy : FitZ y) (H : Heap) : Has 156 [u, v] H (.obj (.zp (x * y))) H := by
  obtain ⟨b, hb⟩ : ∃ b, b = decide (x * y < 0) := ⟨_, rfl⟩
  have hres : x * y = sz b (x.natAbs * y.natAbs) := by
    rw [← Int.natAbs_mul]
    unfold sz
    by_cases h : x * y < 0
    · rw [hb, decide_eq_true h]; simp only [cond_true]; omega
    · rw [hb, decide_eq_false h]; simp only [cond_false]; omega
  refine does_pure s0 (show S0.fn 156 = some Tryz.f156 by kernel_rfl) rfl (by kernel_rfl) (Nat.le_of_ble_eq_true rfl) (by simp [hu.cl, hv.cl]) rfl ?_
  refine W.seq (W.region ?_)
  refine WO.op rfl rfl (WO.nil (W.seq (W.region ?_)))
  refine WO.op rfl rfl ?_
  refine WO.call rfl (signz hu _) rfl ?_
  refine WO.op rfl rfl ?_
  refine WO.call rfl (signz hv _) rfl ?_
  refine WO.as (v' := .int .i64 (x.sign * y.sign)) rfl rfl (int_i64 ?_ rfl) ?_
  · rcases sign_range x with h | h | h <;> rcases sign_range y with k | k | k <;> rw [h, k] <;> decide
  refine WO.as (v' := .bool b) rfl rfl ((bdE (sign_mul_lt x y)).trans (by rw [hb])) ?_
  refine WO.op rfl rfl ?_
  refine WO.call rfl (absz hu _) rfl ?_
  refine WO.op rfl rfl ?_
  refine WO.call rfl (absz hv _) rfl ?_
  refine WO.call rfl (mul_np _ _ hx hy _) rfl ?_
  refine WO.call rfl (new_zp _ _ _) rfl ?_
  refine WO.op rfl rfl (WO.nil (W.ret ⟨trivial, _, rfl, ?_⟩))
  rw [hres]
  simp only [sz_abs]
  exact Seals.same _ rfl
end
end Go.AM.C

/- Contracts, 18: what closed runs go by: numbers. -/
namespace Go.AM.C
open Go.Proofs
noncomputable section
set_option linter.unusedVariables false
set_option linter.unusedSimpArgs false

noncomputable def memN : List Nat → Nat → Bool
  | [], _ => false
  | a :: l, n => bif Nat.beq a n then true else memN l n
/-- Functions that look at memory that others write. -/
noncomputable def impureL : List Nat := [9, 37, 187, 189, 190, 204, 205, 347, 348, 362]
/-- Types whose boxes are written. -/
noncomputable def writtenL : List Nat := [91, 144, 147, 131, 29, 328]
noncomputable def SC (l : List Ent) : Sg := mkS Tryz.prog (tiOf Tryz.prog) (memN writtenL) globF pinF (fun f => !memN impureL f) true l
theorem sc_sound {l : List Ent} (h : AllE Tryz.prog (SC l) l) : Sound Tryz.prog (SC l) := mkS_sound mixed (fun t i h => h) h globF_ok
theorem sc_glob (l : List Ent) : (SC l).glob = S0.glob := (show (SC l).glob = globF from rfl).trans (show globF = S0.glob from rfl)
theorem sc_pin (l : List Ent) : (SC l).pin = S0.pin := (show (SC l).pin = pinF from rfl).trans (show pinF = S0.pin from rfl)
theorem Has.sc {l : List Ent} {f : FuncId} {args : List AVal} {H H' : Heap} {v : AVal} (h : Has f args H v H') : DoesC Tryz.prog (SC l) f args H v H' := DoesC.glob (sc_glob l) (sc_pin l) h
theorem Has.un {l : List Ent} {f : FuncId} {args : List AVal} {H H' : Heap} {v : AVal} (h : DoesC Tryz.prog (SC l) f args H v H') : Has f args H v H' := DoesC.glob (sc_glob l).symm (sc_pin l).symm h

noncomputable def natSm (n : Nat) : Bool := Nat.blt n.log2 68719476736
theorem natSm_fit {n : Nat} (h : natSm n = true) : Fit n := fit_of_log (by simpa [natSm, Nat.blt_eq] using h)
noncomputable def npV (n : Nat) : Option AVal := fNat n fun n => some (.obj (.np n))
theorem npV_eq (n : Nat) : npV n = some (.obj (.np n)) := by unfold npV; rw [fNat_eq]

noncomputable def zeroG (n : Nat) : Option AVal := some (.bool (Nat.beq n 0))
noncomputable def smallG (n : Nat) : Option AVal := bif Nat.blt n 18446744073709551616 then some (.tup [.int .u64 (n : Int), .bool true]) else some (.tup [.int .u64 0, .bool false])
noncomputable def limbsX : Ext := fun args H => match args with
  | [.obj (.np n)] => some (.isl (limbs n) 0 (limbs n).length none true, H)
  | _ => none
noncomputable def cmpG (n m : Nat) : Option AVal := bif natSm n && natSm m then (bif Nat.blt n m then some (.int .i64 (-1)) else bif Nat.blt m n then some (.int .i64 1) else some (.int .i64 0)) else none
noncomputable def addG (n m : Nat) : Option AVal := bif natSm n && natSm m then npV (Nat.add n m) else none
noncomputable def mulG (n m : Nat) : Option AVal := bif natSm n && natSm m then npV (Nat.mul n m) else none
noncomputable def subG (n m : Nat) : Option AVal := bif natSm n && natSm m then (bif Nat.blt n m then some (.tup [.nilp, errA 2]) else fNat (Nat.sub n m) fun d => some (.tup [.obj (.np d), .nili])) else none
noncomputable def ofX : Ext := fun args H => match args with
  | [.int .u64 (.ofNat k)] => bif Nat.blt k 18446744073709551616 then (match npV k with
    | some v => some (v, H)
    | none => none) else none
  | _ => none

theorem zeroG_ok (n : Nat) (v : AVal) (h : zeroG n = some v) (H : Heap) : Has 59 [.obj (.np n)] H v H := by
  unfold zeroG at h
  cases h
  have : Nat.beq n 0 = decide (n = 0) := by rw [Bool.eq_iff_iff]; simp
  rw [this]
  exact zero_np n H
theorem blt_lt {n m : Nat} : Nat.blt n m = true ↔ n < m := by rw [Nat.blt_eq]
theorem blt_ge {n m : Nat} : Nat.blt n m = false ↔ ¬ n < m := by rw [← Bool.not_eq_true, blt_lt]
theorem smallG_ok (n : Nat) (v : AVal) (h : smallG n = some v) (H : Heap) : Has 68 [.obj (.np n)] H v H := by
  have hs := small_np n H
  unfold smallG at h
  cases hb : Nat.blt n 18446744073709551616 with
  | true =>
    rw [hb] at h
    cases h
    have : n < B64 := blt_lt.1 hb
    rw [if_pos this, decide_eq_true this] at hs
    exact hs
  | false =>
    rw [hb] at h
    cases h
    have : ¬ n < B64 := blt_ge.1 hb
    rw [if_neg this, decide_eq_false this] at hs
    exact hs
theorem cmpG_ok (n m : Nat) (v : AVal) (h : cmpG n m = some v) (H : Heap) : Has 67 [.obj (.np n), .obj (.np m)] H v H := by
  unfold cmpG at h
  cases hb : natSm n && natSm m with
  | false => rw [hb] at h; cases h
  | true =>
    rw [hb] at h
    rw [Bool.and_eq_true] at hb
    have hc := cmp_np n m (natSm_fit hb.1) (natSm_fit hb.2) H
    unfold cmpN at hc
    simp only [cond_true] at h
    cases h1 : Nat.blt n m with
    | true => rw [h1] at h; cases h; rw [if_pos (blt_lt.1 h1)] at hc; exact hc
    | false =>
      rw [h1, cond_false] at h
      rw [if_neg (blt_ge.1 h1)] at hc
      cases h2 : Nat.blt m n with
      | true => rw [h2] at h; cases h; rw [if_pos (blt_lt.1 h2)] at hc; exact hc
      | false => rw [h2] at h; cases h; rw [if_neg (blt_ge.1 h2)] at hc; exact hc
theorem addG_ok (n m : Nat) (v : AVal) (h : addG n m = some v) (H : Heap) : Has 58 [.obj (.np n), .obj (.np m)] H v H := by
  unfold addG at h
  cases hb : natSm n && natSm m with
  | false => rw [hb] at h; cases h
  | true =>
    rw [hb, cond_true, npV_eq] at h
    rw [Bool.and_eq_true] at hb
    cases h
    exact add_np n m (natSm_fit hb.1) (natSm_fit hb.2) H
theorem mulG_ok (n m : Nat) (v : AVal) (h : mulG n m = some v) (H : Heap) : Has 62 [.obj (.np n), .obj (.np m)] H v H := by
  unfold mulG at h
  cases hb : natSm n && natSm m with
  | false => rw [hb] at h; cases h
  | true =>
    rw [hb, cond_true, npV_eq] at h
    rw [Bool.and_eq_true] at hb
    cases h
    exact mul_np n m (natSm_fit hb.1) (natSm_fit hb.2) H
theorem subG_ok (n m : Nat) (v : AVal) (h : subG n m = some v) (H : Heap) : Has 64 [.obj (.np n), .obj (.np m)] H v H := by
  unfold subG at h
  cases hb : natSm n && natSm m with
  | false => rw [hb] at h; cases h
  | true =>
    rw [hb, cond_true] at h
    rw [Bool.and_eq_true] at hb
    have hc := sub_np n m (natSm_fit hb.1) (natSm_fit hb.2) H
    cases h1 : Nat.blt n m with
    | true => rw [h1] at h; cases h; rw [if_pos (blt_lt.1 h1)] at hc; exact hc
    | false => rw [h1, cond_false, fNat_eq] at h; cases h; rw [if_neg (blt_ge.1 h1)] at hc; exact hc
theorem limbsX_ok (S : Sg) (hg : S.glob = S0.glob) (hp : S.pin = S0.pin) : ExtAt Tryz.prog S 107 limbsX := by
  intro args H v H' hx
  unfold limbsX at hx
  split at hx
  · cases hx; exact DoesC.glob hg hp (limbs_np _ _)
  · cases hx
theorem ofX_ok (S : Sg) (hg : S.glob = S0.glob) (hp : S.pin = S0.pin) : ExtAt Tryz.prog S 57 ofX := by
  intro args H v H' hx
  unfold ofX at hx
  split at hx
  · rename_i k
    cases hb : Nat.blt k 18446744073709551616 with
    | false => rw [hb] at hx; cases hx
    | true =>
      rw [hb, cond_true, npV_eq] at hx
      cases hx
      exact DoesC.glob hg hp (of_np k (blt_lt.1 hb) _)
  · cases hx

/-! #### num -/
noncomputable def intOf : AVal → Option Int
  | .obj (.zp z) => some z
  | .nilp => some 0
  | .ip [.bool b, v] 0 true => match natOf v with
    | some n => match n with
      | 0 => bif b then none else some 0
      | m + 1 => bif b then some (.negSucc m) else some (.ofNat (Nat.succ m))
    | none => none
  | _ => none
theorem intOf_wk {v : AVal} {z : Int} (h : intOf v = some z) : ∃ v0, IsZ v0 z ∧ Wk v v0 := by
  unfold intOf at h
  split at h
  · cases h; exact ⟨_, IsZ.mk _, Wk.refl _⟩
  · cases h; exact ⟨_, IsZ.nil, Wk.refl _⟩
  · rename_i b v
    have step : ∀ {n : Nat}, natOf v = some n → ∀ {z : Int}, b = decide (z < 0) → n = z.natAbs → Wk (.ip [.bool b, v] 0 true) (.obj (.zp z)) := fun hn z hb hz => by
      refine Wk.trans ?_ (wk_zp (n := _) hb hz)
      refine Wk.ip (cl' := true) rfl (fun j x y hx hy => ?_) (fun _ a ha => ?_)
      · match j with
        | 0 => cases hx; cases hy; exact Wk.refl _
        | 1 => cases hx; cases hy; exact natOf_wk hn
        | j + 2 => simp at hx
      · simp only [List.mem_cons, List.not_mem_nil, or_false] at ha
        rcases ha with rfl | rfl <;> rfl
    split at h
    · rename_i n hn
      split at h
      · cases b with
        | true => cases h
        | false => cases h; exact ⟨_, IsZ.mk _, step hn rfl rfl⟩
      · rename_i m
        cases b with
        | true => cases h; exact ⟨_, IsZ.mk _, step hn (by simp) rfl⟩
        | false => cases h; exact ⟨_, IsZ.mk _, step hn (by symm; rw [decide_eq_false_iff_not]; show ¬ ((m + 1 : Nat) : Int) < 0; omega) rfl⟩
    · cases h
  · cases h
noncomputable def zpV (z : Int) : Option AVal := fInt z fun z => some (.obj (.zp z))
theorem zpV_eq (z : Int) : zpV z = some (.obj (.zp z)) := by unfold zpV; rw [fInt_eq]
noncomputable def int1 (g : Int → Option AVal) : Ext := fun args H => match args with
  | [x] => match intOf x with
    | some n => match g n with
      | some v => some (v, H)
      | none => none
    | none => none
  | _ => none
noncomputable def int2 (g : Int → Int → Option AVal) : Ext := fun args H => match args with
  | [x, y] => match intOf x with
    | some n => match intOf y with
      | some m => match g n m with
        | some v => some (v, H)
        | none => none
      | none => none
    | none => none
  | _ => none
theorem int1_ok {S : Sg} {f : FuncId} {g : Int → Option AVal} (h : ∀ x n v, g n = some v → IsZ x n → ∀ H, DoesC Tryz.prog S f [x] H v H) : ExtAt Tryz.prog S f (int1 g) := by
  intro args H v H' hx
  unfold int1 at hx
  split at hx
  · split at hx
    · rename_i n hn
      split at hx
      · rename_i v' hv
        cases hx
        obtain ⟨v0, h0, hw⟩ := intOf_wk hn
        exact DoesC.arg1 hw (h v0 n v hv h0 H)
      · cases hx
    · cases hx
  · cases hx
theorem int2_ok {S : Sg} {f : FuncId} {g : Int → Int → Option AVal} (h : ∀ x y n m v, g n m = some v → IsZ x n → IsZ y m → ∀ H, DoesC Tryz.prog S f [x, y] H v H) : ExtAt Tryz.prog S f (int2 g) := by
  intro args H v H' hx
  unfold int2 at hx
  split at hx
  · split at hx
    · rename_i n hn
      split at hx
      · rename_i m hm
        split at hx
        · rename_i v' hv
          cases hx
          obtain ⟨v0, h0, hw⟩ := intOf_wk hn
          obtain ⟨u0, k0, kw⟩ := intOf_wk hm
          exact DoesC.arg2 hw kw (h v0 u0 n m v hv h0 k0 H)
        · cases hx
      · cases hx
    · cases hx
  · cases hx

noncomputable def absG (z : Int) : Option AVal := npV z.natAbs
noncomputable def signG (z : Int) : Option AVal := some (.int .i64 z.sign)
noncomputable def negG (z : Int) : Option AVal := zpV (-z)
noncomputable def zaddG (x y : Int) : Option AVal := bif smallB x && smallB y then zpV (x + y) else none
noncomputable def zsubG (x y : Int) : Option AVal := bif smallB x && smallB y then zpV (x - y) else none
noncomputable def zmulG (x y : Int) : Option AVal := bif smallB x && smallB y then zpV (x * y) else none
noncomputable def zcmpG (x y : Int) : Option AVal := bif smallB x && smallB y then some (.int .i64 (x - y).sign) else none
noncomputable def zsmallG (z : Int) : Option AVal := match small64 z with
  | true => some (.tup [.int .i64 z, .bool true])
  | false => some (.tup [.int .i64 0, .bool false])
noncomputable def zofX : Ext := fun args H => match args with
  | [.int .i64 z] => match small64 z with
    | true => match zpV z with
      | some v => some (v, H)
      | none => none
    | false => none
  | _ => none
noncomputable def znewX : Ext := fun args H => match args with
  | [.bool b, x] => match natOf x with
    | some n => match zpV (sz b n) with
      | some v => some (v, H)
      | none => none
    | none => none
  | _ => none
theorem zofX_ok (S : Sg) (hg : S.glob = S0.glob) (hp : S.pin = S0.pin) : ExtAt Tryz.prog S 60 zofX := by
  intro args H v H' hx
  unfold zofX at hx
  split at hx
  · rename_i z
    cases hb : small64 z with
    | false => rw [hb] at hx; cases hx
    | true =>
      rw [hb] at hx
      simp only [zpV_eq] at hx
      cases hx
      refine DoesC.glob hg hp (ofz z ?_ _)
      unfold small64 at hb
      rw [Bool.and_eq_true, decide_eq_true_eq, decide_eq_true_eq] at hb
      exact hb
  · cases hx
theorem znewX_ok (S : Sg) (hg : S.glob = S0.glob) (hp : S.pin = S0.pin) : ExtAt Tryz.prog S 69 znewX := by
  intro args H v H' hx
  unfold znewX at hx
  split at hx
  · rename_i b x
    split at hx
    · rename_i n hn
      simp only [zpV_eq] at hx
      cases hx
      exact DoesC.arg2 (Wk.refl _) (natOf_wk hn) (DoesC.glob hg hp (new_zp b n _))
    · cases hx
  · cases hx
theorem zcond {x y : Int} {o : Option AVal} {v : AVal} (h : (bif smallB x && smallB y then o else none) = some v) : FitZ x ∧ FitZ y ∧ o = some v := by
  cases hb : smallB x && smallB y with
  | false => rw [hb] at h; cases h
  | true =>
    rw [hb] at h
    rw [Bool.and_eq_true] at hb
    exact ⟨smallB_fit hb.1, smallB_fit hb.2, h⟩
theorem zsmallG_ok {x : AVal} {z : Int} {v : AVal} (h : zsmallG z = some v) (hx : IsZ x z) (H : Heap) : Has 70 [x] H v H := by
  have hs := smallz hx H
  unfold zsmallG at h
  unfold smallA at hs
  cases hb : small64 z with
  | true => rw [hb] at h hs; cases h; exact hs
  | false => rw [hb] at h hs; cases h; exact hs

noncomputable def qNo (x : Ext) (f : FuncId) : Ent := ⟨f, x, false, fun h => by cases h⟩
/-- What all closed runs go by. -/
noncomputable def base : List Ent := [
  qNo limbsX 107, qNo ofX 57, qNo (nat1 zeroG) 59, qNo (nat1 smallG) 68, qNo (nat2 cmpG) 67,
  qNo (nat2 mulG) 62, qNo (nat2 addG) 58, qNo (nat2 subG) 64,
  qNo zofX 60, qNo znewX 69, qNo (int1 absG) 61, qNo (int1 signG) 99, qNo (int1 negG) 97,
  qNo (int2 zaddG) 98, qNo (int2 zsubG) 227, qNo (int2 zmulG) 156, qNo (int2 zcmpG) 158, qNo (int1 zsmallG) 70,
  qNo add64X 108, qNo sub64X 113, qNo idxByteX 364, qNo cntByteX 270, qNo joinX 83, qNo repX 290, qNo codeX 47]
theorem base_ok (S : Sg) (hg : S.glob = S0.glob) (hp : S.pin = S0.pin) : AllE Tryz.prog S base :=
  ⟨limbsX_ok S hg hp, ofX_ok S hg hp, nat1_ok fun n v h H => DoesC.glob hg hp (zeroG_ok n v h H), nat1_ok fun n v h H => DoesC.glob hg hp (smallG_ok n v h H), nat2_ok fun n m v h H => DoesC.glob hg hp (cmpG_ok n m v h H),
   nat2_ok (g := mulG) fun n m v h H => DoesC.glob hg hp (mulG_ok n m v h H), nat2_ok (g := addG) fun n m v h H => DoesC.glob hg hp (addG_ok n m v h H), nat2_ok fun n m v h H => DoesC.glob hg hp (subG_ok n m v h H), zofX_ok S hg hp, znewX_ok S hg hp,
   int1_ok (g := absG) fun x n v h hx H => DoesC.glob hg hp (by unfold absG at h; rw [npV_eq] at h; cases h; exact absz hx H),
   int1_ok (g := signG) fun x n v h hx H => DoesC.glob hg hp (by unfold signG at h; cases h; exact signz hx H),
   int1_ok (g := negG) fun x n v h hx H => DoesC.glob hg hp (by unfold negG at h; rw [zpV_eq] at h; cases h; exact negz hx H),
   int2_ok (g := zaddG) fun x y n m v h hx hy H => DoesC.glob hg hp (by obtain ⟨h1, h2, h3⟩ := zcond h; rw [zpV_eq] at h3; cases h3; exact addz hx hy h1 h2 H),
   int2_ok (g := zsubG) fun x y n m v h hx hy H => DoesC.glob hg hp (by obtain ⟨h1, h2, h3⟩ := zcond h; rw [zpV_eq] at h3; cases h3; exact subz hx hy h1 h2 H),
   int2_ok (g := zmulG) fun x y n m v h hx hy H => DoesC.glob hg hp (by obtain ⟨h1, h2, h3⟩ := zcond h; rw [zpV_eq] at h3; cases h3; exact mulz hx hy h1 h2 H),
   int2_ok (g := zcmpG) fun x y n m v h hx hy H => DoesC.glob hg hp (by obtain ⟨h1, h2, h3⟩ := zcond h; cases h3; exact cmpz hx hy h1 h2 H),
   int1_ok (g := zsmallG) fun x n v h hx H => DoesC.glob hg hp (zsmallG_ok h hx H),
   addc_ok S, subb_ok S, idxX_ok S, cntX_ok S, joinX_ok S hg, repX_ok S hg, codeX_ok S hg hp, trivial⟩
end
end Go.AM.C

/- Contracts, 24: the ledger's books and All, as closed runs may use them. -/
namespace Go.AM.C
open Go.Proofs
noncomputable section
set_option linter.unusedVariables false
set_option linter.unusedSimpArgs false

noncomputable def pairsOf : List AVal → Option Posts
  | [] => some []
  | .str s :: .int .i64 a :: l => match pairsOf l with
    | some r => some ((s, a) :: r)
    | none => none
  | _ => none
theorem pairsOf_post : ∀ {n : Nat} {l : List AVal} {r : Posts}, l.length ≤ n → pairsOf l = some r → l = postC r
  | _, [], r, _, h => by cases h; rfl
  | n + 1, a :: l, r, hn, h => by
    unfold pairsOf at h
    split at h
    · rename_i e; cases e
    · rename_i s z l' e
      cases e
      split at h
      · rename_i r' hr
        cases h
        have := pairsOf_post (n := n) (l := l') (by simp at hn; omega) hr
        rw [this]
        rfl
      · cases h
    · cases h
theorem postC_at (l : Posts) : ∀ (j : Nat) (p : List UInt8 × Int), l[j]? = some p → (postC l)[j * 2]? = some (.str p.1) ∧ (postC l)[j * 2 + 1]? = some (iA p.2) := by
  induction l with
  | nil => intro j p h; simp at h
  | cons q l ih =>
    intro j p h
    have e : postC (q :: l) = .str q.1 :: iA q.2 :: postC l := rfl
    cases j with
    | zero => cases h; rw [e]; exact ⟨rfl, rfl⟩
    | succ j =>
      obtain ⟨h1, h2⟩ := ih j p (by simpa using h)
      rw [e, show (j + 1) * 2 = j * 2 + 1 + 1 by omega]
      exact ⟨h1, h2⟩

/-- Which postings a slice tells. -/
noncomputable def postsOf (H : Heap) : AVal → Option Posts
  | .nils => some []
  | .sl id off len cap 2 => match sliceCells H 2 (.sl id off len cap 2) with
    | some (cells, _) => pairsOf cells
    | none => none
  | .isl cells off len cap cl => match sliceCells H 2 (.isl cells off len cap cl) with
    | some (cells, _) => pairsOf cells
    | none => none
  | _ => none
theorem part_at {vs : List AVal} {off n : Nat} {l : Posts} (h : (vs.drop off).take n = postC l) {j : Nat} {p : List UInt8 × Int} (hp : l[j]? = some p) : vs[off + j * 2]? = some (.str p.1) ∧ vs[off + j * 2 + 1]? = some (iA p.2) := by
  obtain ⟨h1, h2⟩ := postC_at l j p hp
  rw [← h, List.getElem?_take] at h1 h2
  constructor
  · split at h1
    · rwa [List.getElem?_drop] at h1
    · cases h1
  · split at h2
    · rw [List.getElem?_drop] at h2
      rw [Nat.add_assoc]
      exact h2
    · cases h2
theorem postsOf_slp {H : Heap} {v : AVal} {l : Posts} (h : postsOf H v = some l) : SlP H v l := by
  unfold postsOf at h
  split at h
  · cases h
    exact ⟨fun H' _ => rfl, fun j p hj => by simp at hj⟩
  · rename_i id off len cap
    unfold sliceCells at h
    simp only at h
    split at h
    · rename_i cells k he
      split at he
      · rename_i vs ty hH
        split at he
        · rename_i hle
          simp only [Option.some.injEq, Prod.mk.injEq] at he
          obtain ⟨e1, _⟩ := he
          have hp := pairsOf_post (Nat.le_refl _) h
          rw [← e1] at hp
          have hlen : l.length = len := by have := congrArg List.length hp; rw [postC_len] at this; simp at this; omega
          have hid : id < H.length := (List.getElem?_eq_some_iff.1 hH).1
          refine ⟨fun H' hk => by rw [hlen]; rfl, fun j p hj => ?_⟩
          have hjl : j < len := by rw [← hlen]; exact (List.getElem?_eq_some_iff.1 hj).1
          obtain ⟨h1, h2⟩ := part_at hp hj
          refine ⟨.ptr id (off + j * 2), vs, off + j * 2, ?_, fun H' hk => ?_, h1, h2⟩
          · show (if ti40.size = 2 ∧ 0 ≤ (j : Int) ∧ (j : Int) < (len : Int) then fNat (off + (j : Int).toNat * 2) fun o => some (AVal.ptr id o) else none) = _
            rw [if_pos ⟨rfl, by omega, by omega⟩, fNat_eq, Int.toNat_natCast]
          · unfold rowAt
            simp only [hk id hid, hH]
        · cases he
      · cases he
    · cases h
  · rename_i cells off len cap cl
    unfold sliceCells at h
    simp only at h
    split at h
    · rename_i cs k he
      split at he
      · rename_i hle
        simp only [Option.some.injEq, Prod.mk.injEq] at he
        obtain ⟨e1, _⟩ := he
        have hp := pairsOf_post (Nat.le_refl _) h
        rw [← e1] at hp
        have hlen : l.length = len := by have := congrArg List.length hp; rw [postC_len] at this; simp at this; omega
        refine ⟨fun H' hk => by rw [hlen]; rfl, fun j p hj => ?_⟩
        have hjl : j < len := by rw [← hlen]; exact (List.getElem?_eq_some_iff.1 hj).1
        obtain ⟨h1, h2⟩ := part_at hp hj
        refine ⟨.ip cells (off + j * 2) cl, cells, off + j * 2, ?_, fun H' hk => rfl, h1, h2⟩
        show (if 0 ≤ (j : Int) ∧ (j : Int) < (len : Int) then fNat (off + (j : Int).toNat * ti40.size) fun o => some (AVal.ip cells o cl) else none) = _
        rw [if_pos ⟨by omega, by omega⟩, fNat_eq, Int.toNat_natCast]
        rfl
      · cases he
    · cases h
  · cases h

/-- Which balances a ledger's map tells. -/
noncomputable def zipOf : List AVal → List AVal → Option Posts
  | [], [] => some []
  | .str s :: ks, .int .i64 a :: vs => match zipOf ks vs with
    | some r => some ((s, a) :: r)
    | none => none
  | _, _ => none
theorem zipOf_ok : ∀ {ks vs : List AVal} {r : Posts}, zipOf ks vs = some r → ks = r.map (fun e => .str e.1) ∧ vs = r.map (fun e => iA e.2)
  | [], [], r, h => by cases h; exact ⟨rfl, rfl⟩
  | [], _ :: _, r, h => by cases h
  | a :: ks, vs, r, h => by
    unfold zipOf at h
    split at h
    · rename_i e; cases e
    · rename_i str ks' z vs' e
      cases e
      split at h
      · rename_i r' hr
        cases h
        obtain ⟨h1, h2⟩ := zipOf_ok hr
        rw [h1, h2]
        exact ⟨rfl, rfl⟩
      · cases h
    · cases h
noncomputable def mapOf : AVal → Option Posts
  | .nilm => some []
  | .imap ks vs true => zipOf ks vs
  | _ => none
theorem mapOf_is {v : AVal} {l : Posts} (h : mapOf v = some l) : IsM v l := by
  unfold mapOf at h
  split at h
  · cases h; exact .inr ⟨rfl, rfl⟩
  · obtain ⟨h1, h2⟩ := zipOf_ok h
    subst h1; subst h2
    exact .inl rfl
  · cases h

def memS : List UInt8 → List (List UInt8) → Bool
  | _, [] => false
  | s, t :: l => bytesEq s t || memS s l
def nodupS : List (List UInt8) → Bool
  | [] => true
  | s :: l => !memS s l && nodupS l
theorem bytesEq_refl : ∀ l : List UInt8, bytesEq l l = true
  | [] => rfl
  | a :: l => by unfold bytesEq; rw [bytesEq_refl l]; simp
theorem memS_of {s : List UInt8} : ∀ {l : List (List UInt8)}, s ∈ l → memS s l = true
  | t :: l, h => by
    unfold memS
    rcases List.mem_cons.1 h with rfl | h
    · rw [bytesEq_refl]; rfl
    · rw [memS_of h]; simp
theorem nodupS_ok : ∀ {l : List (List UInt8)}, nodupS l = true → l.Nodup
  | [], _ => List.nodup_nil
  | s :: l, h => by
    unfold nodupS at h
    rw [Bool.and_eq_true] at h
    rw [List.nodup_cons]
    refine ⟨fun hm => ?_, nodupS_ok h.2⟩
    rw [memS_of hm] at h
    cases h.1
noncomputable def okM (m : Posts) : Bool := nodupS (m.map (·.1)) && m.all fun e => small64 e.2
noncomputable def okP (l : Posts) : Bool := (l.all fun p => small64 p.2 && Nat.ble p.1.length 1048576) && Nat.ble l.length 1048576
theorem small_i64 {z : Int} (h : small64 z = true) : i64 z := by
  unfold small64 at h
  rw [Bool.and_eq_true, decide_eq_true_eq, decide_eq_true_eq] at h
  exact h

noncomputable def booksX : Ext := fun args H => match args with
  | [.ptr L off, ps, .bool undo] => match H[L]? with
    | some (.cells vs0 ty0) => match vs0[off]?, vs0[off + 1]? with
      | some src, some (.int .i64 cnt) => match mapOf src, postsOf H ps with
        | some m, some l => bif okM m && okP l && small64 cnt && small64 (cnt + 1) then
            some (errA (bookCode undo m l), H.set L (.cells (if bookCode undo m l = 0 then (vs0.set off (imapA (bookE m (sumsOf undo l)))).set (off + 1) (iA (cnt + 1)) else vs0) ty0)) else none
        | _, _ => none
      | _, _ => none
    | _ => none
  | _ => none
theorem booksX_ok (S : Sg) (hg : S.glob = S0.glob) (hp : S.pin = S0.pin) : ExtAt Tryz.prog S 46 booksX := by
  intro args H v H' hx
  unfold booksX at hx
  split at hx
  · rename_i L off ps undo
    split at hx
    · rename_i vs0 ty0 hL
      split at hx
      · rename_i src cnt h1 h2
        split at hx
        · rename_i m l hm hl
          cases hb : okM m && okP l && small64 cnt && small64 (cnt + 1) with
          | false => rw [hb] at hx; cases hx
          | true =>
            rw [hb] at hx
            cases hx
            simp only [Bool.and_eq_true] at hb
            obtain ⟨⟨⟨b1, b2⟩, b3⟩, b4⟩ := hb
            unfold okM at b1
            unfold okP at b2
            simp only [Bool.and_eq_true, List.all_eq_true] at b1 b2
            exact DoesC.glob hg hp (books undo m l src ps H L off vs0 ty0 cnt hL h1 (mapOf_is hm) h2 (nodupS_ok b1.1) (fun e he => small_i64 (b1.2 e he)) ⟨small_i64 b3, small_i64 b4⟩ (postsOf_slp hl)
              (fun p hp => ⟨small_i64 (b2.1 p hp).1, by have := Nat.le_of_ble_eq_true (b2.1 p hp).2; omega⟩) (by have := Nat.le_of_ble_eq_true b2.2; omega))
        · cases hx
      · cases hx
    · cases hx
  · cases hx

noncomputable def allX : Ext := fun args H => match args with
  | [.ptr L off] => match H[L]? with
    | some (.cells vs0 ty0) => match vs0[off]? with
      | some src => match mapOf src with
        | some m => bif nodupS (m.map (·.1)) && (m.all fun e => Nat.ble e.1.length 1048576) && Nat.ble m.length 1048576 then some (postsA (allE m), H) else none
        | none => none
      | none => none
    | _ => none
  | _ => none
theorem allX_ok (S : Sg) (hg : S.glob = S0.glob) (hp : S.pin = S0.pin) : ExtAt Tryz.prog S 20 allX := by
  intro args H v H' hx
  unfold allX at hx
  split at hx
  · rename_i L off
    split at hx
    · rename_i vs0 ty0 hL
      split at hx
      · rename_i src h1
        split at hx
        · rename_i m hm
          cases hb : nodupS (m.map (·.1)) && (m.all fun e => Nat.ble e.1.length 1048576) && Nat.ble m.length 1048576 with
          | false => rw [hb] at hx; cases hx
          | true =>
            rw [hb] at hx
            cases hx
            simp only [Bool.and_eq_true, List.all_eq_true] at hb
            exact DoesC.glob hg hp (ledger_all m src H L off vs0 ty0 hL h1 (mapOf_is hm) (nodupS_ok hb.1.1) (fun e he => by have := Nat.le_of_ble_eq_true (hb.1.2 e he); omega) (by have := Nat.le_of_ble_eq_true hb.2; omega))
        · cases hx
      · cases hx
    · cases hx
  · cases hx
end
end Go.AM.C

/- Contracts: ledger.New, Post, Undo, Balance, Len; same. -/
namespace Go.AM.C
open Go.Proofs
noncomputable section
set_option linter.unusedVariables false
set_option linter.unusedSimpArgs false

theorem tLg : S0.ty 91 = some ti91 := rfl
/-- Tables in which a ledger's box is one that is written. -/
abbrev SL : Sg := mkS Tryz.prog (tyOf tys) (fun t => Nat.beq t 91) globF pinF (fun _ => false) false []
theorem sl0 : Sound Tryz.prog SL := mkS_sound mixed (fun t i h => tyOf_ok tys_ok t i h) trivial globF_ok
theorem new_has (H : Heap) : Has 9 [] H (.ptr H.length 0) (H ++ [.cells [.nilm, iA 0] 91]) := by
  refine DoesC.glob (S := SL) rfl rfl ?_
  refine does_run sl0 (show SL.fn 9 = some Tryz.f9 by kernel_rfl) rfl (by kernel_rfl) (Nat.le_of_ble_eq_true rfl) ?_
  refine W.seq (W.region ?_)
  repeat refine WO.op rfl rfl ?_
  refine WO.nil (W.seq (W.region ?_))
  repeat refine WO.op rfl rfl ?_
  exact WO.nil (W.ret ⟨trivial, _, rfl, Wk.refl _, rfl⟩)

section
variable {H : Heap} {L : Nat} {src : AVal} {cnt : Int} {ty : TypeId} {m : Posts}

theorem post_has (hL : H[L]? = some (.cells [src, iA cnt] ty)) (hsrc : IsM src m) (hnd : (m.map (·.1)).Nodup) (hmb : ∀ e ∈ m, i64 e.2) (hcnt : i64 cnt ∧ i64 (cnt + 1)) {ps : AVal} {l : Posts} (hps : SlP H ps l)
    (hlb : ∀ p ∈ l, i64 p.2 ∧ p.1.length < 4611686018427387904) (hll : l.length < 4611686018427387904) :
    Has 15 [.ptr L 0, ps] H (errA (bookCode false m l)) (H.set L (.cells (if bookCode false m l = 0 then [imapA (bookE m (sumsOf false l)), iA (cnt + 1)] else [src, iA cnt]) ty)) := by
  have hb := books false m l src ps H L 0 [src, iA cnt] ty cnt hL rfl hsrc rfl hnd hmb hcnt hps hlb hll
  generalize bookCode false m l = C at *
  refine does_run s0 (show S0.fn 15 = some Tryz.f15 by kernel_rfl) rfl (by kernel_rfl) (Nat.le_of_ble_eq_true rfl) ?_
  refine W.seq (W.region ?_)
  repeat refine WO.op rfl rfl ?_
  refine WO.nil (W.seq (W.region ?_))
  refine WO.op rfl rfl ?_
  refine WO.op rfl rfl ?_
  refine WO.call rfl hb rfl ?_
  refine WO.op rfl rfl ?_
  exact WO.nil (W.ret ⟨trivial, _, rfl, Wk.refl _, rfl⟩)
theorem undo_has (hL : H[L]? = some (.cells [src, iA cnt] ty)) (hsrc : IsM src m) (hnd : (m.map (·.1)).Nodup) (hmb : ∀ e ∈ m, i64 e.2) (hcnt : i64 cnt ∧ i64 (cnt + 1)) {ps : AVal} {l : Posts} (hps : SlP H ps l)
    (hlb : ∀ p ∈ l, i64 p.2 ∧ p.1.length < 4611686018427387904) (hll : l.length < 4611686018427387904) :
    Has 16 [.ptr L 0, ps] H (errA (bookCode true m l)) (H.set L (.cells (if bookCode true m l = 0 then [imapA (bookE m (sumsOf true l)), iA (cnt + 1)] else [src, iA cnt]) ty)) := by
  have hb := books true m l src ps H L 0 [src, iA cnt] ty cnt hL rfl hsrc rfl hnd hmb hcnt hps hlb hll
  generalize bookCode true m l = C at *
  refine does_run s0 (show S0.fn 16 = some Tryz.f16 by kernel_rfl) rfl (by kernel_rfl) (Nat.le_of_ble_eq_true rfl) ?_
  refine W.seq (W.region ?_)
  repeat refine WO.op rfl rfl ?_
  refine WO.nil (W.seq (W.region ?_))
  refine WO.op rfl rfl ?_
  refine WO.op rfl rfl ?_
  refine WO.call rfl hb rfl ?_
  refine WO.op rfl rfl ?_
  exact WO.nil (W.ret ⟨trivial, _, rfl, Wk.refl _, rfl⟩)
theorem balance_has {r : List AVal} (hL : H[L]? = some (.cells (src :: r) ty)) (hsrc : IsM src m) (hnd : (m.map (·.1)).Nodup) (k : List UInt8) : Has 23 [.ptr L 0, .str k] H (iA (look 0 m k)) H := by
  have hlk := src_lookup (H := H) hsrc hnd k
  generalize look 0 m k = z at *
  refine does_run s0 (show S0.fn 23 = some Tryz.f23 by kernel_rfl) rfl (by kernel_rfl) (Nat.le_of_ble_eq_true rfl) ?_
  refine W.seq (W.region ?_)
  repeat refine WO.op rfl rfl ?_
  refine WO.nil (W.seq (W.seq (W.region ?_)))
  refine WO.op rfl rfl ?_
  refine WO.op rfl rfl (WO.nil (W.cond (b := false) rfl (fun h => by cases h) (fun _ => W.skip (W.seq (W.region ?_)))))
  refine WO.op rfl rfl ?_
  refine WO.op rfl rfl ?_
  refine WO.op rfl rfl ?_
  refine WO.op (G.load_ptr (v := src) rfl tM rfl hL rfl) rfl ?_
  refine WO.op rfl rfl ?_
  refine WO.op (v := iA z) (H1 := H) ?_ rfl ?_
  · show withH H (denLookup S0 H 89 src (.str k) false) = _
    rw [hlk]; rfl
  refine WO.op rfl rfl ?_
  exact WO.nil (W.ret ⟨trivial, _, rfl, Wk.refl _, rfl⟩)
theorem len_has (hL : H[L]? = some (.cells [src, iA cnt] ty)) : Has 22 [.ptr L 0] H (iA cnt) H := by
  refine does_run s0 (show S0.fn 22 = some Tryz.f22 by kernel_rfl) rfl (by kernel_rfl) (Nat.le_of_ble_eq_true rfl) ?_
  refine W.seq (W.region ?_)
  repeat refine WO.op rfl rfl ?_
  refine WO.nil (W.seq (W.seq (W.region ?_)))
  refine WO.op rfl rfl ?_
  refine WO.op rfl rfl (WO.nil (W.cond (b := false) rfl (fun h => by cases h) (fun _ => W.skip (W.seq (W.region ?_)))))
  refine WO.op rfl rfl ?_
  refine WO.op rfl rfl ?_
  refine WO.op rfl rfl ?_
  refine WO.op (G.load_ptr (v := iA cnt) rfl tInt rfl hL rfl) rfl ?_
  refine WO.op rfl rfl ?_
  exact WO.nil (W.ret ⟨trivial, _, rfl, Wk.refl _, rfl⟩)
end

theorem same_has (k c : Nat) (hk : k < 9223372036854775808) (H : Heap) : Has 17 [errA k, .int .i64 (c : Int)] H (.bool (decide (k = c))) H := by
  refine does_run s0 (show S0.fn 17 = some Tryz.f17 by kernel_rfl) rfl (by kernel_rfl) (Nat.le_of_ble_eq_true rfl) ?_
  refine W.seq (W.region ?_)
  repeat refine WO.op rfl rfl ?_
  refine WO.nil (W.seq (W.region ?_))
  refine WO.op rfl rfl ?_
  refine WO.call rfl (code_err k _) rfl ?_
  refine WO.op rfl rfl ?_
  refine WO.as (v' := .bool (decide (k = c))) rfl rfl (bdE (by omega)) ?_
  refine WO.op rfl rfl ?_
  exact WO.nil (W.ret ⟨trivial, _, rfl, Wk.refl _, rfl⟩)
end
end Go.AM.C

/- The reference's numbers: digits of a thousand million, the lowest first. Plain laws. -/
namespace Go.AM.C
set_option linter.unusedVariables false
set_option linter.unusedSimpArgs false

def digs (n : Nat) : List Nat := if h : n = 0 then [] else n % 1000000000 :: digs (n / 1000000000)
termination_by n
decreasing_by exact Nat.div_lt_self (by omega) (by decide)
def dval : List Nat → Nat
  | [] => 0
  | d :: l => d + 1000000000 * dval l
def Dg (l : List Nat) : Prop := ∀ d ∈ l, d < 1000000000
/-- No nought on top. -/
def Top (l : List Nat) : Prop := ∀ d, l.getLast? = some d → d ≠ 0

theorem digs_zero : digs 0 = [] := by rw [digs]; rfl
theorem digs_pos {n : Nat} (h : n ≠ 0) : digs n = n % 1000000000 :: digs (n / 1000000000) := by rw [digs, dif_neg h]
theorem dval_digs : ∀ n : Nat, dval (digs n) = n := by
  intro n
  induction n using Nat.strongRecOn with
  | _ n ih =>
    by_cases h : n = 0
    · subst h; rw [digs_zero]; rfl
    · rw [digs_pos h, dval, ih (n / 1000000000) (Nat.div_lt_self (by omega) (by decide))]
      omega
theorem digs_dg : ∀ n : Nat, Dg (digs n) := by
  intro n
  induction n using Nat.strongRecOn with
  | _ n ih =>
    by_cases h : n = 0
    · subst h; rw [digs_zero]; intro d hd; cases hd
    · rw [digs_pos h]
      intro d hd
      rcases List.mem_cons.1 hd with rfl | hd
      · exact Nat.mod_lt _ (by decide)
      · exact ih (n / 1000000000) (Nat.div_lt_self (by omega) (by decide)) d hd
theorem Dg.tail {d : Nat} {l : List Nat} (h : Dg (d :: l)) : Dg l := fun x hx => h x (List.mem_cons_of_mem _ hx)
theorem Dg.take {l : List Nat} (h : Dg l) (k : Nat) : Dg (l.take k) := fun x hx => h x (List.mem_of_mem_take hx)
theorem Dg.app {l : List Nat} {d : Nat} (h : Dg l) (hd : d < 1000000000) : Dg (l ++ [d]) := fun x hx => by
  rcases List.mem_append.1 hx with hx | hx
  · exact h x hx
  · rw [List.mem_singleton.1 hx]; exact hd
theorem Top.tail {d : Nat} {l : List Nat} (h : Top (d :: l)) : Top l := by
  intro x hx
  cases l with
  | nil => cases hx
  | cons e t => exact h x (by rw [List.getLast?_cons_cons]; exact hx)
/-- The digits are told by the number. -/
theorem digs_of : ∀ l : List Nat, Dg l → Top l → digs (dval l) = l
  | [], _, _ => digs_zero
  | d :: t, hd, ht => by
    have ih := digs_of t hd.tail ht.tail
    have hdl : d < 1000000000 := hd d List.mem_cons_self
    have hne : dval (d :: t) ≠ 0 := by
      intro h0
      have h1 : d = 0 ∧ dval t = 0 := by
        simp only [dval] at h0
        omega
      rw [h1.2, digs_zero] at ih
      rw [← ih] at ht
      exact ht d rfl h1.1
    have e1 : (d + 1000000000 * dval t) % 1000000000 = d := by omega
    have e2 : (d + 1000000000 * dval t) / 1000000000 = dval t := by omega
    rw [digs_pos hne]
    simp only [dval]
    rw [e1, e2, ih]
theorem digs_top (n : Nat) : Top (digs n) := by
  induction n using Nat.strongRecOn with
  | _ n ih =>
    by_cases h : n = 0
    · subst h; rw [digs_zero]; intro d hd; cases hd
    · rw [digs_pos h]
      by_cases h2 : n / 1000000000 = 0
      · rw [h2, digs_zero]
        intro d hd
        have hd' : n % 1000000000 = d := by simpa using hd
        omega
      · have := ih (n / 1000000000) (Nat.div_lt_self (by omega) (by decide))
        rw [digs_pos h2] at this ⊢
        intro d hd
        rw [List.getLast?_cons_cons] at hd
        exact this d hd
theorem dval_app : ∀ (l : List Nat) (x : List Nat), dval (l ++ x) = dval l + 1000000000 ^ l.length * dval x
  | [], x => by simp [dval]
  | d :: l, x => by
    simp only [List.cons_append, dval, dval_app l x, List.length_cons, Nat.pow_succ]
    rw [Nat.mul_add, ← Nat.add_assoc, ← Nat.mul_assoc, Nat.mul_comm 1000000000 (1000000000 ^ l.length)]
theorem dval_lt : ∀ {l : List Nat}, Dg l → dval l < 1000000000 ^ l.length
  | [], _ => by simp [dval]
  | d :: l, h => by
    have h1 := dval_lt h.tail
    have h2 : d < 1000000000 := h d List.mem_cons_self
    simp only [dval, List.length_cons, Nat.pow_succ]
    have : 1000000000 * (dval l + 1) ≤ 1000000000 * 1000000000 ^ l.length := Nat.mul_le_mul_left _ h1
    rw [Nat.mul_comm (1000000000 ^ l.length)]
    rw [Nat.mul_add] at this
    omega
/-- So many digits, so great a number. -/
theorem dval_ge {l : List Nat} (hd : Dg l) (ht : Top l) (h : l ≠ []) : 1000000000 ^ (l.length - 1) ≤ dval l := by
  obtain ⟨i, d, rfl⟩ : ∃ i d, l = i ++ [d] := ⟨l.dropLast, l.getLast h, (List.dropLast_concat_getLast h).symm⟩
  have h0 : d ≠ 0 := ht d (by simp)
  rw [dval_app]
  simp only [List.length_append, List.length_singleton, Nat.add_sub_cancel, dval, Nat.mul_zero, Nat.add_zero]
  have : 1000000000 ^ i.length * 1 ≤ 1000000000 ^ i.length * d := Nat.mul_le_mul_left _ (by omega)
  omega
theorem top_of {l : List Nat} (hd : Dg l) (h : l ≠ [] → 1000000000 ^ (l.length - 1) ≤ dval l) : Top l := by
  intro d hl h0
  subst h0
  have hne : l ≠ [] := by intro e; rw [e] at hl; cases hl
  obtain ⟨i, rfl⟩ : ∃ i, l = i ++ [0] := ⟨l.dropLast, by
    have := List.dropLast_concat_getLast hne
    rw [List.getLast?_eq_some_getLast hne] at hl
    rw [← Option.some.inj hl]
    exact this.symm⟩
  have h1 := h hne
  rw [dval_app] at h1
  simp only [List.length_append, List.length_singleton, Nat.add_sub_cancel, dval, Nat.mul_zero, Nat.add_zero] at h1
  have h2 : dval i < 1000000000 ^ i.length := dval_lt fun x hx => hd x (List.mem_append_left _ hx)
  omega
theorem dval_take_succ {l : List Nat} {i d : Nat} (h : l[i]? = some d) : dval (l.take (i + 1)) = dval (l.take i) + 1000000000 ^ i * d := by
  have hi : i < l.length := (List.getElem?_eq_some_iff.1 h).1
  rw [List.take_add_one, h]
  show dval (l.take i ++ [d]) = _
  rw [dval_app, List.length_take, Nat.min_eq_left (by omega)]
  simp only [dval, Nat.mul_zero, Nat.add_zero]
theorem dval_take_all {l : List Nat} {i : Nat} (h : l.length ≤ i) : dval (l.take i) = dval l := by rw [List.take_of_length_le h]
end Go.AM.C

