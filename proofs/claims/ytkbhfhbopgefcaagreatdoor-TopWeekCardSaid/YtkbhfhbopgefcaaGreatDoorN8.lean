/- Part of a proof over the program's translation: Contracts, 34: (*Fault).Error at the chain of rentierlaw1.begun.; Contracts, 24: the ledger's books and All, as closed runs may use them. -/
import Derived.Deep.RegionWith
import Derived.Test.YtkbhfhbopgefcaaGreatDoorN5
import Derived.Test.YtkbhfhbopgefcaaGreatDoorN6
import Derived.Test.YtkbhfhbopgefcaaGreatDoorN7
noncomputable section
/- Contracts, 34: (*Fault).Error at the chain of rentierlaw1.begun. -/
namespace Go.AM.C
open Go.Proofs Go.RowKit Go.Shelf
noncomputable section
set_option linter.unusedVariables false
set_option linter.unusedSimpArgs false

def givesA (r : Option (AVal × Heap)) (v : AVal) : Bool := match r with
  | some (u, _) => beqA 12 u v
  | none => false
theorem run_A {S : Sg} (hs : Sound Tryz.prog S) {n : Nat} {f : FuncId} {args : List AVal} {v : AVal} (hcl : args.all AVal.closed = true) (hv : v.closed = true) (h : givesA (den S n f args []) v = true) (H : Heap) : DoesC Tryz.prog S f args H v H := by
  unfold givesA at h
  split at h
  · rename_i u H' hd
    have := beqA_eq _ _ _ h
    subst this
    exact DoesC.run hs hd hcl hv H
  · cases h
theorem where_den : givesA (den S2 100 397 [.iface 257 chainA] []) (.isl [.str [97], .str [98]] 0 2 none true) = true := by kernel_rfl
theorem plain_den : givesA (den S2 100 419 [.int .i64 4] []) (.str [101, 114, 114, 111, 114, 32, 52]) = true := by kernel_rfl
theorem where_has (H : Heap) : Has 397 [.iface 257 chainA] H (.isl [.str [97], .str [98]] 0 2 none true) H := Has.un (run_A s2 rfl rfl where_den H)
theorem plain_has (H : Heap) : Has 419 [.int .i64 4] H (.str [101, 114, 114, 111, 114, 32, 52]) H := Has.un (run_A s2 rfl rfl plain_den H)

/-- A call with a body, out of its contract. -/
theorem calls_of {f : FuncId} {args : List AVal} {v : AVal} {H H' : Heap} (hd : Has f args H v H') {c : Ctx} {w : World} {cargs : Array Value} (r : Rel c w H) (hg : Glob S0 c w) (ha : VRs c w args cargs)
    (he : (callFunc f cargs).run Tryz.prog w = .ok (.enter f cargs) w) : Calls Tryz.prog f cargs w fun e w' => ∃ cv c', e = .returned cv ∧ Rel c' w' H' ∧ Post c w H c' w' H' ∧ VR c' w' v cv := by
  rcases hd c w cargs r hg ha with ⟨h1, h2⟩ | ⟨cv, w', h1, h2⟩
  · refine h2.mono ?_
    rintro e w' ⟨cv, rfl, c', r', p', hv⟩
    exact ⟨cv, c', rfl, r', p', hv⟩
  · rw [he] at h1; cases h1

theorem post_below {c c' : Ctx} {w w' : World} (p : Post c w [] c' w' []) : Below w.heap.size w w' :=
  ⟨p.os, p.tape, p.output, p.size, fun k hk => p.frame k hk (fun i o ⟨x, hx, _⟩ => by simp at hx)⟩
theorem below_rel {c : Ctx} {w w' : World} (r : Rel c w []) (hb : Below w.heap.size w w') (hι : ∀ i, c.ι i = none) : Rel c w' [] ∧ Le c w c w' := by
  obtain ⟨r', p'⟩ := below_post r hb
  exact ⟨r', p'.le r⟩

def byA : ByteArray := ⟨#[97]⟩
def byB : ByteArray := ⟨#[98]⟩
theorem vr_str {c : Ctx} {w : World} {l : List UInt8} {v : Value} (h : VR c w (.str l) v) : v = .string ⟨l.toArray⟩ := by
  cases h with
  | str _ s hs => subst hs; rfl

theorem alloc_new (w : World) (o : Obj) : (w.alloc o).heap[w.heap.size]? = some o := by unfold World.alloc; exact Array.getElem?_push_size
theorem alloc_lt (w : World) (o : Obj) : w.heap.size < (w.alloc o).heap.size := by simp
theorem cell_lt {w : World} {b o : Nat} {v : Value} (h : w.cell? ⟨b, o, none⟩ = some v) : b < w.heap.size := by
  rcases Nat.lt_or_ge b w.heap.size with h' | h'
  · exact h'
  · simp [World.cell?, Array.getElem?_eq_none h'] at h
theorem below_then {B : Nat} {w w1 w2 : World} (h : Below B w w1) (k : Below w1.heap.size w1 w2) (hB : B ≤ w.heap.size) : Below B w w2 :=
  ⟨k.os.trans h.os, k.tape.trans h.tape, k.output.trans h.output, Nat.le_trans h.size k.size, fun i hi => (k.block i (by have := h.size; omega)).trans (h.block i hi)⟩
theorem where_calls (c : Ctx) (w : World) (r : Rel c w []) (hι : ∀ i, c.ι i = none) (hg : Glob S0 c w) (cv : Value) (hv : VR c w chainA cv) (w1 : World) (hb : Below w.heap.size w w1) :
    Calls Tryz.prog 397 #[.iface 257 cv] w1 fun e w' => ∃ k o ca, e = .returned (.slice (some ⟨k, o, none⟩) 2 ca) ∧ w'.cell? ⟨k, o, none⟩ = some (.string byA) ∧ w'.cell? ⟨k, o + 1, none⟩ = some (.string byB) ∧ Below w1.heap.size w1 w' := by
  obtain ⟨r1, le1⟩ := below_rel r hb hι
  refine (calls_of (where_has []) r1 (hg.mono le1) ⟨rfl, fun j x y hx hy => ?_⟩ (enters_of Tryz.func397 (by kernel_rfl) rfl _ w1)).mono ?_
  · match j with
    | 0 => cases hx; cases hy; exact .iface _ _ _ (hv.mono le1)
    | j + 1 => simp at hx
  · rintro e w' ⟨u, c', rfl, r', p', hu⟩
    cases hu with
    | isl _ _ _ _ _ b o ca g hcl hF h2 h3 h4 hcell hh =>
      refine ⟨b, o, ca, rfl, ?_, ?_, post_below p'⟩
      · have h := hcell 0 (by decide)
        have h' := vr_str (hh 0 _ rfl)
        rw [h'] at h
        exact h
      · have h := hcell 1 (by decide)
        have h' := vr_str (hh 1 _ rfl)
        rw [h'] at h
        exact h
theorem plain_calls (c : Ctx) (w : World) (r : Rel c w []) (hι : ∀ i, c.ι i = none) (hg : Glob S0 c w) (w1 : World) (hb : Below w.heap.size w w1) :
    Calls Tryz.prog 419 #[.int .i64 4] w1 fun e w' => e = .returned (.string ⟨#[101, 114, 114, 111, 114, 32, 52]⟩) ∧ Below w1.heap.size w1 w' := by
  obtain ⟨r1, le1⟩ := below_rel r hb hι
  refine (calls_of (plain_has []) r1 (hg.mono le1) ⟨rfl, fun j x y hx hy => ?_⟩ (enters_of Tryz.func419 (by kernel_rfl) rfl _ w1)).mono ?_
  · match j with
    | 0 => cases hx; cases hy; exact .int _ _
    | j + 1 => simp at hx
  · rintro e w' ⟨u, c', rfl, r', p', hu⟩
    rw [vr_str hu]
    exact ⟨rfl, post_below p'⟩

set_option maxHeartbeats 4000000 in
set_option maxRecDepth 100000 in
theorem err_walk (w : World) (b0 o0 : Nat) (h4 : w.cell? ⟨b0, o0, none⟩ = some (.int .i64 4))
    (hW : ∀ w1, Below w.heap.size w w1 → Calls Tryz.prog 397 #[.iface 257 (.pointer (some ⟨b0, o0, none⟩))] w1 fun e w' => ∃ k o ca, e = .returned (.slice (some ⟨k, o, none⟩) 2 ca) ∧ w'.cell? ⟨k, o, none⟩ = some (.string byA) ∧ w'.cell? ⟨k, o + 1, none⟩ = some (.string byB) ∧ Below w1.heap.size w1 w')
    (hP : ∀ w1, Below w.heap.size w w1 → Calls Tryz.prog 419 #[.int .i64 4] w1 fun e w' => e = .returned (.string ⟨#[101, 114, 114, 111, 114, 32, 52]⟩) ∧ Below w1.heap.size w1 w') :
    Calls Tryz.prog 435 #[.pointer (some ⟨b0, o0, none⟩)] w fun e w' => e = .returned (.string ⟨#[97, 58, 32, 98, 58, 32, 101, 114, 114, 111, 114, 32, 52]⟩) ∧ Below w.heap.size w w' := by
  have e402 : ∀ args w, (callFunc 397 args).run Tryz.prog w = .ok (.enter 397 args) w := fun args w => enters_of Tryz.func397 (by kernel_rfl) rfl args w
  have e428 : ∀ args w, (callFunc 419 args).run Tryz.prog w = .ok (.enter 419 args) w := fun args w => enters_of Tryz.func419 (by kernel_rfl) rfl args w
  have e137 : ∀ args w, (callFunc 97 args).run Tryz.prog w = .ok (.enter 97 args) w := fun args w => enters_of Tryz.func97 (by kernel_rfl) rfl args w
  have e138 : ∀ args w, (callFunc 99 args).run Tryz.prog w = .ok (.enter 99 args) w := fun args w => enters_of Tryz.func99 (by kernel_rfl) rfl args w
  have hbl : b0 < w.heap.size := by
    rcases Nat.lt_or_ge b0 w.heap.size with h | h
    · exact h
    · simp [World.cell?, Array.getElem?_eq_none h] at h4
  go_enter Tryz.func435, Tryz.ntmps435
  have hW0 := hW (w.alloc (.cells #[.pointer none, .slice none 0 0] tBld)) ((Below.refl _ w).alloc (Nat.le_refl _) _)
  go_wp2_with (go_at_fn 397; refine hW0.mono ?_)
  rintro e w1 ⟨k, o, ca, rfl, hk0, hk1, hb1⟩
  have hbB : w1.heap[w.heap.size]? = some (.cells #[.pointer none, .slice none 0 0] tBld (0, 0)) := by
    rw [hb1.block _ (alloc_lt _ _)]
    exact alloc_new _ _
  have hs1 : w.heap.size < w1.heap.size := (Array.getElem?_eq_some_iff.1 hbB).1
  have hk0l : k < w1.heap.size := cell_lt hk0
  go_wp2
  refine wp_loop_rounds 3 ?_
  rw [rounds_succ]
  go_wp2_with (go_at_fn 97; refine (write_k w1.heap.size w.heap.size (.pointer none) (.slice none 0 0) [] _ w1 (.inl rfl) hbB (World.ownsRowF_nil w1 _ _ _) (Nat.le_refl _) (by simp [Value.ownBlock]) ?hlen1).mono ?_)
  case hlen1 => exact (by decide : ([] : List Value).length + (byA ++ ⟨#[58, 32]⟩ : ByteArray).size ≤ 140737488355328)
  rintro e w2 ⟨rfl, v2, hb2, ho2, hn2, hk2⟩
  have hkb : k ≠ w.heap.size := by
    rintro rfl
    rw [Lib.cell_of_heap hbB] at hk0
    match o, hk0 with
    | 0, h => cases h
    | 1, h => cases h
    | o + 2, h => simp at h
  have hk1' : w2.cell? ⟨k, o + 1, none⟩ = some (.string byB) := by
    rw [← hk1]
    exact cell_of_block (hk2.block k hk0l hkb (by simp [Value.ownBlock]))
  obtain ⟨g2, hg2⟩ : ∃ g, v2.ownBlock = some g := by
    rcases ho2.2 with ⟨_, h⟩ | ⟨g, cap, cur, fz, rfl, _⟩
    · exact absurd h (by decide)
    · exact ⟨g, rfl⟩
  have hgl := ho2.lt g2 hg2
  go_wp2
  rw [rounds_succ]
  go_wp2_with (go_at_fn 97; refine (write_k w1.heap.size w.heap.size (.pointer (some ⟨w.heap.size, 0, none⟩)) v2 ([] ++ Lib.strCells (byA ++ ⟨#[58, 32]⟩)) _ w2 (.inr rfl) hb2 ho2 hk2.size hn2 ?hlen2).mono ?_)
  case hlen2 => exact (by decide : ([] ++ Lib.strCells (byA ++ ⟨#[58, 32]⟩) : List Value).length + (byB ++ ⟨#[58, 32]⟩ : ByteArray).size ≤ 140737488355328)
  rintro e w3 ⟨rfl, v3, hb3, ho3, hn3, hk3⟩
  go_wp2
  rw [rounds_succ]
  go_wp2
  have mixed := AM.C.mixed
  have hl3 : w.heap.size < w3.heap.size := (Array.getElem?_eq_some_iff.1 hb3).1
  have hlay : Lib.byteCells [97, 58, 32, 98, 58, 32] = ([] ++ Lib.strCells (byA ++ ⟨#[58, 32]⟩)) ++ Lib.strCells (byB ++ ⟨#[58, 32]⟩) := by kernel_rfl
  have ho3' : w3.ownsRowF w.heap.size 5 1 v3 (Lib.byteCells [97, 58, 32, 98, 58, 32]).length (Lib.byteCells [97, 58, 32, 98, 58, 32]) := by
    rw [hlay]
    have := ho3
    refine ⟨by simp, ?_⟩
    rcases ho3.2 with ⟨h1, h2⟩ | ⟨g, cap, cur, fz, h1, h2, h3⟩
    · exact absurd h2 (by decide)
    · refine .inr ⟨g, cap, cur, fz, ?_, by omega, ?_⟩
      · rw [h1]; rfl
      · exact h3
  have hS := Any.Builder_String_f (ρ := Tryz.lays156_ren) { Tryz.lays156 with } extra156 w.heap.size w.heap.size [97, 58, 32, 98, 58, 32] w3.drew (.inr ⟨Nat.le_refl _, v3, hb3, ho3', hn3⟩) (by simp)
  have hB3 : Below w.heap.size w w3 := by
    refine ⟨hk3.os.trans (hk2.os.trans (hb1.os)), hk3.tape.trans (hk2.tape.trans hb1.tape), hk3.output.trans (hk2.output.trans hb1.output), by omega, fun x hx => ?_⟩
    rw [hk3.block x (by have := hk2.size; omega) (by omega) (by rw [hg2]; intro e; cases e; omega), hk2.block x (by omega) (by omega) (by simp [Value.ownBlock]), hb1.block x (by have := alloc_lt w (.cells #[.pointer none, .slice none 0 0] tBld); omega)]
    exact Below.heap_alloc _ _ _ hx
  have h43 : ∀ w', Below w.heap.size w w' → w'.cell? ⟨b0, o0, none⟩ = some (.int .i64 4) := fun w' hb => by rw [← h4]; exact cell_of_block (hb.block b0 hbl)
  have hB3d : Below w.heap.size w w3.drew := Below.drew hB3
  have h4d := h43 w3.drew hB3d
  go_region_with (first
    | (go_at_call 99; refine hS.mono ?_; rintro e w4 ⟨rfl, _, hb4⟩; have hB4 : Below w.heap.size w w4 := Below.trans hB3d hb4; have h44 := h43 w4 hB4)
    | (go_at_call 419; refine (hP _ (by assumption)).mono ?_; rintro e w5 ⟨rfl, hb5⟩))
  all_goals go_wp2
  all_goals go_ret
  all_goals exact ⟨by first | rfl | kernel_rfl, below_then hB4 hb5 (Nat.le_refl _)⟩

theorem err_has (H : Heap) : Has 435 [chainA] H (.str [97, 58, 32, 98, 58, 32, 101, 114, 114, 111, 114, 32, 52]) H := by
  refine DoesC.pure s0.glob rfl rfl (H' := []) (fun c w cargs r hg ha => ?_) H
  obtain ⟨cv, rfl, hv⟩ := ha.one
  have r0 : Rel ⟨fun _ => none, c.F⟩ w [] := ⟨fun id o b off h => (by simp at h), fun i j b o1 o2 ⟨o, ho, _⟩ => (by simp at ho), fun id b off h => (by cases h), fun id b off ⟨o, ho, _⟩ => (by simp at ho), r.fr⟩
  have g0 : Glob S0 ⟨fun _ => none, c.F⟩ w := fun g => by
    refine ⟨?_, (hg g).2⟩
    rcases s0.glob g with h | h
    · exact (hg g).1.shut h _
    · rw [h]; exact .any _
  have hv0 := hv.shut rfl (fun _ => none)
  have hW := where_calls _ w r0 (fun _ => rfl) g0 cv hv0
  have hP := plain_calls _ w r0 (fun _ => rfl) g0
  cases hv with
  | ip _ _ _ b0 o0 g hcl hF hcell hh =>
    have h4 : w.cell? ⟨b0, o0, none⟩ = some (.int .i64 4) := by
      have h1 := hcell 0 (by decide)
      have h := hh 0 _ rfl
      generalize g 0 = u at h h1
      cases h
      exact h1
    refine .inl ⟨fun w => enters_of Tryz.func435 (by kernel_rfl) rfl _ w, (err_walk w b0 o0 h4 hW hP).mono ?_⟩
    rintro e w' ⟨rfl, hb⟩
    obtain ⟨r', p'⟩ := below_post r hb
    exact ⟨_, rfl, c, r', p', .str _ _ rfl⟩

noncomputable def errX : Ext := fun args H => match args with
  | [x] => bif beqA 6 x chainA then some (.str [97, 58, 32, 98, 58, 32, 101, 114, 114, 111, 114, 32, 52], H) else none
  | _ => none
theorem errX_ok (S : Sg) (hg : S.glob = S0.glob) (hp : S.pin = S0.pin) : ExtAt Tryz.prog S 435 errX := by
  intro args H v H' hx
  unfold errX at hx
  split at hx
  · rename_i x
    cases hb : beqA 6 x chainA with
    | false => rw [hb] at hx; cases hx
    | true =>
      rw [hb] at hx
      rw [beqA_eq _ _ _ hb]
      cases hx
      exact DoesC.glob hg hp (err_has _)
  · cases hx
noncomputable def isX : Ext := fun args H => match args with
  | [x, y] => bif beqA 8 x (.iface 257 chainA) then
      (bif beqA 3 y (.iface 63 (.int .i64 4)) then some (.bool true, H) else bif beqA 3 y (.iface 63 (.int .i64 1)) then some (.bool false, H) else none) else none
  | _ => none
theorem isX_ok (S : Sg) (hg : S.glob = S0.glob) (hp : S.pin = S0.pin) : ExtAt Tryz.prog S 398 isX := by
  intro args H v H' hx
  unfold isX at hx
  split at hx
  · rename_i x y
    cases hb : beqA 8 x (.iface 257 chainA) with
    | false => rw [hb] at hx; cases hx
    | true =>
      rw [hb] at hx
      rw [beqA_eq _ _ _ hb]
      cases h1 : beqA 3 y (.iface 63 (.int .i64 4)) with
      | true =>
        rw [h1] at hx
        rw [beqA_eq _ _ _ h1]
        cases hx
        exact DoesC.glob hg hp (Is_yes _)
      | false =>
        rw [h1] at hx
        cases h2 : beqA 3 y (.iface 63 (.int .i64 1)) with
        | false => rw [h2] at hx; cases hx
        | true =>
          rw [h2] at hx
          rw [beqA_eq _ _ _ h2]
          cases hx
          exact DoesC.glob hg hp (Is_no _)
  · cases hx
end
end Go.AM.C

/- Contracts, 24: the ledger's books and All, as closed runs may use them. -/
namespace Go.AM.C
open Go.Proofs
noncomputable section
set_option linter.unusedVariables false
set_option linter.unusedSimpArgs false

noncomputable def pairsOf : List AVal → Option Posts
  | [] => some []
  | .str s :: .int .i64 a :: l => match pairsOf l with
    | some r => some ((s, a) :: r)
    | none => none
  | _ => none
theorem pairsOf_post : ∀ {n : Nat} {l : List AVal} {r : Posts}, l.length ≤ n → pairsOf l = some r → l = postC r
  | _, [], r, _, h => by cases h; rfl
  | n + 1, a :: l, r, hn, h => by
    unfold pairsOf at h
    split at h
    · rename_i e; cases e
    · rename_i s z l' e
      cases e
      split at h
      · rename_i r' hr
        cases h
        have := pairsOf_post (n := n) (l := l') (by simp at hn; omega) hr
        rw [this]
        rfl
      · cases h
    · cases h
theorem postC_at (l : Posts) : ∀ (j : Nat) (p : List UInt8 × Int), l[j]? = some p → (postC l)[j * 2]? = some (.str p.1) ∧ (postC l)[j * 2 + 1]? = some (iA p.2) := by
  induction l with
  | nil => intro j p h; simp at h
  | cons q l ih =>
    intro j p h
    have e : postC (q :: l) = .str q.1 :: iA q.2 :: postC l := rfl
    cases j with
    | zero => cases h; rw [e]; exact ⟨rfl, rfl⟩
    | succ j =>
      obtain ⟨h1, h2⟩ := ih j p (by simpa using h)
      rw [e, show (j + 1) * 2 = j * 2 + 1 + 1 by omega]
      exact ⟨h1, h2⟩

/-- Which postings a slice tells. -/
noncomputable def postsOf (H : Heap) : AVal → Option Posts
  | .nils => some []
  | .sl id off len cap 2 => match sliceCells H 2 (.sl id off len cap 2) with
    | some (cells, _) => pairsOf cells
    | none => none
  | .isl cells off len cap cl => match sliceCells H 2 (.isl cells off len cap cl) with
    | some (cells, _) => pairsOf cells
    | none => none
  | _ => none
theorem part_at {vs : List AVal} {off n : Nat} {l : Posts} (h : (vs.drop off).take n = postC l) {j : Nat} {p : List UInt8 × Int} (hp : l[j]? = some p) : vs[off + j * 2]? = some (.str p.1) ∧ vs[off + j * 2 + 1]? = some (iA p.2) := by
  obtain ⟨h1, h2⟩ := postC_at l j p hp
  rw [← h, List.getElem?_take] at h1 h2
  constructor
  · split at h1
    · rwa [List.getElem?_drop] at h1
    · cases h1
  · split at h2
    · rw [List.getElem?_drop] at h2
      rw [Nat.add_assoc]
      exact h2
    · cases h2
theorem postsOf_slp {H : Heap} {v : AVal} {l : Posts} (h : postsOf H v = some l) : SlP H v l := by
  unfold postsOf at h
  split at h
  · cases h
    exact ⟨fun H' _ => rfl, fun j p hj => by simp at hj⟩
  · rename_i id off len cap
    unfold sliceCells at h
    simp only at h
    split at h
    · rename_i cells k he
      split at he
      · rename_i vs ty hH
        split at he
        · rename_i hle
          simp only [Option.some.injEq, Prod.mk.injEq] at he
          obtain ⟨e1, _⟩ := he
          have hp := pairsOf_post (Nat.le_refl _) h
          rw [← e1] at hp
          have hlen : l.length = len := by have := congrArg List.length hp; rw [postC_len] at this; simp at this; omega
          have hid : id < H.length := (List.getElem?_eq_some_iff.1 hH).1
          refine ⟨fun H' hk => by rw [hlen]; rfl, fun j p hj => ?_⟩
          have hjl : j < len := by rw [← hlen]; exact (List.getElem?_eq_some_iff.1 hj).1
          obtain ⟨h1, h2⟩ := part_at hp hj
          refine ⟨.ptr id (off + j * 2), vs, off + j * 2, ?_, fun H' hk => ?_, h1, h2⟩
          · show (if ti148.size = 2 ∧ 0 ≤ (j : Int) ∧ (j : Int) < (len : Int) then fNat (off + (j : Int).toNat * 2) fun o => some (AVal.ptr id o) else none) = _
            rw [if_pos ⟨rfl, by omega, by omega⟩, fNat_eq, Int.toNat_natCast]
          · unfold rowAt
            simp only [hk id hid, hH]
        · cases he
      · cases he
    · cases h
  · rename_i cells off len cap cl
    unfold sliceCells at h
    simp only at h
    split at h
    · rename_i cs k he
      split at he
      · rename_i hle
        simp only [Option.some.injEq, Prod.mk.injEq] at he
        obtain ⟨e1, _⟩ := he
        have hp := pairsOf_post (Nat.le_refl _) h
        rw [← e1] at hp
        have hlen : l.length = len := by have := congrArg List.length hp; rw [postC_len] at this; simp at this; omega
        refine ⟨fun H' hk => by rw [hlen]; rfl, fun j p hj => ?_⟩
        have hjl : j < len := by rw [← hlen]; exact (List.getElem?_eq_some_iff.1 hj).1
        obtain ⟨h1, h2⟩ := part_at hp hj
        refine ⟨.ip cells (off + j * 2) cl, cells, off + j * 2, ?_, fun H' hk => rfl, h1, h2⟩
        show (if 0 ≤ (j : Int) ∧ (j : Int) < (len : Int) then fNat (off + (j : Int).toNat * ti148.size) fun o => some (AVal.ip cells o cl) else none) = _
        rw [if_pos ⟨by omega, by omega⟩, fNat_eq, Int.toNat_natCast]
        rfl
      · cases he
    · cases h
  · cases h

/-- Which balances a ledger's map tells. -/
noncomputable def zipOf : List AVal → List AVal → Option Posts
  | [], [] => some []
  | .str s :: ks, .int .i64 a :: vs => match zipOf ks vs with
    | some r => some ((s, a) :: r)
    | none => none
  | _, _ => none
theorem zipOf_ok : ∀ {ks vs : List AVal} {r : Posts}, zipOf ks vs = some r → ks = r.map (fun e => .str e.1) ∧ vs = r.map (fun e => iA e.2)
  | [], [], r, h => by cases h; exact ⟨rfl, rfl⟩
  | [], _ :: _, r, h => by cases h
  | a :: ks, vs, r, h => by
    unfold zipOf at h
    split at h
    · rename_i e; cases e
    · rename_i str ks' z vs' e
      cases e
      split at h
      · rename_i r' hr
        cases h
        obtain ⟨h1, h2⟩ := zipOf_ok hr
        rw [h1, h2]
        exact ⟨rfl, rfl⟩
      · cases h
    · cases h
noncomputable def mapOf : AVal → Option Posts
  | .nilm => some []
  | .imap ks vs true => zipOf ks vs
  | _ => none
theorem mapOf_is {v : AVal} {l : Posts} (h : mapOf v = some l) : IsM v l := by
  unfold mapOf at h
  split at h
  · cases h; exact .inr ⟨rfl, rfl⟩
  · obtain ⟨h1, h2⟩ := zipOf_ok h
    subst h1; subst h2
    exact .inl rfl
  · cases h

def memS : List UInt8 → List (List UInt8) → Bool
  | _, [] => false
  | s, t :: l => bytesEq s t || memS s l
def nodupS : List (List UInt8) → Bool
  | [] => true
  | s :: l => !memS s l && nodupS l
theorem bytesEq_refl : ∀ l : List UInt8, bytesEq l l = true
  | [] => rfl
  | a :: l => by unfold bytesEq; rw [bytesEq_refl l]; simp
theorem memS_of {s : List UInt8} : ∀ {l : List (List UInt8)}, s ∈ l → memS s l = true
  | t :: l, h => by
    unfold memS
    rcases List.mem_cons.1 h with rfl | h
    · rw [bytesEq_refl]; rfl
    · rw [memS_of h]; simp
theorem nodupS_ok : ∀ {l : List (List UInt8)}, nodupS l = true → l.Nodup
  | [], _ => List.nodup_nil
  | s :: l, h => by
    unfold nodupS at h
    rw [Bool.and_eq_true] at h
    rw [List.nodup_cons]
    refine ⟨fun hm => ?_, nodupS_ok h.2⟩
    rw [memS_of hm] at h
    cases h.1
noncomputable def okM (m : Posts) : Bool := nodupS (m.map (·.1)) && m.all fun e => small64 e.2
noncomputable def okP (l : Posts) : Bool := (l.all fun p => small64 p.2 && Nat.ble p.1.length 1048576) && Nat.ble l.length 1048576
theorem small_i64 {z : Int} (h : small64 z = true) : i64 z := by
  unfold small64 at h
  rw [Bool.and_eq_true, decide_eq_true_eq, decide_eq_true_eq] at h
  exact h

noncomputable def booksX : Ext := fun args H => match args with
  | [.ptr L off, ps, .bool undo] => match H[L]? with
    | some (.cells vs0 ty0) => match vs0[off]?, vs0[off + 1]? with
      | some src, some (.int .i64 cnt) => match mapOf src, postsOf H ps with
        | some m, some l => bif okM m && okP l && small64 cnt && small64 (cnt + 1) then
            some (errA (bookCode undo m l), H.set L (.cells (if bookCode undo m l = 0 then (vs0.set off (imapA (bookE m (sumsOf undo l)))).set (off + 1) (iA (cnt + 1)) else vs0) ty0)) else none
        | _, _ => none
      | _, _ => none
    | _ => none
  | _ => none
theorem booksX_ok (S : Sg) (hg : S.glob = S0.glob) (hp : S.pin = S0.pin) : ExtAt Tryz.prog S 145 booksX := by
  intro args H v H' hx
  unfold booksX at hx
  split at hx
  · rename_i L off ps undo
    split at hx
    · rename_i vs0 ty0 hL
      split at hx
      · rename_i src cnt h1 h2
        split at hx
        · rename_i m l hm hl
          cases hb : okM m && okP l && small64 cnt && small64 (cnt + 1) with
          | false => rw [hb] at hx; cases hx
          | true =>
            rw [hb] at hx
            cases hx
            simp only [Bool.and_eq_true] at hb
            obtain ⟨⟨⟨b1, b2⟩, b3⟩, b4⟩ := hb
            unfold okM at b1
            unfold okP at b2
            simp only [Bool.and_eq_true, List.all_eq_true] at b1 b2
            exact DoesC.glob hg hp (books undo m l src ps H L off vs0 ty0 cnt hL h1 (mapOf_is hm) h2 (nodupS_ok b1.1) (fun e he => small_i64 (b1.2 e he)) ⟨small_i64 b3, small_i64 b4⟩ (postsOf_slp hl)
              (fun p hp => ⟨small_i64 (b2.1 p hp).1, by have := Nat.le_of_ble_eq_true (b2.1 p hp).2; omega⟩) (by have := Nat.le_of_ble_eq_true b2.2; omega))
        · cases hx
      · cases hx
    · cases hx
  · cases hx

noncomputable def allX : Ext := fun args H => match args with
  | [.ptr L off] => match H[L]? with
    | some (.cells vs0 ty0) => match vs0[off]? with
      | some src => match mapOf src with
        | some m => bif nodupS (m.map (·.1)) && (m.all fun e => Nat.ble e.1.length 1048576) && Nat.ble m.length 1048576 then some (postsA (allE m), H) else none
        | none => none
      | none => none
    | _ => none
  | _ => none
theorem allX_ok (S : Sg) (hg : S.glob = S0.glob) (hp : S.pin = S0.pin) : ExtAt Tryz.prog S 116 allX := by
  intro args H v H' hx
  unfold allX at hx
  split at hx
  · rename_i L off
    split at hx
    · rename_i vs0 ty0 hL
      split at hx
      · rename_i src h1
        split at hx
        · rename_i m hm
          cases hb : nodupS (m.map (·.1)) && (m.all fun e => Nat.ble e.1.length 1048576) && Nat.ble m.length 1048576 with
          | false => rw [hb] at hx; cases hx
          | true =>
            rw [hb] at hx
            cases hx
            simp only [Bool.and_eq_true, List.all_eq_true] at hb
            exact DoesC.glob hg hp (ledger_all m src H L off vs0 ty0 hL h1 (mapOf_is hm) (nodupS_ok hb.1.1) (fun e he => by have := Nat.le_of_ble_eq_true (hb.1.2 e he); omega) (by have := Nat.le_of_ble_eq_true hb.2; omega))
        · cases hx
      · cases hx
    · cases hx
  · cases hx
end
end Go.AM.C

