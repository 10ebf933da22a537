/- The abstract machine, 1: abstract values, environments, heaps; how they stand to the model's values and worlds. No program in sight. -/
import Derived.Calls
import Derived.LoopN
import Derived.Laws.Sem
import Derived.Laws.World
namespace Go.AM

/-- What the program keeps as immutable objects behind pointers, by its meaning. -/
inductive Ob where
  | np (n : Nat)
  | zp (z : Int)
  | qp (n : Int) (d : Nat)
  deriving DecidableEq

inductive AVal where
  | any
  | bool (b : Bool)
  | int (k : IntKind) (n : Int)
  | str (s : List UInt8)
  | nilp
  | ptr (id off : Nat)
  | ip (cells : List AVal) (off : Nat) (cl : Bool)
  | nils
  | sl (id off len : Nat) (cap : Option Nat) (sz : Nat)
  | isl (cells : List AVal) (off len : Nat) (cap : Option Nat) (cl : Bool)
  | nilm
  | map (id : Nat)
  | fn (f : FuncId) (first cap : List AVal)
  | nilfn
  | iface (t : TypeId) (v : AVal)
  | nili
  | agg (cs : List AVal)
  | tup (vs : List AVal)
  | obj (o : Ob)
  deriving Inhabited

def limbsF : Nat → Nat → List AVal
  | 0, _ => []
  | f + 1, n => match n with
    | 0 => []
    | m + 1 => .int .u64 (((m + 1) % 18446744073709551616 : Nat) : Int) :: limbsF f ((m + 1) / 18446744073709551616)

/-- The limbs of a number, the lowest first. -/
def limbs (n : Nat) : List AVal := limbsF (n.log2 / 64 + 1) n

def expand : Ob → AVal
  | .np n => .ip [.isl (limbs n) 0 (limbs n).length none true] 0 true
  | .zp z => .ip [.bool (decide (z < 0)), .obj (.np z.natAbs)] 0 true
  | .qp n d => .ip [.obj (.zp n), .obj (.zp (d : Int))] 0 true

/-- Does it hold no reference into the abstract heap? (In one cell; then of an interface value; then of whatever.) -/
def AVal.closed0 : AVal → Bool
  | .bool _ | .int _ _ | .str _ | .nilp | .nils | .nilm | .nilfn | .nili | .obj _ => true
  | .ip _ _ cl => cl
  | .isl _ _ _ _ cl => cl
  | _ => false
def AVal.closed1 : AVal → Bool
  | .iface _ v => v.closed0
  | v => v.closed0
def AVal.closed2 : AVal → Bool
  | .agg cs => cs.all AVal.closed1
  | v => v.closed1
def AVal.closed : AVal → Bool
  | .tup cs => cs.all AVal.closed2
  | .fn _ a b => a.all AVal.closed1 && b.all AVal.closed1
  | v => v.closed2

/-- May it stand in one cell of memory? -/
def AVal.cell : AVal → Bool
  | .any | .agg _ | .tup _ => false
  | _ => true

def AVal.cells : AVal → List AVal
  | .agg cs => cs
  | v => [v]

inductive AObj where
  | cells (vs : List AVal) (ty : TypeId)
  | map (es : List (AVal × AVal))
  | siter (s : List UInt8) (pos : Nat)
  | dead
  deriving Inhabited

def AObj.live : AObj → Bool
  | .dead => false
  | _ => true

abbrev Heap := List AObj

structure Ctx where
  ι : Nat → Option (Nat × Nat)
  F : Nat → Prop

inductive VR (c : Ctx) (w : World) : AVal → Value → Prop where
  | any (v : Value) : VR c w .any v
  | bool (b : Bool) : VR c w (.bool b) (.bool b)
  | int (k : IntKind) (n : Int) : VR c w (.int k n) (.int k n)
  | str (l : List UInt8) (s : ByteArray) : s.data.toList = l → VR c w (.str l) (.string s)
  | nilp : VR c w .nilp (.pointer none)
  | ptr (id off b o : Nat) : c.ι id = some (b, o) → VR c w (.ptr id off) (.pointer (some ⟨b, o + off, none⟩))
  | ip (cells : List AVal) (off : Nat) (cl : Bool) (b o : Nat) (g : Nat → Value) : (cl = true → ∀ a ∈ cells, a.closed1 = true) → c.F b →
      (∀ (j : Nat), j < cells.length → w.cell? ⟨b, o + j, none⟩ = some (g j)) →
      (∀ (j : Nat) (a : AVal), cells[j]? = some a → VR c w a (g j)) → VR c w (.ip cells off cl) (.pointer (some ⟨b, o + off, none⟩))
  | nils : VR c w .nils (.slice none 0 0)
  | sl (id off len : Nat) (cap : Option Nat) (sz b o ca : Nat) : c.ι id = some (b, o) → len ≤ ca → ca ≤ 9223372036854775807 → (∀ n, cap = some n → ca = n) →
      (∃ (arr : Array Value) (e : TypeId) (fz : Nat × Nat), w.heap[b]? = some (Obj.cells arr e fz) ∧ o + off + ca * sz ≤ arr.size) →
      VR c w (.sl id off len cap sz) (.slice (some ⟨b, o + off, none⟩) len ca)
  | sl0 (id off : Nat) (cap : Option Nat) (sz b o : Nat) (a : Addr) : c.ι id = some (b, o) → (∀ n, cap = some n → n = 0) → VR c w (.sl id off 0 cap sz) (.slice (some a) 0 0)
  | isl (cells : List AVal) (off len : Nat) (cap : Option Nat) (cl : Bool) (b o ca : Nat) (g : Nat → Value) : (cl = true → ∀ a ∈ cells, a.closed1 = true) → c.F b → len ≤ ca → ca ≤ 9223372036854775807 → (∀ n, cap = some n → ca = n) →
      (∀ (j : Nat), j < cells.length → w.cell? ⟨b, o + j, none⟩ = some (g j)) →
      (∀ (j : Nat) (a : AVal), cells[j]? = some a → VR c w a (g j)) → VR c w (.isl cells off len cap cl) (.slice (some ⟨b, o + off, none⟩) len ca)
  | isl0 (cells : List AVal) (off : Nat) (cap : Option Nat) (cl : Bool) (a : Option Addr) (ca : Nat) : ca ≤ 9223372036854775807 → (∀ n, cap = some n → ca = n) →
      VR c w (.isl cells off 0 cap cl) (.slice a 0 ca)
  | nilm : VR c w .nilm (.map none)
  | map (id b o : Nat) : c.ι id = some (b, o) → VR c w (.map id) (.map (some b))
  | fn (f : FuncId) (first cap : List AVal) (vf vc : Array Value) : vf.size = first.length → vc.size = cap.length →
      (∀ (j : Nat) (a : AVal) (v : Value), first[j]? = some a → vf[j]? = some v → VR c w a v) → (∀ (j : Nat) (a : AVal) (v : Value), cap[j]? = some a → vc[j]? = some v → VR c w a v) →
      VR c w (.fn f first cap) (.func (.func f) vf vc)
  | nilfn : VR c w .nilfn .nilFunc
  | iface (t : TypeId) (a : AVal) (v : Value) : VR c w a v → VR c w (.iface t a) (.iface t v)
  | nili : VR c w .nili .nilIface
  | agg (cs : List AVal) (vs : Array Value) : vs.size = cs.length → (∀ (j : Nat) (a : AVal) (v : Value), cs[j]? = some a → vs[j]? = some v → VR c w a v) → VR c w (.agg cs) (.agg vs)
  | tup (cs : List AVal) (vs : Array Value) : vs.size = cs.length → (∀ (j : Nat) (a : AVal) (v : Value), cs[j]? = some a → vs[j]? = some v → VR c w a v) → VR c w (.tup cs) (.tuple vs)
  | obj (o : Ob) (v : Value) : VR c w (expand o) v → VR c w (.obj o) v

/-- Lists of values, side by side. -/
def VRs (c : Ctx) (w : World) (as : List AVal) (vs : Array Value) : Prop :=
  vs.size = as.length ∧ ∀ (j : Nat) (a : AVal) (v : Value), as[j]? = some a → vs[j]? = some v → VR c w a v

/-- What an abstract object says of its block. -/
def ObjR (c : Ctx) (w : World) (b off : Nat) : AObj → Prop
  | .cells vs _ => ∃ (arr : Array Value) (e : TypeId), w.heap[b]? = some (Obj.cells arr e (0, 0)) ∧ off + vs.length ≤ arr.size ∧
      ∀ (j : Nat) (a : AVal) (v : Value), vs[j]? = some a → arr[off + j]? = some v → VR c w a v
  | .map es => ∃ (mes : Array MapEntry) (clk : Nat), w.heap[b]? = some (Obj.map mes clk) ∧ mes.size = es.length ∧
      ∀ (j : Nat) (a : AVal × AVal) (m : MapEntry), es[j]? = some a → mes[j]? = some m → VR c w a.1 m.key ∧ VR c w a.2 m.val
  | .siter s pos => off = 0 ∧ ∃ bs : ByteArray, bs.data.toList = s ∧ w.heap[b]? = some (.stringIter bs pos)
  | .dead => True

def Live (H : Heap) (id : Nat) : Prop := ∃ o, H[id]? = some o ∧ o.live = true

structure Rel (c : Ctx) (w : World) (H : Heap) : Prop where
  obj : ∀ id o b off, H[id]? = some o → c.ι id = some (b, off) → ObjR c w b off o
  inj : ∀ i j b o1 o2, Live H i → Live H j → c.ι i = some (b, o1) → c.ι j = some (b, o2) → i = j
  dom : ∀ id b off, c.ι id = some (b, off) → id < H.length ∧ b < w.heap.size
  sep : ∀ id b off, Live H id → c.ι id = some (b, off) → ¬ c.F b
  fr : ∀ b, c.F b → b < w.heap.size

/-- Later: nothing that was said of values is lost. -/
structure Le (c : Ctx) (w : World) (c' : Ctx) (w' : World) : Prop where
  ι : ∀ id p, c.ι id = some p → c'.ι id = some p
  F : ∀ b, c.F b → c'.F b
  blk : ∀ b, c.F b → w'.heap[b]? = w.heap[b]?
  siz : ∀ (b : Nat) (arr : Array Value) (e : TypeId) (fz : Nat × Nat), w.heap[b]? = some (.cells arr e fz) → ∃ (arr' : Array Value) (e' : TypeId) (fz' : Nat × Nat), w'.heap[b]? = some (Obj.cells arr' e' fz') ∧ arr'.size = arr.size

theorem Le.refl (c : Ctx) (w : World) : Le c w c w := ⟨fun _ _ h => h, fun _ h => h, fun _ _ => rfl, fun _ arr e fz h => ⟨arr, e, fz, h, rfl⟩⟩

theorem Le.trans {c1 c2 c3 : Ctx} {w1 w2 w3 : World} (h : Le c1 w1 c2 w2) (k : Le c2 w2 c3 w3) : Le c1 w1 c3 w3 :=
  ⟨fun id p e => k.ι id p (h.ι id p e), fun b e => k.F b (h.F b e), fun b e => (k.blk b (h.F b e)).trans (h.blk b e),
   fun b arr e fz q => by
    obtain ⟨a2, e2, f2, q2, s2⟩ := h.siz b arr e fz q
    obtain ⟨a3, e3, f3, q3, s3⟩ := k.siz b a2 e2 f2 q2
    exact ⟨a3, e3, f3, q3, s3.trans s2⟩⟩

theorem cell_of_block {w w' : World} {b o : Nat} (h : w'.heap[b]? = w.heap[b]?) : w'.cell? ⟨b, o, none⟩ = w.cell? ⟨b, o, none⟩ := by
  simp [World.cell?, h]

theorem VR.mono {c c' : Ctx} {w w' : World} (l : Le c w c' w') {a : AVal} {v : Value} (h : VR c w a v) : VR c' w' a v := by
  induction h with
  | any v => exact .any v
  | bool b => exact .bool b
  | int k n => exact .int k n
  | str l s h => exact .str l s h
  | nilp => exact .nilp
  | ptr id off b o h => exact .ptr id off b o (l.ι _ _ h)
  | ip cells off cl b o g hcl hF hc _ ih => exact .ip cells off cl b o g hcl (l.F _ hF) (fun j hj => (cell_of_block (l.blk b hF)).trans (hc j hj)) ih
  | nils => exact .nils
  | sl id off len cap sz b o ca h1 h2 h3 h4 h5 =>
    obtain ⟨arr, e, fz, q, s⟩ := h5
    obtain ⟨arr', e', fz', q', s'⟩ := l.siz b arr e fz q
    exact .sl id off len cap sz b o ca (l.ι _ _ h1) h2 h3 h4 ⟨arr', e', fz', q', by omega⟩
  | sl0 id off cap sz b o a h1 h => exact .sl0 id off cap sz b o a (l.ι _ _ h1) h
  | isl cells off len cap cl b o ca g hcl hF h2 h3 h4 hc _ ih =>
    exact .isl cells off len cap cl b o ca g hcl (l.F _ hF) h2 h3 h4 (fun j hj => (cell_of_block (l.blk b hF)).trans (hc j hj)) ih
  | isl0 cells off cap cl a ca h h' => exact .isl0 cells off cap cl a ca h h'
  | nilm => exact .nilm
  | map id b o h => exact .map id b o (l.ι _ _ h)
  | fn f first cap vf vc h1 h2 _ _ ih1 ih2 => exact .fn f first cap vf vc h1 h2 ih1 ih2
  | nilfn => exact .nilfn
  | iface t a v _ ih => exact .iface t a v ih
  | nili => exact .nili
  | agg cs vs h _ ih => exact .agg cs vs h ih
  | tup cs vs h _ ih => exact .tup cs vs h ih
  | obj o v _ ih => exact .obj o v ih

theorem closed0_1 {a : AVal} (h : a.closed0 = true) : a.closed1 = true := by
  cases a <;> first | exact h | (simp [AVal.closed0] at h)
theorem closed1_2 {a : AVal} (h : a.closed1 = true) : a.closed2 = true := by
  cases a <;> first | exact h | (simp [AVal.closed1, AVal.closed0] at h)
theorem closed2_ {a : AVal} (h : a.closed2 = true) : a.closed = true := by
  cases a <;> first | exact h | (simp [AVal.closed2, AVal.closed1, AVal.closed0] at h)
theorem closed1_ {a : AVal} (h : a.closed1 = true) : a.closed = true := closed2_ (closed1_2 h)

theorem limbsF_closed (f n : Nat) : ∀ a ∈ limbsF f n, a.closed1 = true := by
  induction f generalizing n with
  | zero => intro a h; simp [limbsF] at h
  | succ f ih =>
    intro a h
    cases n with
    | zero => simp [limbsF] at h
    | succ m =>
      simp only [limbsF, List.mem_cons] at h
      rcases h with rfl | h
      · rfl
      · exact ih _ a h

theorem expand_closed (o : Ob) : (expand o).closed1 = true := by cases o <;> rfl

/-- What is closed says the same where nothing of the abstract heap is known. -/
theorem VR.shut {c : Ctx} {w : World} {a : AVal} {v : Value} (h : VR c w a v) : a.closed = true → ∀ ι, VR ⟨ι, c.F⟩ w a v := by
  induction h with
  | any v => intro h; simp [AVal.closed, AVal.closed2, AVal.closed1, AVal.closed0] at h
  | bool b => exact fun _ _ => .bool b
  | int k n => exact fun _ _ => .int k n
  | str l s h => exact fun _ _ => .str l s h
  | nilp => exact fun _ _ => .nilp
  | ptr id off b o h => intro h; simp [AVal.closed, AVal.closed2, AVal.closed1, AVal.closed0] at h
  | ip cells off cl b o g hcl hF hc _ ih =>
    intro h ι
    have hcl' : cl = true := by simpa [AVal.closed, AVal.closed2, AVal.closed1, AVal.closed0] using h
    exact .ip cells off cl b o g hcl hF hc fun j a ha => ih j a ha (closed1_ (hcl hcl' a (List.mem_of_getElem? ha))) ι
  | nils => exact fun _ _ => .nils
  | sl id off len cap sz b o ca h1 h2 h3 h4 h5 => intro h; simp [AVal.closed, AVal.closed2, AVal.closed1, AVal.closed0] at h
  | sl0 id off cap sz b o a h1 h => intro h; simp [AVal.closed, AVal.closed2, AVal.closed1, AVal.closed0] at h
  | isl cells off len cap cl b o ca g hcl hF h2 h3 h4 hc _ ih =>
    intro h ι
    have hcl' : cl = true := by simpa [AVal.closed, AVal.closed2, AVal.closed1, AVal.closed0] using h
    exact .isl cells off len cap cl b o ca g hcl hF h2 h3 h4 hc fun j a ha => ih j a ha (closed1_ (hcl hcl' a (List.mem_of_getElem? ha))) ι
  | isl0 cells off cap cl a ca h h' => exact fun _ _ => .isl0 cells off cap cl a ca h h'
  | nilm => exact fun _ _ => .nilm
  | map id b o h => intro h; simp [AVal.closed, AVal.closed2, AVal.closed1, AVal.closed0] at h
  | fn f first cap vf vc h1 h2 _ _ ih1 ih2 =>
    intro h ι
    simp only [AVal.closed, Bool.and_eq_true, List.all_eq_true] at h
    exact .fn f first cap vf vc h1 h2 (fun j a v ha hv => ih1 j a v ha hv (closed1_ (h.1 a (List.mem_of_getElem? ha))) ι)
      (fun j a v ha hv => ih2 j a v ha hv (closed1_ (h.2 a (List.mem_of_getElem? ha))) ι)
  | nilfn => exact fun _ _ => .nilfn
  | iface t a v _ ih =>
    intro h ι
    exact .iface t a v (ih (closed1_ (closed0_1 (by simpa [AVal.closed, AVal.closed2, AVal.closed1] using h))) ι)
  | nili => exact fun _ _ => .nili
  | agg cs vs h _ ih =>
    intro h' ι
    have h2 : cs.all AVal.closed1 = true := by simpa [AVal.closed, AVal.closed2] using h'
    exact .agg cs vs h fun j a v ha hv => ih j a v ha hv (closed1_ (List.all_eq_true.1 h2 a (List.mem_of_getElem? ha))) ι
  | tup cs vs h _ ih =>
    intro h' ι
    have h2 : cs.all AVal.closed2 = true := by simpa [AVal.closed] using h'
    exact .tup cs vs h fun j a v ha hv => ih j a v ha hv (closed2_ (List.all_eq_true.1 h2 a (List.mem_of_getElem? ha))) ι
  | obj o v _ ih => exact fun _ ι => .obj o v (ih (closed1_ (expand_closed o)) ι)

theorem VRs.mono {c c' : Ctx} {w w' : World} (l : Le c w c' w') {as : List AVal} {vs : Array Value} (h : VRs c w as vs) : VRs c' w' as vs :=
  ⟨h.1, fun j a v ha hv => (h.2 j a v ha hv).mono l⟩

/-- From one state to a later one. -/
structure Post (c : Ctx) (w : World) (H : Heap) (c' : Ctx) (w' : World) (H' : Heap) : Prop where
  ι : ∀ id p, c.ι id = some p → c'.ι id = some p
  new : ∀ id b off, c'.ι id = some (b, off) → c.ι id = some (b, off) ∨
    (H.length ≤ id ∧ (w.heap.size ≤ b ∨ ∃ i o, Live H i ∧ c.ι i = some (b, o)))
  F : ∀ b, c.F b → c'.F b
  Fnew : ∀ b, c'.F b → c.F b ∨ w.heap.size ≤ b ∨ ∃ i o, Live H i ∧ c.ι i = some (b, o)
  frame : ∀ b, b < w.heap.size → (∀ i o, Live H i → c.ι i ≠ some (b, o)) → w'.heap[b]? = w.heap[b]?
  unm : ∀ id, id < H.length → c.ι id = none → H'[id]? = H[id]?
  dead : ∀ id, id < H.length → ¬ Live H id → ¬ Live H' id
  len : H.length ≤ H'.length
  size : w.heap.size ≤ w'.heap.size
  siz : ∀ (b : Nat) (arr : Array Value) (e : TypeId) (fz : Nat × Nat), w.heap[b]? = some (.cells arr e fz) → ∃ (arr' : Array Value) (e' : TypeId) (fz' : Nat × Nat), w'.heap[b]? = some (Obj.cells arr' e' fz') ∧ arr'.size = arr.size
  os : w'.os = w.os
  tape : w'.tape = w.tape
  output : w'.output = w.output

theorem Post.le {c c' : Ctx} {w w' : World} {H H' : Heap} (r : Rel c w H) (p : Post c w H c' w' H') : Le c w c' w' :=
  ⟨p.ι, p.F, fun b hb => p.frame b (r.fr b hb) (fun i o hl hi => r.sep i b o hl hi hb), p.siz⟩

theorem Post.refl (c : Ctx) (w : World) (H : Heap) : Post c w H c w H :=
  ⟨fun _ _ h => h, fun _ _ _ h => .inl h, fun _ h => h, fun _ h => .inl h, fun _ _ _ => rfl, fun _ _ _ => rfl, fun _ _ h => h, Nat.le_refl _, Nat.le_refl _,
   fun _ arr e fz h => ⟨arr, e, fz, h, rfl⟩, rfl, rfl, rfl⟩

theorem Live.lt {H : Heap} {i : Nat} (h : Live H i) : i < H.length := by
  obtain ⟨o, h, _⟩ := h
  exact (List.getElem?_eq_some_iff.1 h).1

theorem Post.trans {c1 c2 c3 : Ctx} {w1 w2 w3 : World} {H1 H2 H3 : Heap} (r : Rel c1 w1 H1) (p : Post c1 w1 H1 c2 w2 H2) (q : Post c2 w2 H2 c3 w3 H3) :
    Post c1 w1 H1 c3 w3 H3 := by
  -- a block that is live's in the second state was live's in the first, or is new
  have back : ∀ b i o, Live H2 i → c2.ι i = some (b, o) → w1.heap.size ≤ b ∨ ∃ i o, Live H1 i ∧ c1.ι i = some (b, o) := by
    intro b i o hl hi
    rcases p.new i b o hi with h | ⟨_, h⟩
    · by_cases hl1 : Live H1 i
      · exact .inr ⟨i, o, hl1, h⟩
      · exact absurd hl (p.dead i (r.dom i b o h).1 hl1)
    · exact h
  refine ⟨fun id x e => q.ι id x (p.ι id x e), ?_, fun b e => q.F b (p.F b e), ?_, ?_, ?_, ?_, Nat.le_trans p.len q.len, Nat.le_trans p.size q.size, ?_,
    q.os.trans p.os, q.tape.trans p.tape, q.output.trans p.output⟩
  · intro id b off h
    rcases q.new id b off h with h | ⟨hl, h⟩
    · exact p.new id b off h
    · refine .inr ⟨Nat.le_trans p.len hl, ?_⟩
      rcases h with h | ⟨i, o, hi, hb⟩
      · exact .inl (Nat.le_trans p.size h)
      · exact back b i o hi hb
  · intro b h
    rcases q.Fnew b h with h | h | ⟨i, o, hi, hb⟩
    · exact p.Fnew b h
    · exact .inr (.inl (Nat.le_trans p.size h))
    · exact .inr (back b i o hi hb)
  · intro b hb hn
    refine (q.frame b (Nat.lt_of_lt_of_le hb p.size) ?_).trans (p.frame b hb hn)
    intro i o hi hh
    rcases back b i o hi hh with h | ⟨i, o, hi, hh⟩
    · omega
    · exact hn i o hi hh
  · intro id hid hn
    refine (q.unm id (Nat.lt_of_lt_of_le hid p.len) ?_).trans (p.unm id hid hn)
    cases e : c2.ι id with
    | none => rfl
    | some x =>
      rcases p.new id x.1 x.2 e with h | ⟨h, _⟩
      · rw [hn] at h; cases h
      · omega
  · intro id hid hn
    exact q.dead id (Nat.lt_of_lt_of_le hid p.len) (p.dead id hid hn)
  · intro b arr e fz h
    obtain ⟨a2, e2, f2, h2, s2⟩ := p.siz b arr e fz h
    obtain ⟨a3, e3, f3, h3, s3⟩ := q.siz b a2 e2 f2 h2
    exact ⟨a3, e3, f3, h3, s3.trans s2⟩

end Go.AM
