/- The abstract machine, 2: what it does, operation by operation; code; calls. -/
import Derived.Test.YthalheopcepgkaaAm1
namespace Go.AM
set_option linter.unusedVariables false

/-! #### environments -/
inductive Tr where
  | lf
  | nd (l : Tr) (v : AVal) (r : Tr)

def Tr.get : Tr → Nat → AVal
  | .lf, _ => .any
  | .nd l v r, n => match n with
    | 0 => v
    | m + 1 => match m % 2 with
      | 0 => l.get (m / 2)
      | _ + 1 => r.get (m / 2)

def Tr.one (v : AVal) : Nat → Nat → Tr
  | 0, _ => .lf
  | f + 1, n => match n with
    | 0 => .nd .lf v .lf
    | m + 1 => match m % 2 with
      | 0 => .nd (Tr.one v f (m / 2)) .any .lf
      | _ + 1 => .nd .lf .any (Tr.one v f (m / 2))

def Tr.set : Tr → Nat → AVal → Tr
  | .lf, n, v => Tr.one v (n + 1) n
  | .nd l w r, n, v => match n with
    | 0 => .nd l v r
    | m + 1 => match m % 2 with
      | 0 => .nd (l.set (m / 2) v) w r
      | _ + 1 => .nd l w (r.set (m / 2) v)

theorem Tr.get_lf (n : Nat) : Tr.lf.get n = .any := by simp [Tr.get]

theorem Tr.get_one (v : AVal) : ∀ (f n m : Nat), n < f → (Tr.one v f n).get m = if m = n then v else .any := by
  intro f
  induction f with
  | zero => intro n m h; omega
  | succ f ih =>
    intro n m h
    cases n with
    | zero =>
      cases m with
      | zero => simp [Tr.one, Tr.get]
      | succ m => simp only [Tr.one, Tr.get]; split <;> simp
    | succ n =>
      cases m with
      | zero => simp only [Tr.one]; split <;> simp [Tr.get]
      | succ m =>
        have hd : n / 2 < f := by omega
        simp only [Tr.one]
        split <;> rename_i h1 <;> simp only [Tr.get] <;> split <;> rename_i h2
        · rw [ih _ _ hd]; split <;> split <;> first | rfl | omega
        · rw [if_neg (by omega)]
        · rw [if_neg (by omega)]
        · rw [ih _ _ hd]; split <;> split <;> first | rfl | omega

theorem Tr.get_set (t : Tr) : ∀ (n m : Nat) (v : AVal), (t.set n v).get m = if m = n then v else t.get m := by
  induction t with
  | lf => intro n m v; rw [Tr.set, Tr.get_one v _ _ _ (by omega), Tr.get_lf]
  | nd l w r ihl ihr =>
    intro n m v
    cases n with
    | zero =>
      cases m with
      | zero => simp [Tr.set, Tr.get]
      | succ m => simp [Tr.set, Tr.get]
    | succ n =>
      cases m with
      | zero => simp only [Tr.set]; split <;> simp [Tr.get]
      | succ m =>
        simp only [Tr.set]
        split <;> rename_i h1 <;> simp only [Tr.get] <;> split <;> rename_i h2
        · rw [ihl]; split <;> split <;> first | rfl | omega
        · rw [if_neg (by omega)]
        · rw [if_neg (by omega)]
        · rw [ihr]; split <;> split <;> first | rfl | omega

/-! #### numbers are told at once -/
def fNat {α : Type} (n : Nat) (k : Nat → α) : α := match n with | 0 => k 0 | m + 1 => k (m + 1)
def fInt {α : Type} (n : Int) (k : Int → α) : α := match n with | .ofNat m => fNat m fun m => k (.ofNat m) | .negSucc m => fNat m fun m => k (.negSucc m)
def fBool {α : Type} (b : Bool) (k : Bool → α) : α := match b with | true => k true | false => k false
theorem fNat_eq {α : Type} (n : Nat) (k : Nat → α) : fNat n k = k n := by cases n <;> rfl
theorem fInt_eq {α : Type} (n : Int) (k : Int → α) : fInt n k = k n := by cases n <;> simp [fInt, fNat_eq]
theorem fBool_eq {α : Type} (b : Bool) (k : Bool → α) : fBool b k = k b := by cases b <;> rfl
def mkI (k : IntKind) (n : Int) : Option AVal := fInt n fun n => some (.int k n)
def mkB (b : Bool) : Option AVal := fBool b fun b => some (.bool b)
theorem mkI_eq (k : IntKind) (n : Int) : mkI k n = some (.int k n) := fInt_eq _ _
theorem mkB_eq (b : Bool) : mkB b = some (.bool b) := fBool_eq _ _

def wrapI (k : IntKind) (n : Int) : Int := match k with
  | .i64 => let m := n % 18446744073709551616; if m < 9223372036854775808 then m else m - 18446744073709551616
  | .u64 => n % 18446744073709551616
  | .i32 => let m := n % 4294967296; if m < 2147483648 then m else m - 4294967296
  | .u32 => n % 4294967296
  | .i16 => let m := n % 65536; if m < 32768 then m else m - 65536
  | .u16 => n % 65536
  | .i8 => let m := n % 256; if m < 128 then m else m - 256
  | .u8 => n % 256

theorem wrapI_eq (k : IntKind) (n : Int) : k.wrap n = wrapI k n := by
  cases k <;> simp only [IntKind.wrap, IntKind.signed, IntKind.bits, wrapI] <;> simp <;> (try split) <;> (try split) <;> omega

/-! #### types, programs -/
structure TI where
  desc : TypeDesc
  size : Nat
  bytes : Nat
  zero : List AVal
  agg : Bool
  flds : List (Nat × Nat × Bool)

structure Sg where
  ty : TypeId → Option TI
  fn : FuncId → Option Func
  ext : FuncId → Option (List AVal → Heap → Option (AVal × Heap))
  pure : FuncId → Bool
  quiet : FuncId → Bool
  mutT : TypeId → Bool
  eqT : TypeId → Bool
  meth : TypeId → String → Option FuncId
  glob : Nat → AVal

def ofV1 : Value → AVal
  | .bool b => .bool b
  | .int k n => .int k n
  | .string s => .str s.data.toList
  | .pointer none => .nilp
  | .slice none 0 0 => .nils
  | .map none => .nilm
  | .nilFunc => .nilfn
  | .nilIface => .nili
  | _ => .any

def ofValue : Value → AVal
  | .agg cs => .agg (cs.toList.map ofV1)
  | .tuple cs => .tup (cs.toList.map ofV1)
  | v => ofV1 v

def opd (S : Sg) (e : Tr) : Operand → AVal
  | .tmp t => e.get t
  | .const v => ofValue v
  | .global g => S.glob g
  | .func f => .fn f [] []

/-- The cells of a value that is to be laid into memory. -/
def cellsOf : AVal → Option (List AVal)
  | .any | .tup _ => none
  | .agg cs => some cs
  | v => some [v]

/-! #### memory -/
/-- What a pointer points into, and where. -/
def rowAt (H : Heap) : AVal → Option (List AVal × Nat)
  | .ptr id off => match H[id]? with
    | some (.cells vs _) => some (vs, off)
    | _ => none
  | .ip cells off _ => some (cells, off)
  | .obj o => match expand o with
    | .ip cells off _ => some (cells, off)
    | _ => none
  | _ => none

def getVar (t : TI) (row : List AVal) (off : Nat) : Option AVal :=
  if t.agg then (if off + t.size ≤ row.length then some (.agg ((row.drop off).take t.size)) else none) else row[off]?

def setRange (vs : List AVal) (off : Nat) (news : List AVal) : List AVal := vs.take off ++ news ++ vs.drop (off + news.length)

/-- A pointer some cells further on. -/
def ptrAdd : AVal → Nat → Option AVal
  | .ptr id off, n => some (.ptr id (off + n))
  | .ip cells off cl, n => some (.ip cells (off + n) cl)
  | .obj o, n => match expand o with
    | .ip cells off cl => some (.ip cells (off + n) cl)
    | _ => none
  | _, _ => none

def fillA (place : Nat → Option (Nat × Nat)) (cells : List AVal) : List (Nat × AVal) → Option (List AVal)
  | [] => some cells
  | (i, v) :: rest =>
    match place i, cellsOf v with
    | some (off, size), some vc => if vc.length = size ∧ off + size ≤ cells.length then fillA place (setRange cells off vc) rest else none
    | _, _ => none

/-- A row of its own: one that may be written, or one that may not. -/
def newRowA (mu : Bool) (H : Heap) (cells : List AVal) (ty : TypeId) : AVal × Heap :=
  if mu then (.ptr H.length 0, H ++ [.cells cells ty]) else (.ip cells 0 (cells.all AVal.closed1), H)

/-! #### numbers, strings, comparisons -/
def intBin (op : BinOp) (k : IntKind) (a b : Int) : Option AVal :=
  match op with
  | .add => mkI k (wrapI k (a + b))
  | .sub => mkI k (wrapI k (a - b))
  | .mul => mkI k (wrapI k (a * b))
  | .quo => if b = 0 then none else mkI k (wrapI k (a.tdiv b))
  | .rem => if b = 0 then none else mkI k (a.tmod b)
  | .and => mkI k (wrapI k (BitVec.ofInt k.bits a &&& BitVec.ofInt k.bits b).toNat)
  | .or => mkI k (wrapI k (BitVec.ofInt k.bits a ||| BitVec.ofInt k.bits b).toNat)
  | .xor => mkI k (wrapI k (BitVec.ofInt k.bits a ^^^ BitVec.ofInt k.bits b).toNat)
  | .andNot => mkI k (wrapI k (BitVec.ofInt k.bits a &&& ~~~BitVec.ofInt k.bits b).toNat)
  | .eql => mkB (decide (a = b))
  | .neq => mkB (!decide (a = b))
  | .lss => mkB (decide (a < b))
  | .leq => mkB (decide (a ≤ b))
  | .gtr => mkB (decide (b < a))
  | .geq => mkB (decide (b ≤ a))
  | _ => none

def shiftBin (op : BinOp) (k : IntKind) (a b : Int) : Option AVal :=
  if b < 0 then none else
  match op with
  | .shl => mkI k (wrapI k (a * 2 ^ (min b.toNat k.bits)))
  | .shr => mkI k (a.fdiv (2 ^ (min b.toNat k.bits)))
  | _ => none

def strBin (op : BinOp) (a b : List UInt8) : Option AVal :=
  match op with
  | .add => if a.length + b.length ≤ 4611686018427387904 then some (.str (a ++ b)) else none
  | .eql => mkB (decide (a = b))
  | .neq => mkB (!decide (a = b))
  | .lss => mkB (Op.bytesLess a b)
  | .leq => mkB (Op.bytesLess a b || decide (a = b))
  | .gtr => mkB (!(Op.bytesLess a b || decide (a = b)))
  | .geq => mkB (!Op.bytesLess a b)
  | _ => none

/-- '==' of two cells that are numbers, strings or bools. -/
def eqCell : AVal → AVal → Option Bool
  | .int k a, .int k' b => if k = k' then some (decide (a = b)) else none
  | .str a, .str b => some (decide (a = b))
  | .bool a, .bool b => some (a == b)
  | _, _ => none

def eqCells : List AVal → List AVal → Option Bool
  | [], [] => some true
  | a :: as, b :: bs => match eqCell a b with
    | some true => eqCells as bs
    | some false => match eqCells as bs with
      | some _ => some false
      | none => none
    | none => none
  | _, _ => none

def isPtr : AVal → Bool
  | .ptr _ _ | .ip _ _ _ | .obj _ => true
  | _ => false

/-- '==' of other values. -/
def eqA (S : Sg) (t : TypeId) (x y : AVal) (isC : Bool) : Option Bool :=
  match x, y with
  | .bool a, .bool b => match S.ty t with
    | some { desc := .bool, .. } => some (a == b)
    | _ => none
  | .nilp, y => match S.ty t with
    | some { desc := .pointer _, .. } => match y with
      | .nilp => some true
      | y => if isPtr y then some false else none
    | _ => none
  | .nili, .nili => if isC then (match S.ty t with
    | some { desc := .interface _, .. } => some true
    | _ => none) else none
  | .nili, .iface _ _ | .iface _ _, .nili => match S.ty t with
    | some { desc := .interface _, .. } => some false
    | _ => none
  | .agg xs, .agg ys => if S.eqT t then eqCells xs ys else none
  | x, .nilp => match S.ty t with
    | some { desc := .pointer _, .. } => if isPtr x then some false else none
    | _ => none
  | _, _ => none

def denBin (S : Sg) (op : BinOp) (t : TypeId) (x y : AVal) (isC : Bool) : Option AVal :=
  match x, y with
  | .int k a, .int k' b =>
    match op with
    | .shl | .shr => shiftBin op k a b
    | op => if k = k' then intBin op k a b else none
  | .str a, .str b => strBin op a b
  | x, y =>
    match op with
    | .eql => match eqA S t x y isC with
      | some b => mkB b
      | none => none
    | .neq => match eqA S t x y isC with
      | some b => mkB (!b)
      | none => none
    | _ => none

def denUn (op : UnOp) (x : AVal) : Option AVal :=
  match op, x with
  | .neg, .int k n => mkI k (wrapI k (0 - n))
  | .not, .bool b => mkB (!b)
  | .xor, .int k n => mkI k (wrapI k (BitVec.ofInt k.bits (if k.signed then -1 else k.max) ^^^ BitVec.ofInt k.bits n).toNat)
  | _, _ => none

def bytesOf : List AVal → Option (List UInt8)
  | [] => some []
  | .int .u8 n :: rest => match bytesOf rest with
    | some l => some (UInt8.ofNat n.toNat :: l)
    | none => none
  | _ => none

def toBytes (l : List UInt8) : List AVal := l.map fun b => .int .u8 b.toNat

/-- The cells of a slice that holds so many elements. -/
def sliceCells (H : Heap) (sz : Nat) : AVal → Option (List AVal × Nat)
  | .nils => some ([], 0)
  | .str l => if sz = 1 then some (toBytes l, l.length) else none
  | .sl id off len _ _ => match H[id]? with
    | some (.cells vs _) => if off + len * sz ≤ vs.length then some ((vs.drop off).take (len * sz), len) else none
    | _ => none
  | .isl cells off len _ _ => if off + len * sz ≤ cells.length then some ((cells.drop off).take (len * sz), len) else none
  | _ => none

def denConvert (S : Sg) (H : Heap) (src dst : TypeId) (x : AVal) : Option AVal :=
  match S.ty src, S.ty dst, x with
  | some _, some { desc := .int k, .. }, .int _ n => mkI k (wrapI k n)
  | some _, some { desc := .string, .. }, .str l => some (.str l)
  | some _, some { desc := .slice e, .. }, .str l => match S.ty e with
    | some { desc := .int .u8, .. } => if l.length ≤ 4611686018427387904 then some (.isl (toBytes l) 0 l.length none true) else none
    | _ => none
  | some { desc := .slice e, .. }, some { desc := .string, .. }, x => match S.ty e with
    | some { desc := .int .u8, .. } => match x with
      | .str _ => none
      | x => match sliceCells H 1 x with
        | some (cs, _) => match bytesOf cs with
          | some l => some (.str l)
          | none => none
        | none => none
    | _ => none
  | _, _, _ => none

/-! #### slices -/
def bound (v : AVal) (most : Nat) : Option Nat :=
  match v with
  | .int _ n => if 0 ≤ n ∧ n ≤ most then some n.toNat else none
  | _ => none

/-- The low bound and the high one; 'cap' stands for what the high one may be at the most. -/
def bounds (len most : Nat) (low high : Option AVal) : Option (Nat × Nat) :=
  match (match high with | some v => bound v most | none => some len) with
  | some h => match (match low with | some v => bound v h | none => some 0) with
    | some l => fNat l fun l => fNat h fun h => some (l, h)
    | none => none
  | none => none

def denSlice (S : Sg) (H : Heap) (t : TypeId) (x : AVal) (low high max : Option AVal) : Option AVal :=
  match max with
  | some _ => none
  | none =>
    match S.ty t, x with
    | some { desc := .string, .. }, .str s => match bounds s.length s.length low high with
      | some (l, h) => some (.str ((s.drop l).take (h - l)))
      | none => none
    | some { desc := .slice e, .. }, .nils => match S.ty e with
      | some _ => (match bounds 0 0 low high with
        | some _ => some .nils
        | none => none)
      | none => none
    | some { desc := .slice e, .. }, .sl id off len cap sz => match S.ty e with
      | some te => if te.size = sz then (match bounds len (cap.getD len) low high with
        | some (l, h) => some (.sl id (off + l * sz) (h - l) (cap.map (· - l)) sz)
        | none => none) else none
      | none => none
    | some { desc := .slice e, .. }, .isl cells off len cap cl => match S.ty e with
      | some te => match bounds len len low high with
        | some (l, h) => some (.isl cells (off + l * te.size) (h - l) (cap.map (· - l)) cl)
        | none => none
      | none => none
    | some { desc := .array n e, .. }, x => match S.ty e, bounds n n low high with
      | some te, some (l, h) => match x with
        | .ptr id off => (match H[id]? with
          | some (.cells vs _) => if off + n * te.size ≤ vs.length ∧ n ≤ 4611686018427387904 then some (.sl id (off + l * te.size) (h - l) (some (n - l)) te.size) else none
          | _ => none)
        | .ip cells off cl => if n ≤ 4611686018427387904 then some (.isl cells (off + l * te.size) (h - l) (some (n - l)) cl) else none
        | _ => none
      | _, _ => none
    | _, _ => none

def denMakeSlice (S : Sg) (H : Heap) (t : TypeId) (l c : AVal) : Option (AVal × Heap) :=
  match S.ty t, l, c with
  | some { desc := .slice e, .. }, .int _ l, .int _ c => match S.ty e with
    | some te => if 0 ≤ l ∧ l ≤ c ∧ c * te.bytes ≤ 140737488355328 ∧ c ≤ 4611686018427387904 then
        some (.sl H.length 0 l.toNat (some c.toNat) te.size, H ++ [.cells ((List.replicate c.toNat te.zero).flatten) e]) else none
    | none => none
  | _, _, _ => none

def denAppend (S : Sg) (H : Heap) (t t2 : TypeId) (s x : AVal) : Option (AVal × Heap) :=
  match S.ty t, S.ty t2 with
  | some { desc := .slice e, .. }, some t2 => match t2.desc with
    | .int _ => none
    | _ => match S.ty e with
      | none => none
      | some te => match sliceCells H te.size x with
        | none => none
        | some (news, n) =>
          if news.all AVal.cell = false then none else
          match n with
          | 0 => match s with
            | .nils | .sl .. | .isl .. => some (s, H)
            | _ => none
          | m + 1 =>
            match s with
            | .nils => if (m + 1) * te.bytes ≤ 140737488355328 ∧ m + 1 ≤ 4611686018427387904 then
                some (.sl H.length 0 (m + 1) none te.size, H ++ [.cells news e]) else none
            | .sl id off len cap sz =>
              if te.size = sz ∧ 0 < sz ∧ (len + (m + 1)) * te.bytes ≤ 140737488355328 ∧ len + (m + 1) ≤ 4611686018427387904 then
                match sliceCells H te.size s with
                | none => none
                | some (olds, _) =>
                  match cap with
                  | none => some (.sl H.length 0 (len + (m + 1)) none te.size, H.set id .dead ++ [.cells (olds ++ news) e])
                  | some c => if len + (m + 1) ≤ c then
                      (match H[id]? with
                      | some (.cells vs ty) => if off + (len + (m + 1)) * sz ≤ vs.length then
                          some (.sl id off (len + (m + 1)) cap sz, H.set id (.cells (setRange vs (off + len * sz) news) ty)) else none
                      | _ => none)
                    else some (.sl H.length 0 (len + (m + 1)) none te.size, H ++ [.cells (olds ++ news) e])
              else none
            | .isl cells off len cap cl =>
              match cap with
              | none => none
              | some c => if c < len + (m + 1) ∧ (len + (m + 1)) * te.bytes ≤ 140737488355328 ∧ len + (m + 1) ≤ 4611686018427387904 then
                  (match sliceCells H te.size s with
                  | none => none
                  | some (olds, _) => some (.sl H.length 0 (len + (m + 1)) none te.size, H ++ [.cells (olds ++ news) e])) else none
            | _ => none
  | _, _ => none

def denCopy (S : Sg) (H : Heap) (t : TypeId) (d x : AVal) : Option (AVal × Heap) :=
  match S.ty t with
  | some { desc := .slice e, .. } => match S.ty e with
    | none => none
    | some te => match sliceCells H te.size x with
      | none => none
      | some (news, n) => if news.all AVal.cell = false then none else match d with
        | .nils => some (.int .i64 0, H)
        | .sl id off len _ sz => if te.size = sz ∧ 0 < sz then
            (match H[id]? with
            | some (.cells vs ty) => fNat (min n len) fun k => if off + k * sz ≤ vs.length then
                some (.int .i64 k, H.set id (.cells (setRange vs off (news.take (k * sz))) ty)) else none
            | _ => none) else none
        | _ => none
  | _ => none

/-! #### maps -/
def sameKey : AVal → AVal → Option Bool
  | .int k a, .int k' b => if k = k' then some (decide (a = b)) else none
  | .str a, .str b => some (decide (a = b))
  | _, _ => none

def findKeyA (k : AVal) : List (AVal × AVal) → Nat → Option (Option (Nat × AVal))
  | [], _ => some none
  | e :: es, i => match sameKey k e.1 with
    | some true => some (some (i, e.2))
    | some false => findKeyA k es (i + 1)
    | none => none

def keyOk (d : TypeDesc) (k : AVal) : Bool :=
  match d, k with
  | .int _, .int _ _ => true
  | .string, .str _ => true
  | _, _ => false

def zeroOf (t : TI) : Option AVal := if t.agg then some (.agg t.zero) else t.zero[0]?

def denLookup (S : Sg) (H : Heap) (t : TypeId) (x k : AVal) (ok : Bool) : Option AVal :=
  match S.ty t with
  | some { desc := .map kt et, .. } => match S.ty kt, S.ty et with
    | some tk, some te => if keyOk tk.desc k then
        (match (match x with
          | .nilm => some none
          | .map id => (match H[id]? with
            | some (.map es) => findKeyA k es 0
            | _ => none)
          | _ => none) with
        | none => none
        | some (some (_, v)) => some (if ok then .tup [v, .bool true] else v)
        | some none => match zeroOf te with
          | some z => some (if ok then .tup [z, .bool false] else z)
          | none => none) else none
    | _, _ => none
  | _ => none

def denMapUpdate (S : Sg) (H : Heap) (t : TypeId) (x k v : AVal) : Option Heap :=
  match S.ty t, x with
  | some { desc := .map kt _, .. }, .map id => match S.ty kt, H[id]? with
    | some tk, some (.map es) => if keyOk tk.desc k then
        (match findKeyA k es 0 with
        | some (some (i, _)) => some (H.set id (.map (es.set i (k, v))))
        | some none => some (H.set id (.map (es ++ [(k, v)])))
        | none => none) else none
    | _, _ => none
  | _, _ => none

/-! #### operations -/
def denLen (H : Heap) (S : Sg) (t : TypeId) (x : AVal) : Option AVal :=
  match S.ty t, x with
  | some { desc := .string, .. }, .str l => fNat l.length fun n => some (.int .i64 n)
  | some { desc := .slice _, .. }, .nils => some (.int .i64 0)
  | some { desc := .slice _, .. }, .sl _ _ n _ _ => some (.int .i64 n)
  | some { desc := .slice _, .. }, .isl _ _ n _ _ => some (.int .i64 n)
  | some { desc := .array n _, .. }, _ => some (.int .i64 n)
  | some { desc := .map _ _, .. }, .nilm => some (.int .i64 0)
  | some { desc := .map _ _, .. }, .map id => match H[id]? with
    | some (.map es) => fNat es.length fun n => some (.int .i64 n)
    | _ => none
  | _, _ => none

def denMinMax (mn : Bool) : List AVal → Option AVal
  | [.int k a, .int k' b] => if k = k' then mkI k (if mn then (if b < a then b else a) else (if a < b then b else a)) else none
  | _ => none

def elemAddr (S : Sg) (t : TypeId) (x : AVal) (i : Int) : Option AVal :=
  match S.ty t with
  | some { desc := .array n e, .. } => match S.ty e with
    | some te => if 0 ≤ i ∧ i < n then ptrAdd x (i.toNat * te.size) else none
    | none => none
  | some { desc := .slice e, .. } => match S.ty e with
    | some te => match x with
      | .sl id off len _ sz => if te.size = sz ∧ 0 ≤ i ∧ i < len then fNat (off + i.toNat * sz) fun o => some (.ptr id o) else none
      | .isl cells off len _ cl => if 0 ≤ i ∧ i < len then fNat (off + i.toNat * te.size) fun o => some (.ip cells o cl) else none
      | _ => none
    | none => none
  | _ => none

def denIndex (S : Sg) (t : TypeId) (x : AVal) (i : Int) : Option AVal :=
  match S.ty t, x with
  | some { desc := .string, .. }, .str l => if 0 ≤ i then (match l[i.toNat]? with
    | some b => fNat b.toNat fun n => some (.int .u8 n)
    | none => none) else none
  | some { desc := .array n e, .. }, .agg cs => match S.ty e with
    | some te => if 0 ≤ i ∧ i < n then getVar te cs (i.toNat * te.size) else none
    | none => none
  | _, _ => none

def denAssert (S : Sg) (x : AVal) (asserted : TypeId) (ok : Bool) : Option AVal :=
  match S.ty asserted with
  | none => none
  | some ta => match ta.desc with
    | .interface _ => none
    | _ => match x with
      | .iface t v => if t = asserted then some (if ok then .tup [v, .bool true] else v) else
          (if ok then (match zeroOf ta with
            | some z => some (.tup [z, .bool false])
            | none => none) else none)
      | .nili => if ok then (match zeroOf ta with
            | some z => some (.tup [z, .bool false])
            | none => none) else none
      | _ => none

abbrev Calling := FuncId → List AVal → Heap → Option (AVal × Heap)

def undefA : AVal := .tup []

def withH (H : Heap) (v : Option AVal) : Option (AVal × Heap) := match v with
  | some v => some (v, H)
  | none => none

def isConstOp : Operand → Bool
  | .const _ => true
  | _ => false

/-- One operation: its value, the heap behind it. 'draw': it stands in a region that draws its order. -/
def denOp (S : Sg) (call : Calling) (draw : Bool) (e : Tr) (H : Heap) (op : Op) : Option (AVal × Heap) :=
  match op with
  | .move x | .assign x => some (opd S e x, H)
  | .pick c a b => match opd S e c with
    | .bool true => some (opd S e a, H)
    | .bool false => some (opd S e b, H)
    | _ => none
  | .alloc t => match S.ty t with
    | some ti => some (.ptr H.length 0, H ++ [.cells ti.zero t])
    | none => none
  | .box t x => match cellsOf (opd S e x) with
    | some cs => some (newRowA (S.mutT t) H cs t)
    | none => none
  | .build t parts => match S.ty t with
    | some ti => match ti.desc with
      | .struct _ => match fillA (fun i => (ti.flds[i]?).map fun f => (f.1, f.2.1)) ti.zero (parts.toList.map fun p => (p.1, opd S e p.2)) with
        | some cs => some (.agg cs, H)
        | none => none
      | .array _ el => match S.ty el with
        | some te => match fillA (fun i => some (i * te.size, te.size)) ti.zero (parts.toList.map fun p => (p.1, opd S e p.2)) with
          | some cs => some (.agg cs, H)
          | none => none
        | none => none
      | _ => none
    | none => none
  | .buildSlice t n parts => match S.ty t with
    | some { desc := .slice el, .. } => match S.ty el with
      | some te => if n * te.size ≤ 16777216 ∧ n ≤ 4611686018427387904 then
          (match fillA (fun i => some (i * te.size, te.size)) ((List.replicate n te.zero).flatten) (parts.toList.map fun p => (p.1, opd S e p.2)) with
          | some cs => if draw then some (.isl cs 0 n (some n) (cs.all AVal.closed1), H) else some (.sl H.length 0 n (some n) te.size, H ++ [.cells cs el])
          | none => none) else none
      | none => none
    | _ => none
  | .load t a => match S.ty t, rowAt H (opd S e a) with
    | some ti, some (row, off) => withH H (getVar ti row off)
    | _, _ => none
  | .store t a x => match S.ty t, opd S e a, cellsOf (opd S e x) with
    | some ti, .ptr id off, some cs => match H[id]? with
      | some (.cells vs ty) => if cs.length = ti.size ∧ off + ti.size ≤ vs.length ∧ cs.all AVal.cell then some (undefA, H.set id (.cells (setRange vs off cs) ty)) else none
      | _ => none
    | _, _, _ => none
  | .nilCheck x => match opd S e x with
    | .ptr id off => some (.ptr id off, H)
    | .ip cs off cl => some (.ip cs off cl, H)
    | .obj o => some (.obj o, H)
    | .iface t v => some (.iface t v, H)
    | .fn f a b => some (.fn f a b, H)
    | _ => none
  | .binOp op t x y _ => withH H (denBin S op t (opd S e x) (opd S e y) (isConstOp x || isConstOp y))
  | .unOp op _ x => withH H (denUn op (opd S e x))
  | .convert s d x => withH H (denConvert S H s d (opd S e x))
  | .makeInterface t x => match S.ty t with
    | some ti => match ti.desc with
      | .interface _ => none
      | _ => some (.iface t (opd S e x), H)
    | none => none
  | .makeFunc (.func f) first captured => some (.fn f (first.toList.map (opd S e)) (captured.toList.map (opd S e)), H)
  | .makeMap t r => match r with
    | none => some (.map H.length, H ++ [.map []])
    | some r => match S.ty t, opd S e r with
      | some { desc := .map _ _, .. }, .int _ _ => some (.map H.length, H ++ [.map []])
      | _, _ => none
  | .makeSlice t l c => denMakeSlice S H t (opd S e l) (opd S e c)
  | .slice t x lo hi mx => withH H (denSlice S H t (opd S e x) (lo.map (opd S e)) (hi.map (opd S e)) (mx.map (opd S e)))
  | .fieldAddr t x i => match S.ty t with
    | some ti => match ti.desc, ti.flds[i]? with
      | .struct _, some (off, size, _) => match size with
        | 0 => none
        | _ + 1 => withH H (ptrAdd (opd S e x) off)
      | _, _ => none
    | none => none
  | .field t x i => match S.ty t with
    | some ti => match ti.desc, ti.flds[i]?, opd S e x with
      | .struct _, some (off, size, agg), .agg cs => if agg then (if off + size ≤ cs.length then some (.agg ((cs.drop off).take size), H) else none) else withH H cs[off]?
      | _, _, _ => none
    | none => none
  | .indexAddr t x i => match opd S e i with
    | .int _ n => withH H (elemAddr S t (opd S e x) n)
    | _ => none
  | .index t x i => match opd S e i with
    | .int _ n => withH H (denIndex S t (opd S e x) n)
    | _ => none
  | .lookup t x k ok => withH H (denLookup S H t (opd S e x) (opd S e k) ok)
  | .mapUpdate t m k v | .insert t m k v => match denMapUpdate S H t (opd S e m) (opd S e k) (opd S e v) with
    | some H' => some (undefA, H')
    | none => none
  | .range t x => match S.ty t, opd S e x with
    | some { desc := .string, .. }, .str s => some (.ptr H.length 0, H ++ [.siter s 0])
    | _, _ => none
  | .next it true => match opd S e it with
    | .ptr id 0 => match H[id]? with
      | some (.siter s pos) => match s[pos]? with
        | none => some (.tup [.bool false], H)
        | some b => if b.toNat < 128 then fNat b.toNat fun n => fNat (pos + 1) fun p => some (.tup [.bool true, .int .i64 pos, .int .i32 n], H.set id (.siter s p)) else none
      | _ => none
    | _ => none
  | .typeAssert x _ t ok => withH H (denAssert S (opd S e x) t ok)
  | .extract x i => match opd S e x with
    | .tup vs => withH H vs[i]?
    | _ => none
  | .call c => match c.callee with
    | .value f => match opd S e f with
      | .fn g first cap => call g (first ++ c.args.toList.map (opd S e) ++ cap) H
      | _ => none
    | .invoke r m => match opd S e r with
      | .iface t v => match S.meth t m with
        | some g => call g (v :: c.args.toList.map (opd S e)) H
        | none => none
      | _ => none
    | .builtin b => match b, c.args.toList.map (opd S e), c.argTypes.toList with
      | .append, [s, x], [t, t2] => denAppend S H t t2 s x
      | .copy, [d, x], t :: _ => denCopy S H t d x
      | .len, [x], t :: _ => withH H (denLen H S t x)
      | .min, xs, _ => withH H (denMinMax true xs)
      | .max, xs, _ => withH H (denMinMax false xs)
      | _, _, _ => none
  | _ => none

/-- Is the operation wanted? (none: not known) -/
def wantedA (ops : Array Oper) (e : Tr) (o : Oper) : Option Bool :=
  match o.guard with
  | none => some true
  | some (j, want) => match (ops[j]?).bind (·.dst) with
    | none => some false
    | some d => match e.get d with
      | .bool b => some (b == want)
      | .tup _ => some false
      | _ => none

/-- The value goes where it belongs ('n': how many temporaries there are). -/
def putA (n : Nat) (e : Tr) (dst : Option Tmp) (v : AVal) : Option Tr :=
  match dst with
  | none => some e
  | some d => if d < n then some (e.set d v) else none

def denOps (S : Sg) (call : Calling) (n : Nat) (draw : Bool) (ops : Array Oper) : List Oper → Tr → Heap → Option (Tr × Heap)
  | [], e, H => some (e, H)
  | o :: rest, e, H =>
    match wantedA ops e o with
    | none => none
    | some false => match putA n e o.dst undefA with
      | some e' => denOps S call n draw ops rest e' H
      | none => none
    | some true => match denOp S call draw e H o.op with
      | none => none
      | some (v, H') => match putA n e o.dst v with
        | some e' => denOps S call n draw ops rest e' H'
        | none => none

inductive Ex where
  | normal
  | exit (id : Nat)
  | ret

/-- A region that draws its order; see the third text. -/
abbrev Drawing := Calling → Nat → Array Oper → Tr → Heap → Option (Tr × Heap)

abbrev Run := Code → Tr → Heap → Option (Ex × Tr × Heap)

def stepCode (S : Sg) (dr : Drawing) (call : Calling) (n : Nat) (rec : Run) : Run
  | .skip, e, H => some (.normal, e, H)
  | .label _, e, H => some (.normal, e, H)
  | .region _ ops false, e, H => match denOps S call n false ops ops.toList e H with
    | some (e', H') => some (.normal, e', H')
    | none => none
  | .region _ ops true, e, H => match dr call n ops e H with
    | some (e', H') => some (.normal, e', H')
    | none => none
  | .seq a b, e, H => match rec a e H with
    | some (.normal, e', H') => rec b e' H'
    | r => r
  | .cond c a b, e, H => match opd S e c with
    | .bool true => rec a e H
    | .bool false => rec b e H
    | _ => none
  | .block id body, e, H => match rec body e H with
    | some (.exit id', e', H') => if id' = id then some (.normal, e', H') else some (.exit id', e', H')
    | r => r
  | .loop body, e, H => match rec body e H with
    | some (.normal, e', H') => rec (.loop body) e' H'
    | r => r
  | .exit id, e, H => some (.exit id, e, H)
  | .ret, e, H => some (.ret, e, H)
  | _, _, _ => none

def argTr : List AVal → Nat → Tr → Tr
  | [], _, e => e
  | a :: as, i, e => argTr as (i + 1) (e.set i a)

def oneRes (S : Sg) (e : Tr) (H : Heap) : ResultVar → Option AVal
  | .tmp t => some (e.get t)
  | .cell a t => match S.ty t, rowAt H (e.get a) with
    | some ti, some (row, off) => getVar ti row off
    | _, _ => none

def allRes (S : Sg) (e : Tr) (H : Heap) : List ResultVar → Option (List AVal)
  | [] => some []
  | r :: rs => match oneRes S e H r, allRes S e H rs with
    | some v, some vs => some (v :: vs)
    | _, _ => none

def denResults (S : Sg) (fn : Func) (e : Tr) (H : Heap) : Option AVal :=
  match allRes S e H fn.results.toList with
  | some [v] => some v
  | some vs => some (.tup vs)
  | none => none

/-- A value made immutable, all that it leads to with it. -/
def sealL (f : AVal → Option AVal) : List AVal → Option (List AVal)
  | [] => some []
  | a :: as => match f a, sealL f as with
    | some b, some bs => some (b :: bs)
    | _, _ => none

def sealV (H : Heap) : Nat → AVal → Option AVal
  | 0, _ => none
  | n + 1, a => if a.closed then some a else match a with
    | .ptr id off => match H[id]? with
      | some (.cells vs _) => match sealL (sealV H n) vs with
        | some cs => if cs.all AVal.closed1 then some (.ip cs off true) else none
        | none => none
      | _ => none
    | .sl id off len cap sz => match H[id]? with
      | some (.cells vs _) => if off + len * sz ≤ vs.length then (match sealL (sealV H n) ((vs.drop off).take (len * sz)) with
        | some cs => if cs.all AVal.closed1 then some (.isl cs 0 len cap true) else none
        | none => none) else none
      | _ => none
    | .ip cells off _ => match sealL (sealV H n) cells with
      | some cs => if cs.all AVal.closed1 then some (.ip cs off true) else none
      | none => none
    | .isl cells off len cap _ => match sealL (sealV H n) cells with
      | some cs => if cs.all AVal.closed1 then some (.isl cs off len cap true) else none
      | none => none
    | .iface t v => match sealV H n v with
      | some v' => some (.iface t v')
      | none => none
    | .agg cs => match sealL (sealV H n) cs with
      | some cs' => some (.agg cs')
      | none => none
    | .tup cs => match sealL (sealV H n) cs with
      | some cs' => some (.tup cs')
      | none => none
    | _ => none

/-- A call, out of calls and runs of less fuel. -/
def stepCall (S : Sg) (rec : FuncId → Func → Code → Tr → Heap → Option (Ex × Tr × Heap)) : Calling := fun f args H =>
  match S.ext f with
  | some x => x args H
  | none => match S.fn f with
    | none => none
    | some fn => match fn.body with
      | none => none
      | some code =>
        if args.length ≤ fn.ntmps then
          if S.pure f then
            if args.all AVal.closed then
              match rec f fn code (argTr args 0 .lf) [] with
              | some (.exit _, _, _) => none
              | some (_, e, H1) => match denResults S fn e H1 with
                | some v => match sealV H1 12 v with
                  | some v' => if v'.closed then some (v', H) else none
                  | none => none
                | none => none
              | none => none
            else none
          else
            match rec f fn code (argTr args 0 .lf) H with
            | some (.exit _, _, _) => none
            | some (_, e, H1) => withH H1 (denResults S fn e H1)
            | none => none
        else none

/-- Fuel: one Nat for all; a run of a body takes calls of one less. -/
def denR (S : Sg) (dr : Drawing) : Nat → FuncId → Func → Code → Tr → Heap → Option (Ex × Tr × Heap) :=
  Nat.rec (fun _ _ _ _ _ => none) (fun _ rec f fn => stepCode S dr (stepCall S rec) fn.ntmps (fun c e H => rec f fn c e H))

def denC (S : Sg) (dr : Drawing) (n : Nat) : Calling := stepCall S (denR S dr n)

end Go.AM
