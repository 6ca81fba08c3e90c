/- The forward reading of one operation, one region, one function (definitions only). -/
import Derived.Test.YtklobcelbpjjcacHwA
namespace Go.Hw
open Go

def look {α : Type} : List (Nat × α) → Nat → Option α
  | [], _ => none
  | (k, v) :: r, n => match Nat.beq k n with | true => some v | false => look r n

def splitB (b : Bool) (A B : Prop) : Prop := match b with | true => A | false => B

/-- The shape of a plain value. -/
inductive Sh where
  | int (k : IntKind) | bool | str | slice | ptr | other

def Sh.dec : Sh → Value → (Value → Prop) → Prop
  | .int k, v, K => ∃ x, v = .int k x ∧ K (.int k x)
  | .bool, v, K => ∃ b, v = .bool b ∧ K (.bool b)
  | .str, v, K => ∃ s, v = .string s ∧ K (.string s)
  | .slice, v, K => ∃ a n c, v = .slice a n c ∧ K (.slice a n c)
  | .ptr, v, K => ∃ p, v = .pointer p ∧ K (.pointer p)
  | .other, v, K => K v

def decs : List Sh → (List Value → Prop) → Prop
  | [], K => K []
  | .int k :: ss, K => ∃ x, decs ss fun vs => K (.int k x :: vs)
  | .bool :: ss, K => ∃ b, decs ss fun vs => K (.bool b :: vs)
  | .str :: ss, K => ∃ s, decs ss fun vs => K (.string s :: vs)
  | .slice :: ss, K => ∃ a n c, decs ss fun vs => K (.slice a n c :: vs)
  | .ptr :: ss, K => ∃ p, decs ss fun vs => K (.pointer p :: vs)
  | .other :: ss, K => ∃ v, decs ss fun vs => K (v :: vs)

/-- Which operation of a region that draws its order is taken next; 'grow': the heap is to be shown grown behind it. -/
inductive Plan where
  | done
  | take (i : Nat) (p : Plan)
  | quiet (still : Bool) (i : Nat) (p : Plan)
  | split (i : Nat) (p : Plan)
  | eff (grow : Bool) (i : Nat) (p : Plan)
  | alt (grow : Bool) (i : Nat) (p q : Plan)

structure Tab where
  sh : List (Nat × Sh)
  tup : List (Nat × List Sh)
  keep : List (Nat × List Nat)
  plan : List (Nat × Plan)

def Tab.dec (T : Tab) (t : Nat) (v : Value) (K : Value → Prop) : Prop :=
  match look T.sh t with
  | some s => s.dec v K
  | none => match look T.tup t with
    | some ss => decs ss fun vs => v = .tuple vs.toArray ∧ K (.tuple vs.toArray)
    | none => K v

/-- Behind the call: its value, and the heap. -/
def Run (P : Program) (f : FuncId) (args : Array Value) (h : Heap) (R : Value → Heap → Prop) : Prop :=
  ∀ w : World, w.heap = h → Calls P f args w fun e w' => ∃ v, e = .returned v ∧ R v w'.heap ∧ Same w w'

def calleeOk (P : Program) (f : FuncId) : Bool :=
  match P.funcs[f]? with
  | some fn => !(fn.name == "runtime.NumGoroutine") && !fn.body.isNone
  | none => false

/-- A call of a function of the model's own (no body in the text). -/
def ExtF (P : Program) (f : FuncId) (args : Array Value) (h : Heap) (R : Value → Heap → Prop) : Prop :=
  ∃ fn e, P.funcs[f]? = some fn ∧ (fn.name == "runtime.NumGoroutine") = false ∧ fn.body.isNone = true ∧ Extern.findNext fn = none ∧ Extern.find fn = some e ∧ Hwp P (e args) h R
theorem ExtF.mono {P : Program} {f : FuncId} {args : Array Value} {h : Heap} {R R' : Value → Heap → Prop} (hh : ExtF P f args h R) (hr : ∀ v h, R v h → R' v h) : ExtF P f args h R' := by
  obtain ⟨fn, e, h1, h2, h3, h4, h5, h6⟩ := hh
  exact ⟨fn, e, h1, h2, h3, h4, h5, Hwp.mono _ hr h6⟩

def CallF (P : Program) (v : Value) (args : List Value) (h : Heap) (R : Value → Heap → Prop) : Prop :=
  match v with
  | .func (.func f) first captured =>
    match calleeOk P f with
    | true => Run P f (first.toList ++ args ++ captured.toList).toArray h R
    | false => ExtF P f (first.toList ++ args ++ captured.toList).toArray h R
  | _ => False

def opnd (fr : Fr) : Operand → Option Value
  | .tmp t => fr t
  | .const v => some v
  | .global g => some (.pointer (some ⟨g, 0, none⟩))
  | .func f => some (.func (.func f) #[] #[])

def valsOf (ρ : Operand → Option Value) : List Operand → Option (List Value)
  | [] => some []
  | x :: r => match ρ x with
    | some v => match valsOf ρ r with
      | some vs => some (v :: vs)
      | none => none
    | none => none

def val (x : Option Value) (K : Value → Prop) : Prop := match x with | some v => K v | none => False
def ptrOk (p : Option Addr) (K : Addr → Prop) : Prop := match p with | some a => K a | none => False

def isAggD : TypeDesc → Bool
  | .struct _ | .array _ _ => true
  | _ => false

/-- A type's size in cells, and whether its values lie as several cells. -/
def lay (P : Program) (t : TypeId) : Option (Nat × Bool) :=
  match P.info? t with
  | some i => match P.underlying t with
    | some d => some (i.size, isAggD d)
    | none => none
  | none => none

def zeroOf (P : Program) (t : TypeId) : Option Value :=
  match P.info? t with
  | some i => i.zero
  | none => none

def cellsH (h : Heap) (a : Addr) : Nat → Nat → Option (List Value)
  | _, 0 => some []
  | i, n + 1 => match cellH h (a.add i) with
    | some v => match cellsH h a (i + 1) n with
      | some vs => some (v :: vs)
      | none => none
    | none => none

/-- The variable at an address. -/
def ldv (agg : Bool) (n : Nat) (h : Heap) (a : Addr) : Option Value :=
  match agg with
  | true => (cellsH h a 0 n).map fun vs => .agg vs.toArray
  | false => cellH h a

def st1 (h : Heap) (a : Addr) (v : Value) : Option Heap :=
  match v with
  | .agg _ | .tuple _ => none
  | _ => if (cellH h a).isSome = true ∧ frozenH h a = false then some (setH h a v) else none

def stH (h : Heap) (a : Addr) : List Value → Nat → Option Heap
  | [], _ => some h
  | v :: vs, i => match st1 h (a.add i) v with
    | some h' => stH h' a vs (i + 1)
    | none => none

/-- The part of a struct's or an array's value. -/
def fldv (agg : Bool) (n off : Nat) (x : Value) : Option Value :=
  match x with
  | .agg cs => match agg with
    | true => some (.agg (cs.extract off (off + n)))
    | false => cs[off]?
  | _ => none

def fillEv (n : Nat) : List Value → List (Nat × Nat × Bool × Value) → (List Value → Prop) → Prop
  | cells, [], K => K cells
  | cells, (off, size, agg, v) :: rest, K =>
    match Nat.ble (off + size) n with
    | false => False
    | true => match agg with
      | false => match Nat.beq size 1 with
        | true => oneCell v (fillEv n (cells.set off v) rest K)
        | false => False
      | true => ∃ vs : List Value, v = .agg vs.toArray ∧ vs.length = size ∧ fillEv n (cells.take off ++ vs ++ cells.drop (off + size)) rest K

/-- Where parts lie: fields of a struct. -/
def placeF (P : Program) (fs : Array Field) (i : Nat) : Option (Nat × Nat × Bool) :=
  match fs[i]? with
  | some f => match lay P f.type with
    | some (s, g) => some (f.offset, s, g)
    | none => none
  | none => none

def partsOf (ρ : Operand → Option Value) (place : Nat → Option (Nat × Nat × Bool)) : List (Nat × Operand) → Option (List (Nat × Nat × Bool × Value))
  | [] => some []
  | (i, x) :: r => match place i with
    | some (o, s, g) => match ρ x with
      | some v => match partsOf ρ place r with
        | some l => some ((o, s, g, v) :: l)
        | none => none
      | none => none
    | none => none

def mkCells (z : Array Value) (n : Nat) : Array Value := (Array.range n).map (z[· % z.size]!)

def kindB : IntKind → IntKind → Bool
  | .i8, .i8 | .i16, .i16 | .i32, .i32 | .i64, .i64 | .u8, .u8 | .u16, .u16 | .u32, .u32 | .u64, .u64 => true
  | _, _ => false

def bitsI (op : BinOp) (k : IntKind) (x y : Int) : Int :=
  match op with
  | .and => k.wrap (BitVec.ofInt k.bits x &&& BitVec.ofInt k.bits y).toNat
  | .or => k.wrap (BitVec.ofInt k.bits x ||| BitVec.ofInt k.bits y).toNat
  | .xor => k.wrap (BitVec.ofInt k.bits x ^^^ BitVec.ofInt k.bits y).toNat
  | _ => k.wrap (BitVec.ofInt k.bits x &&& ~~~BitVec.ofInt k.bits y).toNat

def shlI (k : IntKind) (x y : Int) : Int := k.wrap (x * 2 ^ min y.toNat k.bits)
def shrI (k : IntKind) (x y : Int) : Int := x.fdiv (2 ^ min y.toNat k.bits)

def intEv (op : BinOp) (k : IntKind) (x y : Int) (K : Value → Prop) : Prop :=
  match op with
  | .add => K (.int k (k.wrap (x + y)))
  | .sub => K (.int k (k.wrap (x - y)))
  | .mul => K (.int k (k.wrap (x * y)))
  | .quo => y ≠ 0 ∧ K (.int k (k.wrap (x.tdiv y)))
  | .rem => y ≠ 0 ∧ K (.int k (x.tmod y))
  | .and | .or | .xor | .andNot => K (.int k (bitsI op k x y))
  | .shl => 0 ≤ y ∧ K (.int k (shlI k x y))
  | .shr => 0 ≤ y ∧ K (.int k (shrI k x y))
  | .eql => K (.bool (x == y))
  | .neq => K (.bool (x != y))
  | .lss => K (.bool (decide (x < y)))
  | .leq => K (.bool (decide (x ≤ y)))
  | .gtr => K (.bool (decide (x > y)))
  | .geq => K (.bool (decide (x ≥ y)))

def strEv (op : BinOp) (x y : ByteArray) (K : Value → Prop) : Prop :=
  match op with
  | .add => x.size + y.size ≤ 9223372036854775807 ∧ K (.string (x ++ y))
  | .eql => K (.bool (x.toList == y.toList))
  | .neq => K (.bool !(x.toList == y.toList))
  | .lss => K (.bool (Op.bytesLess x.toList y.toList))
  | .leq => K (.bool (Op.bytesLess x.toList y.toList || x.toList == y.toList))
  | .gtr => K (.bool !(Op.bytesLess x.toList y.toList || x.toList == y.toList))
  | .geq => K (.bool !(Op.bytesLess x.toList y.toList))
  | _ => False

/-- An operation told by the model's own text. -/
def Gen (P : Program) (s : Sem Value) (h : Heap) (K : Value → Heap → Prop) : Prop := Hwp P s h K

def isBoolB : Sh → Bool | .bool => true | _ => false
def nilB (op : BinOp) (b : Bool) (K : Value → Prop) : Prop :=
  match op with
  | .eql => K (.bool b)
  | .neq => K (.bool !b)
  | _ => False

def genB (op : BinOp) (v : Value) (K : Value → Prop) : Prop :=
  match op with
  | .eql | .neq => ∃ b, v = .bool b ∧ K (.bool b)
  | _ => K v

def binEv (P : Program) (T : Tab) (op : BinOp) (t : TypeId) (xo yo : Operand) (x y : Value) (h : Heap) (K : Value → Heap → Prop) : Prop :=
  match look T.sh t with
  | some (.int _) => match x, y with
    | .int k a, .int k' b => match op with
      | .shl | .shr => intEv op k a b (K · h)
      | _ => match kindB k k' with
        | true => intEv op k a b (K · h)
        | false => False
    | _, _ => False
  | some .str => match x, y with
    | .string a, .string b => strEv op a b (K · h)
    | _, _ => False
  | some .bool => match P.underlying t with
    | some .bool => match x, y with
      | .bool a, .bool b => nilB op (a == b) (K · h)
      | _, _ => False
    | _ => False
  | some .ptr => match P.underlying t with
    | some (.pointer _) => match x, y with
      | .pointer p, .pointer none => nilB op p.isNone (K · h)
      | .pointer p, .pointer (some q) => Gen P (do eqGuard op t xo yo (.pointer p) (.pointer (some q)); binOp op t (.pointer p) (.pointer (some q))) h fun v h' => genB op v (K · h')
      | _, _ => False
    | _ => False
  | some .slice => match P.underlying t with
    | some (.slice _) => match x, y with
      | .slice a _ _, .slice none _ _ => nilB op a.isNone (K · h)
      | _, _ => False
    | _ => False
  | _ => Gen P (do eqGuard op t xo yo x y; binOp op t x y) h fun v h' => genB op v (K · h')

/-- What is appended: how many elements, and their cells. -/
def srcCells (size : Nat) (x : Value) (h : Heap) : Option (Nat × List Value) :=
  match x with
  | .slice (some a) n _ => (cellsH h a 0 (n * size)).map fun l => (n, l)
  | .slice none n _ => some (n, [])
  | .string s => some (s.size, s.data.toList.map fun b => .int .u8 b.toNat)
  | _ => none

def zcells (z : Array Value) (n : Nat) : Array Value := Builtin.zeroCells z n

def oldCells (size : Nat) (a : Option Addr) (n : Nat) (h : Heap) : Option (List Value) := match a with | some a => cellsH h a 0 (n * size) | none => some []

/-- append of elements of type 'elem' ('size' cells, 'bytes' bytes, zero cells 'z'). -/
def AppW (elem size bytes : Nat) (z : Array Value) (base : Option Addr) (n c : Nat) (x : Value) (h : Heap) (K : Value → Heap → Prop) : Prop :=
  ∃ m xs, srcCells size x h = some (m, xs) ∧
    ((n + m ≤ c ∧ ((base = none ∧ K (.slice base (n + m) c) h) ∨ ∃ a h', base = some a ∧ stH h (a.add (n * size)) xs 0 = some h' ∧ K (.slice base (n + m) c) h')) ∨
     (c < n + m ∧ (n + m) * bytes ≤ 140737488355328 ∧ 0 < bytes ∧ ∃ old, oldCells size base n h = some old ∧
      ∀ c', n + m ≤ c' → K (.slice (some ⟨h.size, 0, none⟩) (n + m) c') (h.push (.cells (old.toArray ++ xs.toArray ++ zcells z (c' - (n + m))) elem))))

/-- append of so many zero elements (append(s, make([]E, n)...)). -/
def AppZ (elem size bytes : Nat) (z : Array Value) (base : Option Addr) (n c : Nat) (x : Value) (h : Heap) (K : Value → Heap → Prop) : Prop :=
  ∃ k, ∃ m : Nat, x = .int k (m : Int) ∧ m * bytes ≤ 140737488355328 ∧ m ≤ 4611686018427387904 ∧
    ((n + m ≤ c ∧ ((base = none ∧ K (.slice base (n + m) c) h) ∨ ∃ a h', base = some a ∧ stH h (a.add (n * size)) (if m * size = 0 then [] else (zcells z m).toList) 0 = some h' ∧ K (.slice base (n + m) c) h')) ∨
     (c < n + m ∧ (n + m) * bytes ≤ 140737488355328 ∧ 0 < bytes ∧ n + m ≤ 9223372036854775807 ∧ ∃ old, oldCells size base n h = some old ∧
      ∀ c', n + m ≤ c' → K (.slice (some ⟨h.size, 0, none⟩) (n + m) c') (h.push (.cells (old.toArray ++ (if m * size = 0 then [] else (zcells z m).toList).toArray ++ zcells z (c' - (n + m))) elem))))

def sliceA (a : Option Addr) (l m size : Nat) : Option Addr := if m = l then a else a.map (·.add (l * size))

/-- The bounds of a slice expression: low, high, max. -/
def bndEv (x : Option Value) (dflt : Nat) (K : Int → Prop) : Prop :=
  match x with
  | some (.int _ i) => K i
  | some _ => False
  | none => K dflt

def optV (ρ : Operand → Option Value) : Option Operand → Option (Option Value)
  | none => some none
  | some x => match ρ x with
    | some v => some (some v)
    | none => none

def sliceEv (P : Program) (t : TypeId) (x : Value) (lo hi mx : Option Value) (h : Heap) (K : Value → Heap → Prop) : Prop :=
  match P.underlying t with
  | some .string => match x with
    | .string s => match mx with
      | none => bndEv hi s.size fun e => bndEv lo 0 fun b => 0 ≤ b ∧ b ≤ e ∧ e ≤ s.size ∧ K (.string (s.extract b.toNat e.toNat)) h
      | some _ => False
    | _ => False
  | some (.slice elem) => match P.info? elem with
    | some i => match x with
      | .slice a n c => match mx with
        | none => bndEv hi n fun e => bndEv lo 0 fun b => 0 ≤ b ∧ b ≤ e ∧ e ≤ c ∧ K (.slice (sliceA a b.toNat c i.size) (e.toNat - b.toNat) (c - b.toNat)) h
        | some mv => match hi with
          | none => False
          | some _ => bndEv (some mv) 0 fun m => bndEv hi n fun e => bndEv lo 0 fun b => 0 ≤ b ∧ b ≤ e ∧ e ≤ m ∧ m ≤ c ∧ K (.slice (sliceA a b.toNat m.toNat i.size) (e.toNat - b.toNat) (m.toNat - b.toNat)) h
      | _ => False
    | none => False
  | some (.array n elem) => match P.info? elem with
    | some i => match x with
      | .pointer p => ptrOk p fun a => match mx with
        | none => bndEv hi n fun e => bndEv lo 0 fun b => 0 ≤ b ∧ b ≤ e ∧ e ≤ n ∧ K (.slice (some (if n = b.toNat then a else a.add (b.toNat * i.size))) (e.toNat - b.toNat) (n - b.toNat)) h
        | some _ => False
      | _ => False
    | none => False
  | _ => False

def minV (x : Value) (y : Value) (K : Value → Prop) : Prop := match x, y with | .int k a, .int _ b => K (.int k (if b < a then b else a)) | _, _ => False
def maxV (x : Value) (y : Value) (K : Value → Prop) : Prop := match x, y with | .int k a, .int _ b => K (.int k (if b > a then b else a)) | _, _ => False

def builtEv (P : Program) (T : Tab) (b : Builtin) (ats : Array TypeId) (ty : TypeId) (args : List Value) (h : Heap) (K : Option Value → Heap → Prop) : Prop :=
  match b with
  | .len => match ats[0]? with
    | some t => match P.underlying t with
      | some (.slice _) => match args with
        | [.slice _ n _] => K (some (.int .i64 n)) h
        | _ => False
      | some .string => match args with
        | [.string s] => K (some (.int .i64 s.size)) h
        | _ => False
      | some (.array n _) => match args with
        | [_] => K (some (.int .i64 n)) h
        | _ => False
      | _ => Gen P (Builtin.len_ ats ty args.toArray) h fun v h' => T.dec ty v fun u => K (some u) h'
    | none => False
  | .cap => match ats[0]? with
    | some t => match P.underlying t with
      | some (.slice _) => match args with
        | [.slice _ _ c] => K (some (.int .i64 c)) h
        | _ => False
      | _ => False
    | none => False
  | .append => match ats[0]?, ats[1]? with
    | some t, some t2 => match P.underlying t, P.underlying t2 with
      | some (.slice elem), some d => match d with
        | .int _ => match P.info? elem with
          | some i => match i.zero with
            | some z => match args with
              | [.slice a n c, x] => AppZ elem i.size i.bytes z.cells a n c x h fun v h' => T.dec ty v fun u => K (some u) h'
              | _ => False
            | none => False
          | none => False
        | _ => match P.info? elem with
          | some i => match i.zero with
            | some z => match args with
              | [.slice a n c, x] => AppW elem i.size i.bytes z.cells a n c x h fun v h' => T.dec ty v fun u => K (some u) h'
              | _ => False
            | none => False
          | none => False
      | _, _ => False
    | _, _ => False
  | .min => match args with
    | [x, y] => minV x y fun v => K (some v) h
    | [x, y, z] => minV x y fun v => minV v z fun v => K (some v) h
    | [x, y, z, w] => minV x y fun v => minV v z fun v => minV v w fun v => K (some v) h
    | _ => False
  | .max => match args with
    | [x, y] => maxV x y fun v => K (some v) h
    | [x, y, z] => maxV x y fun v => maxV v z fun v => K (some v) h
    | [x, y, z, w] => maxV x y fun v => maxV v z fun v => maxV v w fun v => K (some v) h
    | _ => False
  | .copy => Gen P (Builtin.copy_ ats ty args.toArray) h fun v h' => T.dec ty v fun u => K (some u) h'
  | .clear => Gen P (Builtin.clear_ ats ty args.toArray) h fun v h' => T.dec ty v fun u => K (some u) h'
  | .delete => Gen P (Builtin.delete_ ats ty args.toArray) h fun v h' => T.dec ty v fun u => K (some u) h'
  | _ => False

def opEv (P : Program) (T : Tab) (ρ : Operand → Option Value) (o : Oper) (h : Heap) (K : Option Value → Heap → Prop) : Prop :=
  match o.op with
  | .move x | .assign x => val (ρ x) fun v => K (some v) h
  | .pick c a b => match ρ c with
    | some (.bool t) => splitB t (val (ρ a) fun v => K (some v) h) (val (ρ b) fun v => K (some v) h)
    | _ => False
  | .alloc t => match zeroOf P t with
    | some z => K (some (.pointer (some ⟨h.size, 0, none⟩))) (h.push (.cells z.cells t))
    | none => False
  | .box t x => val (ρ x) fun v => K (some (.pointer (some ⟨h.size, 0, none⟩))) (h.push (.cells v.cells t))
  | .build t parts => match zeroOf P t with
    | some z => match P.underlying t with
      | some (.struct fs) => match partsOf ρ (placeF P fs) parts.toList with
        | some l => match fs.toList.all fun f => (P.info? f.type).isSome with
          | true => fillEv z.cells.size z.cells.toList l fun cs => K (some (.agg cs.toArray)) h
          | false => False
        | none => False
      | some (.array _ elem) => match lay P elem with
        | some (s, g) => match partsOf ρ (fun i => some (i * s, s, g)) parts.toList with
          | some l => fillEv z.cells.size z.cells.toList l fun cs => K (some (.agg cs.toArray)) h
          | none => False
        | none => False
      | _ => False
    | none => False
  | .buildSlice t len parts => match P.underlying t with
    | some (.slice elem) => match lay P elem with
      | some (s, g) => match Nat.ble (len * s) 16777216 with
        | true => match zeroOf P elem with
          | some z => match partsOf ρ (fun i => some (i * s, s, g)) parts.toList with
            | some l => fillEv (len * s) (mkCells z.cells (len * s)).toList l fun cs => K (some (.slice (some ⟨h.size, 0, none⟩) len len)) (h.push (.cells cs.toArray elem))
            | none => False
          | none => False
        | false => False
      | none => False
    | _ => False
  | .load t x => match lay P t with
    | some (s, g) => match ρ x with
      | some (.pointer p) => ptrOk p fun a => ∃ v, ldv g s h a = some v ∧ T.dec t v fun u => K (some u) h
      | _ => False
    | none => False
  | .store t x y => match lay P t with
    | some (s, g) => match ρ x with
      | some (.pointer p) => val (ρ y) fun v => ptrOk p fun a => match g with
        | true => ∃ vs : List Value, v = .agg vs.toArray ∧ vs.length = s ∧ ∃ h', stH h a vs 0 = some h' ∧ K none h'
        | false => match Nat.beq s 1 with
          | true => ∃ h', st1 h a v = some h' ∧ K none h'
          | false => False
      | _ => False
    | none => False
  | .nilCheck x => match ρ x with
    | some (.pointer p) => ptrOk p fun a => K (some (.pointer (some a))) h
    | some (.func (.func f) first captured) => K (some (.func (.func f) first captured)) h
    | some (.func _ _ _) | some .nilFunc | some .nilIface | none => False
    | some v => K (some v) h
  | .binOp op t x y _ => val (ρ x) fun a => val (ρ y) fun b => binEv P T op t x y a b h fun v h' => K (some v) h'
  | .unOp op _ x => match op, ρ x with
    | .not, some (.bool b) => K (some (.bool !b)) h
    | .neg, some (.int k n) => K (some (.int k (k.wrap (0 - n)))) h
    | .xor, some (.int k n) => K (some (.int k (bitsI .xor k (match k.signed with | true => -1 | false => k.max) n))) h
    | _, _ => False
  | .convert src dst x => match P.underlying src, P.underlying dst with
    | some sd, some (.int k) => match sd with
      | .int _ => match ρ x with
        | some (.int _ n) => K (some (.int k (k.wrap n))) h
        | _ => False
      | _ => False
    | some .string, some .string => match ρ x with
      | some (.string s) => K (some (.string s)) h
      | _ => False
    | some _, some _ => val (ρ x) fun v => Gen P (convert src dst v) h fun v h' => T.dec dst v fun u => K (some u) h'
    | _, _ => False
  | .makeInterface t x => val (ρ x) fun v => Gen P (Instr.makeInterface t v) h fun v h' => K (some v) h'
  | .makeFunc fn first captured => match valsOf ρ first.toList, valsOf ρ captured.toList with
    | some a, some b => K (some (.func fn a.toArray b.toArray)) h
    | _, _ => False
  | .makeMap t r => match optV ρ r with
    | some r' => Gen P (Instr.makeMap t r') h fun v h' => K (some v) h'
    | none => False
  | .makeSlice t l c => match P.underlying t with
    | some (.slice elem) => match P.info? elem with
      | some i => match i.zero with
        | some z => match ρ l, ρ c with
          | some (.int _ l), some (.int _ c) => 0 ≤ l ∧ l ≤ c ∧ c * i.bytes ≤ 140737488355328 ∧ c ≤ 9223372036854775807 ∧
              K (some (.slice (some ⟨h.size, 0, none⟩) l.toNat c.toNat)) (h.push (.cells (mkCells z.cells (c.toNat * i.size)) elem))
          | _, _ => False
        | none => False
      | none => False
    | _ => False
  | .slice t x lo hi mx => val (ρ x) fun v => match optV ρ lo with
    | some lo => match optV ρ hi with
      | some hi => match optV ρ mx with
        | some mx => sliceEv P t v lo hi mx h fun v h' => K (some v) h'
        | none => False
      | none => False
    | none => False
  | .fieldAddr t x f => match P.underlying t with
    | some (.struct fs) => match fs[f]? with
      | some fd => match P.info? fd.type with
        | some i => match Nat.beq i.size 0 with
          | false => match ρ x with
            | some (.pointer p) => ptrOk p fun a => K (some (.pointer (some (a.add fd.offset)))) h
            | _ => False
          | true => False
        | none => False
      | none => False
    | _ => False
  | .field t x f => match P.underlying t with
    | some (.struct fs) => match fs[f]? with
      | some fd => match lay P fd.type with
        | some (s, g) => val (ρ x) fun v => ∃ u, fldv g s fd.offset v = some u ∧ T.dec fd.type u fun u => K (some u) h
        | none => False
      | none => False
    | _ => False
  | .indexAddr t x i => match P.underlying t with
    | some (.slice elem) => match P.info? elem with
      | some inf => match ρ x, ρ i with
        | some (.slice a n _), some (.int _ i) => ptrOk a fun b => 0 ≤ i ∧ i < n ∧ K (some (.pointer (some (b.add (i.toNat * inf.size))))) h
        | _, _ => False
      | none => False
    | some (.array len elem) => match P.info? elem with
      | some inf => match ρ x, ρ i with
        | some (.pointer p), some (.int _ i) => ptrOk p fun b => 0 ≤ i ∧ i < len ∧ K (some (.pointer (some (b.add (i.toNat * inf.size))))) h
        | _, _ => False
      | none => False
    | _ => False
  | .index t x i => match P.underlying t with
    | some .string => match ρ x, ρ i with
      | some (.string s), some (.int _ i) => 0 ≤ i ∧ ∃ b, s[i.toNat]? = some b ∧ K (some (.int .u8 b.toNat)) h
      | _, _ => False
    | some (.array len elem) => match lay P elem with
      | some (s, g) => match ρ i with
        | some (.int _ i) => val (ρ x) fun v => 0 ≤ i ∧ i < len ∧ ∃ u, fldv g s (i.toNat * s) v = some u ∧ T.dec elem u fun u => K (some u) h
        | _ => False
      | none => False
    | _ => False
  | .lookup t x i ok => val (ρ x) fun m => val (ρ i) fun k => Gen P (Instr.lookup t m k ok) h fun v h' => T.dec o.type v fun u => K (some u) h'
  | .mapUpdate t m k x | .insert t m k x => val (ρ m) fun m => val (ρ k) fun k => val (ρ x) fun x => Hwp P (Instr.mapUpdate t m k x) h fun _ h' => K none h'
  | .range t x => val (ρ x) fun x => Gen P (Instr.range t x) h fun v h' => K (some v) h'
  | .next x s => val (ρ x) fun x => Gen P (Instr.next x s o.type) h fun v h' => T.dec o.type v fun u => K (some u) h'
  | .extract x i => match ρ x with
    | some (.tuple vs) => match vs[i]? with
      | some v => K (some v) h
      | none => False
    | _ => False
  | .call c => match c.callee with
    | .builtin b => match valsOf ρ c.args.toList with
      | some vs => builtEv P T b c.argTypes o.type vs h K
      | none => False
    | .value f => val (ρ f) fun f => match valsOf ρ c.args.toList with
      | some vs => CallF P f vs h fun v h' => T.dec o.type v fun u => K (some u) h'
      | none => False
    | .invoke _ _ => False
  | _ => False
end Go.Hw
