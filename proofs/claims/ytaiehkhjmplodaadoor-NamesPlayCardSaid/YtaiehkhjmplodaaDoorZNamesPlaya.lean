/- Part 1: what the law NamesPlay needs, put together out of texts of this session. -/
import Derived.Calls
import Derived.Orders
import Derived.Tactics
import Derived.KernelRfl
import Derived.Test.YtaiehkhjmplodaaDoorProg
section
namespace Go.Hw
open Go
abbrev Heap := Array Obj
abbrev Fr := Nat → Option Value
def cellH (h : Heap) (a : Addr) : Option Value :=
 match h[a.block]? with
 | some (.cells c _ _) => if a.spot.isSome then none else c[a.off]?
 | _ => none
def frozenH (h : Heap) (a : Addr) : Bool :=
 match h[a.block]? with
 | some (.cells _ _ (lo, hi)) => lo ≤ a.off && a.off < hi
 | _ => false
def setH (h : Heap) (a : Addr) (v : Value) : Heap :=
 h.modify a.block fun
     | .cells c elem frozen => .cells (if a.spot.isSome then c else c.setIfInBounds a.off v) elem frozen
     | o => o
def shapeH (h : Heap) (r : Nat) : Option (TypeId × Nat) :=
 match h[r]? with
 | some (.cells c elem _) => some (elem, c.size)
 | _ => none
def freezeH (h : Heap) (a : Addr) (n : Nat) : Heap :=
 if n = 0 then h else
 h.modify a.block fun
     | .cells c elem (lo, hi) => .cells c elem (if lo == hi then (a.off, a.off + n) else (min lo a.off, max hi (a.off + n)))
     | o => o
structure Same (w w' : World) : Prop where
 tape : w'.tape = w.tape
 os : w'.os = w.os
 output : w'.output = w.output
theorem Same.refl (w : World) : Same w w := ⟨rfl, rfl, rfl⟩
theorem Same.trans {a b c : World} (h : Same a b) (k : Same b c) : Same a c := ⟨k.1.trans h.1, k.2.trans h.2, k.3.trans h.3⟩
def oneCell (v : Value) (K : Prop) : Prop :=
 match v with
 | .agg _ | .tuple _ => False
 | _ => K
def Hwp {α : Type} (P : Program) : Sem α → Heap → (α → Heap → Prop) → Prop
 | .pure a, h, K => K a h
 | .load _ a k, h, K => ∃ v, cellH h a = some v ∧ Hwp P (k v) h K
 | .store _ a v k, h, K => oneCell v ((cellH h a).isSome = true ∧ frozenH h a = false ∧ Hwp P k (setH h a v) K)
 | .new o k, h, K => Hwp P (k h.size) (h.push o) K
 | .shape r k, h, K => Hwp P (k (shapeH h r)) h K
 | .freeze a n k, h, K => Hwp P k (freezeH h a n) K
 | .frozen a k, h, K => Hwp P (k (frozenH h a)) h K
 | .getObj r k, h, K => ∃ o, h[r]? = some o ∧ (∀ c e f, o ≠ .cells c e f) ∧ Hwp P (k o) h K
 | .setObj r o k, h, K => ∃ o', h[r]? = some o' ∧ (∀ c e f, o' ≠ .cells c e f) ∧ Hwp P k (h.setIfInBounds r o) K
 | .choose q k, h, K => if q.forced then Hwp P (k 0) h K else ∀ n, Hwp P (k (q.cut n)) h K
 | .sys _ _, _, _ => False
 | .program k, h, K => Hwp P (k P) h K
 | .mark _ k, h, K => Hwp P k h K
 | .halt _, _, _ => False
theorem Hwp.run {α : Type} {P : Program} (s : Sem α) : ∀ (w : World) (K : α → Heap → Prop), Hwp P s w.heap K → ∃ v w', s.run P w = .ok v w' ∧ K v w'.heap ∧ Same w w' := by
 induction s with
 | pure a => exact fun w K h => ⟨a, w, rfl, h, .refl _⟩
 | load m a k ih =>
   rintro w K ⟨v, hc, h⟩
   obtain ⟨r, w', h1, h2, h3⟩ := ih v w K h
   refine ⟨r, w', ?_, h2, h3⟩
   have : w.cell? a = some v := hc
   simp only [Sem.run, this, h1]
 | store m a v k ih =>
   intro w K h
   have key : ∀ (hs : (cellH w.heap a).isSome = true) (hf : frozenH w.heap a = false) (hk : Hwp P k (setH w.heap a v) K) (hv : ∀ c, v ≠ .agg c) (hv' : ∀ c, v ≠ .tuple c),
       ∃ r w', (Sem.store m a v k).run P w = .ok r w' ∧ K r w'.heap ∧ Same w w' := by
     intro hs hf hk hv hv'
     obtain ⟨r, w', h1, h2, h3⟩ := ih (w.setCell a v) K hk
     refine ⟨r, w', ?_, h2, ⟨h3.1, h3.2, h3.3⟩⟩
     obtain ⟨u, hu⟩ := Option.isSome_iff_exists.1 hs
     have hu' : w.cell? a = some u := hu
     have hf' : w.frozen? a = false := hf
     cases v <;> simp_all [Sem.run]
   unfold Hwp oneCell at h
   split at h
   · exact h.elim
   · exact h.elim
   · rename_i n1 n2
     exact key h.1 h.2.1 h.2.2 (fun c hc => n1 c hc) (fun c hc => n2 c hc)
 | new o k ih =>
   intro w K h
   obtain ⟨r, w', h1, h2, h3⟩ := ih w.heap.size { w with heap := w.heap.push o } K h
   exact ⟨r, w', by simp only [Sem.run, h1], h2, ⟨h3.1, h3.2, h3.3⟩⟩
 | shape r k ih =>
   intro w K h
   obtain ⟨v, w', h1, h2, h3⟩ := ih (shapeH w.heap r) w K h
   exact ⟨v, w', h1, h2, h3⟩
 | freeze a n k ih =>
   intro w K h
   have hw : (w.freeze a n).heap = freezeH w.heap a n := by unfold World.freeze freezeH; split <;> rfl
   obtain ⟨v, w', h1, h2, h3⟩ := ih (w.freeze a n) K (by rw [hw]; exact h)
   refine ⟨v, w', by simp only [Sem.run, h1], h2, Same.trans ?_ h3⟩
   unfold World.freeze
   split <;> exact ⟨rfl, rfl, rfl⟩
 | frozen a k ih =>
   intro w K h
   obtain ⟨v, w', h1, h2, h3⟩ := ih (frozenH w.heap a) w K h
   exact ⟨v, w', h1, h2, h3⟩
 | getObj r k ih =>
   rintro w K ⟨o, ho, hn, h⟩
   obtain ⟨v, w', h1, h2, h3⟩ := ih o w K h
   refine ⟨v, w', ?_, h2, h3⟩
   cases o <;> simp_all [Sem.run]
 | setObj r o k ih =>
   rintro w K ⟨o', ho, hn, h⟩
   obtain ⟨v, w', h1, h2, h3⟩ := ih { w with heap := w.heap.setIfInBounds r o } K h
   refine ⟨v, w', ?_, h2, ⟨h3.1, h3.2, h3.3⟩⟩
   cases o' <;> simp_all [Sem.run]
 | choose q k ih =>
   intro w K h
   unfold Hwp at h
   by_cases hq : q.forced = true
   · rw [if_pos hq] at h
     obtain ⟨v, w', h1, h2, h3⟩ := ih 0 w K h
     exact ⟨v, w', by simp only [Sem.run, hq, if_true, h1], h2, h3⟩
   · rw [if_neg hq] at h
     obtain ⟨v, w', h1, h2, h3⟩ := ih (q.cut (w.tape w.drawn q)) { w with drawn := w.drawn + 1 } K (h _)
     exact ⟨v, w', by simp only [Sem.run, hq, h1]; rfl, h2, ⟨h3.1, h3.2, h3.3⟩⟩
 | sys c k ih => exact fun w K h => h.elim
 | program k ih =>
   intro w K h
   obtain ⟨v, w', h1, h2, h3⟩ := ih P w K h
   exact ⟨v, w', h1, h2, h3⟩
 | mark m k ih =>
   intro w K h
   obtain ⟨v, w', h1, h2, h3⟩ := ih w K h
   exact ⟨v, w', h1, h2, h3⟩
 | halt x => exact fun w K h => h.elim
section laws
variable {α β : Type} {P : Program}
theorem Hwp.mono (s : Sem α) : ∀ {h : Heap} {K K' : α → Heap → Prop}, (∀ v h, K v h → K' v h) → Hwp P s h K → Hwp P s h K' := by
 induction s with
 | pure a => exact fun hk h => hk _ _ h
 | load m a k ih => exact fun hk ⟨v, hc, h⟩ => ⟨v, hc, ih v hk h⟩
 | store m a v k ih =>
   intro h K K' hk hh
   unfold Hwp oneCell at hh ⊢
   split
   · exact hh.elim
   · exact hh.elim
   · rename_i n1 n2
     split at hh
     · exact (n1 _ rfl).elim
     · exact (n2 _ rfl).elim
     · exact ⟨hh.1, hh.2.1, ih hk hh.2.2⟩
 | new o k ih => exact fun hk h => ih _ hk h
 | shape r k ih => exact fun hk h => ih _ hk h
 | freeze a n k ih => exact fun hk h => ih hk h
 | frozen a k ih => exact fun hk h => ih _ hk h
 | getObj r k ih => exact fun hk ⟨o, h1, h2, h⟩ => ⟨o, h1, h2, ih o hk h⟩
 | setObj r o k ih => exact fun hk ⟨o', h1, h2, h⟩ => ⟨o', h1, h2, ih hk h⟩
 | choose q k ih =>
   intro h K K' hk hh
   unfold Hwp at hh ⊢
   split
   · rename_i hq; rw [if_pos hq] at hh; exact ih _ hk hh
   · rename_i hq; rw [if_neg hq] at hh; exact fun n => ih _ hk (hh n)
 | sys c k ih => exact fun _ h => h.elim
 | program k ih => exact fun hk h => ih _ hk h
 | mark m k ih => exact fun hk h => ih hk h
 | halt x => exact fun _ h => h.elim
theorem Hwp.bind_eq (s : Sem α) (f : α → Sem β) : ∀ {h : Heap} {K : β → Heap → Prop}, Hwp P s h (fun v h' => Hwp P (f v) h' K) → Hwp P (s.bind f) h K := by
 induction s with
 | pure a => exact fun h => h
 | load m a k ih => exact fun ⟨v, hc, h⟩ => ⟨v, hc, ih v h⟩
 | store m a v k ih =>
   intro h K hh
   simp only [Sem.bind]
   unfold Hwp oneCell at hh ⊢
   split
   · exact hh.elim
   · exact hh.elim
   · rename_i n1 n2
     split at hh
     · exact (n1 _ rfl).elim
     · exact (n2 _ rfl).elim
     · exact ⟨hh.1, hh.2.1, ih hh.2.2⟩
 | new o k ih => exact fun h => ih _ h
 | shape r k ih => exact fun h => ih _ h
 | freeze a n k ih => exact fun h => ih h
 | frozen a k ih => exact fun h => ih _ h
 | getObj r k ih => exact fun ⟨o, h1, h2, h⟩ => ⟨o, h1, h2, ih o h⟩
 | setObj r o k ih => exact fun ⟨o', h1, h2, h⟩ => ⟨o', h1, h2, ih h⟩
 | choose q k ih =>
   intro h K hh
   simp only [Sem.bind]
   unfold Hwp at hh ⊢
   split
   · rename_i hq; rw [if_pos hq] at hh; exact ih _ hh
   · rename_i hq; rw [if_neg hq] at hh; exact fun n => ih _ (hh n)
 | sys c k ih => exact fun h => h.elim
 | program k ih => exact fun h => ih _ h
 | mark m k ih => exact fun h => ih h
 | halt x => exact fun h => h.elim
theorem Hwp.bind {s : Sem α} {f : α → Sem β} {h : Heap} {K : β → Heap → Prop} (hh : Hwp P s h (fun v h' => Hwp P (f v) h' K)) : Hwp P (s >>= f) h K := Hwp.bind_eq s f hh
end laws
end Go.Hw

end
section
namespace Go.Hw
open Go
def look {α : Type} : List (Nat × α) → Nat → Option α
 | [], _ => none
 | (k, v) :: r, n => match Nat.beq k n with | true => some v | false => look r n
def splitB (b : Bool) (A B : Prop) : Prop := match b with | true => A | false => B
inductive Sh where
 | int (k : IntKind) | bool | str | slice | ptr | other
def Sh.dec : Sh → Value → (Value → Prop) → Prop
 | .int k, v, K => ∃ x, v = .int k x ∧ K (.int k x)
 | .bool, v, K => ∃ b, v = .bool b ∧ K (.bool b)
 | .str, v, K => ∃ s, v = .string s ∧ K (.string s)
 | .slice, v, K => ∃ a n c, v = .slice a n c ∧ K (.slice a n c)
 | .ptr, v, K => ∃ p, v = .pointer p ∧ K (.pointer p)
 | .other, v, K => K v
def decs : List Sh → (List Value → Prop) → Prop
 | [], K => K []
 | .int k :: ss, K => ∃ x, decs ss fun vs => K (.int k x :: vs)
 | .bool :: ss, K => ∃ b, decs ss fun vs => K (.bool b :: vs)
 | .str :: ss, K => ∃ s, decs ss fun vs => K (.string s :: vs)
 | .slice :: ss, K => ∃ a n c, decs ss fun vs => K (.slice a n c :: vs)
 | .ptr :: ss, K => ∃ p, decs ss fun vs => K (.pointer p :: vs)
 | .other :: ss, K => ∃ v, decs ss fun vs => K (v :: vs)
inductive Plan where
 | done
 | take (i : Nat) (p : Plan)
 | quiet (still : Bool) (i : Nat) (p : Plan)
 | frame (i : Nat) (p : Plan)
 | split (i : Nat) (p : Plan)
 | eff (grow base : Bool) (ls : List Nat) (i : Nat) (p : Plan)
 | alt (grow base : Bool) (ls : List Nat) (i : Nat) (p q : Plan)
structure Tab where
 sh : List (Nat × Sh)
 tup : List (Nat × List Sh)
 keep : List (Nat × List Nat)
 plan : List (Nat × Plan)
def Tab.dec (T : Tab) (t : Nat) (v : Value) (K : Value → Prop) : Prop :=
 match look T.sh t with
 | some s => s.dec v K
 | none => match look T.tup t with
   | some ss => decs ss fun vs => v = .tuple vs.toArray ∧ K (.tuple vs.toArray)
   | none => K v
def Tab.shO (T : Tab) (t : Nat) : Sh := match look T.sh t with | some s => s | none => .other
def Run (P : Program) (f : FuncId) (args : Array Value) (h : Heap) (R : Value → Heap → Prop) : Prop :=
 ∀ w : World, w.heap = h → Calls P f args w fun e w' => ∃ v, e = .returned v ∧ R v w'.heap ∧ Same w w'
def calleeOk (P : Program) (f : FuncId) : Bool :=
 match P.funcs[f]? with
 | some fn => !(fn.name == "runtime.NumGoroutine") && !fn.body.isNone
 | none => false
def ExtF (P : Program) (f : FuncId) (args : Array Value) (h : Heap) (R : Value → Heap → Prop) : Prop :=
 ∃ fn e, P.funcs[f]? = some fn ∧ (fn.name == "runtime.NumGoroutine") = false ∧ fn.body.isNone = true ∧ Extern.findNext fn = none ∧ Extern.find fn = some e ∧ Hwp P (e args) h R
theorem ExtF.mono {P : Program} {f : FuncId} {args : Array Value} {h : Heap} {R R' : Value → Heap → Prop} (hh : ExtF P f args h R) (hr : ∀ v h, R v h → R' v h) : ExtF P f args h R' := by
 obtain ⟨fn, e, h1, h2, h3, h4, h5, h6⟩ := hh
 exact ⟨fn, e, h1, h2, h3, h4, h5, Hwp.mono _ hr h6⟩
def CallF (P : Program) (v : Value) (args : List Value) (h : Heap) (R : Value → Heap → Prop) : Prop :=
 match v with
 | .func (.func f) first captured =>
   match calleeOk P f with
   | true => Run P f (first.toList ++ args ++ captured.toList).toArray h R
   | false => ExtF P f (first.toList ++ args ++ captured.toList).toArray h R
 | _ => False
def opnd (fr : Fr) : Operand → Option Value
 | .tmp t => fr t
 | .const v => some v
 | .global g => some (.pointer (some ⟨g, 0, none⟩))
 | .func f => some (.func (.func f) #[] #[])
def valsOf (ρ : Operand → Option Value) : List Operand → Option (List Value)
 | [] => some []
 | x :: r => match ρ x with
   | some v => match valsOf ρ r with
     | some vs => some (v :: vs)
     | none => none
   | none => none
def val (x : Option Value) (K : Value → Prop) : Prop := match x with | some v => K v | none => False
def ptrOk (p : Option Addr) (K : Addr → Prop) : Prop := match p with | some a => K a | none => False
def isAggD : TypeDesc → Bool
 | .struct _ | .array _ _ => true
 | _ => false
def lay (P : Program) (t : TypeId) : Option (Nat × Bool) :=
 match P.info? t with
 | some i => match P.underlying t with
   | some d => some (i.size, isAggD d)
   | none => none
 | none => none
def zeroOf (P : Program) (t : TypeId) : Option Value :=
 match P.info? t with
 | some i => i.zero
 | none => none
def cellsH (h : Heap) (a : Addr) : Nat → Nat → Option (List Value)
 | _, 0 => some []
 | i, n + 1 => match cellH h (a.add i) with
   | some v => match cellsH h a (i + 1) n with
     | some vs => some (v :: vs)
     | none => none
   | none => none
def ldv (agg : Bool) (n : Nat) (h : Heap) (a : Addr) : Option Value :=
 match agg with
 | true => (cellsH h a 0 n).map fun vs => .agg vs.toArray
 | false => cellH h a
def st1 (h : Heap) (a : Addr) (v : Value) : Option Heap :=
 match v with
 | .agg _ | .tuple _ => none
 | _ => if (cellH h a).isSome = true ∧ frozenH h a = false then some (setH h a v) else none
def stH (h : Heap) (a : Addr) : List Value → Nat → Option Heap
 | [], _ => some h
 | v :: vs, i => match st1 h (a.add i) v with
   | some h' => stH h' a vs (i + 1)
   | none => none
def fldv (agg : Bool) (n off : Nat) (x : Value) : Option Value :=
 match x with
 | .agg cs => match agg with
   | true => some (.agg (cs.extract off (off + n)))
   | false => cs[off]?
 | _ => none
def fillEv (n : Nat) : List Value → List (Nat × Nat × Bool × Value) → (List Value → Prop) → Prop
 | cells, [], K => K cells
 | cells, (off, size, agg, v) :: rest, K =>
   match Nat.ble (off + size) n with
   | false => False
   | true => match agg with
     | false => match Nat.beq size 1 with
       | true => oneCell v (fillEv n (cells.set off v) rest K)
       | false => False
     | true => ∃ vs : List Value, v = .agg vs.toArray ∧ vs.length = size ∧ fillEv n (cells.take off ++ vs ++ cells.drop (off + size)) rest K
def placeF (P : Program) (fs : Array Field) (i : Nat) : Option (Nat × Nat × Bool) :=
 match fs[i]? with
 | some f => match lay P f.type with
   | some (s, g) => some (f.offset, s, g)
   | none => none
 | none => none
def partsOf (ρ : Operand → Option Value) (place : Nat → Option (Nat × Nat × Bool)) : List (Nat × Operand) → Option (List (Nat × Nat × Bool × Value))
 | [] => some []
 | (i, x) :: r => match place i with
   | some (o, s, g) => match ρ x with
     | some v => match partsOf ρ place r with
       | some l => some ((o, s, g, v) :: l)
       | none => none
     | none => none
   | none => none
def mkCells (z : Array Value) (n : Nat) : Array Value := (Array.range n).map (z[· % z.size]!)
def kindB : IntKind → IntKind → Bool
 | .i8, .i8 | .i16, .i16 | .i32, .i32 | .i64, .i64 | .u8, .u8 | .u16, .u16 | .u32, .u32 | .u64, .u64 => true
 | _, _ => false
def bitsI (op : BinOp) (k : IntKind) (x y : Int) : Int :=
 match op with
 | .and => k.wrap (BitVec.ofInt k.bits x &&& BitVec.ofInt k.bits y).toNat
 | .or => k.wrap (BitVec.ofInt k.bits x ||| BitVec.ofInt k.bits y).toNat
 | .xor => k.wrap (BitVec.ofInt k.bits x ^^^ BitVec.ofInt k.bits y).toNat
 | _ => k.wrap (BitVec.ofInt k.bits x &&& ~~~BitVec.ofInt k.bits y).toNat
def shlI (k : IntKind) (x y : Int) : Int := k.wrap (x * 2 ^ min y.toNat k.bits)
def shrI (k : IntKind) (x y : Int) : Int := x.fdiv (2 ^ min y.toNat k.bits)
def intEv (op : BinOp) (k : IntKind) (x y : Int) (K : Value → Prop) : Prop :=
 match op with
 | .add => K (.int k (k.wrap (x + y)))
 | .sub => K (.int k (k.wrap (x - y)))
 | .mul => K (.int k (k.wrap (x * y)))
 | .quo => y ≠ 0 ∧ K (.int k (k.wrap (x.tdiv y)))
 | .rem => y ≠ 0 ∧ K (.int k (x.tmod y))
 | .and | .or | .xor | .andNot => K (.int k (bitsI op k x y))
 | .shl => 0 ≤ y ∧ K (.int k (shlI k x y))
 | .shr => 0 ≤ y ∧ K (.int k (shrI k x y))
 | .eql => K (.bool (x == y))
 | .neq => K (.bool (x != y))
 | .lss => K (.bool (decide (x < y)))
 | .leq => K (.bool (decide (x ≤ y)))
 | .gtr => K (.bool (decide (x > y)))
 | .geq => K (.bool (decide (x ≥ y)))
def strEv (op : BinOp) (x y : ByteArray) (K : Value → Prop) : Prop :=
 match op with
 | .add => x.size + y.size ≤ 9223372036854775807 ∧ K (.string (x ++ y))
 | .eql => K (.bool (x.toList == y.toList))
 | .neq => K (.bool !(x.toList == y.toList))
 | .lss => K (.bool (Op.bytesLess x.toList y.toList))
 | .leq => K (.bool (Op.bytesLess x.toList y.toList || x.toList == y.toList))
 | .gtr => K (.bool !(Op.bytesLess x.toList y.toList || x.toList == y.toList))
 | .geq => K (.bool !(Op.bytesLess x.toList y.toList))
 | _ => False
def Gen (P : Program) (s : Sem Value) (h : Heap) (K : Value → Heap → Prop) : Prop := Hwp P s h K
def nilB (op : BinOp) (b : Bool) (K : Value → Prop) : Prop :=
 match op with
 | .eql => K (.bool b)
 | .neq => K (.bool !b)
 | _ => False
def genB (op : BinOp) (v : Value) (K : Value → Prop) : Prop :=
 match op with
 | .eql | .neq => ∃ b, v = .bool b ∧ K (.bool b)
 | _ => K v
def binEv (P : Program) (T : Tab) (op : BinOp) (t : TypeId) (xo yo : Operand) (x y : Value) (h : Heap) (K : Value → Heap → Prop) : Prop :=
 match look T.sh t with
 | some (.int _) => match x, y with
   | .int k a, .int k' b => match op with
     | .shl | .shr => intEv op k a b (K · h)
     | _ => match kindB k k' with
       | true => intEv op k a b (K · h)
       | false => False
   | _, _ => False
 | some .str => match x, y with
   | .string a, .string b => strEv op a b (K · h)
   | _, _ => False
 | some .bool => match P.underlying t with
   | some .bool => match x, y with
     | .bool a, .bool b => nilB op (a == b) (K · h)
     | _, _ => False
   | _ => False
 | some .ptr => match P.underlying t with
   | some (.pointer _) => match x, y with
     | .pointer p, .pointer none => nilB op p.isNone (K · h)
     | .pointer p, .pointer (some q) => Gen P (do eqGuard op t xo yo (.pointer p) (.pointer (some q)); binOp op t (.pointer p) (.pointer (some q))) h fun v h' => genB op v (K · h')
     | _, _ => False
   | _ => False
 | some .slice => match P.underlying t with
   | some (.slice _) => match x, y with
     | .slice a _ _, .slice none _ _ => nilB op a.isNone (K · h)
     | _, _ => False
   | _ => False
 | _ => Gen P (do eqGuard op t xo yo x y; binOp op t x y) h fun v h' => genB op v (K · h')
def srcCells (size : Nat) (x : Value) (h : Heap) : Option (Nat × List Value) :=
 match x with
 | .slice (some a) n _ => (cellsH h a 0 (n * size)).map fun l => (n, l)
 | .slice none n _ => some (n, [])
 | .string s => some (s.size, s.data.toList.map fun b => .int .u8 b.toNat)
 | _ => none
def zcells (z : Array Value) (n : Nat) : Array Value := Builtin.zeroCells z n
def oldCells (size : Nat) (a : Option Addr) (n : Nat) (h : Heap) : Option (List Value) := match a with | some a => cellsH h a 0 (n * size) | none => some []
def AppW (elem size bytes : Nat) (z : Array Value) (base : Option Addr) (n c : Nat) (x : Value) (h : Heap) (K : Value → Heap → Prop) : Prop :=
 ∃ m xs, srcCells size x h = some (m, xs) ∧
   ((n + m ≤ c ∧ ((base = none ∧ K (.slice base (n + m) c) h) ∨ ∃ a h', base = some a ∧ stH h (a.add (n * size)) xs 0 = some h' ∧ K (.slice base (n + m) c) h')) ∨
    (c < n + m ∧ (n + m) * bytes ≤ 140737488355328 ∧ 0 < bytes ∧ ∃ old, oldCells size base n h = some old ∧
     ∀ c', n + m ≤ c' → K (.slice (some ⟨h.size, 0, none⟩) (n + m) c') (h.push (.cells (old.toArray ++ xs.toArray ++ zcells z (c' - (n + m))) elem))))
def AppZ (elem size bytes : Nat) (z : Array Value) (base : Option Addr) (n c : Nat) (x : Value) (h : Heap) (K : Value → Heap → Prop) : Prop :=
 ∃ k, ∃ m : Nat, x = .int k (m : Int) ∧ m * bytes ≤ 140737488355328 ∧ m ≤ 4611686018427387904 ∧
   ((n + m ≤ c ∧ ((base = none ∧ K (.slice base (n + m) c) h) ∨ ∃ a h', base = some a ∧ stH h (a.add (n * size)) (if m * size = 0 then [] else (zcells z m).toList) 0 = some h' ∧ K (.slice base (n + m) c) h')) ∨
    (c < n + m ∧ (n + m) * bytes ≤ 140737488355328 ∧ 0 < bytes ∧ n + m ≤ 9223372036854775807 ∧ ∃ old, oldCells size base n h = some old ∧
     ∀ c', n + m ≤ c' → K (.slice (some ⟨h.size, 0, none⟩) (n + m) c') (h.push (.cells (old.toArray ++ (if m * size = 0 then [] else (zcells z m).toList).toArray ++ zcells z (c' - (n + m))) elem))))
def sliceA (a : Option Addr) (l m size : Nat) : Option Addr := if m = l then a else a.map (·.add (l * size))
def bndEv (x : Option Value) (dflt : Nat) (K : Int → Prop) : Prop :=
 match x with
 | some (.int _ i) => K i
 | some _ => False
 | none => K dflt
def optV (ρ : Operand → Option Value) : Option Operand → Option (Option Value)
 | none => some none
 | some x => match ρ x with
   | some v => some (some v)
   | none => none
def sliceEv (P : Program) (t : TypeId) (x : Value) (lo hi mx : Option Value) (h : Heap) (K : Value → Heap → Prop) : Prop :=
 match P.underlying t with
 | some .string => match x with
   | .string s => match mx with
     | none => bndEv hi s.size fun e => bndEv lo 0 fun b => 0 ≤ b ∧ b ≤ e ∧ e ≤ s.size ∧ K (.string (s.extract b.toNat e.toNat)) h
     | some _ => False
   | _ => False
 | some (.slice elem) => match P.info? elem with
   | some i => match x with
     | .slice a n c => match mx with
       | none => bndEv hi n fun e => bndEv lo 0 fun b => 0 ≤ b ∧ b ≤ e ∧ e ≤ c ∧ K (.slice (sliceA a b.toNat c i.size) (e.toNat - b.toNat) (c - b.toNat)) h
       | some mv => match hi with
         | none => False
         | some _ => bndEv (some mv) 0 fun m => bndEv hi n fun e => bndEv lo 0 fun b => 0 ≤ b ∧ b ≤ e ∧ e ≤ m ∧ m ≤ c ∧ K (.slice (sliceA a b.toNat m.toNat i.size) (e.toNat - b.toNat) (m.toNat - b.toNat)) h
     | _ => False
   | none => False
 | some (.array n elem) => match P.info? elem with
   | some i => match x with
     | .pointer p => ptrOk p fun a => match mx with
       | none => bndEv hi n fun e => bndEv lo 0 fun b => 0 ≤ b ∧ b ≤ e ∧ e ≤ n ∧ K (.slice (some (if n = b.toNat then a else a.add (b.toNat * i.size))) (e.toNat - b.toNat) (n - b.toNat)) h
       | some _ => False
     | _ => False
   | none => False
 | _ => False
def minV (x : Value) (y : Value) (K : Value → Prop) : Prop := match x, y with | .int k a, .int _ b => K (.int k (if b < a then b else a)) | _, _ => False
def maxV (x : Value) (y : Value) (K : Value → Prop) : Prop := match x, y with | .int k a, .int _ b => K (.int k (if b > a then b else a)) | _, _ => False
def builtEv (P : Program) (T : Tab) (b : Builtin) (ats : Array TypeId) (ty : TypeId) (args : List Value) (h : Heap) (K : Option Value → Heap → Prop) : Prop :=
 match b with
 | .len => match ats[0]? with
   | some t => match P.underlying t with
     | some (.slice _) => match args with
       | [.slice _ n _] => K (some (.int .i64 n)) h
       | _ => False
     | some .string => match args with
       | [.string s] => K (some (.int .i64 s.size)) h
       | _ => False
     | some (.array n _) => match args with
       | [_] => K (some (.int .i64 n)) h
       | _ => False
     | _ => Gen P (Builtin.len_ ats ty args.toArray) h fun v h' => T.dec ty v fun u => K (some u) h'
   | none => False
 | .cap => match ats[0]? with
   | some t => match P.underlying t with
     | some (.slice _) => match args with
       | [.slice _ _ c] => K (some (.int .i64 c)) h
       | _ => False
     | _ => False
   | none => False
 | .append => match ats[0]?, ats[1]? with
   | some t, some t2 => match P.underlying t, P.underlying t2 with
     | some (.slice elem), some d => match d with
       | .int _ => match P.info? elem with
         | some i => match i.zero with
           | some z => match args with
             | [.slice a n c, x] => AppZ elem i.size i.bytes z.cells a n c x h fun v h' => T.dec ty v fun u => K (some u) h'
             | _ => False
           | none => False
         | none => False
       | _ => match P.info? elem with
         | some i => match i.zero with
           | some z => match args with
             | [.slice a n c, x] => AppW elem i.size i.bytes z.cells a n c x h fun v h' => T.dec ty v fun u => K (some u) h'
             | _ => False
           | none => False
         | none => False
     | _, _ => False
   | _, _ => False
 | .min => match args with
   | [x, y] => minV x y fun v => K (some v) h
   | [x, y, z] => minV x y fun v => minV v z fun v => K (some v) h
   | [x, y, z, w] => minV x y fun v => minV v z fun v => minV v w fun v => K (some v) h
   | _ => False
 | .max => match args with
   | [x, y] => maxV x y fun v => K (some v) h
   | [x, y, z] => maxV x y fun v => maxV v z fun v => K (some v) h
   | [x, y, z, w] => maxV x y fun v => maxV v z fun v => maxV v w fun v => K (some v) h
   | _ => False
 | .copy => Gen P (Builtin.copy_ ats ty args.toArray) h fun v h' => T.dec ty v fun u => K (some u) h'
 | .clear => Gen P (Builtin.clear_ ats ty args.toArray) h fun v h' => T.dec ty v fun u => K (some u) h'
 | .delete => Gen P (Builtin.delete_ ats ty args.toArray) h fun v h' => T.dec ty v fun u => K (some u) h'
 | _ => False
def NextEv (P : Program) (x : Value) (ty : TypeId) (h : Heap) (A : Heap → Prop) (B : Value → Value → Heap → Prop) : Prop :=
 Gen P (Instr.next x false ty) h fun v h' => (v = .tuple #[.bool false] ∧ A h') ∨ ∃ k u, v = .tuple #[.bool true, k, u] ∧ B k u h'
def opEv (P : Program) (T : Tab) (ρ : Operand → Option Value) (o : Oper) (h : Heap) (K : Option Value → Heap → Prop) : Prop :=
 match o.op with
 | .move x | .assign x => val (ρ x) fun v => K (some v) h
 | .pick c a b => match ρ c with
   | some (.bool t) => splitB t (val (ρ a) fun v => K (some v) h) (val (ρ b) fun v => K (some v) h)
   | _ => False
 | .alloc t => match zeroOf P t with
   | some z => K (some (.pointer (some ⟨h.size, 0, none⟩))) (h.push (.cells z.cells t))
   | none => False
 | .box t x => val (ρ x) fun v => K (some (.pointer (some ⟨h.size, 0, none⟩))) (h.push (.cells v.cells t))
 | .build t parts => match zeroOf P t with
   | some z => match P.underlying t with
     | some (.struct fs) => match partsOf ρ (placeF P fs) parts.toList with
       | some l => match fs.toList.all fun f => (P.info? f.type).isSome with
         | true => fillEv z.cells.size z.cells.toList l fun cs => K (some (.agg cs.toArray)) h
         | false => False
       | none => False
     | some (.array _ elem) => match lay P elem with
       | some (s, g) => match partsOf ρ (fun i => some (i * s, s, g)) parts.toList with
         | some l => fillEv z.cells.size z.cells.toList l fun cs => K (some (.agg cs.toArray)) h
         | none => False
       | none => False
     | _ => False
   | none => False
 | .buildSlice t len parts => match P.underlying t with
   | some (.slice elem) => match lay P elem with
     | some (s, g) => match Nat.ble (len * s) 16777216 with
       | true => match zeroOf P elem with
         | some z => match partsOf ρ (fun i => some (i * s, s, g)) parts.toList with
           | some l => fillEv (len * s) (mkCells z.cells (len * s)).toList l fun cs => K (some (.slice (some ⟨h.size, 0, none⟩) len len)) (h.push (.cells cs.toArray elem))
           | none => False
         | none => False
       | false => False
     | none => False
   | _ => False
 | .load t x => match lay P t with
   | some (s, g) => match ρ x with
     | some (.pointer p) => ptrOk p fun a => ∃ v, ldv g s h a = some v ∧ T.dec t v fun u => K (some u) h
     | _ => False
   | none => False
 | .store t x y => match lay P t with
   | some (s, g) => match ρ x with
     | some (.pointer p) => val (ρ y) fun v => ptrOk p fun a => match g with
       | true => ∃ vs : List Value, v = .agg vs.toArray ∧ vs.length = s ∧ ∃ h', stH h a vs 0 = some h' ∧ K none h'
       | false => match Nat.beq s 1 with
         | true => ∃ h', st1 h a v = some h' ∧ K none h'
         | false => False
     | _ => False
   | none => False
 | .nilCheck x => match ρ x with
   | some (.pointer p) => ptrOk p fun a => K (some (.pointer (some a))) h
   | some (.func (.func f) first captured) => K (some (.func (.func f) first captured)) h
   | some (.func _ _ _) | some .nilFunc | some .nilIface | none => False
   | some v => K (some v) h
 | .binOp op t x y _ => val (ρ x) fun a => val (ρ y) fun b => binEv P T op t x y a b h fun v h' => K (some v) h'
 | .unOp op _ x => match op, ρ x with
   | .not, some (.bool b) => K (some (.bool !b)) h
   | .neg, some (.int k n) => K (some (.int k (k.wrap (0 - n)))) h
   | .xor, some (.int k n) => K (some (.int k (bitsI .xor k (match k.signed with | true => -1 | false => k.max) n))) h
   | _, _ => False
 | .convert src dst x => match P.underlying src, P.underlying dst with
   | some sd, some (.int k) => match sd with
     | .int _ => match ρ x with
       | some (.int _ n) => K (some (.int k (k.wrap n))) h
       | _ => False
     | _ => False
   | some .string, some .string => match ρ x with
     | some (.string s) => K (some (.string s)) h
     | _ => False
   | some _, some _ => val (ρ x) fun v => Gen P (convert src dst v) h fun v h' => T.dec dst v fun u => K (some u) h'
   | _, _ => False
 | .makeInterface t x => val (ρ x) fun v => Gen P (Instr.makeInterface t v) h fun v h' => K (some v) h'
 | .makeFunc fn first captured => match valsOf ρ first.toList, valsOf ρ captured.toList with
   | some a, some b => K (some (.func fn a.toArray b.toArray)) h
   | _, _ => False
 | .makeMap t r => match optV ρ r with
   | some r' => Gen P (Instr.makeMap t r') h fun v h' => K (some v) h'
   | none => False
 | .makeSlice t l c => match P.underlying t with
   | some (.slice elem) => match P.info? elem with
     | some i => match i.zero with
       | some z => match ρ l, ρ c with
         | some (.int _ l), some (.int _ c) => 0 ≤ l ∧ l ≤ c ∧ c * i.bytes ≤ 140737488355328 ∧ c ≤ 9223372036854775807 ∧
             K (some (.slice (some ⟨h.size, 0, none⟩) l.toNat c.toNat)) (h.push (.cells (mkCells z.cells (c.toNat * i.size)) elem))
         | _, _ => False
       | none => False
     | none => False
   | _ => False
 | .slice t x lo hi mx => val (ρ x) fun v => match optV ρ lo with
   | some lo => match optV ρ hi with
     | some hi => match optV ρ mx with
       | some mx => sliceEv P t v lo hi mx h fun v h' => K (some v) h'
       | none => False
     | none => False
   | none => False
 | .fieldAddr t x f => match P.underlying t with
   | some (.struct fs) => match fs[f]? with
     | some fd => match P.info? fd.type with
       | some i => match Nat.beq i.size 0 with
         | false => match ρ x with
           | some (.pointer p) => ptrOk p fun a => K (some (.pointer (some (a.add fd.offset)))) h
           | _ => False
         | true => False
       | none => False
     | none => False
   | _ => False
 | .field t x f => match P.underlying t with
   | some (.struct fs) => match fs[f]? with
     | some fd => match lay P fd.type with
       | some (s, g) => val (ρ x) fun v => ∃ u, fldv g s fd.offset v = some u ∧ T.dec fd.type u fun u => K (some u) h
       | none => False
     | none => False
   | _ => False
 | .indexAddr t x i => match P.underlying t with
   | some (.slice elem) => match P.info? elem with
     | some inf => match ρ x, ρ i with
       | some (.slice a n _), some (.int _ i) => ptrOk a fun b => 0 ≤ i ∧ i < n ∧ K (some (.pointer (some (b.add (i.toNat * inf.size))))) h
       | _, _ => False
     | none => False
   | some (.array len elem) => match P.info? elem with
     | some inf => match ρ x, ρ i with
       | some (.pointer p), some (.int _ i) => ptrOk p fun b => 0 ≤ i ∧ i < len ∧ K (some (.pointer (some (b.add (i.toNat * inf.size))))) h
       | _, _ => False
     | none => False
   | _ => False
 | .index t x i => match P.underlying t with
   | some .string => match ρ x, ρ i with
     | some (.string s), some (.int _ i) => 0 ≤ i ∧ ∃ b, s[i.toNat]? = some b ∧ K (some (.int .u8 b.toNat)) h
     | _, _ => False
   | some (.array len elem) => match lay P elem with
     | some (s, g) => match ρ i with
       | some (.int _ i) => val (ρ x) fun v => 0 ≤ i ∧ i < len ∧ ∃ u, fldv g s (i.toNat * s) v = some u ∧ T.dec elem u fun u => K (some u) h
       | _ => False
     | none => False
   | _ => False
 | .lookup t x i ok => val (ρ x) fun m => val (ρ i) fun k => Gen P (Instr.lookup t m k ok) h fun v h' => T.dec o.type v fun u => K (some u) h'
 | .mapUpdate t m k x | .insert t m k x => val (ρ m) fun m => val (ρ k) fun k => val (ρ x) fun x => Hwp P (Instr.mapUpdate t m k x) h fun _ h' => K none h'
 | .range t x => val (ρ x) fun x => Gen P (Instr.range t x) h fun v h' => K (some v) h'
 | .next x s => match s with
   | true => False
   | false => val (ρ x) fun x => NextEv P x o.type h (fun h' => K (some (.tuple #[.bool false])) h') (fun k u h' => K (some (.tuple #[.bool true, k, u])) h')
 | .entry x => match o.dst with
   | some d => match look T.keep d with
     | some ts => val (ρ x) fun x => Gen P (Instr.entry x) h fun v h' => decs (ts.map T.shO) fun vs => v = .tuple vs.toArray ∧ K (some (.tuple vs.toArray)) h'
     | none => False
   | none => False
 | .extract x i => match ρ x with
   | some (.tuple vs) => match vs[i]? with
     | some v => K (some v) h
     | none => False
   | _ => False
 | .call c => match c.callee with
   | .builtin b => match valsOf ρ c.args.toList with
     | some vs => builtEv P T b c.argTypes o.type vs h K
     | none => False
   | .value f => val (ρ f) fun f => match valsOf ρ c.args.toList with
     | some vs => CallF P f vs h fun v h' => T.dec o.type v fun u => K (some u) h'
     | none => False
   | .invoke _ _ => False
 | _ => False
end Go.Hw

end
section
namespace Go.Hw
open Go
def nextK (P : Program) (K : Option Value → Heap → Prop) : Next → Heap → Prop
 | .value v, h => K (some v) h
 | .skip, h => K none h
 | .enter f args, h => Run P f args h fun v h' => K (some v) h'
 | _, _ => False
section
variable {P : Program} {T : Tab} {h : Heap}
theorem Sh.dec_elim {s : Sh} {v : Value} {K : Value → Prop} (hh : s.dec v K) : K v := by
 cases s <;> simp only [Sh.dec] at hh
 · obtain ⟨x, rfl, k⟩ := hh; exact k
 · obtain ⟨x, rfl, k⟩ := hh; exact k
 · obtain ⟨x, rfl, k⟩ := hh; exact k
 · obtain ⟨x, y, z, rfl, k⟩ := hh; exact k
 · obtain ⟨x, rfl, k⟩ := hh; exact k
 · exact hh
theorem decs_elim (ss : List Sh) : ∀ {K : List Value → Prop}, decs ss K → ∃ vs, K vs := by
 induction ss with
 | nil => exact fun h => ⟨_, h⟩
 | cons s ss ih =>
   intro K hh
   cases s <;> simp only [decs] at hh
   · obtain ⟨x, k⟩ := hh; obtain ⟨vs, k⟩ := ih k; exact ⟨_, k⟩
   · obtain ⟨x, k⟩ := hh; obtain ⟨vs, k⟩ := ih k; exact ⟨_, k⟩
   · obtain ⟨x, k⟩ := hh; obtain ⟨vs, k⟩ := ih k; exact ⟨_, k⟩
   · obtain ⟨x, y, z, k⟩ := hh; obtain ⟨vs, k⟩ := ih k; exact ⟨_, k⟩
   · obtain ⟨x, k⟩ := hh; obtain ⟨vs, k⟩ := ih k; exact ⟨_, k⟩
   · obtain ⟨x, k⟩ := hh; obtain ⟨vs, k⟩ := ih k; exact ⟨_, k⟩
theorem Tab.dec_elim {t : Nat} {v : Value} {K : Value → Prop} (hh : T.dec t v K) : K v := by
 unfold Tab.dec at hh
 split at hh
 · exact Sh.dec_elim hh
 · split at hh
   · obtain ⟨vs, rfl, k⟩ := decs_elim _ hh; exact k
   · exact hh
theorem Run.mono {f : FuncId} {args : Array Value} {R R' : Value → Heap → Prop} (hh : Run P f args h R) (hr : ∀ v h, R v h → R' v h) : Run P f args h R' :=
 fun w hw => (hh w hw).mono fun _ _ ⟨v, he, k, s⟩ => ⟨v, he, hr _ _ k, s⟩
theorem hwp_bind {α β : Type} {s : Sem α} {f : α → Sem β} {K : β → Heap → Prop} (hh : Hwp P s h (fun v h' => Hwp P (f v) h' K)) : Hwp P (s >>= f) h K := Hwp.bind hh
theorem hwp_pure {α : Type} {v : α} {K : α → Heap → Prop} (hh : K v h) : Hwp P (pure v : Sem α) h K := hh
theorem hwp_typeInfo {t : TypeId} {i : TypeInfo} {K : TypeInfo → Heap → Prop} (hi : P.info? t = some i) (hh : K i h) : Hwp P (typeInfo t) h K := by
 show Hwp P (match P.info? t with | some i => pure i | none => stuck "no such type") h K
 rw [hi]; exact hh
theorem hwp_underlying {t : TypeId} {d : TypeDesc} {K : TypeDesc → Heap → Prop} (hi : P.underlying t = some d) (hh : K d h) : Hwp P (underlying t) h K := by
 show Hwp P (match P.underlying t with | some i => pure i | none => stuck "no such type") h K
 rw [hi]; exact hh
theorem hwp_sizeOf {t : TypeId} {i : TypeInfo} {K : Nat → Heap → Prop} (hi : P.info? t = some i) (hh : K i.size h) : Hwp P (sizeOf t) h K :=
 hwp_bind (hwp_typeInfo hi hh)
theorem hwp_isAgg {t : TypeId} {d : TypeDesc} {K : Bool → Heap → Prop} (hi : P.underlying t = some d) (hh : K (isAggD d) h) : Hwp P (isAgg t) h K := by
 refine hwp_bind (hwp_underlying hi ?_)
 cases d <;> exact hh
theorem hwp_zero {t : TypeId} {z : Value} {K : Value → Heap → Prop} (hi : zeroOf P t = some z) (hh : K z h) : Hwp P (zeroValue t) h K := by
 unfold zeroOf at hi
 split at hi
 · rename_i i he
   refine hwp_bind (hwp_typeInfo he ?_)
   rw [hi]; exact hh
 · cases hi
theorem hwp_program {K : Program → Heap → Prop} (hh : K P h) : Hwp P program h K := hh
theorem lay_spec {t : TypeId} {s : Nat} {g : Bool} (hl : lay P t = some (s, g)) : ∃ i d, P.info? t = some i ∧ P.underlying t = some d ∧ i.size = s ∧ isAggD d = g := by
 unfold lay at hl
 split at hl
 · rename_i i hi
   split at hl
   · rename_i d hd
     cases hl
     exact ⟨i, d, hi, hd, rfl, rfl⟩
   · cases hl
 · cases hl
theorem hwp_loadCellsFrom (a : Addr) : ∀ (n i : Nat) (acc : Array Value) (vs : List Value) (K : Array Value → Heap → Prop), cellsH h a i n = some vs → K (acc ++ vs.toArray) h → Hwp P (loadCellsFrom a i n acc) h K := by
 intro n
 induction n with
 | zero => intro i acc vs K hc hk; cases hc; simpa [loadCellsFrom] using hwp_pure (P := P) (by simpa using hk)
 | succ n ih =>
   intro i acc vs K hc hk
   unfold cellsH at hc
   split at hc
   · rename_i v hv
     split at hc
     · rename_i ws hw
       cases hc
       refine hwp_bind ⟨v, hv, ?_⟩
       refine ih (i + 1) (acc.push v) ws K hw ?_
       have : acc.push v ++ ws.toArray = acc ++ (v :: ws).toArray := by apply Array.ext'; simp
       rw [this]; exact hk
     · cases hc
   · cases hc
theorem hwp_loadCells {a : Addr} {n : Nat} {vs : List Value} {K : Array Value → Heap → Prop} (hc : cellsH h a 0 n = some vs) (hk : K vs.toArray h) : Hwp P (loadCells a n) h K :=
 hwp_loadCellsFrom a n 0 #[] vs K hc (by simpa using hk)
theorem hwp_loadVar {t : TypeId} {a : Addr} {s : Nat} {g : Bool} {v : Value} {K : Value → Heap → Prop} (hl : lay P t = some (s, g)) (hv : ldv g s h a = some v) (hk : K v h) : Hwp P (loadVar t a) h K := by
 obtain ⟨i, d, hi, hd, rfl, rfl⟩ := lay_spec hl
 refine hwp_bind (hwp_isAgg hd ?_)
 cases hg : isAggD d with
 | true =>
   rw [hg] at hv
   simp only [ldv, Option.map_eq_some_iff] at hv
   obtain ⟨vs, hvs, rfl⟩ := hv
   simp only [if_true]
   exact hwp_bind (hwp_sizeOf hi (hwp_bind (hwp_loadCells hvs (hwp_pure hk))))
 | false =>
   rw [hg] at hv
   simp only [ldv] at hv
   simp only [Bool.false_eq_true, if_false]
   exact ⟨v, hv, hk⟩
theorem st1_spec {a : Addr} {v : Value} {h' : Heap} (hs : st1 h a v = some h') : oneCell v ((cellH h a).isSome = true ∧ frozenH h a = false ∧ h' = setH h a v) := by
 cases v <;> simp only [st1, oneCell, Option.ite_none_right_eq_some, reduceCtorEq, Option.some.injEq] at hs ⊢
 all_goals exact ⟨hs.1.1, hs.1.2, hs.2.symm⟩
theorem hwp_store {a : Addr} {v : Value} {h' : Heap} {K : Unit → Heap → Prop} (hs : st1 h a v = some h') (hk : K () h') : Hwp P (store a v) h K := by
 have := st1_spec hs
 show oneCell v _
 cases v <;> simp only [oneCell] at this ⊢ <;> first | exact this.elim | (obtain ⟨h1, h2, rfl⟩ := this; exact ⟨h1, h2, hk⟩)
theorem hwp_storeCells (a : Addr) (vs : List Value) : ∀ {h : Heap} (i : Nat) {h' : Heap} {K : Unit → Heap → Prop}, stH h a vs i = some h' → K () h' → Hwp P (storeCells a vs i) h K := by
 induction vs with
 | nil => intro h i h' K hs hk; cases hs; exact hk
 | cons v vs ih =>
   intro h i h' K hs hk
   simp only [stH] at hs
   split at hs
   · rename_i h1 h1s
     exact hwp_bind (hwp_store h1s (ih (i + 1) hs hk))
   · cases hs
theorem oneCell_elim {v : Value} {K : Prop} (hh : oneCell v K) : K ∧ v.cells = #[v] := by
 cases v <;> simp only [oneCell] at hh <;> first | exact hh.elim | exact ⟨hh, rfl⟩
theorem st1_cells {a : Addr} {v : Value} {h' : Heap} (hs : st1 h a v = some h') : v.cells = #[v] := (oneCell_elim (st1_spec hs)).2
theorem Addr.add_zero (a : Addr) : a.add 0 = a := rfl
theorem hwp_valsOf {ρ : Operand → Option Value} {ρ' : Operand → Value} (hρ : ∀ x v, ρ x = some v → ρ' x = v) : ∀ (l : List Operand) (vs : List Value), valsOf ρ l = some vs → l.map ρ' = vs := by
 intro l
 induction l with
 | nil => intro vs hv; cases hv; rfl
 | cons x l ih =>
   intro vs hv
   simp only [valsOf] at hv
   split at hv
   · rename_i v hv1
     split at hv
     · rename_i ws hw
       cases hv
       rw [List.map_cons, hρ x v hv1, ih ws hw]
     · cases hv
   · cases hv
theorem valsOf_arr {ρ : Operand → Option Value} {ρ' : Operand → Value} (hρ : ∀ x v, ρ x = some v → ρ' x = v) {l : Array Operand} {vs : List Value} (hv : valsOf ρ l.toList = some vs) : l.map ρ' = vs.toArray := by
 apply Array.ext'
 rw [Array.toList_map, hwp_valsOf hρ _ _ hv]
theorem val_elim {x : Option Value} {K : Value → Prop} (hh : val x K) : ∃ v, x = some v ∧ K v := by
 cases x with
 | none => exact hh.elim
 | some v => exact ⟨v, rfl, hh⟩
theorem ptrOk_elim {x : Option Addr} {K : Addr → Prop} (hh : ptrOk x K) : ∃ v, x = some v ∧ K v := by
 cases x with
 | none => exact hh.elim
 | some v => exact ⟨v, rfl, hh⟩
theorem kindB_spec {k k' : IntKind} (hh : kindB k k' = true) : k = k' := by cases k <;> cases k' <;> simp_all [kindB]
theorem hwp_callFunc {f : FuncId} {args : Array Value} {K : Option Value → Heap → Prop} (hc : calleeOk P f = true) (hr : Run P f args h fun v h' => K (some v) h') : Hwp P (callFunc f args) h (nextK P K) := by
 unfold calleeOk at hc
 split at hc
 · rename_i fn hf
   simp only [Bool.and_eq_true, Bool.not_eq_true'] at hc
   show Hwp P (match P.funcs[f]? with | none => _ | some fn => _) h _
   rw [hf]
   simp only [hc.1, hc.2, Bool.false_eq_true, if_false]
   exact hr
 · cases hc
theorem hwp_callExt {f : FuncId} {args : Array Value} {K : Option Value → Heap → Prop} (hh : ExtF P f args h fun v h' => K (some v) h') : Hwp P (callFunc f args) h (nextK P K) := by
 obtain ⟨fn, e, h1, h2, h3, h4, h5, h6⟩ := hh
 show Hwp P (match P.funcs[f]? with | none => _ | some fn => _) h _
 rw [h1]
 simp only [h2, h3, h4, h5, Bool.false_eq_true, if_false, if_true]
 exact hwp_bind (s := e args) h6
theorem hwp_callF {f : Value} {args : List Value} {K : Option Value → Heap → Prop} (hh : CallF P f args h fun v h' => K (some v) h') :
   Hwp P (do let d ← Deferred.ofValue f args.toArray; invoke d.target d.args) h (nextK P K) := by
 unfold CallF at hh
 split at hh
 · split at hh
   · rename_i f first captured _ hc
     show Hwp P (callFunc f (first ++ args.toArray ++ captured)) h _
     refine hwp_callFunc hc ?_
     have : first ++ args.toArray ++ captured = (first.toList ++ args ++ captured.toList).toArray := by apply Array.ext'; simp
     rw [this]; exact hh
   · rename_i f first captured _ hc
     show Hwp P (callFunc f (first ++ args.toArray ++ captured)) h _
     refine hwp_callExt ?_
     have : first ++ args.toArray ++ captured = (first.toList ++ args ++ captured.toList).toArray := by apply Array.ext'; simp
     rw [this]; exact hh
 · exact hh.elim
theorem fillEv_spec (place : Nat → Option (Nat × Nat)) (place' : Nat → Option (Nat × Nat × Bool)) (hp : ∀ i o s g, place' i = some (o, s, g) → place i = some (o, s))
   {ρ : Operand → Option Value} {ρ' : Operand → Value} (hρ : ∀ x v, ρ x = some v → ρ' x = v) (n : Nat) : ∀ (parts : List (Nat × Operand)) (l : List (Nat × Nat × Bool × Value)) (cells : List Value) (K : List Value → Prop),
     cells.length = n → partsOf ρ place' parts = some l → fillEv n cells l K → ∃ cs : List Value, Instr.fill place cells.toArray (parts.map fun (i, x) => (i, ρ' x)) = some cs.toArray ∧ K cs := by
 intro parts
 induction parts with
 | nil => intro l cells K _ hl hf; cases hl; exact ⟨cells, rfl, hf⟩
 | cons p parts ih =>
   obtain ⟨i, x⟩ := p
   intro l cells K hn hl hf
   simp only [partsOf] at hl
   split at hl
   · rename_i o s g hpl
     split at hl
     · rename_i v hv
       split at hl
       · rename_i l' hl'
         cases hl
         simp only [fillEv] at hf
         split at hf
         · exact hf.elim
         · rename_i hb
           have hb' : o + s ≤ n := Nat.le_of_ble_eq_true hb
           have hpl' := hp _ _ _ _ hpl
           simp only [List.map_cons, Instr.fill, hpl', hρ x v hv]
           split at hf
           · split at hf
             · rename_i hs
               have hs' : s = 1 := Nat.eq_of_beq_eq_true hs
               subst hs'
               obtain ⟨hf, hc⟩ := oneCell_elim hf
               obtain ⟨cs, h1, h2⟩ := ih l' (cells.set o v) K (by simpa using hn) hl' hf
               refine ⟨cs, ?_, h2⟩
               rw [hc, ← h1]
               simp [show ¬ cells.length < o + 1 by omega]
             · exact hf.elim
           · obtain ⟨vs, rfl, hvs, hf⟩ := hf
             have hlen : (cells.take o ++ vs ++ cells.drop (o + s)).length = n := by simp; omega
             obtain ⟨cs, h1, h2⟩ := ih l' _ K hlen hl' hf
             refine ⟨cs, ?_, h2⟩
             have key : ∀ (vs : List Value) (o k : Nat) (cells : List Value), o + k + vs.length ≤ cells.length →
                 (vs.zipIdx k).foldl (fun cs (c, j) => cs.setIfInBounds (o + j) c) cells.toArray = (cells.take (o + k) ++ vs ++ cells.drop (o + k + vs.length)).toArray := by
               intro vs
               induction vs with
               | nil => intro o k cells hle; simp
               | cons v vs ihv =>
                 intro o k cells hle
                 simp only [List.length_cons] at hle
                 rw [List.zipIdx_cons, List.foldl_cons]
                 simp only [List.setIfInBounds_toArray]
                 rw [ihv o (k + 1) (cells.set (o + k) v) (by simp; omega)]
                 congr 1
                 rw [List.take_set, List.drop_set_of_lt (by omega), show o + (k + 1) = o + k + 1 by omega, List.take_add_one, List.getElem?_eq_getElem (by omega)]
                 simp only [Option.toList_some, List.length_cons]
                 rw [List.set_append_right _ _ (by simp; omega)]
                 have : min (o + k) cells.length = o + k := by omega
                 simp [this]
                 congr 1
                 omega
             have hk := key vs o 0 cells (by omega)
             simp only [Nat.add_zero] at hk
             rw [← h1]
             simp only [Value.cells, List.size_toArray, hvs, ne_eq, not_true_eq_false, decide_false, Bool.false_or, decide_eq_true_eq]
             rw [if_neg (by omega), ← Array.foldl_toList, Array.toList_zipIdx, hk, hvs]
       · cases hl
     · cases hl
   · cases hl
end
end Go.Hw

end
section
namespace Go.Hw
open Go
section
variable {P : Program} {T : Tab} {h : Heap}
theorem hwp_v {s : Sem Value} {K : Option Value → Heap → Prop} (hh : Hwp P s h fun v h' => K (some v) h') : Hwp P (do pure (Next.value (← s))) h (nextK P K) :=
 hwp_bind (hh.mono _ fun _ _ k => k)
theorem hwp_u {s : Sem Unit} {K : Option Value → Heap → Prop} (hh : Hwp P s h fun _ h' => K none h') : Hwp P (do s; pure Next.skip) h (nextK P K) :=
 hwp_bind (hh.mono _ fun _ _ k => k)
theorem gen_dec {s : Sem Value} {t : Nat} {K : Option Value → Heap → Prop} (hh : Gen P s h fun v h' => T.dec t v fun u => K (some u) h') : Hwp P s h fun v h' => K (some v) h' :=
 Hwp.mono s (fun _ _ k => Tab.dec_elim k) hh
theorem eqGuard_no {op : BinOp} {t : TypeId} {x y : Operand} {a b : Value} {K : Unit → Heap → Prop} (hn : ∀ c d, ¬ (a = .nilIface ∧ b = .nilIface) ∧ ¬ (a = .agg c ∧ b = .agg d)) (hk : K () h) : Hwp P (eqGuard op t x y a b) h K := by
 unfold eqGuard
 cases op <;> first | exact hk | skip
 all_goals
   cases a <;> cases b <;> first | exact hk | exact ((hn #[] #[]).1 ⟨rfl, rfl⟩).elim | exact ((hn _ _).2 ⟨rfl, rfl⟩).elim
theorem intEv_hwp {op : BinOp} {t : TypeId} {k : IntKind} {a b : Int} {K : Value → Heap → Prop} (hh : intEv op k a b (K · h)) : Hwp P (binOp op t (.int k a) (.int k b)) h K := by
 cases op <;> simp only [intEv] at hh <;> simp only [binOp, ne_eq, not_true_eq_false, if_false, Op.intArith, Op.intCmp, Op.intBits, Op.intDiv, Op.shift]
 all_goals first
   | exact hh
   | (rw [if_neg hh.1]; exact hh.2)
   | (rw [if_neg (by omega)]; exact hh.2)
theorem shEv_hwp {op : BinOp} {t : TypeId} {k k' : IntKind} {a b : Int} {K : Value → Heap → Prop} (ho : op = .shl ∨ op = .shr) (hh : intEv op k a b (K · h)) : Hwp P (binOp op t (.int k a) (.int k' b)) h K := by
 rcases ho with rfl | rfl <;> simp only [intEv] at hh <;> simp only [binOp, Op.shift] <;> (rw [if_neg (by omega)]; exact hh.2)
theorem strEv_hwp {op : BinOp} {t : TypeId} {a b : ByteArray} {K : Value → Heap → Prop} (hh : strEv op a b (K · h)) : Hwp P (binOp op t (.string a) (.string b)) h K := by
 cases op <;> simp only [strEv] at hh <;> simp only [binOp, Op.stringOp]
 all_goals first
   | exact hh
   | exact hh.elim
   | (rw [if_neg (by have := hh.1; simp only [IntKind.max, IntKind.signed, IntKind.bits, if_true]; omega)]; exact hh.2)
theorem nilB_hwp {op : BinOp} {t : TypeId} {x y : Value} {b : Bool} {K : Value → Heap → Prop} (hb : Hwp P (binOp .eql t x y) h fun v h' => v = .bool b ∧ h' = h)
   (hne : Hwp P (binOp .neq t x y) h fun v h' => v = .bool (!b) ∧ h' = h) (hh : nilB op b (K · h)) : Hwp P (binOp op t x y) h K := by
 cases op <;> simp only [nilB] at hh <;> first | exact hh.elim | skip
 · exact hb.mono _ fun v _ ⟨hv, hp⟩ => by subst hv; subst hp; exact hh
 · exact hne.mono _ fun v _ ⟨hv, hp⟩ => by subst hv; subst hp; exact hh
theorem eq_hwp {t : TypeId} {x y : Value} {b : Bool} (hx : ∀ op, op = BinOp.eql ∨ op = BinOp.neq → binOp op t x y = (if op = .eql then (do pure (.bool (← Op.equal t x y))) else (do pure (.bool (!(← Op.equal t x y))))))
   (he : Hwp P (Op.equal t x y) h fun v h' => v = b ∧ h' = h) :
   Hwp P (binOp .eql t x y) h (fun v h' => v = .bool b ∧ h' = h) ∧ Hwp P (binOp .neq t x y) h (fun v h' => v = .bool (!b) ∧ h' = h) := by
 constructor
 · rw [hx .eql (.inl rfl)]
   exact hwp_bind (he.mono _ fun v h' ⟨h1, h2⟩ => by subst h1; subst h2; exact ⟨rfl, rfl⟩)
 · rw [hx .neq (.inr rfl)]
   exact hwp_bind (he.mono _ fun v h' ⟨h1, h2⟩ => by subst h1; subst h2; exact ⟨rfl, rfl⟩)
theorem genB_elim {op : BinOp} {v : Value} {K : Value → Prop} (hh : genB op v K) : K v := by
 unfold genB at hh
 split at hh
 · obtain ⟨b, rfl, k⟩ := hh; exact k
 · obtain ⟨b, rfl, k⟩ := hh; exact k
 · exact hh
theorem binEv_hwp {op : BinOp} {t : TypeId} {xo yo : Operand} {x y : Value} {K : Value → Heap → Prop} (hh : binEv P T op t xo yo x y h K) :
   Hwp P (do eqGuard op t xo yo x y; binOp op t x y) h K := by
 unfold binEv at hh
 split at hh
 · split at hh
   · rename_i k a k' b
     refine hwp_bind (eqGuard_no (fun _ _ => ⟨by simp, by simp⟩) ?_)
     cases op <;> simp only [] at hh
     all_goals first
       | exact (shEv_hwp (t := t) (P := P) (h := h) (k' := k') (.inl rfl) hh)
       | exact (shEv_hwp (t := t) (P := P) (h := h) (k' := k') (.inr rfl) hh)
       | (split at hh
          · rename_i hk
            have hk := kindB_spec hk
            subst hk
            exact intEv_hwp hh
          · exact hh.elim)
   · exact hh.elim
 · split at hh
   · refine hwp_bind (eqGuard_no (fun _ _ => ⟨by simp, by simp⟩) ?_)
     exact strEv_hwp hh
   · exact hh.elim
 · split at hh
   · rename_i hu
     split at hh
     · rename_i a b
       refine hwp_bind (eqGuard_no (fun _ _ => ⟨by simp, by simp⟩) ?_)
       have he : Hwp P (Op.equal t (.bool a) (.bool b)) h fun v h' => v = (a == b) ∧ h' = h := by
         unfold Op.equal Op.maxDepth Op.equalIn
         exact hwp_bind (hwp_underlying hu (hwp_pure ⟨rfl, rfl⟩))
       have h2 := eq_hwp (t := t) (x := .bool a) (y := .bool b) (fun op ho => by rcases ho with rfl | rfl <;> rfl) he
       exact nilB_hwp h2.1 h2.2 hh
     · exact hh.elim
   · exact hh.elim
 · split at hh
   · rename_i e hu
     split at hh
     · rename_i p
       refine hwp_bind (eqGuard_no (fun _ _ => ⟨by simp, by simp⟩) ?_)
       have he : Hwp P (Op.equal t (.pointer p) (.pointer none)) h fun v h' => v = p.isNone ∧ h' = h := by
         unfold Op.equal Op.maxDepth Op.equalIn
         refine hwp_bind (hwp_underlying hu ?_)
         cases p <;> exact hwp_pure ⟨rfl, rfl⟩
       have h2 := eq_hwp (t := t) (x := .pointer p) (y := .pointer none) (fun op ho => by rcases ho with rfl | rfl <;> cases p <;> rfl) he
       exact nilB_hwp h2.1 h2.2 hh
     · exact Hwp.mono _ (fun _ _ k => genB_elim k) hh
     · exact hh.elim
   · exact hh.elim
 · split at hh
   · rename_i e hu
     split at hh
     · rename_i a n c n' c'
       refine hwp_bind (eqGuard_no (fun _ _ => ⟨by simp, by simp⟩) ?_)
       have he : Hwp P (Op.equal t (.slice a n c) (.slice none n' c')) h fun v h' => v = a.isNone ∧ h' = h := by
         unfold Op.equal Op.maxDepth Op.equalIn
         refine hwp_bind (hwp_underlying hu ?_)
         cases a <;> exact hwp_pure ⟨rfl, rfl⟩
       have h2 := eq_hwp (t := t) (x := .slice a n c) (y := .slice none n' c') (fun op ho => by rcases ho with rfl | rfl <;> rfl) he
       exact nilB_hwp h2.1 h2.2 hh
     · exact hh.elim
   · exact hh.elim
 · exact Hwp.mono _ (fun _ _ k => genB_elim k) hh
theorem hwp_sliceBound {k : IntKind} {i : Int} {y : Nat} {code : BoundsCode} {K : Nat → Heap → Prop} (h1 : 0 ≤ i) (h2 : i ≤ y) (hk : K i.toNat h) : Hwp P (Instr.sliceBound (.int k i) y code) h K := by
 unfold Instr.sliceBound
 refine hwp_bind (hwp_pure (P := P) (v := (k, i)) ?_)
 show Hwp P (if 0 ≤ i ∧ i ≤ (y : Int) then pure i.toNat else boundsPanic k i y code) h _
 rw [if_pos ⟨h1, h2⟩]
 exact hk
theorem bndEv_elim {x : Option Value} {d : Nat} {C : Int → Prop} (hx : bndEv x d C) : ∃ i, C i ∧ ((x = none ∧ i = d) ∨ ∃ k, x = some (.int k i)) := by
 cases x with
 | none => exact ⟨_, hx, .inl ⟨rfl, rfl⟩⟩
 | some v => cases v <;> simp only [bndEv] at hx <;> first | exact hx.elim | exact ⟨_, hx, .inr ⟨_, rfl⟩⟩
theorem hwp_sliceBounds {is : Bool} {len cap : Nat} {lo hi mx : Option Value} {b e m : Int} {K : Nat × Nat × Nat → Heap → Prop}
   (hl : (lo = none ∧ b = 0) ∨ ∃ k, lo = some (.int k b)) (hh : (hi = none ∧ e = len) ∨ ∃ k, hi = some (.int k e)) (hm : (mx = none ∧ m = cap) ∨ ((∃ k, mx = some (.int k m)) ∧ ∃ v, hi = some v))
   (h1 : 0 ≤ b) (h2 : b ≤ e) (h3 : e ≤ m) (h4 : m ≤ cap) (hk : K (b.toNat, e.toNat, m.toNat) h) : Hwp P (Instr.sliceBounds is len cap lo hi mx) h K := by
 unfold Instr.sliceBounds
 rcases hm with ⟨rfl, rfl⟩ | ⟨⟨k, rfl⟩, v, hv⟩
 · refine hwp_bind (hwp_pure (P := P) ?_)
   rcases hh with ⟨rfl, rfl⟩ | ⟨k, rfl⟩
   · refine hwp_bind (hwp_pure (P := P) ?_)
     rcases hl with ⟨rfl, rfl⟩ | ⟨k, rfl⟩
     · exact hwp_bind (hwp_pure (P := P) hk)
     · exact hwp_bind (hwp_sliceBound h1 h2 hk)
   · refine hwp_bind (hwp_sliceBound (by omega) h3 ?_)
     rcases hl with ⟨rfl, rfl⟩ | ⟨k, rfl⟩
     · exact hwp_bind (hwp_pure (P := P) hk)
     · exact hwp_bind (hwp_sliceBound h1 (by omega) hk)
 · refine hwp_bind (hwp_sliceBound (by omega) h4 ?_)
   rcases hh with ⟨rfl, rfl⟩ | ⟨k, rfl⟩
   · cases hv
   · refine hwp_bind (hwp_sliceBound (by omega) (by omega) ?_)
     rcases hl with ⟨rfl, rfl⟩ | ⟨k, rfl⟩
     · exact hwp_bind (hwp_pure (P := P) hk)
     · exact hwp_bind (hwp_sliceBound h1 (by omega) hk)
end
end Go.Hw

end
section
namespace Go.Hw
open Go
section
variable {P : Program} {T : Tab} {h : Heap}
theorem sliceEv_hwp {t : TypeId} {x : Value} {lo hi mx : Option Value} {K : Value → Heap → Prop} (hh : sliceEv P t x lo hi mx h K) : Hwp P (Instr.sliceAt t x lo hi mx) h K := by
 unfold sliceEv at hh
 unfold Instr.sliceAt
 split at hh
 · rename_i hu
   refine hwp_bind (hwp_underlying hu ?_)
   split at hh
   · rename_i s
     split at hh
     · obtain ⟨e, hh, he⟩ := bndEv_elim hh
       obtain ⟨b, ⟨h1, h2, h3, hk⟩, hb⟩ := bndEv_elim hh
       refine hwp_bind (hwp_underlying hu ?_)
       simp only [Option.isSome_none, Bool.false_eq_true, if_false]
       exact hwp_bind (hwp_sliceBounds hb he (.inl ⟨rfl, rfl⟩) h1 h2 h3 (Int.le_refl _) hk)
     · exact hh.elim
   · exact hh.elim
 · rename_i elem hu
   refine hwp_bind (hwp_underlying hu ?_)
   split at hh
   · rename_i i hi
     split at hh
     · rename_i a n c
       refine hwp_bind (hwp_underlying hu ?_)
       split at hh
       · obtain ⟨e, hh, he⟩ := bndEv_elim hh
         obtain ⟨b, ⟨h1, h2, h3, hk⟩, hb⟩ := bndEv_elim hh
         refine hwp_bind (hwp_sliceBounds hb he (.inl ⟨rfl, rfl⟩) h1 h2 h3 (Int.le_refl _) ?_)
         exact hwp_bind (hwp_sizeOf hi (hwp_pure (P := P) hk))
       · split at hh
         · exact hh.elim
         · rename_i mv _ hv
           obtain ⟨m, hh, hm⟩ := bndEv_elim hh
           obtain ⟨e, hh, he⟩ := bndEv_elim hh
           obtain ⟨b, ⟨h1, h2, h3, h4, hk⟩, hb⟩ := bndEv_elim hh
           refine hwp_bind (hwp_sliceBounds (m := m) hb he (.inr ⟨?_, _, rfl⟩) h1 h2 h3 h4 ?_)
           · rcases hm with ⟨hm, _⟩ | hm
             · cases hm
             · exact hm
           · exact hwp_bind (hwp_sizeOf hi (hwp_pure (P := P) hk))
     · exact hh.elim
   · exact hh.elim
 · rename_i n elem hu
   refine hwp_bind (hwp_underlying hu ?_)
   split at hh
   · rename_i i hi
     split at hh
     · obtain ⟨a, rfl, hh⟩ := ptrOk_elim hh
       split at hh
       · obtain ⟨e, hh, he⟩ := bndEv_elim hh
         obtain ⟨b, ⟨h1, h2, h3, hk⟩, hb⟩ := bndEv_elim hh
         refine hwp_bind (hwp_pure (P := P) (v := a) ?_)
         refine hwp_bind (hwp_sliceBounds hb he (.inl ⟨rfl, rfl⟩) h1 h2 h3 (Int.le_refl _) ?_)
         exact hwp_bind (hwp_sizeOf hi (hwp_pure (P := P) hk))
       · exact hh.elim
     · exact hh.elim
   · exact hh.elim
 · exact hh.elim
theorem srcCells_spec {x : Value} {size m : Nat} {xs : List Value} (hs : srcCells size x h = some (m, xs)) (hnint : ∀ k n, x ≠ .int k n) :
   Hwp P (Builtin.lenOf x) h (fun n h' => n = m ∧ h' = h) ∧ ∀ K : Array Value → Heap → Prop, K xs.toArray h → Hwp P (Builtin.firstCells size m x) h K := by
 unfold srcCells at hs
 split at hs
 · rename_i a n c
   simp only [Option.map_eq_some_iff, Prod.mk.injEq] at hs
   obtain ⟨l, hl, rfl, rfl⟩ := hs
   exact ⟨hwp_pure (P := P) ⟨rfl, rfl⟩, fun K hk => hwp_loadCells hl hk⟩
 · cases hs
   exact ⟨hwp_pure (P := P) ⟨rfl, rfl⟩, fun K hk => hwp_pure (P := P) hk⟩
 · rename_i s
   cases hs
   refine ⟨hwp_pure (P := P) ⟨rfl, rfl⟩, fun K hk => ?_⟩
   refine hwp_pure (P := P) ?_
   have : (s.extract 0 s.size).data.map (fun b => Value.int .u8 b.toNat) = (s.data.toList.map fun b => Value.int .u8 b.toNat).toArray := by
     apply Array.ext'
     have hse : s.extract 0 s.size = s := by
       have := ByteArray.extract_zero_size (b := s)
       exact this
     rw [hse]
     simp
   rw [this]
   exact hk
 · cases hs
theorem growBy_le (newLen : Nat) : ∀ r c, Builtin.growBy newLen r c ≤ max c (newLen + (newLen + 768) / 4) := by
 intro r
 induction r with
 | zero => intro c; simp only [Builtin.growBy]; omega
 | succ r ih =>
   intro c
   simp only [Builtin.growBy]
   split
   · omega
   · have := ih (c + (c + 768) / 4)
     omega
theorem nextslicecap_le {need c : Nat} (hc : c < need) : Builtin.nextslicecap need c ≤ 2 * need := by
 unfold Builtin.nextslicecap
 split
 · omega
 · split
   · omega
   · have := growBy_le need 4 c
     omega
end
end Go.Hw

end
section
namespace Go.Hw
open Go
section
variable {P : Program} {T : Tab} {h : Heap}
theorem append_hwp {t t2 elem : TypeId} {d : TypeDesc} {i : TypeInfo} {z x : Value} {a : Option Addr} {n c : Nat} {ats : Array TypeId} {ty : TypeId} {K : Value → Heap → Prop}
   (h0 : ats[0]? = some t) (h1 : ats[1]? = some t2) (hu : P.underlying t = some (.slice elem)) (hd : P.underlying t2 = some d) (hd' : ∀ k, d ≠ .int k) (hi : P.info? elem = some i) (hz : i.zero = some z)
   (hh : AppW elem i.size i.bytes z.cells a n c x h K) : Hwp P (Builtin.append_ ats ty #[.slice a n c, x]) h K := by
 obtain ⟨m, xs, hs, hh⟩ := hh
 have hnint : ∀ k n, x ≠ .int k n := by rintro k n rfl; cases hs
 obtain ⟨hlen, hfirst⟩ := srcCells_spec (P := P) hs hnint
 have hzero : zeroOf P elem = some z := by unfold zeroOf; rw [hi]; exact hz
 unfold Builtin.append_
 simp only [h0, h1]
 refine hwp_bind (hwp_underlying hu ?_)
 refine hwp_bind (hwp_sizeOf hi ?_)
 refine hwp_bind (hwp_underlying hd (hwp_bind (hwp_pure (P := P) ?_)))
 rw [if_neg (by cases d <;> first | exact absurd rfl (hd' _) | simp)]
 refine hwp_bind (hlen.mono _ ?_)
 intro k h1 ⟨hk, hh1⟩
 rw [hk, hh1]
 rcases hh with ⟨hle, hh⟩ | ⟨hlt, hb, hb0, old, hold, hh⟩
 · rw [if_pos hle, if_pos (by cases d <;> first | exact absurd rfl (hd' _) | simp)]
   refine hwp_bind (hfirst _ ?_)
   rcases hh with ⟨rfl, hk⟩ | ⟨b, h', rfl, hst, hk⟩
   · exact hwp_pure (P := P) hk
   · refine hwp_bind (hwp_storeCells _ _ 0 hst ?_)
     exact hwp_pure (P := P) hk
 · rw [if_neg (show ¬ n + m ≤ c by omega)]
   have hcap : ¬ Builtin.nextslicecap (n + m) c * i.bytes > 2 ^ 48 := by
     have := Nat.mul_le_mul_right i.bytes (nextslicecap_le hlt)
     have e : 2 * (n + m) * i.bytes = 2 * ((n + m) * i.bytes) := Nat.mul_assoc _ _ _
     omega
   refine hwp_bind (hwp_typeInfo hi ?_)
   rw [if_neg (by rintro ⟨_, h | h⟩ <;> first | omega | (cases d <;> first | exact absurd rfl (hd' _) | simp at h))]
   refine hwp_bind (hwp_typeInfo hi ?_)
   rw [if_neg hcap]
   have hch : ∀ (f : Nat → Sem Value), (∀ c', n + m ≤ c' → Hwp P (f c') h K) → Hwp P (choose (Question.appendCap (n + m) c elem) >>= f) h K := fun f hf => by
     refine hwp_bind ?_
     show (if Question.forced (Question.appendCap (n + m) c elem) then _ else _)
     rw [if_neg (by simp [Question.forced])]
     intro t
     exact hf _ (Nat.le_add_right _ _)
   refine hch _ fun c' hc' => ?_
   refine hwp_bind (hwp_typeInfo hi ?_)
   refine hwp_bind ?_
   have hroom : ∀ (K : Unit → Heap → Prop), K () h → Hwp P (askRoom (c' * i.bytes)) h K := fun K hk => by
     unfold askRoom
     split <;> exact hk
   refine hroom _ ?_
   have hfirst2 : ∀ K : Array Value → Heap → Prop, K old.toArray h → Hwp P (Builtin.firstCells i.size n (.slice a n c)) h K := fun K hk => by
     unfold oldCells at hold
     cases a with
     | none => cases hold; exact hwp_pure (P := P) hk
     | some b => exact hwp_loadCells hold hk
   refine hwp_bind (hfirst2 _ ?_)
   rw [if_pos (by cases d <;> first | exact absurd rfl (hd' _) | simp)]
   refine hwp_bind (hfirst _ ?_)
   refine hwp_bind (hwp_zero hzero ?_)
   exact hh c' hc'
theorem appendZ_hwp {t t2 elem : TypeId} {k : IntKind} {i : TypeInfo} {z x : Value} {a : Option Addr} {n c : Nat} {ats : Array TypeId} {ty : TypeId} {K : Value → Heap → Prop}
   (h0 : ats[0]? = some t) (h1 : ats[1]? = some t2) (hu : P.underlying t = some (.slice elem)) (hd : P.underlying t2 = some (.int k)) (hi : P.info? elem = some i) (hz : i.zero = some z)
   (hh : AppZ elem i.size i.bytes z.cells a n c x h K) : Hwp P (Builtin.append_ ats ty #[.slice a n c, x]) h K := by
 obtain ⟨kx, m, rfl, hm1, hm2, hh⟩ := hh
 have hzero : zeroOf P elem = some z := by unfold zeroOf; rw [hi]; exact hz
 unfold Builtin.append_
 simp only [h0, h1]
 refine hwp_bind (hwp_underlying hu ?_)
 refine hwp_bind (hwp_sizeOf hi ?_)
 refine hwp_bind (hwp_underlying hd (hwp_bind (hwp_pure (P := P) ?_)))
 rw [if_pos (by rfl)]
 have hw : IntKind.i64.wrap ((m : Nat) : Int) = m := by
   unfold IntKind.wrap
   simp only [IntKind.signed, IntKind.bits]
   have e : ((m : Nat) : Int) % (2 ^ 64 : Int) = m := by omega
   simp only [e, Bool.true_and]
   rw [if_neg (by simp only [decide_eq_true_eq]; omega)]
 refine hwp_bind (show Hwp P (pure (m : Int)) h _ from hwp_pure (P := P) ?_)
 rw [hw, if_neg (by omega)]
 refine hwp_bind (hwp_typeInfo hi ?_)
 rw [if_neg (by have : ((m : Nat) : Int) * (i.bytes : Int) = ((m * i.bytes : Nat) : Int) := by push_cast; rfl
                omega)]
 refine hwp_bind (hwp_pure (P := P) ?_)
 simp only [Int.toNat_natCast]
 have happ : ∀ (b : Bool) (X : Sem (Array Value)) (f : Array Value → Sem Value) (h : Heap), b = false → Hwp P (f (if m * i.size = 0 then [] else (zcells z.cells m).toList).toArray) h K → Hwp P ((if b = true then X else if m * i.size = 0 then pure #[] else do pure (Builtin.zeroCells (← zeroValue elem).cells m)) >>= f) h K := fun b X f h hb hf => by
   refine hwp_bind ?_
   rw [if_neg (by simp [hb])]
   by_cases hc : m * i.size = 0
   · rw [if_pos hc] at hf ⊢
     exact hwp_pure (P := P) hf
   · rw [if_neg hc] at hf ⊢
     refine hwp_bind (hwp_zero hzero ?_)
     exact hwp_pure (P := P) (by simpa [zcells] using hf)
 rcases hh with ⟨hle, hh⟩ | ⟨hlt, hb, hb0, hmx, old, hold, hh⟩
 · rw [if_pos hle]
   refine happ _ _ _ _ rfl ?_
   rcases hh with ⟨rfl, hk⟩ | ⟨b, h', rfl, hst, hk⟩
   · exact hwp_pure (P := P) hk
   · refine hwp_bind (hwp_storeCells _ _ 0 (by simpa using hst) ?_)
     exact hwp_pure (P := P) hk
 · rw [if_neg (show ¬ n + m ≤ c by omega)]
   have hcap : ¬ Builtin.nextslicecap (n + m) c * i.bytes > 2 ^ 48 := by
     have := Nat.mul_le_mul_right i.bytes (nextslicecap_le hlt)
     have e : 2 * (n + m) * i.bytes = 2 * ((n + m) * i.bytes) := Nat.mul_assoc _ _ _
     omega
   refine hwp_bind (hwp_typeInfo hi ?_)
   rw [if_neg (by rintro ⟨h, _⟩; have : IntKind.i64.max = 9223372036854775807 := rfl; omega)]
   refine hwp_bind (hwp_typeInfo hi ?_)
   rw [if_neg hcap]
   have hch : ∀ (f : Nat → Sem Value), (∀ c', n + m ≤ c' → Hwp P (f c') h K) → Hwp P (choose (Question.appendCap (n + m) c elem) >>= f) h K := fun f hf => by
     refine hwp_bind ?_
     show (if Question.forced (Question.appendCap (n + m) c elem) then _ else _)
     rw [if_neg (by simp [Question.forced])]
     intro t
     exact hf _ (Nat.le_add_right _ _)
   refine hch _ fun c' hc' => ?_
   refine hwp_bind (hwp_typeInfo hi ?_)
   refine hwp_bind ?_
   have hroom : ∀ (K : Unit → Heap → Prop), K () h → Hwp P (askRoom (c' * i.bytes)) h K := fun K hk => by
     unfold askRoom
     split <;> exact hk
   refine hroom _ ?_
   have hfirst2 : ∀ K : Array Value → Heap → Prop, K old.toArray h → Hwp P (Builtin.firstCells i.size n (.slice a n c)) h K := fun K hk => by
     unfold oldCells at hold
     cases a with
     | none => cases hold; exact hwp_pure (P := P) hk
     | some b => exact hwp_loadCells hold hk
   refine hwp_bind (hfirst2 _ ?_)
   refine happ _ _ _ _ rfl ?_
   refine hwp_bind (hwp_zero hzero ?_)
   exact hh c' hc'
theorem len_hwp {ats : Array TypeId} {ty t : TypeId} {x : Value} {n : Int} {d : TypeDesc} {K : Value → Heap → Prop} (h0 : ats[0]? = some t) (hu : P.underlying t = some d)
   (hx : (∃ e a k c, d = .slice e ∧ x = .slice a k c ∧ n = k) ∨ (∃ s, d = .string ∧ x = .string s ∧ n = s.size) ∨ (∃ k e, d = .array k e ∧ n = k)) (hk : K (.int .i64 n) h) : Hwp P (Builtin.len_ ats ty #[x]) h K := by
 unfold Builtin.len_
 simp only [h0]
 refine hwp_bind (hwp_underlying hu ?_)
 rcases hx with ⟨e, a, k, c, rfl, rfl, rfl⟩ | ⟨s, rfl, rfl, rfl⟩ | ⟨k, e, rfl, rfl⟩ <;> exact hwp_pure (P := P) hk
theorem cap_hwp {ats : Array TypeId} {ty t e : TypeId} {a : Option Addr} {n c : Nat} {K : Value → Heap → Prop} (h0 : ats[0]? = some t) (hu : P.underlying t = some (.slice e))
   (hk : K (.int .i64 c) h) : Hwp P (Builtin.cap_ ats ty #[.slice a n c]) h K := by
 unfold Builtin.cap_
 simp only [h0]
 exact hwp_bind (hwp_underlying hu (hwp_pure (P := P) hk))
theorem minV_hwp {x y : Value} {K : Value → Heap → Prop} (hh : minV x y (K · h)) : Hwp P (Builtin.min2 x y) h K := by
 unfold minV at hh
 split at hh
 · exact hh
 · exact hh.elim
theorem maxV_hwp {x y : Value} {K : Value → Heap → Prop} (hh : maxV x y (K · h)) : Hwp P (Builtin.max2 x y) h K := by
 unfold maxV at hh
 split at hh
 · exact hh
 · exact hh.elim
theorem builtEv_hwp {b : Builtin} {ats : Array TypeId} {ty : TypeId} {consts : Array Bool} {args : List Value} {K : Option Value → Heap → Prop} (hh : builtEv P T b ats ty args h K) : Hwp P (builtin b ats ty consts args.toArray) h (nextK P K) := by
 unfold builtEv at hh
 unfold builtin
 split at hh
 · refine hwp_v ?_
   split at hh
   · rename_i t h0
     split at hh
     · rename_i e hu
       split at hh
       · exact len_hwp h0 hu (.inl ⟨_, _, _, _, rfl, rfl, rfl⟩) hh
       · exact hh.elim
     · rename_i hu
       split at hh
       · exact len_hwp h0 hu (.inr (.inl ⟨_, rfl, rfl, rfl⟩)) hh
       · exact hh.elim
     · rename_i n e hu
       split at hh
       · exact len_hwp h0 hu (.inr (.inr ⟨_, _, rfl, rfl⟩)) hh
       · exact hh.elim
     · exact gen_dec hh
   · exact hh.elim
 · refine hwp_v ?_
   split at hh
   · rename_i t h0
     split at hh
     · rename_i e hu
       split at hh
       · exact cap_hwp h0 hu hh
       · exact hh.elim
     · exact hh.elim
   · exact hh.elim
 · refine hwp_v ?_
   split at hh
   · rename_i t t2 h0 h1
     split at hh
     · rename_i elem d hu hd
       split at hh
       · rename_i k0
         split at hh
         · rename_i i hi
           split at hh
           · rename_i z hz
             split at hh
             · refine appendZ_hwp h0 h1 hu hd hi hz ?_
               obtain ⟨kx, m, e, hm1, hm2, hh⟩ := hh
               refine ⟨kx, m, e, hm1, hm2, ?_⟩
               rcases hh with ⟨h1, h2 | ⟨a, h', h2, h3, h4⟩⟩ | ⟨h1, h2, h3, h6, old, h4, h5⟩
               · exact .inl ⟨h1, .inl ⟨h2.1, Tab.dec_elim h2.2⟩⟩
               · exact .inl ⟨h1, .inr ⟨a, h', h2, h3, Tab.dec_elim h4⟩⟩
               · exact .inr ⟨h1, h2, h3, h6, old, h4, fun c' hc' => Tab.dec_elim (h5 c' hc')⟩
             · exact hh.elim
           · exact hh.elim
         · exact hh.elim
       · rename_i hn
         split at hh
         · rename_i i hi
           split at hh
           · rename_i z hz
             split at hh
             · refine append_hwp h0 h1 hu hd (fun k hk => hn k hk) hi hz ?_
               obtain ⟨m, xs, hs, hh⟩ := hh
               refine ⟨m, xs, hs, ?_⟩
               rcases hh with ⟨h1, h2 | ⟨a, h', h2, h3, h4⟩⟩ | ⟨h1, h2, h3, old, h4, h5⟩
               · exact .inl ⟨h1, .inl ⟨h2.1, Tab.dec_elim h2.2⟩⟩
               · exact .inl ⟨h1, .inr ⟨a, h', h2, h3, Tab.dec_elim h4⟩⟩
               · exact .inr ⟨h1, h2, h3, old, h4, fun c' hc' => Tab.dec_elim (h5 c' hc')⟩
             · exact hh.elim
           · exact hh.elim
         · exact hh.elim
     · exact hh.elim
   · exact hh.elim
 · refine hwp_v ?_
   split at hh
   · exact hwp_bind (minV_hwp (P := P) (K := fun v h' => Hwp P (pure v) h' _) hh)
   · refine hwp_bind (minV_hwp (P := P) ?_)
     unfold minV at hh ⊢
     split at hh
     · refine hwp_bind (minV_hwp (P := P) ?_); exact hh
     · exact hh.elim
   · refine hwp_bind (minV_hwp (P := P) ?_)
     unfold minV at hh ⊢
     split at hh
     · refine hwp_bind (minV_hwp (P := P) ?_)
       unfold minV
       simp only at hh ⊢
       split at hh
       · refine hwp_bind (minV_hwp (P := P) ?_); exact hh
       · exact hh.elim
     · exact hh.elim
   · exact hh.elim
 · refine hwp_v ?_
   split at hh
   · exact hwp_bind (maxV_hwp (P := P) (K := fun v h' => Hwp P (pure v) h' _) hh)
   · refine hwp_bind (maxV_hwp (P := P) ?_)
     unfold maxV at hh ⊢
     split at hh
     · refine hwp_bind (maxV_hwp (P := P) ?_); exact hh
     · exact hh.elim
   · refine hwp_bind (maxV_hwp (P := P) ?_)
     unfold maxV at hh ⊢
     split at hh
     · refine hwp_bind (maxV_hwp (P := P) ?_)
       unfold maxV
       simp only at hh ⊢
       split at hh
       · refine hwp_bind (maxV_hwp (P := P) ?_); exact hh
       · exact hh.elim
     · exact hh.elim
   · exact hh.elim
 · exact hwp_v (gen_dec hh)
 · exact hwp_v (gen_dec hh)
 · exact hwp_v (gen_dec hh)
 · exact hh.elim
end
end Go.Hw

end
section
namespace Go.Hw
open Go
section
variable {P : Program} {T : Tab} {h : Heap}
theorem wrap_nat {n : Int} (h0 : 0 ≤ n) (h1 : n ≤ 9223372036854775807) : IntKind.i64.wrap n = n := by
 have e : n % (2 ^ 64 : Int) = n := Int.emod_eq_of_lt h0 (by omega)
 simp only [IntKind.wrap, IntKind.signed, IntKind.bits, e, Bool.true_and]
 rw [if_neg]
 simp only [decide_eq_true_eq]
 omega
theorem part_hwp {t : TypeId} {s off : Nat} {g : Bool} {cs : Array Value} {u : Value} {K : Value → Heap → Prop} (hl : lay P t = some (s, g)) (hf : fldv g s off (.agg cs) = some u) (hk : K u h) : Hwp P (part t cs off) h K := by
 obtain ⟨i, d, hi, hd, rfl, rfl⟩ := lay_spec hl
 unfold part
 refine hwp_bind (hwp_isAgg hd ?_)
 cases hg : isAggD d with
 | true =>
   rw [hg] at hf
   cases hf
   exact hwp_bind (hwp_sizeOf hi (hwp_pure (P := P) hk))
 | false =>
   rw [hg] at hf
   simp only [Bool.false_eq_true, if_false]
   have hf : cs[off]? = some u := hf
   rw [hf]
   exact hk
theorem fldv_agg {g : Bool} {s off : Nat} {x u : Value} (hf : fldv g s off x = some u) : ∃ cs, x = .agg cs := by
 cases x <;> simp only [fldv, reduceCtorEq] at hf
 exact ⟨_, rfl⟩
theorem storeVar_hwp {t : TypeId} {a : Addr} {v : Value} {i : TypeInfo} {h' : Heap} {K : Unit → Heap → Prop} (hi : P.info? t = some i) (hs : v.cells.size = i.size) (hst : stH h a v.cells.toList 0 = some h') (hk : K () h') : Hwp P (storeVar t a v) h K := by
 unfold storeVar
 refine hwp_bind (hwp_sizeOf hi ?_)
 rw [if_neg (by simp [hs])]
 exact hwp_storeCells _ _ 0 hst hk
theorem optV_spec {ρ : Operand → Option Value} {ρ' : Operand → Value} (hρ : ∀ x v, ρ x = some v → ρ' x = v) {o : Option Operand} {r : Option Value} (ho : optV ρ o = some r) : o.map ρ' = r := by
 cases o with
 | none => cases ho; rfl
 | some x =>
   simp only [optV] at ho
   split at ho
   · rename_i v hv; cases ho; rw [Option.map_some, hρ _ _ hv]
   · cases ho
theorem mapM_places {fs : Array Field} (hall : (fs.toList.all fun f => (P.info? f.type).isSome) = true) {K : Array (Nat × Nat) → Heap → Prop}
   (hk : K (fs.map fun f => (f.offset, ((P.info? f.type).map (·.size)).getD 0)) h) : Hwp P (fs.mapM fun f => do pure (f.offset, ← sizeOf f.type)) h K := by
 rw [Array.mapM_eq_mapM_toList]
 show Hwp P (List.toArray <$> _) h K
 have key : ∀ (l : List Field) (K : List (Nat × Nat) → Heap → Prop), (l.all fun f => (P.info? f.type).isSome) = true → K (l.map fun f => (f.offset, ((P.info? f.type).map (·.size)).getD 0)) h →
     Hwp P (l.mapM (m := Sem) fun f => do pure (f.offset, ← sizeOf f.type)) h K := by
   intro l
   induction l with
   | nil => intro K _ hk; exact hwp_pure (P := P) hk
   | cons f l ih =>
     intro K ha hk
     simp only [List.all_cons, Bool.and_eq_true] at ha
     obtain ⟨i, hi⟩ := Option.isSome_iff_exists.1 ha.1
     rw [List.mapM_cons]
     refine hwp_bind (hwp_bind (hwp_sizeOf hi (hwp_pure (P := P) ?_)))
     refine hwp_bind (ih _ ha.2 (hwp_pure (P := P) ?_))
     simpa [hi] using hk
 refine hwp_bind (key fs.toList _ hall (hwp_pure (P := P) ?_))
 have : (List.map (fun f => (f.offset, ((P.info? f.type).map (·.size)).getD 0)) fs.toList).toArray = fs.map fun f => (f.offset, ((P.info? f.type).map (·.size)).getD 0) := by apply Array.ext'; simp
 rw [this]; exact hk
theorem opEv_sound {ρ : Operand → Option Value} {ρ' : Operand → Value} (hρ : ∀ x v, ρ x = some v → ρ' x = v) {o : Oper} {K : Option Value → Heap → Prop} (hh : opEv P T ρ o h K) :
   Hwp P (execOp ρ' o) h (nextK P K) := by
 unfold opEv at hh
 unfold execOp
 cases ho : o.op with
 | move x => simp only [ho] at hh ⊢; obtain ⟨v, hv, hk⟩ := val_elim hh; rw [hρ x v hv]; exact hk
 | assign x => simp only [ho] at hh ⊢; obtain ⟨v, hv, hk⟩ := val_elim hh; rw [hρ x v hv]; exact hk
 | pick c a b =>
   simp only [ho] at hh ⊢
   split at hh
   · rename_i t hc
     rw [hρ _ _ hc]
     refine hwp_bind (hwp_pure (P := P) (v := t) (hwp_pure (P := P) ?_))
     cases t <;> simp only [splitB] at hh <;> obtain ⟨v, hv, hk⟩ := val_elim hh <;> simp only [nextK, Bool.false_eq_true, if_false, if_true, hρ _ v hv] <;> exact hk
   · exact hh.elim
 | alloc t =>
   simp only [ho] at hh ⊢
   split at hh
   · rename_i z hz
     refine hwp_v ?_
     unfold Instr.alloc
     refine hwp_bind (hwp_zero hz ?_)
     exact hh
   · exact hh.elim
 | box t x =>
   simp only [ho] at hh ⊢
   obtain ⟨v, hv, hk⟩ := val_elim hh
   rw [hρ x v hv]
   exact hwp_v hk
 | build t parts =>
   simp only [ho] at hh ⊢
   refine hwp_v ?_
   unfold Instr.build
   split at hh
   · rename_i z hz
     refine hwp_bind (hwp_zero hz ?_)
     have hmap : ∀ (parts : Array (Nat × Operand)), (parts.map fun x => match x with | (i, x) => (i, ρ' x)).toList = parts.toList.map fun (i, x) => (i, ρ' x) := fun parts => by simp
     split at hh
     · rename_i fs hu
       refine hwp_bind (hwp_underlying hu ?_)
       split at hh
       · rename_i l hl
         split at hh
         · rename_i hall
           refine hwp_bind (mapM_places hall ?_)
           obtain ⟨cs, h1, h2⟩ := fillEv_spec ((fs.map fun f => (f.offset, ((P.info? f.type).map (·.size)).getD 0))[·]?) (placeF P fs) (fun i o s g hp => by
             unfold placeF at hp
             split at hp
             · rename_i f hf
               split at hp
               · rename_i s' g' hl
                 cases hp
                 obtain ⟨inf, d, hi, _, rfl, _⟩ := lay_spec hl
                 simp [hf, hi]
               · cases hp
             · cases hp) hρ _ _ _ _ _ (by simp) hl hh
           rw [hmap]
           have e : z.cells.toList.toArray = z.cells := by simp
           rw [e] at h1
           simp only [h1]
           exact h2
         · exact hh.elim
       · exact hh.elim
     · rename_i n elem hu
       refine hwp_bind (hwp_underlying hu ?_)
       split at hh
       · rename_i s g hlay
         obtain ⟨inf, d, hi, _, rfl, _⟩ := lay_spec hlay
         split at hh
         · rename_i l hl
           refine hwp_bind (hwp_sizeOf hi ?_)
           obtain ⟨cs, h1, h2⟩ := fillEv_spec (fun i => some (i * inf.size, inf.size)) (fun i => some (i * inf.size, inf.size, g)) (fun i o s g hp => by cases hp; rfl) hρ _ _ _ _ _ (by simp) hl hh
           rw [hmap]
           have e : z.cells.toList.toArray = z.cells := by simp
           rw [e] at h1
           simp only [h1]
           exact h2
         · exact hh.elim
       · exact hh.elim
     · exact hh.elim
   · exact hh.elim
 | buildSlice t len parts =>
   simp only [ho] at hh ⊢
   refine hwp_v ?_
   unfold Instr.buildSlice
   have hmap : ∀ (parts : Array (Nat × Operand)), (parts.map fun x => match x with | (i, x) => (i, ρ' x)).toList = parts.toList.map fun (i, x) => (i, ρ' x) := fun parts => by simp
   split at hh
   · rename_i elem hu
     refine hwp_bind (hwp_underlying hu ?_)
     split at hh
     · rename_i s g hlay
       obtain ⟨inf, d, hi, _, rfl, _⟩ := lay_spec hlay
       refine hwp_bind (hwp_sizeOf hi ?_)
       split at hh
       · rename_i hb
         have hb' : len * inf.size ≤ 16777216 := Nat.le_of_ble_eq_true hb
         rw [if_neg (by omega)]
         split at hh
         · rename_i z hz
           split at hh
           · rename_i l hl
             obtain ⟨cs, h1, h2⟩ := fillEv_spec (fun i => some (i * inf.size, inf.size)) (fun i => some (i * inf.size, inf.size, g)) (fun i o s g hp => by cases hp; rfl) hρ _ _ _ _ _ (by simp [mkCells]) hl hh
             have e1 : ∀ zc : Array Value, (0 < len * inf.size → zc = z.cells) → (Array.range (len * inf.size)).map (zc[· % zc.size]!) = mkCells z.cells (len * inf.size) := fun zc hzc => by
               unfold mkCells
               rcases Nat.eq_zero_or_pos (len * inf.size) with h0 | h0
               · rw [h0]; simp
               · rw [hzc h0]
             have e : (mkCells z.cells (len * inf.size)).toList.toArray = mkCells z.cells (len * inf.size) := by simp
             rw [e] at h1
             by_cases h0 : len * inf.size = 0
             · refine Hwp.mono (P := P) (if len * inf.size = 0 then _ else _) (fun _ _ k => k) ?_
               rw [if_pos h0]
               refine hwp_bind (hwp_pure (P := P) ?_)
               simp only []
               rw [hmap, e1 #[] (fun h => by omega), h1]
               exact h2
             · refine Hwp.mono (P := P) (if len * inf.size = 0 then _ else _) (fun _ _ k => k) ?_
               rw [if_neg h0]
               refine hwp_bind (hwp_zero hz (hwp_bind (hwp_pure (P := P) ?_)))
               simp only []
               rw [hmap, e1 z.cells (fun _ => rfl), h1]
               exact h2
           · exact hh.elim
         · exact hh.elim
       · exact hh.elim
     · exact hh.elim
   · exact hh.elim
 | load t x =>
   simp only [ho] at hh ⊢
   refine hwp_v ?_
   split at hh
   · rename_i s g hl
     split at hh
     · rename_i p hp
       obtain ⟨a, rfl, v, hv, hk⟩ := ptrOk_elim hh
       rw [hρ _ _ hp]
       exact hwp_bind (hwp_pure (P := P) (v := a) (hwp_loadVar hl hv (Tab.dec_elim hk)))
     · exact hh.elim
   · exact hh.elim
 | store t x y =>
   simp only [ho] at hh ⊢
   refine hwp_u ?_
   split at hh
   · rename_i s g hl
     obtain ⟨inf, d, hi, _, rfl, _⟩ := lay_spec hl
     split at hh
     · rename_i p hp
       obtain ⟨v, hv, hh⟩ := val_elim hh
       obtain ⟨a, rfl, hh⟩ := ptrOk_elim hh
       rw [hρ _ _ hp, hρ _ _ hv]
       refine hwp_bind (hwp_pure (P := P) (v := a) ?_)
       split at hh
       · obtain ⟨vs, rfl, hvs, h', hst, hk⟩ := hh
         exact storeVar_hwp hi (by simpa [Value.cells] using hvs) (by simpa [Value.cells] using hst) hk
       · split at hh
         · rename_i hs
           have hs' := Nat.eq_of_beq_eq_true hs
           obtain ⟨h', hst, hk⟩ := hh
           have hc := st1_cells hst
           refine storeVar_hwp hi (by rw [hc, hs']; rfl) (h' := h') ?_ hk
           rw [hc]
           show (match st1 h (a.add 0) v with | some h' => some h' | none => none) = some h'
           rw [Addr.add_zero, hst]
         · exact hh.elim
     · exact hh.elim
   · exact hh.elim
 | nilCheck x =>
   simp only [ho] at hh ⊢
   split at hh
   · rename_i p hp
     obtain ⟨a, rfl, hk⟩ := ptrOk_elim hh
     rw [hρ _ _ hp]
     exact hk
   · rename_i f first captured hp
     rw [hρ _ _ hp]
     exact hh
   · exact hh.elim
   · exact hh.elim
   · exact hh.elim
   · exact hh.elim
   · rename_i v n1 n2 n3 n4 n5 hp
     rw [hρ _ _ hp]
     cases v <;> first | exact hh | exact absurd rfl (n1 _) | exact absurd rfl (n3 _ _ _) | exact absurd rfl n4 | exact absurd rfl n5
 | binOp op t x y yt =>
   simp only [ho] at hh ⊢
   obtain ⟨a, ha, hh⟩ := val_elim hh
   obtain ⟨b, hb, hh⟩ := val_elim hh
   rw [hρ _ _ ha, hρ _ _ hb]
   exact hwp_v (binEv_hwp hh)
 | unOp op t x =>
   simp only [ho] at hh ⊢
   refine hwp_v ?_
   split at hh
   · rename_i b hb; rw [hρ _ _ hb]; exact hh
   · rename_i k n hb; rw [hρ _ _ hb]; exact hh
   · rename_i k n hb
     rw [hρ _ _ hb]
     show Hwp P (Op.intBits .xor k (if k.signed then -1 else k.max) n) h _
     cases hs : k.signed with
     | true => rw [hs] at hh; exact hh
     | false => rw [hs] at hh; exact hh
   · exact hh.elim
 | convert src dst x =>
   simp only [ho] at hh ⊢
   refine hwp_v ?_
   split at hh
   · rename_i sd k hu hd
     split at hh
     · split at hh
       · rename_i kk n hn
         rw [hρ _ _ hn]
         unfold convert
         exact hwp_bind (hwp_underlying hu (hwp_bind (hwp_underlying hd hh)))
       · exact hh.elim
     · exact hh.elim
   · rename_i hu hd
     split at hh
     · rename_i s hs
       rw [hρ _ _ hs]
       unfold convert
       exact hwp_bind (hwp_underlying hu (hwp_bind (hwp_underlying hd (hwp_pure (P := P) hh))))
     · exact hh.elim
   · obtain ⟨v, hv, hh⟩ := val_elim hh
     rw [hρ _ _ hv]
     exact gen_dec hh
   · exact hh.elim
 | makeInterface t x =>
   simp only [ho] at hh ⊢
   obtain ⟨v, hv, hh⟩ := val_elim hh
   rw [hρ _ _ hv]
   exact hwp_v hh
 | makeFunc fn first captured =>
   simp only [ho] at hh ⊢
   split at hh
   · rename_i a b ha hb
     rw [valsOf_arr hρ ha, valsOf_arr hρ hb]
     exact hwp_v (hwp_pure (P := P) hh)
   · exact hh.elim
 | makeMap t r =>
   simp only [ho] at hh ⊢
   split at hh
   · rename_i r' hr
     rw [optV_spec hρ hr]
     exact hwp_v hh
   · exact hh.elim
 | makeSlice t l c =>
   simp only [ho] at hh ⊢
   refine hwp_v ?_
   unfold Instr.makeSlice
   split at hh
   · rename_i elem hu
     refine hwp_bind (hwp_underlying hu ?_)
     split at hh
     · rename_i i hi
       split at hh
       · rename_i z hz
         split at hh
         · rename_i k l k' c hl hc
           obtain ⟨h1, h2, h3, h4, hk⟩ := hh
           rw [hρ _ _ hl, hρ _ _ hc]
           refine hwp_bind (hwp_bind (hwp_pure (P := P) (v := (k, l)) (hwp_pure (P := P) ?_)))
           refine hwp_bind (hwp_bind (hwp_pure (P := P) (v := (k', c)) (hwp_pure (P := P) ?_)))
           refine hwp_bind (hwp_typeInfo hi ?_)
           have wl : IntKind.i64.wrap l = l := wrap_nat h1 (by omega)
           have wc : IntKind.i64.wrap c = c := wrap_nat (by omega) h4
           have hb : ¬ ((i.bytes : Int) * c > 2 ^ 48) := by rw [Int.mul_comm]; omega
           simp only [wl, wc]
           rw [if_neg (by simp; omega)]
           refine hwp_bind ?_
           have hroom : ∀ (n : Nat) (K : Unit → Heap → Prop), K () h → Hwp P (askRoom n) h K := fun n K hk => by
             unfold askRoom
             split <;> exact hk
           refine hroom _ _ ?_
           refine hwp_bind (hwp_sizeOf hi ?_)
           have hzero : zeroOf P elem = some z := by unfold zeroOf; rw [hi]; exact hz
           have e1 : ∀ zc : Array Value, (0 < c.toNat * i.size → zc = z.cells) → (Array.range (c.toNat * i.size)).map (zc[· % zc.size]!) = mkCells z.cells (c.toNat * i.size) := fun zc hzc => by
             unfold mkCells
             rcases Nat.eq_zero_or_pos (c.toNat * i.size) with h0 | h0
             · rw [h0]; simp
             · rw [hzc h0]
           by_cases h0 : c.toNat * i.size = 0
           · refine Hwp.mono (P := P) (if c.toNat * i.size = 0 then _ else _) (fun _ _ k => k) ?_
             rw [if_pos h0]
             refine hwp_bind (hwp_pure (P := P) ?_)
             rw [e1 #[] (fun h => by omega)]
             exact hk
           · refine Hwp.mono (P := P) (if c.toNat * i.size = 0 then _ else _) (fun _ _ k => k) ?_
             rw [if_neg h0]
             refine hwp_bind (hwp_zero hzero (hwp_bind (hwp_pure (P := P) ?_)))
             rw [e1 z.cells (fun _ => rfl)]
             exact hk
         · exact hh.elim
       · exact hh.elim
     · exact hh.elim
   · exact hh.elim
 | slice t x lo hi mx =>
   simp only [ho] at hh ⊢
   refine hwp_v ?_
   obtain ⟨v, hv, hh⟩ := val_elim hh
   split at hh
   · rename_i lo' hlo
     split at hh
     · rename_i hi' hhi
       split at hh
       · rename_i mx' hmx
         rw [hρ _ _ hv, optV_spec hρ hlo, optV_spec hρ hhi, optV_spec hρ hmx]
         exact sliceEv_hwp hh
       · exact hh.elim
     · exact hh.elim
   · exact hh.elim
 | fieldAddr t x f =>
   simp only [ho] at hh ⊢
   refine hwp_v ?_
   unfold Instr.fieldAt
   split at hh
   · rename_i fs hu
     refine hwp_bind (hwp_underlying hu ?_)
     split at hh
     · rename_i fd hfd
       simp only [hfd]
       split at hh
       · rename_i i hi
         split at hh
         · rename_i hs
           split at hh
           · rename_i p hp
             obtain ⟨a, rfl, hk⟩ := ptrOk_elim hh
             rw [hρ _ _ hp]
             refine hwp_bind (hwp_pure (P := P) (v := a) ?_)
             unfold fieldPlace
             refine hwp_bind (hwp_bind (hwp_sizeOf hi ?_))
             rw [if_neg (by have := Nat.ne_of_beq_eq_false hs; exact this)]
             exact hk
           · exact hh.elim
         · exact hh.elim
       · exact hh.elim
     · exact hh.elim
   · exact hh.elim
 | field t x f =>
   simp only [ho] at hh ⊢
   refine hwp_v ?_
   unfold Instr.field
   split at hh
   · rename_i fs hu
     refine hwp_bind (hwp_underlying hu ?_)
     split at hh
     · rename_i fd hfd
       simp only [hfd]
       split at hh
       · rename_i s g hl
         obtain ⟨v, hv, u, hf, hk⟩ := val_elim hh
         obtain ⟨cs, rfl⟩ := fldv_agg hf
         rw [hρ _ _ hv]
         exact hwp_bind (hwp_pure (P := P) (v := cs) (part_hwp hl hf (Tab.dec_elim hk)))
       · exact hh.elim
     · exact hh.elim
   · exact hh.elim
 | indexAddr t x i =>
   simp only [ho] at hh ⊢
   refine hwp_v ?_
   unfold Instr.indexAt
   split at hh
   · rename_i elem hu
     split at hh
     · rename_i inf hi
       split at hh
       · rename_i a n c k j hx hj
         obtain ⟨b, rfl, h1, h2, hk⟩ := ptrOk_elim hh
         rw [hρ _ _ hx, hρ _ _ hj]
         refine hwp_bind (hwp_pure (P := P) (v := (k, j)) ?_)
         refine hwp_bind (hwp_underlying hu ?_)
         refine hwp_bind (hwp_pure (P := P) ?_)
         refine hwp_bind (hwp_underlying hu ?_)
         simp only []
         rw [if_pos ⟨h1, h2⟩]
         exact hwp_bind (hwp_sizeOf hi (hwp_pure (P := P) hk))
       · exact hh.elim
     · exact hh.elim
   · rename_i len elem hu
     split at hh
     · rename_i inf hi
       split at hh
       · rename_i p k j hx hj
         obtain ⟨b, rfl, h1, h2, hk⟩ := ptrOk_elim hh
         rw [hρ _ _ hx, hρ _ _ hj]
         refine hwp_bind (hwp_pure (P := P) (v := (k, j)) ?_)
         refine hwp_bind (hwp_underlying hu ?_)
         refine hwp_bind (hwp_pure (P := P) (v := b) ?_)
         refine hwp_bind (hwp_pure (P := P) ?_)
         refine hwp_bind (hwp_underlying hu ?_)
         simp only []
         rw [if_pos ⟨h1, h2⟩]
         exact hwp_bind (hwp_sizeOf hi (hwp_pure (P := P) hk))
       · exact hh.elim
     · exact hh.elim
   · exact hh.elim
 | index t x i =>
   simp only [ho] at hh ⊢
   refine hwp_v ?_
   unfold Instr.index
   split at hh
   · rename_i hu
     split at hh
     · rename_i s k j hx hj
       obtain ⟨h1, b, hb, hk⟩ := hh
       rw [hρ _ _ hx, hρ _ _ hj]
       refine hwp_bind (hwp_pure (P := P) (v := (k, j)) ?_)
       refine hwp_bind (hwp_underlying hu ?_)
       simp only [if_pos h1, hb]
       exact hk
     · exact hh.elim
   · rename_i len elem hu
     split at hh
     · rename_i s g hl
       obtain ⟨inf, d, hi, _, hs, _⟩ := lay_spec hl
       split at hh
       · rename_i k j hj
         obtain ⟨v, hv, h1, h2, u, hf, hk⟩ := val_elim hh
         obtain ⟨cs, rfl⟩ := fldv_agg hf
         rw [hρ _ _ hv, hρ _ _ hj]
         refine hwp_bind (hwp_pure (P := P) (v := (k, j)) ?_)
         refine hwp_bind (hwp_underlying hu ?_)
         simp only [if_pos (show 0 ≤ j ∧ j < (len : Int) from ⟨h1, h2⟩)]
         refine hwp_bind (hwp_sizeOf hi ?_)
         rw [hs]
         exact part_hwp hl hf (Tab.dec_elim hk)
       · exact hh.elim
     · exact hh.elim
   · exact hh.elim
 | lookup t x i ok =>
   simp only [ho] at hh ⊢
   obtain ⟨a, ha, hh⟩ := val_elim hh
   obtain ⟨b, hb, hh⟩ := val_elim hh
   rw [hρ _ _ ha, hρ _ _ hb]
   exact hwp_v (gen_dec hh)
 | mapUpdate t m k x =>
   simp only [ho] at hh ⊢
   obtain ⟨a, ha, hh⟩ := val_elim hh
   obtain ⟨b, hb, hh⟩ := val_elim hh
   obtain ⟨c, hc, hh⟩ := val_elim hh
   rw [hρ _ _ ha, hρ _ _ hb, hρ _ _ hc]
   exact hwp_u hh
 | insert t m k x =>
   simp only [ho] at hh ⊢
   obtain ⟨a, ha, hh⟩ := val_elim hh
   obtain ⟨b, hb, hh⟩ := val_elim hh
   obtain ⟨c, hc, hh⟩ := val_elim hh
   rw [hρ _ _ ha, hρ _ _ hb, hρ _ _ hc]
   exact hwp_u hh
 | range t x =>
   simp only [ho] at hh ⊢
   obtain ⟨a, ha, hh⟩ := val_elim hh
   rw [hρ _ _ ha]
   exact hwp_v hh
 | next x s =>
   cases s with
   | true => simp only [ho] at hh
   | false =>
     simp only [ho] at hh ⊢
     obtain ⟨a, ha, hh⟩ := val_elim hh
     rw [hρ _ _ ha]
     refine hwp_v (Hwp.mono _ (fun v h' k => ?_) hh)
     rcases k with ⟨rfl, k⟩ | ⟨a, b, rfl, k⟩
     · exact k
     · exact k
 | entry x =>
   simp only [ho] at hh ⊢
   split at hh
   · split at hh
     · obtain ⟨a, ha, hh⟩ := val_elim hh
       rw [hρ _ _ ha]
       refine hwp_v (Hwp.mono _ (fun v h' k => ?_) hh)
       obtain ⟨vs, k1, k2⟩ := decs_elim _ k
       subst k1
       exact k2
     · exact hh.elim
   · exact hh.elim
 | extract x i =>
   simp only [ho] at hh ⊢
   refine hwp_v ?_
   split at hh
   · rename_i vs hv
     split at hh
     · rename_i v hvi
       rw [hρ _ _ hv]
       unfold Instr.extract
       simp only [hvi]
       exact hh
     · exact hh.elim
   · exact hh.elim
 | call c =>
   simp only [ho] at hh ⊢
   unfold resolve
   split at hh
   · rename_i b hb
     simp only [hb]
     split at hh
     · rename_i vs hvs
       refine hwp_bind (hwp_pure (P := P) ?_)
       rw [valsOf_arr hρ hvs]
       exact builtEv_hwp hh
     · exact hh.elim
   · rename_i f hf
     simp only [hf]
     obtain ⟨fv, hfv, hh⟩ := val_elim hh
     split at hh
     · rename_i vs hvs
       rw [valsOf_arr hρ hvs, hρ _ _ hfv]
       refine hwp_callF ?_
       unfold CallF at hh ⊢
       split at hh
       · split at hh
         · rename_i hc
           skip
           exact hh.mono fun _ _ k => Tab.dec_elim k
         · exact ExtF.mono hh fun _ _ k => Tab.dec_elim k
       · exact hh.elim
     · exact hh.elim
   · exact hh.elim
 | _ => simp only [ho] at hh
end
end Go.Hw

end
section
namespace Go.Hw
open Go
def upd (fr : Fr) (d : Nat) (v : Value) : Fr := fun t => match Nat.beq t d with | true => some v | false => fr t
def rmv (fr : Fr) (d : Nat) : Fr := upd fr d undef
def putF (fr : Fr) (dst : Option Nat) (ov : Option Value) : Fr :=
 match dst with
 | none => fr
 | some d => match ov with | some v => upd fr d v | none => rmv fr d
def putK (n : Nat) (fr : Fr) (dst : Option Nat) (ov : Option Value) (K : Fr → Prop) : Prop :=
 match dst with
 | none => K fr
 | some d => match Nat.blt d n with | true => (match ov with | some v => K (upd fr d v) | none => K (rmv fr d)) | false => False
section
variable (P : Program) (T : Tab) (n : Nat) (ops : Array Oper)
def evG (o : Oper) (fr : Fr) (h : Heap) (K : Fr → Heap → Prop) : Prop :=
 match o.guard with
 | none => opEv P T (opnd fr) o h fun ov h' => putK n fr o.dst ov fun fr' => K fr' h'
 | some (j, g) => match ops[j]? with
   | none => False
   | some oj => match oj.dst with
     | none => False
     | some d => match fr d with
       | some (.bool b) => match g with
         | true => splitB b (opEv P T (opnd (upd fr d (.bool true))) o h fun ov h' => putK n (upd fr d (.bool true)) o.dst ov fun fr' => K fr' h') (putK n (upd fr d (.bool false)) o.dst none fun fr' => K fr' h)
         | false => splitB b (putK n (upd fr d (.bool true)) o.dst none fun fr' => K fr' h) (opEv P T (opnd (upd fr d (.bool false))) o h fun ov h' => putK n (upd fr d (.bool false)) o.dst ov fun fr' => K fr' h')
       | some (.tuple _) => putK n fr o.dst none fun fr' => K fr' h
       | _ => False
def evOps : List Oper → Fr → Heap → (Fr → Heap → Prop) → Prop
 | [], fr, h, K => K fr h
 | o :: r, fr, h, K => evG P T n ops o fr h fun fr' h' => evOps r fr' h' K
def Ext (h h' : Heap) : Prop := h.size ≤ h'.size ∧ ∀ b, b < h.size → h'[b]? = h[b]?
def growIf (g : Bool) (h h' : Heap) (K : Prop) : Prop := match g with | true => Ext h h' ∧ K | false => K
def quietEv (still : Bool) (o : Oper) (fr : Fr) (h : Heap) (K : Fr → Heap → Prop) : Prop :=
 match o.guard with
 | some _ => False
 | none => match o.op with
   | .call c => match c.callee with
     | .value f => val (opnd fr f) fun f => match valsOf (opnd fr) c.args.toList with
       | some vs => ∃ v, (match still with
           | true => CallF P f vs h fun v' h' => v' = v ∧ h' = h
           | false => ∀ h', Ext h h' → CallF P f vs h' fun v' h'' => v' = v ∧ h'' = h') ∧ T.dec o.type v fun u => putK n fr o.dst (some u) fun fr' => K fr' h
       | none => False
     | _ => False
   | _ => False
def frameEv (o : Oper) (fr : Fr) (h : Heap) (K : (Heap → Prop) → Fr → Prop) : Prop :=
 match o.op with
 | .load t x => match lay P t with
   | some (s, g) => match opnd fr x with
     | some (.pointer p) => ptrOk p fun a => ∃ v, ldv g s h a = some v ∧ T.dec t v fun u => putK n fr o.dst (some u) fun fr' => K (fun h' => ldv g s h' a = some v) fr'
     | _ => False
   | none => False
 | _ => False
def updG (Γ : Nat → Heap → Prop) (i : Nat) (G : Heap → Prop) : Nat → Heap → Prop := fun k => match Nat.beq k i with | true => G | false => Γ k
def frames (Γ : Nat → Heap → Prop) (h : Heap) : List Nat → Prop → Prop
 | [], K => K
 | i :: r, K => Γ i h ∧ frames Γ h r K
def evPlan (h0 : Heap) : Plan → (Nat → Heap → Prop) → Fr → Heap → (Fr → Heap → Prop) → Prop
 | .done, _, fr, h, K => K fr h
 | .take i p, Γ, fr, h, K => match ops[i]? with
   | some o => evG P T n ops o fr h fun fr' h' => evPlan h0 p Γ fr' h' K
   | none => False
 | .quiet st i p, Γ, fr, h, K => match ops[i]? with
   | some o => match o.guard with
     | none => quietEv P T n st o fr h fun fr' h' => evPlan h0 p Γ fr' h' K
     | some (j, g) => match ops[j]? with
       | none => False
       | some oj => match oj.dst with
         | none => False
         | some d => match fr d with
           | some (.bool b) => match g with
             | true => splitB b (quietEv P T n st { o with guard := none } (upd fr d (.bool true)) h fun fr' h' => evPlan h0 p Γ fr' h' K) (putK n (upd fr d (.bool false)) o.dst none fun fr' => evPlan h0 p Γ fr' h K)
             | false => splitB b (putK n (upd fr d (.bool true)) o.dst none fun fr' => evPlan h0 p Γ fr' h K) (quietEv P T n st { o with guard := none } (upd fr d (.bool false)) h fun fr' h' => evPlan h0 p Γ fr' h' K)
           | some (.tuple _) => putK n fr o.dst none fun fr' => evPlan h0 p Γ fr' h K
           | _ => False
   | none => False
 | .frame i p, Γ, fr, h, K => match ops[i]? with
   | some o => match o.guard with
     | none => frameEv P T n o fr h fun G fr' => evPlan h0 p (updG Γ i G) fr' h K
     | some (j, g) => match ops[j]? with
       | none => False
       | some oj => match oj.dst with
         | none => False
         | some d => match fr d with
           | some (.bool b) => match g with
             | true => splitB b (frameEv P T n { o with guard := none } (upd fr d (.bool true)) h fun G fr' => evPlan h0 p (updG Γ i G) fr' h K) (putK n (upd fr d (.bool false)) o.dst none fun fr' => evPlan h0 p (updG Γ i fun _ => True) fr' h K)
             | false => splitB b (putK n (upd fr d (.bool true)) o.dst none fun fr' => evPlan h0 p (updG Γ i fun _ => True) fr' h K) (frameEv P T n { o with guard := none } (upd fr d (.bool false)) h fun G fr' => evPlan h0 p (updG Γ i G) fr' h K)
           | some (.tuple _) => putK n fr o.dst none fun fr' => evPlan h0 p (updG Γ i fun _ => True) fr' h K
           | _ => False
   | none => False
 | .split i p, Γ, fr, h, K => match ops[i]? with
   | some o => match o.dst with
     | some d => match fr d with
       | some (.bool b) => splitB b (evPlan h0 p Γ (upd fr d (.bool true)) h K) (evPlan h0 p Γ (upd fr d (.bool false)) h K)
       | some (.tuple _) => evPlan h0 p Γ fr h K
       | _ => False
     | none => False
   | none => False
 | .eff g b ls i p, Γ, fr, h, K => match ops[i]? with
   | some o => evG P T n ops o fr h fun fr' h' => growIf g h h' (growIf b h0 h' (frames Γ h' ls (evPlan h0 p Γ fr' h' K)))
   | none => False
 | .alt g b ls i p q, Γ, fr, h, K => (match ops[i]? with
   | some o => evG P T n ops o fr h fun fr' h' => growIf g h h' (growIf b h0 h' (frames Γ h' ls (evPlan h0 p Γ fr' h' K)))
   | none => False) ∧ evPlan h0 q Γ fr h K
end
structure Rel (n : Nat) (w0 : World) (fr : Fr) (h : Heap) (a : Act) (w : World) : Prop where
 size : a.tmps.size = n
 val : ∀ t v, fr t = some v → t < n ∧ a.tmps.getD t undef = v
 defers : a.defers = []
 heap : w.heap = h
 same : Same w0 w
section
variable {P : Program} {T : Tab} {n : Nat} {ops : Array Oper} {w0 : World} {fr : Fr} {h : Heap} {a : Act} {w : World}
theorem Rel.opnd (r : Rel n w0 fr h a w) : ∀ x v, opnd fr x = some v → a.eval x = v := by
 intro x v hx
 cases x with
 | tmp t => exact (r.val t v hx).2
 | const u => cases hx; rfl
 | global g => cases hx; rfl
 | func f => cases hx; rfl
theorem Rel.put (r : Rel n w0 fr h a w) {dst : Option Nat} {ov : Option Value} {h' : Heap} {w' : World} {K : Fr → Prop} (hw : w'.heap = h') (hs : Same w w') (hk : putK n fr dst ov K) :
   ∃ fr', K fr' ∧ fr' = putF fr dst ov ∧ Rel n w0 fr' h' (a.put dst (ov.getD undef)) w' := by
 cases dst with
 | none => exact ⟨fr, hk, rfl, r.size, r.val, r.defers, hw, r.same.trans hs⟩
 | some d =>
   simp only [putK] at hk
   split at hk
   · rename_i hd
     have hd' : d < n := Nat.le_of_ble_eq_true hd
     cases ov with
     | some v =>
       refine ⟨_, hk, rfl, by simp [Act.put, r.size], fun t u ht => ?_, r.defers, hw, r.same.trans hs⟩
       unfold upd at ht
       simp only [Act.put, Option.getD_some]
       split at ht
       · rename_i ht1
         have := Nat.eq_of_beq_eq_true ht1
         subst this
         cases ht
         refine ⟨hd', ?_⟩
         simp [Array.getD_eq_getD_getElem?, r.size, hd']
       · rename_i ht1
         have hne := Nat.ne_of_beq_eq_false ht1
         have := r.val t u ht
         refine ⟨this.1, ?_⟩
         rw [← this.2]
         simp [Array.getD_eq_getD_getElem?, Ne.symm hne]
     | none =>
       refine ⟨_, hk, rfl, by simp [Act.put, r.size], fun t u ht => ?_, r.defers, hw, r.same.trans hs⟩
       unfold rmv upd at ht
       simp only [Act.put, Option.getD_none]
       split at ht
       · rename_i ht1
         have := Nat.eq_of_beq_eq_true ht1
         subst this
         cases ht
         refine ⟨hd', ?_⟩
         simp [Array.getD_eq_getD_getElem?, r.size, hd']
       · rename_i ht1
         have hne := Nat.ne_of_beq_eq_false ht1
         have := r.val t u ht
         refine ⟨this.1, ?_⟩
         rw [← this.2]
         simp [Array.getD_eq_getD_getElem?, Ne.symm hne]
   · exact hk.elim
theorem upd_self {d : Nat} {v : Value} (hv : fr d = some v) : upd fr d v = fr := by
 funext t
 unfold upd
 split
 · rename_i ht
   have := Nat.eq_of_beq_eq_true ht
   subst this
   exact hv.symm
 · rfl
theorem op_step {o : Oper} {K : Fr → Heap → Prop} {next : Act → World → Prop} {Q : Exit → Act → World → Prop} (r : Rel n w0 fr h a w)
   (hh : opEv P T (opnd fr) o h fun ov h' => putK n fr o.dst ov fun fr' => K fr' h') (hn : ∀ fr' h' a' w', K fr' h' → Rel n w0 fr' h' a' w' → next a' w') : o.wp P a w next Q := by
 have h1 := opEv_sound r.opnd hh
 rw [← r.heap] at h1
 obtain ⟨nx, w', hrun, hk, hs⟩ := Hwp.run _ w _ h1
 unfold Oper.wp
 rw [hrun]
 cases nx <;> simp only [nextK] at hk <;> first | exact hk.elim | skip
 · obtain ⟨fr', k, _, r'⟩ := r.put rfl hs hk
   exact hn _ _ _ _ k r'
 · obtain ⟨fr', k, _, r'⟩ := r.put rfl hs hk
   exact hn _ _ _ _ k r'
 · rename_i f args
   refine (hk w' rfl).mono ?_
   rintro e w'' ⟨v, rfl, k, s⟩
   obtain ⟨fr', k, _, r'⟩ := r.put rfl (hs.trans s) k
   exact hn _ _ _ _ k r'
def wpG (P : Program) (ops : Array Oper) (o : Oper) (a : Act) (w : World) (next : Act → World → Prop) (Q : Exit → Act → World → Prop) : Prop :=
 if Region.wanted o (yielded ops a.tmps) then o.wp P a w next Q ∨ (o.asks P a w ∧ LetsOut Q) else next (a.put o.dst undef) w
theorem Rel.yielded (r : Rel n w0 fr h a w) {j : Nat} {oj : Oper} {d : Nat} {b : Bool} (hj : ops[j]? = some oj) (hd : oj.dst = some d) (hb : fr d = some (.bool b)) : yielded ops a.tmps j = some b := by
 have := r.val d _ hb
 have hlt : d < a.tmps.size := by rw [r.size]; exact this.1
 have hv : a.tmps[d]? = some (.bool b) := by
   have h2 := this.2
   simp only [Array.getD_eq_getD_getElem?] at h2
   rw [Array.getElem?_eq_getElem hlt] at h2 ⊢
   simpa using h2
 simp [Go.yielded, hj, hd, hv]
theorem Rel.not_yielded (r : Rel n w0 fr h a w) {j : Nat} {oj : Oper} {d : Nat} {vs : Array Value} (hj : ops[j]? = some oj) (hd : oj.dst = some d) (hb : fr d = some (.tuple vs)) : Go.yielded ops a.tmps j = none := by
 have := r.val d _ hb
 have hlt : d < a.tmps.size := by rw [r.size]; exact this.1
 have hv : a.tmps[d]? = some (.tuple vs) := by
   have h2 := this.2
   simp only [Array.getD_eq_getD_getElem?] at h2
   rw [Array.getElem?_eq_getElem hlt] at h2 ⊢
   simpa using h2
 simp [Go.yielded, hj, hd, hv]
theorem evG_step {o : Oper} {K : Fr → Heap → Prop} {next : Act → World → Prop} {Q : Exit → Act → World → Prop} (r : Rel n w0 fr h a w)
   (hh : evG P T n ops o fr h K) (hn : ∀ fr' h' a' w', K fr' h' → Rel n w0 fr' h' a' w' → next a' w') : wpG P ops o a w next Q := by
 unfold evG at hh
 unfold wpG
 cases hg : o.guard with
 | none =>
   simp only [hg] at hh
   rw [if_pos (by simp [Region.wanted, hg])]
   exact .inl (op_step r hh hn)
 | some jg =>
   obtain ⟨j, g⟩ := jg
   simp only [hg] at hh
   split at hh
   · exact hh.elim
   · rename_i oj hj
     split at hh
     · exact hh.elim
     · rename_i d hd
       split at hh
       · rename_i b hb
         have hy := r.yielded hj hd hb
         have hself := upd_self hb
         cases g <;> cases b <;> simp only [splitB] at hh <;> rw [hself] at hh
         · rw [if_pos (by simp [Region.wanted, hg, hy])]; exact .inl (op_step r hh hn)
         · rw [if_neg (by simp [Region.wanted, hg, hy])]
           obtain ⟨fr', k, _, r'⟩ := r.put r.heap (Same.refl w) hh
           exact hn _ _ _ _ k r'
         · rw [if_neg (by simp [Region.wanted, hg, hy])]
           obtain ⟨fr', k, _, r'⟩ := r.put r.heap (Same.refl w) hh
           exact hn _ _ _ _ k r'
         · rw [if_pos (by simp [Region.wanted, hg, hy])]; exact .inl (op_step r hh hn)
       · rename_i vs hb
         have hy := r.not_yielded hj hd hb
         rw [if_neg (by simp [Region.wanted, hg, hy])]
         obtain ⟨fr', k, _, r'⟩ := r.put r.heap (Same.refl w) hh
         exact hn _ _ _ _ k r'
       · exact hh.elim
theorem evOps_step {Q : Exit → Act → World → Prop} : ∀ (l : List Oper) {fr : Fr} {h : Heap} {a : Act} {w : World} {K : Fr → Heap → Prop}, Rel n w0 fr h a w → evOps P T n ops l fr h K →
   (∀ fr' h' a' w', K fr' h' → Rel n w0 fr' h' a' w' → Q .normal a' w') → wpList P ops Q l a w := by
 intro l
 induction l with
 | nil => exact fun r hh hn => hn _ _ _ _ hh r
 | cons o l ih => exact fun r hh hn => evG_step r hh fun fr' h' a' w' k r' => ih r' k hn
end
end Go.Hw

end
section
namespace Go.Hw
open Go
theorem Ext.refl (h : Heap) : Ext h h := ⟨Nat.le_refl _, fun _ _ => rfl⟩
theorem Ext.trans {a b c : Heap} (h : Ext a b) (k : Ext b c) : Ext a c :=
 ⟨Nat.le_trans h.1 k.1, fun i hi => (k.2 i (Nat.lt_of_lt_of_le hi h.1)).trans (h.2 i hi)⟩
theorem Ext.cell {h h' : Heap} (e : Ext h h') {a : Addr} {v : Value} (hc : cellH h a = some v) : cellH h' a = some v := by
 have hb : a.block < h.size := by
   unfold cellH at hc
   rcases Nat.lt_or_ge a.block h.size with hlt | hge
   · exact hlt
   · rw [Array.getElem?_eq_none hge] at hc; cases hc
 unfold cellH at hc ⊢
 rw [e.2 _ hb]; exact hc
theorem Ext.cells {h h' : Heap} (e : Ext h h') {a : Addr} : ∀ (n i : Nat) {vs : List Value}, cellsH h a i n = some vs → cellsH h' a i n = some vs := by
 intro n
 induction n with
 | zero => exact fun i vs hc => hc
 | succ n ih =>
   intro i vs hc
   simp only [cellsH] at hc ⊢
   split at hc
   · rename_i v hv
     split at hc
     · rename_i ws hw
       rw [e.cell hv, ih _ hw]
       exact hc
     · cases hc
   · cases hc
theorem Ext.ldv {h h' : Heap} (e : Ext h h') {g : Bool} {n : Nat} {a : Addr} {v : Value} (hc : ldv g n h a = some v) : Hw.ldv g n h' a = some v := by
 cases g with
 | true =>
   simp only [Hw.ldv, Option.map_eq_some_iff] at hc ⊢
   obtain ⟨vs, h1, h2⟩ := hc
   exact ⟨vs, e.cells _ _ h1, h2⟩
 | false => exact e.cell hc
section
variable {P : Program} {T : Tab} {n : Nat} {ops : Array Oper}
theorem Sh.dec_val {s : Sh} {v : Value} {K : Value → Prop} (hh : s.dec v K) : K v ∧ ∀ K' : Value → Prop, K' v → s.dec v K' := by
 cases s <;> simp only [Sh.dec] at hh ⊢
 · obtain ⟨x, rfl, k⟩ := hh; exact ⟨k, fun K' k' => ⟨_, rfl, k'⟩⟩
 · obtain ⟨x, rfl, k⟩ := hh; exact ⟨k, fun K' k' => ⟨_, rfl, k'⟩⟩
 · obtain ⟨x, rfl, k⟩ := hh; exact ⟨k, fun K' k' => ⟨_, rfl, k'⟩⟩
 · obtain ⟨x, y, z, rfl, k⟩ := hh; exact ⟨k, fun K' k' => ⟨_, _, _, rfl, k'⟩⟩
 · obtain ⟨x, rfl, k⟩ := hh; exact ⟨k, fun K' k' => ⟨_, rfl, k'⟩⟩
 · exact ⟨hh, fun K' k' => k'⟩
theorem decs_val (ss : List Sh) : ∀ {K : List Value → Prop}, decs ss K → ∃ vs, K vs ∧ ∀ K' : List Value → Prop, K' vs → decs ss K' := by
 induction ss with
 | nil => exact fun h => ⟨_, h, fun K' k => k⟩
 | cons s ss ih =>
   intro K hh
   cases s <;> simp only [decs] at hh ⊢
   · obtain ⟨x, k⟩ := hh; obtain ⟨vs, k1, k2⟩ := ih k; exact ⟨_, k1, fun K' k' => ⟨_, k2 _ k'⟩⟩
   · obtain ⟨x, k⟩ := hh; obtain ⟨vs, k1, k2⟩ := ih k; exact ⟨_, k1, fun K' k' => ⟨_, k2 _ k'⟩⟩
   · obtain ⟨x, k⟩ := hh; obtain ⟨vs, k1, k2⟩ := ih k; exact ⟨_, k1, fun K' k' => ⟨_, k2 _ k'⟩⟩
   · obtain ⟨x, y, z, k⟩ := hh; obtain ⟨vs, k1, k2⟩ := ih k; exact ⟨_, k1, fun K' k' => ⟨_, _, _, k2 _ k'⟩⟩
   · obtain ⟨x, k⟩ := hh; obtain ⟨vs, k1, k2⟩ := ih k; exact ⟨_, k1, fun K' k' => ⟨_, k2 _ k'⟩⟩
   · obtain ⟨x, k⟩ := hh; obtain ⟨vs, k1, k2⟩ := ih k; exact ⟨_, k1, fun K' k' => ⟨_, k2 _ k'⟩⟩
theorem Tab.dec_val {t : Nat} {v : Value} {K : Value → Prop} (hh : T.dec t v K) : K v ∧ ∀ K' : Value → Prop, K' v → T.dec t v K' := by
 unfold Tab.dec at hh ⊢
 split at hh
 · exact Sh.dec_val hh
 · split at hh
   · obtain ⟨vs, ⟨hv, k1⟩, k2⟩ := decs_val _ hh
     exact ⟨hv ▸ k1, fun K' k' => k2 _ ⟨hv, hv ▸ k'⟩⟩
   · exact ⟨hh, fun K' k' => k'⟩
def Yld (P : Program) (T : Tab) (E : Heap → Heap → Prop) (ρ : Operand → Option Value) (o : Oper) (h : Heap) (v : Value) : Prop :=
 ∀ h', E h h' → ∀ K' : Option Value → Heap → Prop, K' (some v) h' → opEv P T ρ o h' K'
def cls (P : Program) (T : Tab) (o : Oper) : Nat :=
 match o.op with
 | .move _ | .assign _ | .fieldAddr .. | .field .. | .indexAddr .. | .index .. | .extract .. | .makeFunc .. | .unOp .. | .nilCheck _ | .pick .. | .slice .. => 0
 | .load .. => 1
 | .binOp _ t _ y _ => match look T.sh t with
   | some (.int _) | some .str | some .bool => 0
   | some .ptr => match y with | .const (.pointer none) => 0 | _ => 2
   | some .slice => 0
   | _ => 2
 | .convert src dst _ => match P.underlying src, P.underlying dst with
   | some (.int _), some (.int _) => 0
   | some .string, some .string => 0
   | _, _ => 2
 | .call c => match c.callee with
   | .builtin .len => match c.argTypes[0]? with
     | some t => match P.underlying t with
       | some (.slice _) | some .string | some (.array _ _) => 0
       | _ => 2
     | none => 2
   | .builtin .cap | .builtin .min | .builtin .max => 0
   | _ => 2
 | _ => 2
theorem intEv_val {op : BinOp} {k : IntKind} {x y : Int} {K : Value → Prop} (hh : intEv op k x y K) : ∃ v, K v ∧ ∀ K' : Value → Prop, K' v → intEv op k x y K' := by
 cases op <;> simp only [intEv] at hh ⊢ <;> first | exact ⟨_, hh, fun K' k => k⟩ | exact ⟨_, hh.2, fun K' k => ⟨hh.1, k⟩⟩
theorem strEv_val {op : BinOp} {x y : ByteArray} {K : Value → Prop} (hh : strEv op x y K) : ∃ v, K v ∧ ∀ K' : Value → Prop, K' v → strEv op x y K' := by
 cases op <;> simp only [strEv] at hh ⊢ <;> first | exact hh.elim | exact ⟨_, hh, fun K' k => k⟩ | exact ⟨_, hh.2, fun K' k => ⟨hh.1, k⟩⟩
theorem nilB_val {op : BinOp} {b : Bool} {K : Value → Prop} (hh : nilB op b K) : ∃ v, K v ∧ ∀ K' : Value → Prop, K' v → nilB op b K' := by
 cases op <;> simp only [nilB] at hh ⊢ <;> first | exact hh.elim | exact ⟨_, hh, fun K' k => k⟩
theorem minV_val {x y : Value} {K : Value → Prop} (hh : minV x y K) : ∃ v, K v ∧ ∀ K' : Value → Prop, K' v → minV x y K' := by
 unfold minV at hh ⊢
 split at hh
 · exact ⟨_, hh, fun K' k => k⟩
 · exact hh.elim
theorem maxV_val {x y : Value} {K : Value → Prop} (hh : maxV x y K) : ∃ v, K v ∧ ∀ K' : Value → Prop, K' v → maxV x y K' := by
 unfold maxV at hh ⊢
 split at hh
 · exact ⟨_, hh, fun K' k => k⟩
 · exact hh.elim
theorem bndEv_val {x : Option Value} {d : Nat} {K : Int → Prop} (hh : bndEv x d K) : ∃ i, K i ∧ ∀ K' : Int → Prop, K' i → bndEv x d K' := by
 unfold bndEv at hh ⊢
 split at hh
 · exact ⟨_, hh, fun K' k => k⟩
 · exact hh.elim
 · exact ⟨_, hh, fun K' k => k⟩
theorem ptrOk_val {p : Option Addr} {K : Addr → Prop} (hh : ptrOk p K) : ∃ i, K i ∧ ∀ K' : Addr → Prop, K' i → ptrOk p K' := by
 obtain ⟨a, rfl, k⟩ := ptrOk_elim hh
 exact ⟨a, k, fun K' k => k⟩
theorem sliceEv_val {t : TypeId} {x : Value} {lo hi mx : Option Value} {h : Heap} {K : Value → Heap → Prop} (hh : sliceEv P t x lo hi mx h K) :
   ∃ v, K v h ∧ ∀ (h' : Heap) (K' : Value → Heap → Prop), K' v h' → sliceEv P t x lo hi mx h' K' := by
 unfold sliceEv at hh ⊢
 split at hh
 · split at hh
   · split at hh
     · obtain ⟨e, hh, he⟩ := bndEv_val hh
       obtain ⟨b, ⟨h1, h2, h3, hk⟩, hb⟩ := bndEv_val hh
       exact ⟨_, hk, fun h' K' k => he _ (hb _ ⟨h1, h2, h3, k⟩)⟩
     · exact hh.elim
   · exact hh.elim
 · split at hh
   · split at hh
     · split at hh
       · obtain ⟨e, hh, he⟩ := bndEv_val hh
         obtain ⟨b, ⟨h1, h2, h3, hk⟩, hb⟩ := bndEv_val hh
         exact ⟨_, hk, fun h' K' k => he _ (hb _ ⟨h1, h2, h3, k⟩)⟩
       · split at hh
         · exact hh.elim
         · obtain ⟨m, hh, hm⟩ := bndEv_val hh
           obtain ⟨e, hh, he⟩ := bndEv_val hh
           obtain ⟨b, ⟨h1, h2, h3, h4, hk⟩, hb⟩ := bndEv_val hh
           exact ⟨_, hk, fun h' K' k => hm _ (he _ (hb _ ⟨h1, h2, h3, h4, k⟩))⟩
     · exact hh.elim
   · exact hh.elim
 · split at hh
   · split at hh
     · obtain ⟨a, hh, ha⟩ := ptrOk_val hh
       split at hh
       · obtain ⟨e, hh, he⟩ := bndEv_val hh
         obtain ⟨b, ⟨h1, h2, h3, hk⟩, hb⟩ := bndEv_val hh
         exact ⟨_, hk, fun h' K' k => ha _ (he _ (hb _ ⟨h1, h2, h3, k⟩))⟩
       · exact hh.elim
     · exact hh.elim
   · exact hh.elim
 · exact hh.elim
theorem cls_val {ρ : Operand → Option Value} (hρ : ∀ v, ρ (.const v) = some v) {o : Oper} {h : Heap} {K : Option Value → Heap → Prop} (hh : opEv P T ρ o h K) :
   (cls P T o = 0 → ∃ v, K (some v) h ∧ Yld P T (fun _ _ => True) ρ o h v) ∧ (cls P T o = 1 → ∃ v, K (some v) h ∧ Yld P T Ext ρ o h v) := by
 unfold opEv at hh
 unfold cls Yld opEv
 refine ⟨fun hc => ?_, fun hc => ?_⟩
 · cases ho : o.op with
   | move x => simp only [ho] at hh hc ⊢; obtain ⟨v, hv, hk⟩ := val_elim hh; exact ⟨v, hk, fun h' _ K' k => by rw [hv]; exact k⟩
   | assign x => simp only [ho] at hh hc ⊢; obtain ⟨v, hv, hk⟩ := val_elim hh; exact ⟨v, hk, fun h' _ K' k => by rw [hv]; exact k⟩
   | pick c a b =>
     simp only [ho] at hh hc ⊢
     split at hh
     · rename_i t hc
       cases t <;> simp only [splitB] at hh ⊢ <;> obtain ⟨v, hv, hk⟩ := val_elim hh <;> exact ⟨v, hk, fun h' _ K' k => by rw [hv]; exact k⟩
     · exact hh.elim
   | fieldAddr t x f =>
     simp only [ho] at hh hc ⊢
     repeat' (split at hh)
     all_goals first | exact hh.elim | skip
     obtain ⟨a, hk, ha⟩ := ptrOk_val hh
     exact ⟨_, hk, fun h' _ K' k => ha _ k⟩
   | field t x f =>
     simp only [ho] at hh hc ⊢
     repeat' (split at hh)
     all_goals first | exact hh.elim | skip
     obtain ⟨v, hv, u, hu, hk⟩ := val_elim hh
     exact ⟨u, (Tab.dec_val hk).1, fun h' _ K' k => by rw [hv]; exact ⟨u, hu, (Tab.dec_val hk).2 _ k⟩⟩
   | indexAddr t x i =>
     simp only [ho] at hh hc ⊢
     repeat' (split at hh)
     all_goals first | exact hh.elim | skip
     all_goals
       obtain ⟨a, ⟨h1, h2, hk⟩, ha⟩ := ptrOk_val hh
       exact ⟨_, hk, fun h' _ K' k => ha _ ⟨h1, h2, k⟩⟩
   | index t x i =>
     simp only [ho] at hh hc ⊢
     repeat' (split at hh)
     all_goals first | exact hh.elim | skip
     · obtain ⟨h1, b, hb, hk⟩ := hh
       exact ⟨_, hk, fun h' _ K' k => ⟨h1, b, hb, k⟩⟩
     · obtain ⟨v, hv, h1, h2, u, hu, hk⟩ := val_elim hh
       exact ⟨u, (Tab.dec_val hk).1, fun h' _ K' k => by rw [hv]; exact ⟨h1, h2, u, hu, (Tab.dec_val hk).2 _ k⟩⟩
   | extract x i =>
     simp only [ho] at hh hc ⊢
     repeat' (split at hh)
     all_goals first | exact hh.elim | skip
     exact ⟨_, hh, fun h' _ K' k => k⟩
   | makeFunc fn first captured =>
     simp only [ho] at hh hc ⊢
     repeat' (split at hh)
     all_goals first | exact hh.elim | skip
     exact ⟨_, hh, fun h' _ K' k => k⟩
   | unOp op t x =>
     simp only [ho] at hh hc ⊢
     split at hh
     all_goals first | exact hh.elim | exact ⟨_, hh, fun h' _ K' k => k⟩
   | nilCheck x =>
     simp only [ho] at hh hc ⊢
     split at hh
     · obtain ⟨a, hk, ha⟩ := ptrOk_val hh
       exact ⟨_, hk, fun h' _ K' k => ha _ k⟩
     all_goals first | exact hh.elim | exact ⟨_, hh, fun h' _ K' k => k⟩
   | slice t x lo hi mx =>
     simp only [ho] at hh hc ⊢
     obtain ⟨v, hv, hh⟩ := val_elim hh
     repeat' (split at hh)
     all_goals first | exact hh.elim | skip
     obtain ⟨u, hk, hs⟩ := sliceEv_val hh
     exact ⟨u, hk, fun h' _ K' k => by rw [hv]; exact hs h' (fun v h' => K' (some v) h') k⟩
   | binOp op t x y yt =>
     simp only [ho] at hh hc ⊢
     obtain ⟨a, ha, hh⟩ := val_elim hh
     obtain ⟨b, hb, hh⟩ := val_elim hh
     rw [ha, hb]
     simp only [Hw.val]
     unfold binEv at hh ⊢
     split at hh
     · split at hh
       · cases op <;> simp only [] at hh ⊢
         all_goals first
           | (obtain ⟨v, hk, hv⟩ := intEv_val hh; exact ⟨v, hk, fun h' _ K' k => hv _ k⟩)
           | (split at hh
              · obtain ⟨v, hk, hv⟩ := intEv_val hh; exact ⟨v, hk, fun h' _ K' k => hv _ k⟩
              · exact hh.elim)
       · exact hh.elim
     · split at hh
       · obtain ⟨v, hk, hv⟩ := strEv_val hh; exact ⟨v, hk, fun h' _ K' k => hv _ k⟩
       · exact hh.elim
     · repeat' (split at hh)
       all_goals first | exact hh.elim | skip
       obtain ⟨v, hk, hv⟩ := nilB_val hh; exact ⟨v, hk, fun h' _ K' k => hv _ k⟩
     · rename_i hs
       simp only [hs] at hc
       split at hc
       · repeat' (split at hh)
         all_goals first | exact hh.elim | skip
         · obtain ⟨v, hk, hv⟩ := nilB_val hh; exact ⟨v, hk, fun h' _ K' k => hv _ k⟩
         · rw [hρ] at hb; cases hb
       · cases hc
     · repeat' (split at hh)
       all_goals first | exact hh.elim | skip
       obtain ⟨v, hk, hv⟩ := nilB_val hh; exact ⟨v, hk, fun h' _ K' k => hv _ k⟩
     · rename_i n1 n2 n3 n4 n5
       split at hc
       · rename_i hl; exact absurd hl (n1 _)
       · rename_i hl; exact absurd hl n2
       · rename_i hl; exact absurd hl n3
       · rename_i hl; exact absurd hl n4
       · rename_i hl; exact absurd hl n5
       · cases hc
   | convert src dst x =>
     simp only [ho] at hh hc ⊢
     split at hc
     · rename_i k k' h1 h2
       simp only [h1, h2] at hh ⊢
       split at hh
       · exact ⟨_, hh, fun h' _ K' k => k⟩
       · exact hh.elim
     · rename_i h1 h2
       simp only [h1, h2] at hh ⊢
       split at hh
       · exact ⟨_, hh, fun h' _ K' k => k⟩
       · exact hh.elim
     · cases hc
   | call c =>
     simp only [ho] at hh hc ⊢
     split at hc
     · rename_i hb
       simp only [hb] at hh ⊢
       split at hh
       · rename_i vs hvs
         unfold builtEv at hh ⊢
         split at hc
         · rename_i t ht
           simp only [ht] at hh ⊢
           split at hc
           · rename_i e hu
             simp only [hu] at hh ⊢
             split at hh
             · exact ⟨_, hh, fun h' _ K' k => k⟩
             · exact hh.elim
           · rename_i hu
             simp only [hu] at hh ⊢
             split at hh
             · exact ⟨_, hh, fun h' _ K' k => k⟩
             · exact hh.elim
           · rename_i e1 e2 hu
             simp only [hu] at hh ⊢
             split at hh
             · exact ⟨_, hh, fun h' _ K' k => k⟩
             · exact hh.elim
           · cases hc
         · cases hc
       · exact hh.elim
     · rename_i hb
       simp only [hb] at hh ⊢
       split at hh
       · unfold builtEv at hh ⊢
         simp only [] at hh ⊢
         repeat' (split at hh)
         all_goals first | exact hh.elim | exact ⟨_, hh, fun h' _ K' k => k⟩
       · exact hh.elim
     · rename_i hb
       simp only [hb] at hh ⊢
       split at hh
       · unfold builtEv at hh ⊢
         simp only [] at hh ⊢
         split at hh
         · obtain ⟨v, hk, hv⟩ := minV_val hh; exact ⟨v, hk, fun h' _ K' k => hv _ k⟩
         · obtain ⟨v, hh, hv⟩ := minV_val hh; obtain ⟨u, hk, hu⟩ := minV_val hh; exact ⟨u, hk, fun h' _ K' k => hv _ (hu _ k)⟩
         · obtain ⟨v, hh, hv⟩ := minV_val hh; obtain ⟨u, hh, hu⟩ := minV_val hh; obtain ⟨q, hk, hq⟩ := minV_val hh; exact ⟨q, hk, fun h' _ K' k => hv _ (hu _ (hq _ k))⟩
         · exact hh.elim
       · exact hh.elim
     · rename_i hb
       simp only [hb] at hh ⊢
       split at hh
       · unfold builtEv at hh ⊢
         simp only [] at hh ⊢
         split at hh
         · obtain ⟨v, hk, hv⟩ := maxV_val hh; exact ⟨v, hk, fun h' _ K' k => hv _ k⟩
         · obtain ⟨v, hh, hv⟩ := maxV_val hh; obtain ⟨u, hk, hu⟩ := maxV_val hh; exact ⟨u, hk, fun h' _ K' k => hv _ (hu _ k)⟩
         · obtain ⟨v, hh, hv⟩ := maxV_val hh; obtain ⟨u, hh, hu⟩ := maxV_val hh; obtain ⟨q, hk, hq⟩ := maxV_val hh; exact ⟨q, hk, fun h' _ K' k => hv _ (hu _ (hq _ k))⟩
         · exact hh.elim
       · exact hh.elim
     · cases hc
   | _ => simp only [ho] at hc; cases hc
 · cases ho : o.op with
   | load t x =>
     simp only [ho] at hh hc ⊢
     repeat' (split at hh)
     all_goals first | exact hh.elim | skip
     obtain ⟨a, ⟨v, hv, hk⟩, ha⟩ := ptrOk_val hh
     exact ⟨v, (Tab.dec_val hk).1, fun h' e K' k => ha _ ⟨v, e.ldv hv, (Tab.dec_val hk).2 _ k⟩⟩
   | binOp op t x y yt => simp only [ho] at hc; repeat' (split at hc) <;> first | cases hc | skip
   | convert src dst x => simp only [ho] at hc; repeat' (split at hc) <;> first | cases hc | skip
   | call c => simp only [ho] at hc; repeat' (split at hc) <;> first | cases hc | skip
   | _ => simp only [ho] at hc; cases hc
end
end Go.Hw

end
section
namespace Go.Hw
open Go
section
variable {P : Program} {T : Tab} {n : Nat} {ops : Array Oper}
theorem valsOf_congr {ρ ρ' : Operand → Option Value} : ∀ (l : List Operand), (∀ x ∈ l, ρ x = ρ' x) → valsOf ρ l = valsOf ρ' l := by
 intro l
 induction l with
 | nil => exact fun _ => rfl
 | cons x l ih => intro hx; simp only [valsOf]; rw [hx x (by simp), ih fun y hy => hx y (by simp [hy])]
theorem partsOf_congr {ρ ρ' : Operand → Option Value} {place : Nat → Option (Nat × Nat × Bool)} : ∀ (l : List (Nat × Operand)), (∀ x ∈ l, ρ x.2 = ρ' x.2) → partsOf ρ place l = partsOf ρ' place l := by
 intro l
 induction l with
 | nil => exact fun _ => rfl
 | cons x l ih =>
   obtain ⟨i, x⟩ := x
   intro hx
   simp only [partsOf]
   rw [hx (i, x) (by simp), ih fun y hy => hx y (by simp [hy])]
theorem optV_congr {ρ ρ' : Operand → Option Value} (o : Option Operand) (hx : ∀ x, o = some x → ρ x = ρ' x) : optV ρ o = optV ρ' o := by
 cases o with
 | none => rfl
 | some x => simp only [optV]; rw [hx x rfl]
theorem opEv_congr {ρ ρ' : Operand → Option Value} {o : Oper} {h : Heap} {K : Option Value → Heap → Prop} (hρ : ∀ x ∈ o.op.operands, ρ x = ρ' x) : opEv P T ρ o h K = opEv P T ρ' o h K := by
 unfold opEv
 cases ho : o.op with
 | call c =>
   simp only [ho, Op.operands, Call.operands] at hρ ⊢
   have ha : valsOf ρ c.args.toList = valsOf ρ' c.args.toList := valsOf_congr _ fun x hx => hρ x (by simp at hx; simp [hx])
   cases hc : c.callee with
   | value f => simp only [hc] at hρ ⊢; rw [ha, hρ f (by simp)]
   | invoke r m => rfl
   | builtin b => simp only []; rw [ha]
 | build t parts =>
   simp only [ho, Op.operands] at hρ ⊢
   have hp : ∀ place, partsOf ρ place parts.toList = partsOf ρ' place parts.toList := fun place => partsOf_congr _ fun x hx => hρ x.2 (by simp at hx ⊢; exact ⟨x.1, hx⟩)
   simp only [hp]
 | buildSlice t len parts =>
   simp only [ho, Op.operands] at hρ ⊢
   have hp : ∀ place, partsOf ρ place parts.toList = partsOf ρ' place parts.toList := fun place => partsOf_congr _ fun x hx => hρ x.2 (by simp at hx ⊢; exact ⟨x.1, hx⟩)
   simp only [hp]
 | makeFunc fn first captured =>
   simp only [ho, Op.operands] at hρ ⊢
   rw [valsOf_congr first.toList fun x hx => hρ x (by simp at hx; simp [hx]), valsOf_congr captured.toList fun x hx => hρ x (by simp at hx; simp [hx])]
 | makeMap t r =>
   simp only [ho, Op.operands] at hρ ⊢
   rw [optV_congr r fun x hx => hρ x (by simp [hx])]
 | slice t x lo hi mx =>
   simp only [ho, Op.operands] at hρ ⊢
   rw [hρ x (by simp), optV_congr lo fun x hx => hρ x (by simp [hx]), optV_congr hi fun x hx => hρ x (by simp [hx]), optV_congr mx fun x hx => hρ x (by simp [hx])]
 | _ =>
   simp only [ho, Op.operands] at hρ ⊢
   try simp [hρ]
theorem upd_ne {fr : Fr} {d t : Nat} {v : Value} (h : t ≠ d) : upd fr d v t = fr t := by
 unfold upd
 split
 · rename_i ht; exact absurd (Nat.eq_of_beq_eq_true ht) h
 · rfl
theorem rmv_ne {fr : Fr} {d t : Nat} (h : t ≠ d) : rmv fr d t = fr t := upd_ne h
theorem putF_ne {fr : Fr} {dst : Option Nat} {ov : Option Value} {t : Nat} (h : ∀ d, dst = some d → t ≠ d) : putF fr dst ov t = fr t := by
 cases dst with
 | none => rfl
 | some d => cases ov with
   | none => exact rmv_ne (h d rfl)
   | some v => exact upd_ne (h d rfl)
theorem putF_at {fr : Fr} {d : Nat} {ov : Option Value} : putF fr (some d) ov d = some (ov.getD undef) := by
 cases ov <;> simp [putF, upd, rmv]
theorem putF_comm {fr : Fr} {d d' : Option Nat} {u v : Option Value} (h : ∀ x, d = some x → d' ≠ some x) : putF (putF fr d u) d' v = putF (putF fr d' v) d u := by
 funext t
 by_cases h1 : d = some t
 · have h2 : ∀ x, d' = some x → t ≠ x := fun x hx e => h t h1 (e ▸ hx)
   rw [putF_ne h2]
   subst h1
   rw [putF_at, putF_at]
 · have h1' : ∀ x, d = some x → t ≠ x := fun x hx e => h1 (e ▸ hx)
   rw [putF_ne (dst := d) h1']
   by_cases h2 : d' = some t
   · subst h2; rw [putF_at, putF_at]
   · have h2' : ∀ x, d' = some x → t ≠ x := fun x hx e => h2 (e ▸ hx)
     rw [putF_ne h2', putF_ne h2', putF_ne h1']
theorem putK_eq {fr : Fr} {dst : Option Nat} {ov : Option Value} {K : Fr → Prop} (hk : putK n fr dst ov K) : K (putF fr dst ov) := by
 unfold putK at hk
 unfold putF
 split at hk
 · exact hk
 · split at hk
   · split at hk <;> exact hk
   · exact hk.elim
theorem putK_mk {fr : Fr} {dst : Option Nat} {ov : Option Value} {K : Fr → Prop} (hd : ∀ d, dst = some d → Nat.blt d n = true) (hk : K (putF fr dst ov)) : putK n fr dst ov K := by
 unfold putK
 cases dst with
 | none => exact hk
 | some d =>
   simp only [hd d rfl]
   cases ov <;> exact hk
theorem putK_lt {fr : Fr} {dst : Option Nat} {ov : Option Value} {K : Fr → Prop} (hk : putK n fr dst ov K) : ∀ d, dst = some d → Nat.blt d n = true := by
 rintro d rfl
 unfold putK at hk
 simp only [] at hk
 split at hk
 · assumption
 · exact hk.elim
theorem decs_mono (ss : List Sh) : ∀ {K K' : List Value → Prop}, (∀ v, K v → K' v) → decs ss K → decs ss K' := by
 induction ss with
 | nil => exact fun hc h => hc _ h
 | cons s ss ih =>
   intro K K' hc hh
   cases s <;> simp only [decs] at hh ⊢
   · obtain ⟨x, k⟩ := hh; exact ⟨x, ih (fun _ => hc _) k⟩
   · obtain ⟨x, k⟩ := hh; exact ⟨x, ih (fun _ => hc _) k⟩
   · obtain ⟨x, k⟩ := hh; exact ⟨x, ih (fun _ => hc _) k⟩
   · obtain ⟨x, y, z, k⟩ := hh; exact ⟨x, y, z, ih (fun _ => hc _) k⟩
   · obtain ⟨x, k⟩ := hh; exact ⟨x, ih (fun _ => hc _) k⟩
   · obtain ⟨x, k⟩ := hh; exact ⟨x, ih (fun _ => hc _) k⟩
theorem opEv_mono {ρ : Operand → Option Value} {o : Oper} {h : Heap} {K K' : Option Value → Heap → Prop} (hk : ∀ v h, K v h → K' v h) (hh : opEv P T ρ o h K) : opEv P T ρ o h K' := by
 have dm : ∀ {t : Nat} {v : Value} {C C' : Value → Prop}, (∀ v, C v → C' v) → T.dec t v C → T.dec t v C' := fun hc hd => (Tab.dec_val hd).2 _ (hc _ (Tab.dec_val hd).1)
 have vm : ∀ {x : Option Value} {C C' : Value → Prop}, (∀ v, C v → C' v) → Hw.val x C → Hw.val x C' := fun hc hd => by
   obtain ⟨v, rfl, k⟩ := val_elim hd; exact hc _ k
 have pm : ∀ {x : Option Addr} {C C' : Addr → Prop}, (∀ v, C v → C' v) → ptrOk x C → ptrOk x C' := fun hc hd => by
   obtain ⟨v, rfl, k⟩ := ptrOk_elim hd; exact hc _ k
 have fm : ∀ (n : Nat) (l : List (Nat × Nat × Bool × Value)) (cells : List Value) {C C' : List Value → Prop}, (∀ v, C v → C' v) → fillEv n cells l C → fillEv n cells l C' := by
   intro n l
   induction l with
   | nil => exact fun cells C C' hc hd => hc _ hd
   | cons x l ih =>
     obtain ⟨off, s, g, v⟩ := x
     intro cells C C' hc hd
     simp only [fillEv] at hd ⊢
     split at hd
     · exact hd.elim
     · split at hd
       · split at hd
         · have h1 := (oneCell_elim hd)
           cases v <;> simp only [oneCell] at hd ⊢ <;> first | exact hd.elim | exact ih _ hc hd
         · exact hd.elim
       · obtain ⟨vs, h1, h2, h3⟩ := hd
         exact ⟨vs, h1, h2, ih _ hc h3⟩
 have gm : ∀ {s : Sem Value} {h : Heap} {C C' : Value → Heap → Prop}, (∀ v h, C v h → C' v h) → Gen P s h C → Gen P s h C' := fun hc hd => Hwp.mono _ hc hd
 have iv := fun {op : BinOp} {k : IntKind} {x y : Int} {C C' : Value → Prop} (hc : ∀ v, C v → C' v) (hd : intEv op k x y C) => (show intEv op k x y C' from let ⟨v, h1, h2⟩ := intEv_val hd; h2 _ (hc _ h1))
 have sv := fun {op : BinOp} {x y : ByteArray} {C C' : Value → Prop} (hc : ∀ v, C v → C' v) (hd : strEv op x y C) => (show strEv op x y C' from let ⟨v, h1, h2⟩ := strEv_val hd; h2 _ (hc _ h1))
 have nv := fun {op : BinOp} {b : Bool} {C C' : Value → Prop} (hc : ∀ v, C v → C' v) (hd : nilB op b C) => (show nilB op b C' from let ⟨v, h1, h2⟩ := nilB_val hd; h2 _ (hc _ h1))
 have bm := fun {op : BinOp} {v : Value} {C C' : Value → Prop} (hc : ∀ v, C v → C' v) (hd : genB op v C) => (show genB op v C' by
   unfold genB at hd ⊢
   split at hd
   · obtain ⟨b, h1, k⟩ := hd; exact ⟨b, h1, hc _ k⟩
   · obtain ⟨b, h1, k⟩ := hd; exact ⟨b, h1, hc _ k⟩
   · exact hc _ hd)
 unfold opEv at hh ⊢
 cases ho : o.op with
 | move x => simp only [ho] at hh ⊢; exact vm (fun _ k => hk _ _ k) hh
 | assign x => simp only [ho] at hh ⊢; exact vm (fun _ k => hk _ _ k) hh
 | pick c a b =>
   simp only [ho] at hh ⊢
   split at hh
   · rename_i t _
     cases t <;> simp only [splitB] at hh ⊢ <;> exact vm (fun _ k => hk _ _ k) hh
   · exact hh.elim
 | binOp op t x y yt =>
   simp only [ho] at hh ⊢
   refine vm (fun a hh => vm (fun b hh => ?_) hh) hh
   unfold binEv at hh ⊢
   split at hh
   · split at hh
     · cases op <;> simp only [] at hh ⊢
       all_goals first
         | exact iv (fun _ k => hk _ _ k) hh
         | (split at hh
            · exact iv (fun _ k => hk _ _ k) hh
            · exact hh.elim)
     · exact hh.elim
   · split at hh
     · exact sv (fun _ k => hk _ _ k) hh
     · exact hh.elim
   · repeat' (split at hh)
     all_goals first | exact hh.elim | exact nv (fun _ k => hk _ _ k) hh
   · repeat' (split at hh)
     all_goals first | exact hh.elim | exact nv (fun _ k => hk _ _ k) hh | exact gm (fun _ _ k => bm (fun _ k => hk _ _ k) k) hh
   · repeat' (split at hh)
     all_goals first | exact hh.elim | exact nv (fun _ k => hk _ _ k) hh
   · exact gm (fun _ _ k => bm (fun _ k => hk _ _ k) k) hh
 | call c =>
   simp only [ho] at hh ⊢
   split at hh
   · split at hh
     · unfold builtEv at hh ⊢
       split at hh
       · repeat' (split at hh)
         all_goals first | exact hh.elim | exact hk _ _ hh | exact gm (fun _ _ k => dm (fun _ k => hk _ _ k) k) hh
       · repeat' (split at hh)
         all_goals first | exact hh.elim | exact hk _ _ hh
       · repeat' (split at hh)
         all_goals first | exact hh.elim | skip
         · obtain ⟨kx, m, e, hm1, hm2, hh⟩ := hh
           refine ⟨kx, m, e, hm1, hm2, ?_⟩
           rcases hh with ⟨h1, h2 | ⟨a, h', h2, h3, h4⟩⟩ | ⟨h1, h2, h3, h6, old, h4, h5⟩
           · exact .inl ⟨h1, .inl ⟨h2.1, dm (fun _ k => hk _ _ k) h2.2⟩⟩
           · exact .inl ⟨h1, .inr ⟨a, h', h2, h3, dm (fun _ k => hk _ _ k) h4⟩⟩
           · exact .inr ⟨h1, h2, h3, h6, old, h4, fun c' hc' => dm (fun _ k => hk _ _ k) (h5 c' hc')⟩
         obtain ⟨m, xs, hs, hh⟩ := hh
         refine ⟨m, xs, hs, ?_⟩
         rcases hh with ⟨h1, h2 | ⟨a, h', h2, h3, h4⟩⟩ | ⟨h1, h2, h3, old, h4, h5⟩
         · exact .inl ⟨h1, .inl ⟨h2.1, dm (fun _ k => hk _ _ k) h2.2⟩⟩
         · exact .inl ⟨h1, .inr ⟨a, h', h2, h3, dm (fun _ k => hk _ _ k) h4⟩⟩
         · exact .inr ⟨h1, h2, h3, old, h4, fun c' hc' => dm (fun _ k => hk _ _ k) (h5 c' hc')⟩
       · repeat' (split at hh)
         all_goals first | exact hh.elim | skip
         · obtain ⟨v, k, hv⟩ := minV_val hh; exact hv _ (hk _ _ k)
         · obtain ⟨v, hh, hv⟩ := minV_val hh; obtain ⟨u, k, hu⟩ := minV_val hh; exact hv _ (hu _ (hk _ _ k))
         · obtain ⟨v, hh, hv⟩ := minV_val hh; obtain ⟨u, hh, hu⟩ := minV_val hh; obtain ⟨q, k, hq⟩ := minV_val hh; exact hv _ (hu _ (hq _ (hk _ _ k)))
       · repeat' (split at hh)
         all_goals first | exact hh.elim | skip
         · obtain ⟨v, k, hv⟩ := maxV_val hh; exact hv _ (hk _ _ k)
         · obtain ⟨v, hh, hv⟩ := maxV_val hh; obtain ⟨u, k, hu⟩ := maxV_val hh; exact hv _ (hu _ (hk _ _ k))
         · obtain ⟨v, hh, hv⟩ := maxV_val hh; obtain ⟨u, hh, hu⟩ := maxV_val hh; obtain ⟨q, k, hq⟩ := maxV_val hh; exact hv _ (hu _ (hq _ (hk _ _ k)))
       all_goals first | exact hh.elim | exact gm (fun _ _ k => dm (fun _ k => hk _ _ k) k) hh
     · exact hh.elim
   · refine vm (fun f hh => ?_) hh
     split at hh
     · unfold CallF at hh ⊢
       split at hh
       · split at hh
         · exact hh.mono fun _ _ k => dm (fun _ k => hk _ _ k) k
         · exact ExtF.mono hh fun _ _ k => dm (fun _ k => hk _ _ k) k
       · exact hh.elim
     · exact hh.elim
   · exact hh.elim
 | slice t x lo hi mx =>
   simp only [ho] at hh ⊢
   refine vm (fun a hh => ?_) hh
   repeat' (split at hh)
   all_goals first | exact hh.elim | skip
   obtain ⟨v, k, hv⟩ := sliceEv_val hh
   exact hv _ _ (hk _ _ k)
 | nilCheck x =>
   simp only [ho] at hh ⊢
   split at hh
   · exact pm (fun _ k => hk _ _ k) hh
   all_goals first | exact hh.elim | exact hk _ _ hh
 | unOp op t x =>
   simp only [ho] at hh ⊢
   split at hh
   all_goals first | exact hh.elim | exact hk _ _ hh
 | load t x =>
   simp only [ho] at hh ⊢
   repeat' (split at hh)
   all_goals first | exact hh.elim | skip
   obtain ⟨a, rfl, v, h1, k⟩ := ptrOk_elim hh
   exact ⟨v, h1, dm (fun _ k => hk _ _ k) k⟩
 | store t x y =>
   simp only [ho] at hh ⊢
   split at hh
   · split at hh
     · obtain ⟨v, hv, hh⟩ := val_elim hh
       obtain ⟨a, rfl, hh⟩ := ptrOk_elim hh
       rw [hv]
       simp only [Hw.val, ptrOk]
       split at hh
       · obtain ⟨vs, h1, h2, h', h3, k⟩ := hh
         exact ⟨vs, h1, h2, h', h3, hk _ _ k⟩
       · split at hh
         · obtain ⟨h', h3, k⟩ := hh
           exact ⟨h', h3, hk _ _ k⟩
         · exact hh.elim
     · exact hh.elim
   · exact hh.elim
 | fieldAddr t x f =>
   simp only [ho] at hh ⊢
   repeat' (split at hh)
   all_goals first | exact hh.elim | skip
   exact pm (fun _ k => hk _ _ k) hh
 | field t x f =>
   simp only [ho] at hh ⊢
   repeat' (split at hh)
   all_goals first | exact hh.elim | skip
   obtain ⟨v, hv, u, h1, k⟩ := val_elim hh
   rw [hv]
   exact ⟨u, h1, dm (fun _ k => hk _ _ k) k⟩
 | indexAddr t x i =>
   simp only [ho] at hh ⊢
   repeat' (split at hh)
   all_goals first | exact hh.elim | skip
   all_goals
     obtain ⟨a, rfl, h1, h2, k⟩ := ptrOk_elim hh
     exact ⟨h1, h2, hk _ _ k⟩
 | index t x i =>
   simp only [ho] at hh ⊢
   repeat' (split at hh)
   all_goals first | exact hh.elim | skip
   · obtain ⟨h1, b, h2, k⟩ := hh
     exact ⟨h1, b, h2, hk _ _ k⟩
   · obtain ⟨v, hv, h1, h2, u, h3, k⟩ := val_elim hh
     rw [hv]
     exact ⟨h1, h2, u, h3, dm (fun _ k => hk _ _ k) k⟩
 | lookup t x i ok =>
   simp only [ho] at hh ⊢
   obtain ⟨a, ha, hh⟩ := val_elim hh
   obtain ⟨b, hb, hh⟩ := val_elim hh
   rw [ha, hb]
   exact gm (fun _ _ k => dm (fun _ k => hk _ _ k) k) hh
 | mapUpdate t m k x =>
   simp only [ho] at hh ⊢
   obtain ⟨a, ha, hh⟩ := val_elim hh
   obtain ⟨b, hb, hh⟩ := val_elim hh
   obtain ⟨c, hc, hh⟩ := val_elim hh
   rw [ha, hb, hc]
   exact Hwp.mono _ (fun _ _ k => hk _ _ k) hh
 | insert t m k x =>
   simp only [ho] at hh ⊢
   obtain ⟨a, ha, hh⟩ := val_elim hh
   obtain ⟨b, hb, hh⟩ := val_elim hh
   obtain ⟨c, hc, hh⟩ := val_elim hh
   rw [ha, hb, hc]
   exact Hwp.mono _ (fun _ _ k => hk _ _ k) hh
 | next x s =>
   cases s with
   | true => simp only [ho] at hh
   | false =>
     simp only [ho] at hh ⊢
     exact vm (fun _ k => Hwp.mono _ (fun _ _ k => k.imp (fun k => ⟨k.1, hk _ _ k.2⟩) (fun ⟨a, b, q, k⟩ => ⟨a, b, q, hk _ _ k⟩)) k) hh
 | entry x =>
   simp only [ho] at hh ⊢
   split at hh
   · split at hh
     · exact vm (fun _ k => Hwp.mono _ (fun _ _ k => decs_mono _ (fun _ k => ⟨k.1, hk _ _ k.2⟩) k) k) hh
     · exact hh.elim
   · exact hh.elim
 | convert src dst x =>
   simp only [ho] at hh ⊢
   split at hh
   · repeat' (split at hh)
     all_goals first | exact hh.elim | exact hk _ _ hh
   · split at hh
     · exact hk _ _ hh
     · exact hh.elim
   · exact vm (fun _ k => gm (fun _ _ k => dm (fun _ k => hk _ _ k) k) k) hh
   · exact hh.elim
 | makeSlice t l c =>
   simp only [ho] at hh ⊢
   repeat' (split at hh)
   all_goals first | exact hh.elim | skip
   obtain ⟨h1, h2, h3, h4, k⟩ := hh
   exact ⟨h1, h2, h3, h4, hk _ _ k⟩
 | _ =>
   simp only [ho] at hh ⊢
   first
     | exact hh
     | (repeat' (split at hh)
        all_goals first
          | exact hh.elim
          | exact hk _ _ hh
          | exact vm (fun _ k => hk _ _ k) hh
          | exact fm _ _ _ (fun _ k => hk _ _ k) hh
          | exact vm (fun _ k => gm (fun _ _ k => hk _ _ k) k) hh
          | exact gm (fun _ _ k => hk _ _ k) hh)
end
end Go.Hw

end
section
namespace Go.Hw
open Go
section
variable {P : Program} {T : Tab} {n : Nat} {ops : Array Oper}
theorem evG_mono {o : Oper} {fr : Fr} {h : Heap} {K K' : Fr → Heap → Prop} (hk : ∀ fr h, K fr h → K' fr h) (hh : evG P T n ops o fr h K) : evG P T n ops o fr h K' := by
 have km : ∀ {fr : Fr} {dst : Option Nat} {ov : Option Value} {C C' : Fr → Prop}, (∀ v, C v → C' v) → putK n fr dst ov C → putK n fr dst ov C' := fun hc hd => putK_mk (putK_lt hd) (hc _ (putK_eq hd))
 unfold evG at hh ⊢
 split at hh
 · exact opEv_mono (fun _ _ k => km (fun _ k => hk _ _ k) k) hh
 · split at hh
   · exact hh.elim
   · split at hh
     · exact hh.elim
     · split at hh
       · rename_i b _
         split at hh <;> cases b <;> simp only [splitB] at hh ⊢
         all_goals first
           | exact km (fun _ k => hk _ _ k) hh
           | exact opEv_mono (fun _ _ k => km (fun _ k => hk _ _ k) k) hh
       · exact km (fun _ k => hk _ _ k) hh
       · exact hh.elim
theorem opnd_putF {fr : Fr} {dst : Option Nat} {ov : Option Value} {x : Operand} (h : ∀ d, dst = some d → x ≠ .tmp d) : opnd (putF fr dst ov) x = opnd fr x := by
 cases x with
 | tmp t => exact putF_ne fun d hd e => h d hd (e ▸ rfl)
 | const v => rfl
 | global g => rfl
 | func f => rfl
theorem looks_opnd {o : Oper} {d : Nat} (h : d ∉ o.looksAt ops) : ∀ x ∈ o.op.operands, x ≠ .tmp d := by
 intro x hx e
 subst e
 apply h
 unfold Oper.looksAt
 refine List.mem_append_left _ ?_
 rw [List.mem_filterMap]
 exact ⟨.tmp d, by simpa using hx, rfl⟩
theorem looks_guard {o oj : Oper} {d j : Nat} {g : Bool} (h : d ∉ o.looksAt ops) (hg : o.guard = some (j, g)) (hj : ops[j]? = some oj) : oj.dst ≠ some d := by
 intro e
 apply h
 unfold Oper.looksAt
 refine List.mem_append_right _ ?_
 simp [hg, hj, e]
theorem evG_put {oi oj : Oper} {ov : Option Value} {fr : Fr} {h : Heap} {K : Fr → Heap → Prop} (hap : oi.apart ops oj = true) (hh : evG P T n ops oj (putF fr oi.dst ov) h K) :
   evG P T n ops oj fr h fun fr' h' => K (putF fr' oi.dst ov) h' := by
 obtain ⟨h1, h2, h3⟩ := Oper.apart_spec hap
 have main : ∀ fr : Fr, (opEv P T (opnd (putF fr oi.dst ov)) oj h fun u h' => putK n (putF fr oi.dst ov) oj.dst u fun fr' => K fr' h') → opEv P T (opnd fr) oj h fun u h' => putK n fr oj.dst u fun fr' => K (putF fr' oi.dst ov) h' := by
   intro fr hh
   rw [opEv_congr (ρ' := opnd fr) fun x hx => opnd_putF fun d hd => looks_opnd (h1 d hd) x hx] at hh
   refine opEv_mono (fun u h' k => putK_mk (putK_lt k) ?_) hh
   have := putK_eq k
   rwa [putF_comm h2] at this
 have skip : ∀ fr : Fr, (putK n (putF fr oi.dst ov) oj.dst none fun fr' => K fr' h) → putK n fr oj.dst none fun fr' => K (putF fr' oi.dst ov) h := by
   intro fr hh
   refine putK_mk (putK_lt hh) ?_
   have := putK_eq hh
   rwa [putF_comm h2] at this
 unfold evG at hh ⊢
 split at hh
 · exact main fr hh
 · rename_i j g hg
   split at hh
   · exact hh.elim
   · rename_i og hog
     split at hh
     · exact hh.elim
     · rename_i d hd
       have hne : ∀ x, oi.dst = some x → d ≠ x := fun x hx e => looks_guard (h1 x hx) hg hog (e ▸ hd)
       rw [putF_ne hne] at hh
       have hup : ∀ b : Value, upd (putF fr oi.dst ov) d b = putF (upd fr d b) oi.dst ov := fun b => by
         have := putF_comm (fr := fr) (d := oi.dst) (d' := some d) (u := ov) (v := some b) (fun x hx e => hne x hx (by cases e; rfl))
         exact this
       split at hh
       · rename_i b hb
         simp only [hup] at hh
         simp only []
         split at hh <;> cases b <;> simp only [splitB] at hh ⊢
         · exact skip _ hh
         · exact main _ hh
         · exact main _ hh
         · exact skip _ hh
       · exact skip _ hh
       · exact hh.elim
theorem evG_put_rev {oi oj : Oper} {u : Option Value} {fr : Fr} {h : Heap} {K : Fr → Heap → Prop} (hap : oi.apart ops oj = true) (hh : evG P T n ops oi fr h fun f h' => K (putF f oj.dst u) h') :
   evG P T n ops oi (putF fr oj.dst u) h K := by
 obtain ⟨h1, h2, h3⟩ := Oper.apart_spec hap
 have main : ∀ fr : Fr, (opEv P T (opnd fr) oi h fun v h' => putK n fr oi.dst v fun fr' => K (putF fr' oj.dst u) h') → opEv P T (opnd (putF fr oj.dst u)) oi h fun v h' => putK n (putF fr oj.dst u) oi.dst v fun fr' => K fr' h' := by
   intro fr hh
   rw [opEv_congr (ρ' := opnd fr) fun x hx => opnd_putF fun d hd => looks_opnd (h3 d hd) x hx]
   refine opEv_mono (fun v h' k => putK_mk (putK_lt k) ?_) hh
   have := putK_eq k
   rwa [putF_comm h2] at this
 have skip : ∀ fr : Fr, (putK n fr oi.dst none fun fr' => K (putF fr' oj.dst u) h) → putK n (putF fr oj.dst u) oi.dst none fun fr' => K fr' h := by
   intro fr hh
   refine putK_mk (putK_lt hh) ?_
   have := putK_eq hh
   rwa [putF_comm h2] at this
 unfold evG at hh ⊢
 split at hh
 · exact main fr hh
 · rename_i j g hg
   split at hh
   · exact hh.elim
   · rename_i og hog
     split at hh
     · exact hh.elim
     · rename_i d hd
       have hne : ∀ x, oj.dst = some x → d ≠ x := fun x hx e => looks_guard (h3 x hx) hg hog (e ▸ hd)
       rw [putF_ne hne]
       have hup : ∀ b : Value, upd (putF fr oj.dst u) d b = putF (upd fr d b) oj.dst u := fun b => by
         have := putF_comm (fr := fr) (d := oj.dst) (d' := some d) (u := u) (v := some b) (fun x hx e => hne x hx (by cases e; rfl))
         exact this
       split at hh
       · rename_i b hb
         simp only [hup]
         split at hh <;> cases b <;> simp only [splitB] at hh ⊢
         · exact skip _ hh
         · exact main _ hh
         · exact main _ hh
         · exact skip _ hh
       · exact skip _ hh
       · exact hh.elim
theorem evG_frame {o : Oper} {fr : Fr} {h : Heap} {K : Fr → Heap → Prop} (hh : evG P T n ops o fr h K) : evG P T n ops o fr h fun fr' h' => (∃ u, fr' = putF fr o.dst u) ∧ K fr' h' := by
 have main : ∀ fr : Fr, (opEv P T (opnd fr) o h fun v h' => putK n fr o.dst v fun fr' => K fr' h') → opEv P T (opnd fr) o h fun v h' => putK n fr o.dst v fun fr' => (∃ u, fr' = putF fr o.dst u) ∧ K fr' h' :=
   fun fr hh => opEv_mono (fun v h' k => putK_mk (putK_lt k) ⟨⟨v, rfl⟩, putK_eq k⟩) hh
 have skip : ∀ fr : Fr, (putK n fr o.dst none fun fr' => K fr' h) → putK n fr o.dst none fun fr' => (∃ u, fr' = putF fr o.dst u) ∧ K fr' h := fun fr k => putK_mk (putK_lt k) ⟨⟨none, rfl⟩, putK_eq k⟩
 unfold evG at hh ⊢
 split at hh
 · exact main fr hh
 · simp only []
   split at hh
   · exact hh.elim
   · split at hh
     · exact hh.elim
     · split at hh
       · rename_i b hb
         have hself := upd_self hb
         split at hh <;> cases b <;> simp only [splitB] at hh ⊢ <;> rw [hself] at hh ⊢
         all_goals first | exact main _ hh | exact skip _ hh
       · exact skip _ hh
       · exact hh.elim
inductive Chain (ops : Array Oper) : Nat → Nat → Prop
 | one {k : Nat} {o : Oper} {e : Edge} (ho : ops[k]? = some o) (he : e ∈ o.after) (hb : Region.binds .any e = true) : Chain ops k e.on
 | more {k i : Nat} {o : Oper} {e : Edge} (ho : ops[k]? = some o) (he : e ∈ o.after) (hb : Region.binds .any e = true) (hc : Chain ops e.on i) : Chain ops k i
def maskOf (acc : List Nat) : List Edge → Nat
 | [] => 0
 | e :: r => (match Region.binds .any e with | true => 2 ^ e.on ||| acc.getD e.on 0 | false => 0) ||| maskOf acc r
def masks : List Oper → List Nat → List Nat
 | [], acc => acc
 | o :: r, acc => masks r (acc ++ [maskOf acc o.after.toList])
theorem maskOf_chain {acc : List Nat} (ha : ∀ k i, (acc.getD k 0).testBit i = true → Chain ops k i) : ∀ (l : List Edge) (i : Nat), (maskOf acc l).testBit i = true → ∃ e ∈ l, Region.binds .any e = true ∧ (e.on = i ∨ Chain ops e.on i) := by
 intro l
 induction l with
 | nil => intro i h; simp [maskOf] at h
 | cons e l ih =>
   intro i h
   simp only [maskOf, Nat.testBit_or, Bool.or_eq_true] at h
   rcases h with h | h
   · cases hb : Region.binds .any e with
     | true =>
       simp only [hb, Nat.testBit_or, Bool.or_eq_true, Nat.testBit_two_pow, decide_eq_true_eq] at h
       exact ⟨e, by simp, hb, h.imp id (ha _ _)⟩
     | false => simp [hb] at h
   · obtain ⟨e', h1, h2⟩ := ih i h
     exact ⟨e', by simp [h1], h2⟩
theorem masks_chain : ∀ (l pre : List Oper) (acc : List Nat), ops.toList = pre ++ l → acc.length = pre.length → (∀ k i, (acc.getD k 0).testBit i = true → Chain ops k i) → ∀ k i, ((masks l acc).getD k 0).testBit i = true → Chain ops k i := by
 intro l
 induction l with
 | nil => exact fun pre acc _ _ ha => ha
 | cons o l ih =>
   intro pre acc hp hl ha
   refine ih (pre ++ [o]) _ (by simp [hp]) (by simp [hl]) ?_
   intro k i hk
   rcases Nat.lt_trichotomy k acc.length with hlt | heq | hgt
   · have : (acc ++ [maskOf acc o.after.toList]).getD k 0 = acc.getD k 0 := by simp [List.getD_eq_getElem?_getD, List.getElem?_append_left hlt]
     rw [this] at hk
     exact ha k i hk
   · have : (acc ++ [maskOf acc o.after.toList]).getD k 0 = maskOf acc o.after.toList := by simp [List.getD_eq_getElem?_getD, heq]
     rw [this] at hk
     obtain ⟨e, he, hb, h1⟩ := maskOf_chain ha _ _ hk
     have ho : ops[k]? = some o := by
       rw [← Array.getElem?_toList, hp, heq, hl]
       simp
     rcases h1 with rfl | h1
     · exact .one ho (by simpa using he) hb
     · exact .more ho (by simpa using he) hb h1
   · have : (acc ++ [maskOf acc o.after.toList]).getD k 0 = 0 := by
       rw [List.getD_eq_getElem?_getD, List.getElem?_eq_none (by simp; omega)]; rfl
     rw [this] at hk
     simp at hk
def Closed (ops : Array Oper) (L : Array Bool) : Prop := ∀ k o, ops[k]? = some o → L.getD k false = true → ∀ e ∈ o.after, Region.binds .any e = true → L.getD e.on false = true
theorem Closed.chain {L : Array Bool} (hc : Closed ops L) {k i : Nat} (h : Chain ops k i) : L.getD k false = true → L.getD i false = true := by
 induction h with
 | one ho he hb => exact fun hl => hc _ _ ho hl _ he hb
 | more ho he hb _ ih => exact fun hl => ih (hc _ _ ho hl _ he hb)
theorem Closed.ready {L : Array Bool} (hc : Closed ops L) {j i : Nat} (hr : j ∈ Region.ready .any ops L) (h : Chain ops j i) : L.getD i false = true := by
 obtain ⟨_, o, ho, hall⟩ := mem_ready.1 hr
 cases h with
 | one ho' he hb => rw [ho] at ho'; cases ho'; exact hall _ he hb
 | more ho' he hb hch => rw [ho] at ho'; cases ho'; exact hc.chain hch (hall _ he hb)
theorem Closed.set {L : Array Bool} (hc : Closed ops L) {j : Nat} (hr : j ∈ Region.ready .any ops L) : Closed ops (L.setIfInBounds j true) := by
 obtain ⟨_, o, ho, hall⟩ := mem_ready.1 hr
 have mono : ∀ k, L.getD k false = true → (L.setIfInBounds j true).getD k false = true := fun k hk => by
   by_cases hjk : j = k
   · subst hjk
     rw [Array.getD_eq_getD_getElem?] at hk ⊢
     rcases Nat.lt_or_ge j L.size with h | h
     · simp [h]
     · simp [h] at hk
   · rwa [getD_set_ne false hjk]
 intro k o' ho' hk e he hb
 by_cases hjk : j = k
 · subst hjk; rw [ho] at ho'; cases ho'; exact mono _ (hall e he hb)
 · rw [getD_set_ne false hjk] at hk
   exact mono _ (hc k o' ho' hk e he hb)
end
end Go.Hw

end
section
namespace Go.Hw
open Go
section
variable (P : Program) (T : Tab) (n : Nat) (ops : Array Oper)
def rdB (qs : List Nat) (i : Nat) : Bool := qs.contains i && (match ops[i]? with | some o => !Nat.beq (cls P T o) 0 | none => false)
def needG (qs : List Nat) (ms : List Nat) (j : Nat) : Bool := (List.range ops.size).any fun i => rdB P T ops qs i && !Nat.beq i j && !(ms.getD j 0).testBit i && !(ms.getD i 0).testBit j
def quiets : Plan → List Nat
 | .done => []
 | .take i p => i :: quiets p
 | .quiet _ i p => i :: quiets p
 | .frame _ p => quiets p
 | .split _ p => quiets p
 | .eff _ _ _ _ p => quiets p
 | .alt _ _ _ _ p q => quiets p ++ quiets q
def heads : Plan → List Nat
 | .take i p => i :: heads p
 | .frame _ p => heads p
 | .split _ p => heads p
 | _ => []
def tails : Plan → List Nat
 | .take _ p => tails p
 | .frame _ p => tails p
 | .split _ p => tails p
 | p => quiets p
def effs : Plan → Bool
 | .done => false
 | .take _ p => effs p
 | .quiet _ _ p => effs p
 | .frame _ p => effs p
 | .split _ p => effs p
 | .eff _ _ _ _ _ => true
 | .alt _ _ _ _ _ _ => true
def depth : Plan → Nat
 | .done => 0
 | .take _ p => depth p + 1
 | .quiet _ _ p => depth p + 1
 | .frame _ p => depth p + 1
 | .split _ p => depth p
 | .eff _ _ _ _ p => depth p + 1
 | .alt _ _ _ _ p q => max (depth p + 1) (depth q)
def implB (a b : Bool) : Bool := !a || b
def needF (ms fs ls : List Nat) (j : Nat) : Bool := fs.all fun i => (ms.getD j 0).testBit i || (ms.getD i 0).testBit j || ls.contains i
def okPlan (E : Bool) (qs bq ms : List Nat) : Bool → List Nat → Plan → Array Bool → List Nat → Bool
 | _, _, .done, L, rest => (Region.ready .any ops L).isEmpty && rest.isEmpty
 | fresh, fs, .take i p, L, rest => rest == Region.ready .any ops L && rest.contains i && Region.free .any ops L i && (match ops[i]? with | some o => Nat.ble (cls P T o) 1 | none => false) && (match fresh with | true => bq.contains i | false => qs.contains i) &&
     okPlan E qs bq ms fresh fs p (L.setIfInBounds i true) (Region.ready .any ops (L.setIfInBounds i true))
 | _, fs, .quiet st i p, L, rest => rest == Region.ready .any ops L && rest.contains i && Region.free .any ops L i && rdB P T ops qs i && implB E (!st) &&
     okPlan E qs bq ms false fs p (L.setIfInBounds i true) (Region.ready .any ops (L.setIfInBounds i true))
 | fresh, fs, .frame i p, L, rest => rest == Region.ready .any ops L && rest.contains i && Region.free .any ops L i && !fs.contains i &&
     okPlan E qs bq ms fresh (i :: fs) p (L.setIfInBounds i true) (Region.ready .any ops (L.setIfInBounds i true))
 | fresh, fs, .split _ p, L, rest => okPlan E qs bq ms fresh fs p L rest
 | _, fs, .eff g b ls i p, L, rest => E && rest == [i] && implB (needG P T ops qs ms i) g && implB (needG P T ops bq ms i) b && needF ms fs ls i && okPlan E qs bq ms false fs p (L.setIfInBounds i true) (Region.ready .any ops (L.setIfInBounds i true))
 | _, fs, .alt g b ls i p q, L, rest => E && rest.contains i && implB (needG P T ops qs ms i) g && implB (needG P T ops bq ms i) b && needF ms fs ls i && okPlan E qs bq ms false fs p (L.setIfInBounds i true) (Region.ready .any ops (L.setIfInBounds i true)) &&
     okPlan E qs bq ms false fs q L (rest.filter fun j => !Nat.beq j i)
def goodPlan (p : Plan) : Bool :=
 Region.noSelect ops && Nat.ble (depth p) ops.size && okPlan P T ops (effs p) (tails p) (heads p) (masks ops.toList []) true [] p (Array.replicate ops.size false) (Region.ready .any ops (Array.replicate ops.size false))
def AnyE (C : Nat → Heap → Heap → Prop) (K : Fr → Heap → Prop) : Nat → Array Bool → Fr → Heap → Prop
 | 0, L, fr, h => Region.ready .any ops L = [] ∧ K fr h
 | m + 1, L, fr, h => (Region.ready .any ops L = [] → K fr h) ∧
   ∀ i ∈ Region.ready .any ops L, ∀ o, ops[i]? = some o → evG P T n ops o fr h fun fr' h' => C i h h' ∧ AnyE C K m (L.setIfInBounds i true) fr' h'
end
section
variable {P : Program} {T : Tab} {n : Nat} {ops : Array Oper} {C : Nat → Heap → Heap → Prop} {K : Fr → Heap → Prop}
def YldG (P : Program) (T : Tab) (n : Nat) (ops : Array Oper) (E : Heap → Heap → Prop) (o : Oper) (fr : Fr) (h : Heap) (ov : Option Value) : Prop :=
 ∀ h', E h h' → ∀ K' : Fr → Heap → Prop, K' (putF fr o.dst ov) h' → evG P T n ops o fr h' K'
theorem AnyE_first {E : Heap → Heap → Prop} (hstep : ∀ a b, E a b → E b b) (htrans : ∀ a b c, E a b → E b c → E a c) {i : Nat} {oi : Oper} {ov : Option Value} (hi : ops[i]? = some oi)
   (hE : ∀ L : Array Bool, Closed ops L → i ∈ Region.ready .any ops L → ∀ j, j ∈ Region.ready .any ops L → L.getD i true = false → j ≠ i → ∀ a b, E a a → C j a b → E a b) (hG : ∀ h, C i h h) :
   ∀ (m : Nat) (L : Array Bool) (fr : Fr) (h : Heap), Closed ops L →
     (∀ j oj, ops[j]? = some oj → j ≠ i → L.getD j true = false → (∀ e ∈ oj.after, Region.binds .any e = true → e.on ≠ i) → oi.apart ops oj = true) →
     i ∈ Region.ready .any ops L → E h h → YldG P T n ops E oi fr h ov →
     AnyE P T n ops C K m (L.setIfInBounds i true) (putF fr oi.dst ov) h → AnyE P T n ops C K (m + 1) L fr h := by
 intro m
 induction m with
 | zero =>
   intro L fr h _ _ hr hh hy H
   refine ⟨fun h => (by rw [h] at hr; cases hr), fun j hj oj hoj => ?_⟩
   by_cases hji : j = i
   · subst hji
     rw [hi] at hoj; cases hoj
     exact hy h hh _ ⟨hG h, H⟩
   · have := ready_mono hj hji
     rw [H.1] at this
     cases this
 | succ m ih =>
   intro L fr h hcl hfree hr hh hy H
   refine ⟨fun h => (by rw [h] at hr; cases hr), fun j hj oj hoj => ?_⟩
   by_cases hji : j = i
   · subst hji
     rw [hi] at hoj; cases hoj
     exact hy h hh _ ⟨hG h, H⟩
   · have h1 := H.2 j (ready_mono hj hji) oj hoj
     obtain ⟨hjun, oj', hoj', hall⟩ := mem_ready.1 hj
     rw [hoj] at hoj'; cases hoj'
     have hiun := (mem_ready.1 hr).1
     have hnot : ∀ e ∈ oj.after, Region.binds .any e = true → e.on ≠ i := fun e he hb heq => by
       have h1 := hall e he hb
       rw [heq] at h1
       rcases Nat.lt_or_ge i L.size with h' | h'
       · simp [h'] at hiun h1; rw [hiun] at h1; cases h1
       · simp [Array.getElem?_eq_none h'] at h1
     have hap := hfree j oj hoj hji hjun hnot
     have h2 := evG_frame (evG_put hap h1)
     have hfree' : ∀ k ok, ops[k]? = some ok → k ≠ i → (L.setIfInBounds j true).getD k true = false →
         (∀ e ∈ ok.after, Region.binds .any e = true → e.on ≠ i) → oi.apart ops ok = true := fun k ok hk hki hun hno => by
       refine hfree k ok hk hki ?_ hno
       by_cases hjk : j = k
       · subst hjk; exact hjun
       · rw [getD_set_ne true hjk] at hun; exact hun
     refine evG_mono (fun fr' h' h3 => ?_) h2
     obtain ⟨⟨u, rfl⟩, h4, h5⟩ := h3
     refine ⟨h4, ?_⟩
     have he : E h h' := hE L hcl hr j hj hiun hji h h' hh h4
     refine ih (L.setIfInBounds j true) _ h' (hcl.set hj) hfree' (ready_mono hr (Ne.symm hji)) (hstep _ _ he) ?_ ?_
     · intro h'' he' K' hk'
       refine evG_put_rev hap ?_
       refine hy h'' (htrans _ _ _ he he') _ ?_
       have h2' := (Oper.apart_spec hap).2.1
       show K' (putF (putF fr oi.dst ov) oj.dst u) h''
       rw [putF_comm h2']
       exact hk'
     · rwa [Array.setIfInBounds_comm _ _ hji]
theorem cls_yld {o : Oper} {fr : Fr} {h : Heap} {K : Fr → Heap → Prop} (hc : Nat.ble (cls P T o) 1 = true) (hh : evG P T n ops o fr h K) :
   ∃ ov, K (putF fr o.dst ov) h ∧ YldG P T n ops (fun a b => cls P T o = 1 → Ext a b) o fr h ov := by
 have main : ∀ fr : Fr, (opEv P T (opnd fr) o h fun v h' => putK n fr o.dst v fun fr' => K fr' h') →
     ∃ ov, K (putF fr o.dst ov) h ∧ ∀ h', (cls P T o = 1 → Ext h h') → ∀ K' : Fr → Heap → Prop, K' (putF fr o.dst ov) h' → opEv P T (opnd fr) o h' fun v h' => putK n fr o.dst v fun fr' => K' fr' h' := by
   intro fr hh
   obtain ⟨c0, c1⟩ := cls_val (ρ := opnd fr) (fun _ => rfl) hh
   have hle : cls P T o ≤ 1 := Nat.le_of_ble_eq_true hc
   rcases Nat.lt_or_ge (cls P T o) 1 with h0 | h1
   · obtain ⟨v, k, y⟩ := c0 (by omega)
     exact ⟨some v, putK_eq k, fun h' _ K' k' => y h' trivial _ (putK_mk (putK_lt k) k')⟩
   · have e1 : cls P T o = 1 := by omega
     obtain ⟨v, k, y⟩ := c1 e1
     exact ⟨some v, putK_eq k, fun h' e K' k' => y h' (e e1) _ (putK_mk (putK_lt k) k')⟩
 unfold YldG
 unfold evG at hh ⊢
 split at hh
 · exact main fr hh
 · split at hh
   · exact hh.elim
   · split at hh
     · exact hh.elim
     · split at hh
       · rename_i b hb
         have hself := upd_self hb
         split at hh <;> cases b <;> simp only [splitB] at hh ⊢ <;> rw [hself] at hh ⊢
         all_goals first
           | exact main _ hh
           | exact ⟨none, putK_eq hh, fun h' _ K' k' => putK_mk (putK_lt hh) k'⟩
       · exact ⟨none, putK_eq hh, fun h' _ K' k' => putK_mk (putK_lt hh) k'⟩
       · exact hh.elim
theorem quiet_yld {st : Bool} {o : Oper} {fr : Fr} {h : Heap} {K : Fr → Heap → Prop} (hh : quietEv P T n st o fr h K) :
   ∃ ov, K (putF fr o.dst ov) h ∧ ∀ h', (if st = true then h' = h else Ext h h') → ∀ K' : Fr → Heap → Prop, K' (putF fr o.dst ov) h' → opEv P T (opnd fr) o h' fun v h' => putK n fr o.dst v fun fr' => K' fr' h' := by
 unfold quietEv at hh
 split at hh
 · exact hh.elim
 · split at hh
   · rename_i c hc
     split at hh
     · rename_i f hf
       obtain ⟨fv, hfv, hh⟩ := val_elim hh
       split at hh
       · rename_i vs hvs
         obtain ⟨v, h1, hd⟩ := hh
         obtain ⟨k, hd'⟩ := Tab.dec_val hd
         refine ⟨some v, putK_eq k, fun h' he K' k' => ?_⟩
         unfold opEv
         simp only [hc, hf, hfv, hvs, Hw.val]
         have hcall : CallF P fv vs h' fun v' h'' => v' = v ∧ h'' = h' := by
           cases st with
           | true => simp only [if_true] at he; subst he; exact h1
           | false => simp only [Bool.false_eq_true, if_false] at he; exact h1 h' he
         unfold CallF at hcall ⊢
         split at hcall
         · split at hcall
           · refine hcall.mono ?_
             rintro v' h'' ⟨rfl, rfl⟩
             exact hd' _ (putK_mk (putK_lt k) k')
           · refine ExtF.mono hcall ?_
             rintro v' h'' ⟨rfl, rfl⟩
             exact hd' _ (putK_mk (putK_lt k) k')
         · exact hcall.elim
       · exact hh.elim
     · exact hh.elim
   · exact hh.elim
theorem guard_none {o : Oper} {ρ : Operand → Option Value} {h : Heap} {K : Option Value → Heap → Prop} : opEv P T ρ { o with guard := none } h K = opEv P T ρ o h K := by
 unfold opEv; rfl
def GG (E : Bool) : Heap → Heap → Prop := if E = true then Ext else Eq
def NG (P : Program) (T : Tab) (ops : Array Oper) (E : Bool) (qs ms : List Nat) : Nat → Bool := if E = true then needG P T ops qs ms else fun _ => true
def CC (P : Program) (T : Tab) (ops : Array Oper) (E : Bool) (h0 : Heap) (qs bq ms : List Nat) (Γ : Nat → Heap → Prop) (j : Nat) (a b : Heap) : Prop :=
 (NG P T ops E qs ms j = true → GG E a b) ∧ (NG P T ops E bq ms j = true → b = a ∨ Ext h0 b) ∧ ∀ i, (ms.getD j 0).testBit i = false → (ms.getD i 0).testBit j = false → Γ i a → Γ i b
theorem GG_refl (E : Bool) (h : Heap) : GG E h h := by unfold GG; split; exact Ext.refl h; rfl
theorem GG_ext {E : Bool} {a b : Heap} (h : GG E a b) : Ext a b := by unfold GG at h; split at h; exact h; subst h; exact Ext.refl _
theorem no_order {ms : List Nat} (hms : ∀ k i, (ms.getD k 0).testBit i = true → Chain ops k i) {i : Nat} :
   ∀ L : Array Bool, Closed ops L → i ∈ Region.ready .any ops L → ∀ j, j ∈ Region.ready .any ops L → L.getD i true = false → (ms.getD j 0).testBit i = false ∧ (ms.getD i 0).testBit j = false := by
 intro L hcl hir j hj hiu
 constructor
 · cases h : (ms.getD j 0).testBit i with
   | false => rfl
   | true =>
     have := hcl.ready hj (hms j i h)
     rw [Array.getD_eq_getD_getElem?] at this hiu
     rcases Nat.lt_or_ge i L.size with h' | h'
     · simp [h'] at this hiu; rw [this] at hiu; cases hiu
     · simp [h'] at hiu
 · cases h : (ms.getD i 0).testBit j with
   | false => rfl
   | true =>
     have := hcl.ready hir (hms i j h)
     have hju := (mem_ready.1 hj).1
     rw [Array.getD_eq_getD_getElem?] at this hju
     rcases Nat.lt_or_ge j L.size with h' | h'
     · simp [h'] at this hju; rw [this] at hju; cases hju
     · simp [h'] at hju
theorem ng_need {E : Bool} {qs ms : List Nat} (hms : ∀ k i, (ms.getD k 0).testBit i = true → Chain ops k i) {i : Nat} (hrd : rdB P T ops qs i = true) (hil : i < ops.size) :
   ∀ L : Array Bool, Closed ops L → i ∈ Region.ready .any ops L → ∀ j, j ∈ Region.ready .any ops L → L.getD i true = false → j ≠ i → NG P T ops E qs ms j = true := by
 intro L hcl hir j hj hiu hji
 unfold NG
 split
 · unfold needG
   rw [List.any_eq_true]
   refine ⟨i, by simpa using hil, ?_⟩
   obtain ⟨h1, h2⟩ := no_order hms L hcl hir j hj hiu
   simp only [hrd, h1, h2, Bool.true_and, Bool.and_eq_true, Bool.not_eq_true', Bool.not_false, and_true]
   cases h : Nat.beq i j
   · rfl
   · exact absurd (Nat.eq_of_beq_eq_true h).symm hji
 · rfl
abbrev AnyP (P : Program) (T : Tab) (n : Nat) (ops : Array Oper) (E : Bool) (h0 : Heap) (qs bq ms : List Nat) (Γ : Nat → Heap → Prop) (K : Fr → Heap → Prop) := AnyE P T n ops (CC P T ops E h0 qs bq ms Γ) K
theorem CC.still {E : Bool} {h0 : Heap} {qs bq ms : List Nat} {Γ : Nat → Heap → Prop} (i : Nat) (h : Heap) : CC P T ops E h0 qs bq ms Γ i h h := ⟨fun _ => GG_refl E h, fun _ => .inl rfl, fun _ _ _ k => k⟩
theorem AnyE.weak {C' : Nat → Heap → Heap → Prop} (hC : ∀ j a b, C j a b → C' j a b) : ∀ (m : Nat) (L : Array Bool) (fr : Fr) (h : Heap), AnyE P T n ops C K m L fr h → AnyE P T n ops C' K m L fr h := by
 intro m
 induction m with
 | zero => exact fun L fr h H => H
 | succ m ih => exact fun L fr h H => ⟨H.1, fun i hi o ho => evG_mono (fun fr' h' k => ⟨hC _ _ _ k.1, ih _ _ _ k.2⟩) (H.2 i hi o ho)⟩
theorem frames_elim {Γ : Nat → Heap → Prop} {h : Heap} {X : Prop} : ∀ {ls : List Nat}, frames Γ h ls X → (∀ i ∈ ls, Γ i h) ∧ X := by
 intro ls
 induction ls with
 | nil => exact fun H => ⟨fun i hi => (by cases hi), H⟩
 | cons x ls ih =>
   intro H
   obtain ⟨h1, h2⟩ := H
   obtain ⟨h3, h4⟩ := ih h2
   refine ⟨fun i hi => ?_, h4⟩
   rcases List.mem_cons.1 hi with e | e
   · rw [e]; exact h1
   · exact h3 i e
theorem updG_self {Γ : Nat → Heap → Prop} {i : Nat} {G : Heap → Prop} : updG Γ i G i = G := by unfold updG; rw [Nat.beq_refl]
theorem updG_ne {Γ : Nat → Heap → Prop} {i k : Nat} {G : Heap → Prop} (hk : k ≠ i) : updG Γ i G k = Γ k := by
 unfold updG
 split
 · rename_i h; exact absurd (Nat.eq_of_beq_eq_true h) hk
 · rfl
theorem frame_yld {o : Oper} {fr : Fr} {h : Heap} {K : (Heap → Prop) → Fr → Prop} (hh : frameEv P T n o fr h K) :
   ∃ ov G, K G (putF fr o.dst ov) ∧ G h ∧ ∀ h', G h' → ∀ K' : Fr → Heap → Prop, K' (putF fr o.dst ov) h' → opEv P T (opnd fr) o h' fun v h' => putK n fr o.dst v fun fr' => K' fr' h' := by
 unfold frameEv at hh
 split at hh
 · rename_i t x ho
   split at hh
   · rename_i s g hl
     split at hh
     · rename_i p hp
       obtain ⟨b, rfl, v, hld, hd⟩ := ptrOk_elim hh
       obtain ⟨k, hd'⟩ := Tab.dec_val hd
       refine ⟨some v, _, putK_eq k, hld, fun h' he K' k' => ?_⟩
       unfold opEv
       simp only [ho, hl, hp]
       exact ⟨v, he, hd' _ (putK_mk (putK_lt k) k')⟩
     · exact hh.elim
   · exact hh.elim
 · exact hh.elim
theorem grow_elim {g : Bool} {h h' : Heap} {C : Prop} (hh : growIf g h h' C) : (g = true → Ext h h') ∧ C := by
 cases g with
 | true => exact ⟨fun _ => hh.1, hh.2⟩
 | false => exact ⟨fun h => (by cases h), hh⟩
theorem contains_mem {l : List Nat} {i : Nat} (h : l.contains i = true) : i ∈ l := by simpa using h
theorem need_frames {Γ : Nat → Heap → Prop} {fs ms ls : List Nat} {j : Nat} {a b : Heap} (hG : ∀ i, fs.contains i = false → ∀ h, Γ i h) (hls : needF ms fs ls j = true) (k5 : ∀ i ∈ ls, Γ i b) :
   ∀ i, (ms.getD j 0).testBit i = false → (ms.getD i 0).testBit j = false → Γ i a → Γ i b := by
 intro i u1 u2 _
 cases hc : fs.contains i with
 | false => exact hG i hc b
 | true =>
   unfold needF at hls
   rw [List.all_eq_true] at hls
   have := hls i (contains_mem hc)
   rw [u1, u2] at this
   simp only [Bool.false_or] at this
   exact k5 i (contains_mem this)
theorem plan_any {qs bq ms : List Nat} {E : Bool} {h0 : Heap} (hms : ∀ k i, (ms.getD k 0).testBit i = true → Chain ops k i) (_hsel : Region.noSelect ops = true) :
   ∀ (p : Plan) (fresh : Bool) (fs : List Nat) (Γ : Nat → Heap → Prop) (L : Array Bool) (rest : List Nat) (fr : Fr) (h : Heap) (m : Nat), (∀ i, fs.contains i = false → ∀ h, Γ i h) → Closed ops L → okPlan P T ops E qs bq ms fresh fs p L rest = true → depth p ≤ m → (fresh = true → h = h0) → evPlan P T n ops h0 p Γ fr h K →
     (rest = Region.ready .any ops L → AnyP P T n ops E h0 qs bq ms Γ K m L fr h) ∧
     (∀ m', m = m' + 1 → ∀ j ∈ rest, j ∈ Region.ready .any ops L → ∀ o, ops[j]? = some o → evG P T n ops o fr h fun fr' h' => CC P T ops E h0 qs bq ms Γ j h h' ∧
       AnyP P T n ops E h0 qs bq ms Γ K m' (L.setIfInBounds j true) fr' h') := by
 intro p
 induction p with
 | done =>
   intro fresh fs Γ L rest fr h m hG hcl hok hd hf hev
   simp only [okPlan, Bool.and_eq_true, List.isEmpty_iff] at hok
   refine ⟨fun _ => ?_, fun m' _ j hj _ => by rw [hok.2] at hj; cases hj⟩
   cases m with
   | zero => exact ⟨hok.1, hev⟩
   | succ m => exact ⟨fun _ => hev, fun j hj => by rw [hok.1] at hj; cases hj⟩
 | split i p ih =>
   intro fresh fs Γ L rest fr h m hG hcl hok hd hf hev
   simp only [okPlan, depth] at hok hd
   simp only [evPlan] at hev
   split at hev
   · split at hev
     · split at hev
       · rename_i b hb
         have hself := upd_self hb
         cases b <;> simp only [splitB] at hev <;> rw [hself] at hev <;> exact ih fresh fs Γ L rest fr h m hG hcl hok hd hf hev
       · exact ih fresh fs Γ L rest fr h m hG hcl hok hd hf hev
       · exact hev.elim
     · exact hev.elim
   · exact hev.elim
 | take i p ih =>
   intro fresh fs Γ L rest fr h m hG hcl hok hd hf hev
   simp only [okPlan, Bool.and_eq_true, beq_iff_eq] at hok
   obtain ⟨⟨⟨⟨⟨hrest, hmem⟩, hfree⟩, hcls⟩, hq⟩, hok⟩ := hok
   have hir : i ∈ Region.ready .any ops L := hrest ▸ contains_mem hmem
   simp only [evPlan] at hev
   split at hev
   · rename_i o ho
     simp only [ho] at hcls
     obtain ⟨ov, hk, hy⟩ := cls_yld hcls hev
     simp only [depth] at hd
     obtain ⟨m1, rfl⟩ : ∃ m1, m = m1 + 1 := ⟨m - 1, by omega⟩
     have h1 := (ih fresh fs Γ (L.setIfInBounds i true) _ _ h m1 hG (hcl.set hir) hok (by omega) hf hk).1 rfl
     have hil : i < ops.size := (Array.getElem?_eq_some_iff.1 ho).1
     have hA : AnyP P T n ops E h0 qs bq ms Γ K (m1 + 1) L fr h := by
       cases fresh with
       | false =>
         refine AnyE_first (E := fun a b => cls P T o = 1 → Ext a b) (fun a b _ _ => Ext.refl b) (fun a b c h1 h2 he => (h1 he).trans (h2 he)) ho ?_ (CC.still i) m1 L fr h hcl (Region.free_spec ho hfree) hir (fun _ => Ext.refl h) hy h1
         intro L' hcl' hir' j hj hiu hji a b _ hg he
         have hrd : rdB P T ops qs i = true := by unfold rdB; rw [show qs.contains i = true from hq]; simp only [ho, he]; rfl
         exact GG_ext (hg.1 (ng_need hms hrd hil L' hcl' hir' j hj hiu hji))
       | true =>
         have hh := hf rfl
         subst hh
         refine AnyE_first (E := fun a b => cls P T o = 1 → Ext h b) (fun a b k => k) (fun a b c _ k => k) ho ?_ (CC.still i) m1 L fr h hcl (Region.free_spec ho hfree) hir (fun _ => Ext.refl h) hy h1
         intro L' hcl' hir' j hj hiu hji a b haa hg he
         have hrd : rdB P T ops bq i = true := by unfold rdB; rw [show bq.contains i = true from hq]; simp only [ho, he]; rfl
         rcases hg.2.1 (ng_need hms hrd hil L' hcl' hir' j hj hiu hji) with e | e
         · rw [e]; exact haa he
         · exact e
     exact ⟨fun _ => hA, fun m' hm j hj hjr o' ho' => by cases hm; exact hA.2 j hjr o' ho'⟩
   · exact hev.elim
 | quiet st i p ih =>
   intro fresh fs Γ L rest fr h m hG hcl hok hd hf hev
   simp only [okPlan, Bool.and_eq_true, beq_iff_eq] at hok
   obtain ⟨⟨⟨⟨⟨hrest, hmem⟩, hfree⟩, hq⟩, hst⟩, hok⟩ := hok
   have hir : i ∈ Region.ready .any ops L := hrest ▸ contains_mem hmem
   simp only [depth] at hd
   obtain ⟨m1, rfl⟩ : ∃ m1, m = m1 + 1 := ⟨m - 1, by omega⟩
   simp only [evPlan] at hev
   split at hev
   · rename_i o ho
     have hil : i < ops.size := (Array.getElem?_eq_some_iff.1 ho).1
     have hrd : rdB P T ops qs i = true := hq
     have hy : ∃ ov, evPlan P T n ops h0 p Γ (putF fr o.dst ov) h K ∧ YldG P T n ops (GG E) o fr h ov := by
       have conv : ∀ h', GG E h h' → (if st = true then h' = h else Ext h h') := fun h' hg => by
         unfold GG at hg
         cases st with
         | true =>
           cases E with
           | true => simp [implB] at hst
           | false => simp at hg ⊢; exact hg.symm
         | false => simp only [Bool.false_eq_true, if_false]; exact GG_ext (E := E) hg
       unfold YldG evG
       split at hev
       · rename_i hg
         obtain ⟨ov, hk, hy⟩ := quiet_yld hev
         exact ⟨ov, hk, fun h' he K' k' => hy h' (conv h' he) K' k'⟩
       · rename_i j g hg
         split at hev
         · exact hev.elim
         · rename_i oj hoj
           split at hev
           · exact hev.elim
           · rename_i d hd'
             split at hev
             · rename_i b hb
               have hself := upd_self hb
               split at hev <;> cases b <;> simp only [splitB] at hev ⊢ <;> rw [hself] at hev ⊢
               all_goals first
                 | exact ⟨none, putK_eq hev, fun h' _ K' k' => putK_mk (putK_lt hev) k'⟩
                 | (obtain ⟨ov, hk, hy⟩ := quiet_yld hev
                    refine ⟨ov, hk, fun h' he K' k' => ?_⟩
                    have := hy h' (conv h' he) K' k'
                    rwa [guard_none] at this)
             · rename_i vs hb
               exact ⟨none, putK_eq hev, fun h' _ K' k' => putK_mk (putK_lt hev) k'⟩
             · exact hev.elim
     obtain ⟨ov, hk, hy⟩ := hy
     have h1 := (ih false fs Γ (L.setIfInBounds i true) _ _ h m1 hG (hcl.set hir) hok (by omega) (fun h => (by cases h)) hk).1 rfl
     have hA : AnyP P T n ops E h0 qs bq ms Γ K (m1 + 1) L fr h := by
       refine AnyE_first (E := GG E) (fun a b _ => GG_refl E b) (fun a b c h1 h2 => ?_) ho ?_ (CC.still i) m1 L fr h hcl (Region.free_spec ho hfree) hir (GG_refl E h) hy h1
       · unfold GG at *
         split
         · rename_i he; simp only [he, if_true] at h1 h2; exact h1.trans h2
         · rename_i he; simp only [he] at h1 h2; exact Eq.trans h1 h2
       · intro L' hcl' hir' j hj hiu hji a b _ hg
         exact hg.1 (ng_need hms hrd hil L' hcl' hir' j hj hiu hji)
     exact ⟨fun _ => hA, fun m' hm j hj hjr o' ho' => by cases hm; exact hA.2 j hjr o' ho'⟩
   · exact hev.elim
 | frame i p ih =>
   intro fresh fs Γ L rest fr h m hG hcl hok hd hf hev
   simp only [okPlan, Bool.and_eq_true, beq_iff_eq, Bool.not_eq_true'] at hok
   obtain ⟨⟨⟨⟨hrest, hmem⟩, hfree⟩, hnf⟩, hok⟩ := hok
   have hir : i ∈ Region.ready .any ops L := hrest ▸ contains_mem hmem
   simp only [depth] at hd
   obtain ⟨m1, rfl⟩ : ∃ m1, m = m1 + 1 := ⟨m - 1, by omega⟩
   simp only [evPlan] at hev
   split at hev
   · rename_i o ho
     have hy : ∃ ov G, evPlan P T n ops h0 p (updG Γ i G) (putF fr o.dst ov) h K ∧ G h ∧ YldG P T n ops (fun _ b => G b) o fr h ov := by
       unfold YldG evG
       split at hev
       · rename_i hg
         obtain ⟨ov, G, hk, hgh, hy⟩ := frame_yld hev
         exact ⟨ov, G, hk, hgh, fun h' he K' k' => hy h' he K' k'⟩
       · rename_i j g hg
         split at hev
         · exact hev.elim
         · rename_i oj hoj
           split at hev
           · exact hev.elim
           · rename_i d hd'
             split at hev
             · rename_i b hb
               have hself := upd_self hb
               split at hev <;> cases b <;> simp only [splitB] at hev ⊢ <;> rw [hself] at hev ⊢
               all_goals first
                 | exact ⟨none, fun _ => True, putK_eq hev, trivial, fun h' _ K' k' => putK_mk (putK_lt hev) k'⟩
                 | (obtain ⟨ov, G, hk, hgh, hy⟩ := frame_yld hev
                    refine ⟨ov, G, hk, hgh, fun h' he K' k' => ?_⟩
                    have := hy h' he K' k'
                    rwa [guard_none] at this)
             · rename_i vs hb
               exact ⟨none, fun _ => True, putK_eq hev, trivial, fun h' _ K' k' => putK_mk (putK_lt hev) k'⟩
             · exact hev.elim
     obtain ⟨ov, G, hk, hgh, hy⟩ := hy
     have hG' : ∀ k, (i :: fs).contains k = false → ∀ h, updG Γ i G k h := fun k hk h => by
       simp only [List.contains_cons, Bool.or_eq_false_iff, beq_eq_false_iff_ne] at hk
       rw [updG_ne hk.1]; exact hG k hk.2 h
     have h1 := (ih fresh (i :: fs) (updG Γ i G) (L.setIfInBounds i true) _ _ h m1 hG' (hcl.set hir) hok (by omega) hf hk).1 rfl
     have hA' : AnyP P T n ops E h0 qs bq ms (updG Γ i G) K (m1 + 1) L fr h := by
       refine AnyE_first (E := fun _ b => G b) (fun a b k => k) (fun a b c _ k => k) ho ?_ (CC.still i) m1 L fr h hcl (Region.free_spec ho hfree) hir hgh hy h1
       intro L' hcl' hir' j hj hiu hji a b haa hg
       obtain ⟨u1, u2⟩ := no_order hms L' hcl' hir' j hj hiu
       have := hg.2.2 i u1 u2
       rw [updG_self] at this
       exact this haa
     have hA : AnyP P T n ops E h0 qs bq ms Γ K (m1 + 1) L fr h := by
       refine AnyE.weak (fun j a b hc => ⟨hc.1, hc.2.1, fun k u1 u2 ka => ?_⟩) _ _ _ _ hA'
       by_cases hki : k = i
       · subst hki; exact hG k hnf b
       · have := hc.2.2 k u1 u2
         rw [updG_ne hki] at this
         exact this ka
     exact ⟨fun _ => hA, fun m' hm j hj hjr o' ho' => by cases hm; exact hA.2 j hjr o' ho'⟩
   · exact hev.elim
 | eff g gb ls i p ih =>
   intro fresh fs Γ L rest fr h m hG hcl hok hd hf hev
   simp only [okPlan, Bool.and_eq_true, beq_iff_eq] at hok
   obtain ⟨⟨⟨⟨⟨hE, hrest⟩, hg⟩, hgb⟩, hls⟩, hok⟩ := hok
   subst hE
   subst hrest
   simp only [depth] at hd
   simp only [evPlan] at hev
   split at hev
   · rename_i o ho
     have h2 : ∀ m', m = m' + 1 → ∀ j ∈ [i], j ∈ Region.ready .any ops L → ∀ o, ops[j]? = some o → evG P T n ops o fr h fun fr' h' => CC P T ops true h0 qs bq ms Γ j h h' ∧
         AnyP P T n ops true h0 qs bq ms Γ K m' (L.setIfInBounds j true) fr' h' := by
       intro m' hm j hj hjr o' ho'
       simp only [List.mem_singleton] at hj
       subst hj
       rw [ho] at ho'; cases ho'
       refine evG_mono (fun fr' h' k => ?_) hev
       obtain ⟨k1, k2⟩ := grow_elim k
       obtain ⟨k3, k4⟩ := grow_elim k2
       obtain ⟨k5, k6⟩ := frames_elim k4
       refine ⟨⟨fun hn => k1 ?_, fun hn => .inr (k3 ?_), need_frames hG hls k5⟩, (ih false fs Γ _ _ fr' h' m' hG (hcl.set hjr) hok (by omega) (fun h => (by cases h)) k6).1 rfl⟩
       · have hn' : needG P T ops qs ms j = true := hn
         simpa [implB, hn'] using hg
       · have hn' : needG P T ops bq ms j = true := hn
         simpa [implB, hn'] using hgb
     refine ⟨fun hr => ?_, h2⟩
     obtain ⟨m1, rfl⟩ : ∃ m1, m = m1 + 1 := ⟨m - 1, by omega⟩
     exact ⟨fun h0 => (by rw [h0] at hr; cases hr), fun j hj => h2 m1 rfl j (hr ▸ hj) hj⟩
   · exact hev.elim
 | alt g gb ls i p q ihp ihq =>
   intro fresh fs Γ L rest fr h m hG hcl hok hd hf hev
   simp only [okPlan, Bool.and_eq_true] at hok
   obtain ⟨⟨⟨⟨⟨⟨hE, hmem⟩, hg⟩, hgb⟩, hls⟩, hokp⟩, hokq⟩ := hok
   subst hE
   simp only [depth] at hd
   obtain ⟨hev, hevq⟩ := hev
   split at hev
   · rename_i o ho
     have h2 : ∀ m', m = m' + 1 → ∀ j ∈ rest, j ∈ Region.ready .any ops L → ∀ o, ops[j]? = some o → evG P T n ops o fr h fun fr' h' => CC P T ops true h0 qs bq ms Γ j h h' ∧
         AnyP P T n ops true h0 qs bq ms Γ K m' (L.setIfInBounds j true) fr' h' := by
       intro m' hm j hj hjr o' ho'
       by_cases hji : j = i
       · subst hji
         rw [ho] at ho'; cases ho'
         refine evG_mono (fun fr' h' k => ?_) hev
         obtain ⟨k1, k2⟩ := grow_elim k
         obtain ⟨k3, k4⟩ := grow_elim k2
         obtain ⟨k5, k6⟩ := frames_elim k4
         refine ⟨⟨fun hn => k1 ?_, fun hn => .inr (k3 ?_), need_frames hG hls k5⟩, (ihp false fs Γ _ _ fr' h' m' hG (hcl.set hjr) hokp (by omega) (fun h => (by cases h)) k6).1 rfl⟩
         · have hn' : needG P T ops qs ms j = true := hn
           simpa [implB, hn'] using hg
         · have hn' : needG P T ops bq ms j = true := hn
           simpa [implB, hn'] using hgb
       · refine (ihq false fs Γ L _ fr h m hG hcl hokq (by omega) (fun h => (by cases h)) hevq).2 m' hm j ?_ hjr o' ho'
         rw [List.mem_filter]
         refine ⟨hj, ?_⟩
         cases h : Nat.beq j i
         · rfl
         · exact absurd (Nat.eq_of_beq_eq_true h) hji
     refine ⟨fun hr => ?_, h2⟩
     obtain ⟨m1, rfl⟩ : ∃ m1, m = m1 + 1 := ⟨m - 1, by omega⟩
     exact ⟨fun h0 => (by have := contains_mem hmem; rw [hr, h0] at this; cases this), fun j hj => h2 m1 rfl j (hr ▸ hj) hj⟩
   · exact hev.elim
theorem any_wp {w0 : World} {Q : Exit → Act → World → Prop} : ∀ (m : Nat) {L : Array Bool} {fr : Fr} {h : Heap} {a : Act} {w : World}, Rel n w0 fr h a w → AnyE P T n ops C K m L fr h →
   (∀ fr' h' a' w', K fr' h' → Rel n w0 fr' h' a' w' → Q .normal a' w') → wpAny P .any ops Q m L a w := by
 intro m
 induction m with
 | zero => exact fun r hh hn => ⟨hh.1, hn _ _ _ _ hh.2 r⟩
 | succ m ih =>
   intro L fr h a w r hh hn
   refine ⟨fun h0 => hn _ _ _ _ (hh.1 h0) r, fun i hi => ?_⟩
   obtain ⟨_, o, ho, _⟩ := mem_ready.1 hi
   have h1 := evG_step (next := wpAny P .any ops Q m (L.setIfInBounds i true)) (Q := Q) r (hh.2 i hi o ho) fun fr' h' a' w' k r' => ih r' k.2 hn
   unfold wpOp
   simp only [ho]
   exact h1
theorem plan_step {w0 : World} {Q : Exit → Act → World → Prop} {id : Nat} {p : Plan} {fr : Fr} {h : Heap} {a : Act} {w : World} (hm : P.follows .mixedOrders = true) (hg : goodPlan P T ops p = true) (r : Rel n w0 fr h a w)
   (hev : evPlan P T n ops h p (fun _ _ => True) fr h K) (hn : ∀ fr' h' a' w', K fr' h' → Rel n w0 fr' h' a' w' → Q .normal a' w') : (Code.region id ops true).wp P Q a w := by
 unfold goodPlan at hg
 simp only [Bool.and_eq_true] at hg
 obtain ⟨⟨hsel, hd⟩, hok⟩ := hg
 have hcl : Closed ops (Array.replicate ops.size false) := fun k o ho hk => by
   rw [Array.getD_eq_getD_getElem?] at hk
   simp only [Array.getElem?_replicate] at hk
   split at hk <;> simp at hk
 have hms : ∀ k i, ((masks ops.toList []).getD k 0).testBit i = true → Chain ops k i := masks_chain ops.toList [] [] (by simp) rfl (fun k i h => by simp at h)
 refine wp_region_any hm ?_
 have r' : Rel n w0 fr h a { w with drawn := w.drawn + 1 } := ⟨r.size, r.val, r.defers, r.heap, ⟨r.same.1, r.same.2, r.same.3⟩⟩
 exact any_wp ops.size r' ((plan_any hms hsel p true [] _ _ _ fr h ops.size (fun _ _ _ => trivial) hcl hok (Nat.le_of_ble_eq_true hd) (fun _ => rfl) hev).1 rfl) hn
end
end Go.Hw

end
section
namespace Go.Hw
open Go
inductive Ex where
 | normal | exit (id : Nat) | ret
def Ex.out : Ex → Exit
 | .normal => .normal
 | .exit id => .exit id
 | .ret => .ret
def eqP : List Bool → List Bool → Bool
 | [], [] => true
 | true :: a, true :: b => eqP a b
 | false :: a, false :: b => eqP a b
 | _, _ => false
def lookP {α : Type} : List (List Bool × α) → List Bool → Option α
 | [], _ => none
 | (k, v) :: r, p => match eqP k p with | true => some v | false => lookP r p
def mkFr (l : List (Nat × Value)) : Fr := fun t => look l t
def projL (fr : Fr) : List Nat → List (Nat × Value)
 | [] => []
 | t :: r => match fr t with | some v => (t, v) :: projL fr r | none => projL fr r
abbrev Keep := List (List Bool × List Nat)
section
variable (P : Program) (T : Tab) (n : Nat) (kp : Keep) (X : List Bool → Fr → Heap → Prop)
def loopK (p : List Bool) (K : Ex → Fr → Heap → Prop) : Ex → Fr → Heap → Prop := fun e fr h =>
 match e with
 | .normal => match lookP kp p with | some l => X p (mkFr (projL fr l)) h | none => False
 | .exit id => K (.exit id) fr h
 | .ret => K .ret fr h
def blockK (id : Nat) (K : Ex → Fr → Heap → Prop) : Ex → Fr → Heap → Prop := fun e fr h =>
 match e with
 | .exit i => match Nat.beq i id with | true => K .normal fr h | false => K (.exit i) fr h
 | .normal => K .normal fr h
 | .ret => K .ret fr h
def seqK (p : List Bool) (next : Fr → Heap → Prop) (K : Ex → Fr → Heap → Prop) : Ex → Fr → Heap → Prop := fun e fr h =>
 match e with
 | .normal => match lookP kp p with | some l => X p (mkFr (projL fr l)) h | none => next fr h
 | .exit id => K (.exit id) fr h
 | .ret => K .ret fr h
def ev : Code → List Bool → Fr → Heap → (Ex → Fr → Heap → Prop) → Prop
 | .skip, _, fr, h, K => K .normal fr h
 | .region id ops draw, _, fr, h, K => match draw with
   | false => evOps P T n ops ops.toList fr h (K .normal)
   | true => match look T.plan id with
     | some p => evPlan P T n ops h p (fun _ _ => True) fr h (K .normal)
     | none => False
 | .seq a b, p, fr, h, K => ev a (false :: p) fr h (seqK kp X (true :: p) (fun fr' h' => ev b (true :: p) fr' h' K) K)
 | .cond c a b, p, fr, h, K => match opnd fr c with
   | some (.bool t) => splitB t (ev a (false :: p) fr h K) (ev b (true :: p) fr h K)
   | _ => False
 | .block id c, p, fr, h, K => ev c (false :: p) fr h (blockK id K)
 | .loop _, p, fr, h, _ => match lookP kp (false :: p) with | some l => X (false :: p) (mkFr (projL fr l)) h | none => False
 | .exit id, _, fr, h, K => K (.exit id) fr h
 | .ret, _, fr, h, K => K .ret fr h
 | _, _, _, _, _ => False
def evFrom : List Bool → Code → List Bool → Fr → Heap → (Ex → Fr → Heap → Prop) → Prop
 | [], c, p, fr, h, K => ev P T n kp X c p fr h K
 | b :: bs, .seq x y, p, fr, h, K => match b with
   | false => evFrom bs x (false :: p) fr h (seqK kp X (true :: p) (fun fr' h' => ev P T n kp X y (true :: p) fr' h' K) K)
   | true => evFrom bs y (true :: p) fr h K
 | b :: bs, .cond _ x y, p, fr, h, K => match b with
   | false => evFrom bs x (false :: p) fr h K
   | true => evFrom bs y (true :: p) fr h K
 | b :: bs, .block id c, p, fr, h, K => match b with
   | false => evFrom bs c (false :: p) fr h (blockK id K)
   | true => False
 | b :: bs, .loop c, p, fr, h, K => match b with
   | false => evFrom bs c (false :: p) fr h (loopK kp X (false :: p) K)
   | true => False
 | _, _, _, _, _, _ => False
end
def goodCode (P : Program) (T : Tab) : Code → Bool
 | .region id ops true => match look T.plan id with
   | some p => goodPlan P T ops p
   | none => true
 | .seq a b => goodCode P T a && goodCode P T b
 | .cond _ a b => goodCode P T a && goodCode P T b
 | .block _ c => goodCode P T c
 | .loop c => goodCode P T c
 | _ => true
def loopwp (P : Program) (c : Code) (Q : Exit → Act → World → Prop) (a : Act) (w : World) : Prop :=
 ∀ (b : Frame) (k : List Item) (cs : List Frame), ∃ e a' w', Q e a' w' ∧ Arrives P (lone (b.at a (.code c :: .inLoop c :: k)) cs w) b k cs e a' w'
section
variable {P : Program} {Q : Exit → Act → World → Prop} {a : Act} {w : World}
theorem wp_of_loopwp {c : Code} (hh : loopwp P c Q a w) : (Code.loop c).wp P Q a w := by
 intro b k cs
 obtain ⟨e, a', w', q, r⟩ := hh b k cs
 exact ⟨e, a', w', q, .of_steps (.one step_loop) r⟩
theorem loopwp_of {c : Code} (hh : c.wp P (Exit.then (loopwp P c Q) Q) a w) : loopwp P c Q a w := by
 intro b k cs
 obtain ⟨e, a₁, w₁, hq, harr⟩ := hh b (.inLoop c :: k) cs
 cases e with
 | normal =>
   obtain ⟨e₂, a₂, w₂, hq₂, harr₂⟩ := hq b k cs
   exact ⟨e₂, a₂, w₂, hq₂, .of_steps (Steps.trans harr (.one step_inLoop)) harr₂⟩
 | exit id => exact ⟨_, a₁, w₁, hq, .pass (x := .inLoop c) rfl (fun _ _ => .inl (by simp)) harr⟩
 | goto l => exact ⟨_, a₁, w₁, hq, .pass (x := .inLoop c) rfl (fun _ _ => .inl (by simp)) harr⟩
 | ret => exact ⟨_, a₁, w₁, hq, .pass (x := .inLoop c) rfl (fun _ _ => .inl (by simp)) harr⟩
 | panic ch => exact ⟨_, a₁, w₁, hq, .pass (x := .inLoop c) rfl (fun _ _ => .inl (by simp)) harr⟩
 | outgrown => exact ⟨_, a₁, w₁, hq, .pass (x := .inLoop c) rfl (fun _ _ => .inl (by simp)) harr⟩
def nav (P : Program) : List Bool → Code → (Exit → Act → World → Prop) → Act → World → Prop
 | [], c, Q, a, w => c.wp P Q a w
 | b :: bs, .seq x y, Q, a, w => match b with
   | false => nav P bs x (Exit.then (y.wp P Q) Q) a w
   | true => nav P bs y Q a w
 | b :: bs, .cond _ x y, Q, a, w => match b with
   | false => nav P bs x Q a w
   | true => nav P bs y Q a w
 | b :: bs, .block id c, Q, a, w => match b with
   | false => nav P bs c (Exit.inBlock id Q) a w
   | true => False
 | b :: bs, .loop c, Q, a, w => match b with
   | false => match bs with
     | [] => loopwp P c Q a w
     | _ :: _ => nav P bs c (Exit.then (loopwp P c Q) Q) a w
   | true => False
 | _, _, _, _, _ => False
end
section
variable {P : Program} {T : Tab} {n : Nat} {kp : Keep} {X : List Bool → Fr → Heap → Prop} {w0 : World} {root : Code} {Q0 : Exit → Act → World → Prop}
theorem Rel.proj {fr : Fr} {h : Heap} {a : Act} {w : World} (r : Rel n w0 fr h a w) (l : List Nat) : Rel n w0 (mkFr (projL fr l)) h a w := by
 refine ⟨r.size, fun t v ht => ?_, r.defers, r.heap, r.same⟩
 refine r.val t v ?_
 unfold mkFr at ht
 induction l with
 | nil => cases ht
 | cons x l ih =>
   simp only [projL] at ht
   split at ht
   · rename_i u hu
     simp only [look] at ht
     split at ht
     · rename_i hx; have := Nat.eq_of_beq_eq_true hx; subst this; rw [hu]; exact ht
     · exact ih ht
   · exact ih ht
def Fits (n : Nat) (w0 : World) (K : Ex → Fr → Heap → Prop) (Q : Exit → Act → World → Prop) : Prop :=
 ∀ e fr h a w, K e fr h → Rel n w0 fr h a w → Q e.out a w
theorem ev_sound (hm : P.follows .mixedOrders = true) (hX : ∀ p fr h a w, X p fr h → Rel n w0 fr h a w → nav P p.reverse root Q0 a w) :
   ∀ (c : Code) (p : List Bool) (K : Ex → Fr → Heap → Prop) (Q : Exit → Act → World → Prop) (fr : Fr) (h : Heap) (a : Act) (w : World), goodCode P T c = true →
     (∀ b bs a w, nav P (p.reverse ++ b :: bs) root Q0 a w → nav P (b :: bs) c Q a w) → Fits n w0 K Q → Rel n w0 fr h a w → ev P T n kp X c p fr h K → c.wp P Q a w := by
 intro c
 induction c with
 | skip => exact fun p K Q fr h a w _ _ hf r hh => wp_skip (hf .normal fr h a w hh r)
 | region id ops draw =>
   intro p K Q fr h a w hg _ hf r hh
   simp only [ev] at hh
   cases draw with
   | false =>
     refine wp_region_list (evOps_step ops.toList r hh fun fr' h' a' w' k r' => hf .normal _ _ _ _ k r')
   | true =>
     simp only [] at hh
     split at hh
     · rename_i pl hpl
       simp only [goodCode, hpl] at hg
       exact plan_step hm hg r hh fun fr' h' a' w' k r' => hf .normal _ _ _ _ k r'
     · exact hh.elim
 | seq x y ihx ihy =>
   intro p K Q fr h a w hg hp hf r hh
   simp only [goodCode, Bool.and_eq_true] at hg
   simp only [ev] at hh
   have hp1 : ∀ b bs a w, nav P ((true :: p).reverse ++ b :: bs) root Q0 a w → nav P (b :: bs) y Q a w := fun b bs a w hn => by
     have := hp true (b :: bs) a w (by simpa using hn)
     exact this
   have hp0 : ∀ b bs a w, nav P ((false :: p).reverse ++ b :: bs) root Q0 a w → nav P (b :: bs) x (Exit.then (y.wp P Q) Q) a w := fun b bs a w hn => by
     have := hp false (b :: bs) a w (by simpa using hn)
     exact this
   refine wp_seq (ihx (false :: p) _ _ fr h a w hg.1 hp0 ?_ r hh)
   intro e fr' h' a' w' k r'
   cases e with
   | exit id => exact hf (.exit id) _ _ _ _ k r'
   | ret => exact hf .ret _ _ _ _ k r'
   | normal =>
     simp only [seqK] at k
     split at k
     · rename_i l _
       have h1 := hX _ _ _ a' w' k (r'.proj l)
       rw [List.reverse_cons] at h1
       exact hp true [] a' w' h1
     · exact ihy (true :: p) K Q fr' h' a' w' hg.2 hp1 hf r' k
 | cond c x y ihx ihy =>
   intro p K Q fr h a w hg hp hf r hh
   simp only [goodCode, Bool.and_eq_true] at hg
   simp only [ev] at hh
   split at hh
   · rename_i t ht
     refine wp_cond (t := t) (r.opnd _ _ ht) ?_
     cases t <;> simp only [splitB] at hh
     · exact ihy (true :: p) K Q fr h a w hg.2 (fun b bs a w hn => hp true (b :: bs) a w (by simpa using hn)) hf r hh
     · exact ihx (false :: p) K Q fr h a w hg.1 (fun b bs a w hn => hp false (b :: bs) a w (by simpa using hn)) hf r hh
   · exact hh.elim
 | block id c ih =>
   intro p K Q fr h a w hg hp hf r hh
   simp only [goodCode] at hg
   simp only [ev] at hh
   refine wp_block (ih (false :: p) _ _ fr h a w hg (fun b bs a w hn => hp false (b :: bs) a w (by simpa using hn)) ?_ r hh)
   intro e fr' h' a' w' k r'
   cases e with
   | normal => exact hf .normal _ _ _ _ k r'
   | ret => exact hf .ret _ _ _ _ k r'
   | exit i =>
     simp only [blockK] at k
     show (if i = id then Q .normal a' w' else Q (.exit i) a' w')
     split at k
     · rename_i hb
       rw [if_pos (Nat.eq_of_beq_eq_true hb)]
       exact hf .normal _ _ _ _ k r'
     · rename_i hb
       rw [if_neg (Nat.ne_of_beq_eq_false hb)]
       exact hf (.exit i) _ _ _ _ k r'
 | loop c ih =>
   intro p K Q fr h a w hg hp hf r hh
   simp only [ev] at hh
   split at hh
   · rename_i l _
     have h1 := hX _ _ _ a w hh (r.proj l)
     rw [List.reverse_cons] at h1
     exact wp_of_loopwp (hp false [] a w h1)
   · exact hh.elim
 | exit id => exact fun p K Q fr h a w _ _ hf r hh => wp_exit (hf (.exit id) fr h a w hh r)
 | ret => exact fun p K Q fr h a w _ _ hf r hh => wp_ret (hf .ret fr h a w hh r)
 | _ => exact fun p K Q fr h a w _ _ hf r hh => hh.elim
theorem from_sound (hm : P.follows .mixedOrders = true) (hX : ∀ p fr h a w, X p fr h → Rel n w0 fr h a w → nav P p.reverse root Q0 a w) :
   ∀ (bs : List Bool) (c : Code) (p : List Bool) (K : Ex → Fr → Heap → Prop) (Q : Exit → Act → World → Prop) (fr : Fr) (h : Heap) (a : Act) (w : World), goodCode P T c = true →
     (∀ b bs a w, nav P (p.reverse ++ b :: bs) root Q0 a w → nav P (b :: bs) c Q a w) → Fits n w0 K Q → Rel n w0 fr h a w → evFrom P T n kp X bs c p fr h K → nav P bs c Q a w := by
 intro bs
 induction bs with
 | nil => exact fun c p K Q fr h a w hg hp hf r hh => ev_sound hm hX c p K Q fr h a w hg hp hf r hh
 | cons b bs ih =>
   intro c p K Q fr h a w hg hp hf r hh
   cases c with
   | seq x y =>
     simp only [goodCode, Bool.and_eq_true] at hg
     simp only [evFrom] at hh
     cases b with
     | true => exact ih y (true :: p) K Q fr h a w hg.2 (fun b bs a w hn => hp true (b :: bs) a w (by simpa using hn)) hf r hh
     | false =>
       refine ih x (false :: p) _ _ fr h a w hg.1 (fun b bs a w hn => hp false (b :: bs) a w (by simpa using hn)) ?_ r hh
       intro e fr' h' a' w' k r'
       cases e with
       | exit id => exact hf (.exit id) _ _ _ _ k r'
       | ret => exact hf .ret _ _ _ _ k r'
       | normal =>
         simp only [seqK] at k
         split at k
         · rename_i l _
           have h1 := hX _ _ _ a' w' k (r'.proj l)
           rw [List.reverse_cons] at h1
           exact hp true [] a' w' h1
         · exact ev_sound hm hX y (true :: p) K Q fr' h' a' w' hg.2 (fun b bs a w hn => hp true (b :: bs) a w (by simpa using hn)) hf r' k
   | cond c x y =>
     simp only [goodCode, Bool.and_eq_true] at hg
     simp only [evFrom] at hh
     cases b with
     | true => exact ih y (true :: p) K Q fr h a w hg.2 (fun b bs a w hn => hp true (b :: bs) a w (by simpa using hn)) hf r hh
     | false => exact ih x (false :: p) K Q fr h a w hg.1 (fun b bs a w hn => hp false (b :: bs) a w (by simpa using hn)) hf r hh
   | block id c =>
     simp only [goodCode] at hg
     simp only [evFrom] at hh
     cases b with
     | true => exact hh.elim
     | false =>
       refine ih c (false :: p) _ _ fr h a w hg (fun b bs a w hn => hp false (b :: bs) a w (by simpa using hn)) ?_ r hh
       intro e fr' h' a' w' k r'
       cases e with
       | normal => exact hf .normal _ _ _ _ k r'
       | ret => exact hf .ret _ _ _ _ k r'
       | exit i =>
         simp only [blockK] at k
         show (if i = id then Q .normal a' w' else Q (.exit i) a' w')
         split at k
         · rename_i hb
           rw [if_pos (Nat.eq_of_beq_eq_true hb)]
           exact hf .normal _ _ _ _ k r'
         · rename_i hb
           rw [if_neg (Nat.ne_of_beq_eq_false hb)]
           exact hf (.exit i) _ _ _ _ k r'
   | loop c =>
     simp only [goodCode] at hg
     simp only [evFrom] at hh
     cases b with
     | true => exact hh.elim
     | false =>
       have hfit : Fits n w0 (loopK kp X (false :: p) K) (Exit.then (loopwp P c Q) Q) := by
         intro e fr' h' a' w' k r'
         cases e with
         | exit id => exact hf (.exit id) _ _ _ _ k r'
         | ret => exact hf .ret _ _ _ _ k r'
         | normal =>
           simp only [loopK] at k
           split at k
           · rename_i l _
             have h1 := hX _ _ _ a' w' k (r'.proj l)
             rw [List.reverse_cons] at h1
             exact hp false [] a' w' h1
           · exact k.elim
       have hp' : ∀ b bs a w, nav P ((false :: p).reverse ++ b :: bs) root Q0 a w → nav P (b :: bs) c (Exit.then (loopwp P c Q) Q) a w := fun b bs a w hn => hp false (b :: bs) a w (by simpa using hn)
       have h1 := ih c (false :: p) _ _ fr h a w hg hp' hfit r hh
       cases bs with
       | nil => exact loopwp_of h1
       | cons b' bs' => exact h1
   | _ => exact hh.elim
end
def resL (fr : Fr) (h : Heap) (P : Program) (T : Tab) : List ResultVar → (List Value → Prop) → Prop
 | [], K => K []
 | .tmp t :: r, K => val (fr t) fun v => resL fr h P T r fun vs => K (v :: vs)
 | .cell a t :: r, K => match lay P t with
   | some (s, g) => match fr a with
     | some (.pointer p) => ptrOk p fun a => ∃ v, ldv g s h a = some v ∧ resL fr h P T r fun vs => K (v :: vs)
     | _ => False
   | none => False
def oneV : List Value → Value
 | [v] => v
 | vs => .tuple vs.toArray
def retK (P : Program) (T : Tab) (res : List ResultVar) (R : Value → Heap → Prop) : Ex → Fr → Heap → Prop := fun e fr h =>
 match e with
 | .normal => resL fr h P T res fun vs => R (oneV vs) h
 | .ret => resL fr h P T res fun vs => R (oneV vs) h
 | .exit _ => False
def postQ (P : Program) (fn : Func) (R : Value → Heap → Prop) (w0 : World) : Exit → Act → World → Prop :=
 bodyPost P fn fun e w' => ∃ v, e = .returned v ∧ R v w'.heap ∧ Same w0 w'
def rootOf (fn : Func) : Code := match fn.body with | some c => c | none => .skip
def Pt (P : Program) (fn : Func) (R : Value → Heap → Prop) (p : List Bool) (fr : Fr) (h : Heap) : Prop :=
 ∀ w0 a w, Rel fn.ntmps w0 fr h a w → nav P p.reverse (rootOf fn) (postQ P fn R w0) a w
def Fwd (P : Program) (T : Tab) (kp : Keep) (fn : Func) (R : Value → Heap → Prop) (p : List Bool) (fr : Fr) (h : Heap) : Prop :=
 evFrom P T fn.ntmps kp (Pt P fn R) p.reverse (rootOf fn) [] fr h (retK P T fn.results.toList R)
section
variable {P : Program} {T : Tab} {kp : Keep} {fn : Func} {R : Value → Heap → Prop}
theorem resL_hwp {fr : Fr} {h : Heap} {a : Act} (hv : ∀ t v, fr t = some v → a.tmps.getD t undef = v) : ∀ (l : List ResultVar) (K : List Value → Prop) (K' : List Value → Heap → Prop), resL fr h P T l K → (∀ vs, K vs → K' vs h) →
   Hwp P (l.mapM (m := Sem) fun | .tmp t => pure (a.tmps.getD t undef) | .cell x t => do loadVar t (← asAddr (a.tmps.getD x undef))) h K' := by
 intro l
 induction l with
 | nil => exact fun K K' hh hk => hwp_pure (P := P) (hk _ hh)
 | cons x l ih =>
   intro K K' hh hk
   rw [List.mapM_cons]
   cases x with
   | tmp t =>
     simp only [resL] at hh
     obtain ⟨v, hvt, hh⟩ := val_elim hh
     refine hwp_bind (hwp_pure (P := P) ?_)
     rw [hv t v hvt]
     exact hwp_bind (ih _ _ hh fun vs k => hwp_pure (P := P) (hk _ k))
   | cell x t =>
     simp only [resL] at hh
     split at hh
     · rename_i s g hl
       split at hh
       · rename_i p hp
         obtain ⟨b, rfl, v, hld, hh⟩ := ptrOk_elim hh
         refine hwp_bind ?_
         simp only [hv x _ hp]
         refine hwp_bind (hwp_pure (P := P) (v := b) (hwp_loadVar hl hld ?_))
         exact hwp_bind (ih _ _ hh fun vs k => hwp_pure (P := P) (hk _ k))
       · exact hh.elim
     · exact hh.elim
inductive Calm {α : Type} : Sem α → Prop
 | pure (a : α) : Calm (.pure a)
 | load (m : Mode) (a : Addr) (k : Value → Sem α) (h : ∀ v, Calm (k v)) : Calm (.load m a k)
 | program (k : Program → Sem α) (h : ∀ v, Calm (k v)) : Calm (.program k)
 | halt (x : Halt) : Calm (.halt x)
theorem Calm.run {α : Type} {s : Sem α} (c : Calm s) : ∀ {w w' : World} {v : α}, s.run P w = .ok v w' → w' = w := by
 induction c with
 | pure a => intro w w' v h; simp only [Sem.run, Result.ok.injEq] at h; exact h.2.symm
 | load m a k hk ih =>
   intro w w' v h
   simp only [Sem.run] at h
   split at h
   · exact ih _ h
   · split at h
     · exact ih _ h
     · cases h
 | program k hk ih => intro w w' v h; exact ih _ h
 | halt x => intro w w' v h; cases h
theorem Calm.bind {α β : Type} {s : Sem α} {f : α → Sem β} (c : Calm s) (hf : ∀ a, Calm (f a)) : Calm (s >>= f) := by
 induction c with
 | pure a => exact hf a
 | load m a k hk ih => exact .load m a _ ih
 | program k hk ih => exact .program _ ih
 | halt x => exact .halt x
theorem calm_typeInfo (t : TypeId) : Calm (typeInfo t) := .program _ fun p => by
 show Calm (match p.info? t with | some i => pure i | none => stuck "no such type")
 split
 · exact .pure _
 · exact .halt _
theorem calm_underlying (t : TypeId) : Calm (underlying t) := .program _ fun p => by
 show Calm (match p.underlying t with | some i => pure i | none => stuck "no such type")
 split
 · exact .pure _
 · exact .halt _
theorem calm_loadCellsFrom (a : Addr) : ∀ (n i : Nat) (acc : Array Value), Calm (loadCellsFrom a i n acc) := by
 intro n
 induction n with
 | zero => exact fun i acc => .pure _
 | succ n ih => exact fun i acc => Calm.bind (.load _ _ _ fun v => .pure v) fun v => ih _ _
theorem calm_loadVar (t : TypeId) (a : Addr) : Calm (loadVar t a) := by
 unfold loadVar isAgg
 refine Calm.bind (Calm.bind (calm_underlying t) fun d => ?_) fun b => ?_
 · split <;> exact .pure _
 · split
   · exact Calm.bind (Calm.bind (calm_typeInfo t) fun i => .pure _) fun n => Calm.bind (calm_loadCellsFrom a n 0 #[]) fun cs => .pure _
   · exact .load _ _ _ fun v => .pure v
theorem calm_asAddr (v : Value) : Calm (asAddr v) := by
 unfold asAddr
 split
 · exact .pure _
 · exact .program _ fun p => .halt _
 · exact .halt _
theorem calm_mapM {tmps : Array Value} : ∀ (l : List ResultVar), Calm (l.mapM (m := Sem) fun | .tmp t => pure (tmps.getD t undef) | .cell x t => do loadVar t (← asAddr (tmps.getD x undef))) := by
 intro l
 induction l with
 | nil => exact .pure _
 | cons x l ih =>
   rw [List.mapM_cons]
   refine Calm.bind ?_ fun v => Calm.bind ih fun vs => .pure _
   cases x with
   | tmp t => exact .pure _
   | cell x t => exact Calm.bind (calm_asAddr _) fun a => calm_loadVar t a
theorem results_ok {fr : Fr} {h : Heap} {w0 w : World} {a : Act} (r : Rel fn.ntmps w0 fr h a w) (hh : resL fr h P T fn.results.toList fun vs => R (oneV vs) h) :
   ∃ v, (results fn a.tmps).run P w = .ok v w ∧ R v h := by
 have hcalm : Calm (results fn a.tmps) := by
   unfold results
   rw [Array.mapM_eq_mapM_toList]
   exact Calm.bind (Calm.bind (calm_mapM _) fun vs => .pure _) fun vs => .pure _
 have hw : Hwp P (results fn a.tmps) w.heap fun v h' => R v h' := by
   rw [r.heap]
   unfold results
   rw [Array.mapM_eq_mapM_toList]
   refine hwp_bind (hwp_bind (resL_hwp (fun t v hv => (r.val t v hv).2) _ _ _ hh fun vs k => hwp_pure (P := P) (hwp_pure (P := P) ?_)))
   have e : (if h : vs.toArray.size = 1 then vs.toArray[0] else Value.tuple vs.toArray) = oneV vs := by
     cases vs with
     | nil => rfl
     | cons v vs => cases vs with
       | nil => rfl
       | cons u vs => simp [oneV]
   rw [e]; exact k
 obtain ⟨v, w', hrun, hk, _⟩ := Hwp.run _ w _ hw
 have := hcalm.run hrun
 subst this
 exact ⟨v, hrun, r.heap ▸ hk⟩
theorem pt_intro (hm : P.follows .mixedOrders = true) (hg : goodCode P T (rootOf fn) = true) {p : List Bool} {fr : Fr} {h : Heap} (hh : Fwd P T kp fn R p fr h) : Pt P fn R p fr h := by
 intro w0 a w r
 refine from_sound (X := Pt P fn R) (root := rootOf fn) (Q0 := postQ P fn R w0) (n := fn.ntmps) (w0 := w0) hm (fun p fr h a w hp r => hp w0 a w r) p.reverse (rootOf fn) [] _ _ fr h a w hg (fun b bs a w hn => hn) ?_ r hh
 intro e fr' h' a' w' k r'
 cases e with
 | exit id => exact k.elim
 | normal =>
   obtain ⟨v, h1, h2⟩ := results_ok r' k
   exact ⟨r'.defers, v, h1, v, rfl, r'.heap.symm ▸ h2, r'.same⟩
 | ret =>
   obtain ⟨v, h1, h2⟩ := results_ok r' k
   exact ⟨r'.defers, v, h1, v, rfl, r'.heap.symm ▸ h2, r'.same⟩
def argL : List Value → Nat → List (Nat × Value)
 | [], _ => []
 | v :: r, i => (i, v) :: argL r (i + 1)
theorem argL_look : ∀ (l : List Value) (i t : Nat) (v : Value), look (argL l i) t = some v → ∃ j, t = i + j ∧ l[j]? = some v := by
 intro l
 induction l with
 | nil => intro i t v h; cases h
 | cons x l ih =>
   intro i t v h
   simp only [argL, look] at h
   split at h
   · rename_i hb
     have := Nat.eq_of_beq_eq_true hb
     cases h
     exact ⟨0, by omega, rfl⟩
   · obtain ⟨j, h1, h2⟩ := ih _ _ _ h
     exact ⟨j + 1, by omega, h2⟩
theorem run_of {f : FuncId} {args : List Value} {h : Heap} (hm : P.follows .mixedOrders = true) (hf : P.funcs[f]? = some fn) (hb : fn.body.isSome = true) (hs : Nat.ble args.length fn.ntmps = true) (hg : goodCode P T (rootOf fn) = true)
   (hh : Fwd P T kp fn R [] (mkFr (argL args 0)) h) : Run P f args.toArray h R := by
 intro w hw
 obtain ⟨c, hc⟩ := Option.isSome_iff_exists.1 hb
 have hroot : rootOf fn = c := by unfold rootOf; rw [hc]
 have hsz := Nat.le_of_ble_eq_true hs
 refine calls_of_wp hf hc ?_
 have := pt_intro hm hg hh w { tmps := args.toArray ++ Array.replicate (fn.ntmps - args.toArray.size) undef, defers := [] } w ?_
 · rw [hroot] at this
   exact this
 · refine ⟨by simp; omega, fun t v ht => ?_, rfl, hw, Same.refl w⟩
   obtain ⟨j, h1, h2⟩ := argL_look _ _ _ _ ht
   have hj : j < args.length := (List.getElem?_eq_some_iff.1 h2).1
   have ht' : t = j := by omega
   subst ht'
   refine ⟨by omega, ?_⟩
   simp only [Array.getD_eq_getD_getElem?]
   rw [Array.getElem?_append_left (by simpa using hj)]
   simp [h2]
theorem pt_in {kp : Keep} (hm : P.follows .mixedOrders = true) (hg : goodCode P T (rootOf fn) = true) {p : List Bool} {fr : Fr} {h : Heap} {X : Prop} (e : Fwd P T kp fn R p fr h = X) (H : X) : Pt P fn R p fr h := pt_intro hm hg (Eq.mpr e H)
theorem run_in {kp : Keep} {f : FuncId} {args : List Value} {h : Heap} (hm : P.follows .mixedOrders = true) (hf : P.funcs[f]? = some fn) (hb : fn.body.isSome = true) (hs : Nat.ble args.length fn.ntmps = true) (hg : goodCode P T (rootOf fn) = true) {X : Prop}
   (e : Fwd P T kp fn R [] (mkFr (argL args 0)) h = X) (H : X) : Run P f args.toArray h R := run_of hm hf hb hs hg (Eq.mpr e H)
end
abbrev VP := Value → Heap → Prop
def newH (h : Heap) (o : Obj) (K : Heap → Prop) : Prop := K (h.push o)
end Go.Hw

end
section
namespace Go.Proofs.YtaiehkhjmplodaaDoor.Fw
open Go Go.Hw Go.Proofs
def tSh : List (Nat × Sh) := [(3, .int .i64), (4, .bool), (5, .int .u8), (9, .str), (21, .int .i32), (22, .slice), (23, .slice), (24, .slice), (25, .ptr), (26, .int .i64), (31, .slice), (35, .ptr), (39, .slice), (55, .int .u64), (59, .slice), (68, .slice), (86, .ptr), (98, .int .u32), (102, .int .i64), (110, .int .u64), (116, .int .u64), (120, .ptr), (122, .ptr)]
def tTup : List (Nat × List Sh) := [(0, []), (27, [.ptr, .int .i64]), (44, [.other, .bool]), (56, [.int .i64, .int .i64]), (61, [.int .i64, .bool]), (83, [.other, .bool]), (89, [.int .i32, .int .i64]), (99, [.int .u32, .int .u32]), (103, [.int .i64, .int .i64]), (123, [.int .i64, .int .i64])]
theorem mixed : Tryd.prog.follows .mixedOrders = true := by kernel_rfl
end Go.Proofs.YtaiehkhjmplodaaDoor.Fw

end
