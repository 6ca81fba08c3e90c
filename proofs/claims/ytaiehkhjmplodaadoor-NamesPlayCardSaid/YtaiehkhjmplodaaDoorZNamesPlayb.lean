/- Part 2: what the law NamesPlay needs, put together out of texts of this session. -/
import Derived.ProofKit
import Derived.OpenShut
import Derived.ShutString
import Derived.ChangeOld
import Derived.Below
import Derived.SizedLaws
import Derived.ChangeArms
import Derived.Laws.StructEq
import Derived.Test.YtaiehkhjmplodaaDoorZNamesPlaya
section
namespace Go.Proofs.YtaiehkhjmplodaaDoor.Fw
open Go Go.Hw Go.Proofs
set_option linter.unusedVariables false
set_option maxRecDepth 100000
def f4.T : Tab := { sh := tSh, tup := tTup, keep := [], plan := [] }
def f4.kp : Keep := [([true, false, true], [0, 9]), ([true, true], [0])]
theorem f4.good : goodCode Tryd.prog f4.T (rootOf Tryd.f4) = true := by kernel_rfl
def f4.j1 (R x0 b9 h) := Pt Tryd.prog Tryd.f4 R [true, false, true] (mkFr [(0, (Value.int .i64 x0)), (9, (Value.bool b9))]) h
def f4.j0 (R x0 h) := Pt Tryd.prog Tryd.f4 R [true, true] (mkFr [(0, (Value.int .i64 x0))]) h
def f4.j1T (R : VP) (x0 : Int) (b9 : Bool) (h : Heap) : Prop :=
 splitB b9 (R (Value.tuple #[(Value.pointer none), (Value.int .i64 (1 : Int))]) h) (f4.j0 R x0 h)
theorem f4.j1_in {R x0 b9 h} (H : f4.j1T R x0 b9 h) : f4.j1 R x0 b9 h := pt_in (kp := f4.kp) mixed f4.good (by kernel_rfl) H
def f4.j0T (R : VP) (x0 : Int) (h : Heap) : Prop :=
 newH h (Obj.cells #[(Value.int .i64 x0), (Value.int .i64 (0 : Int)), (Value.slice none 0 0)] 53) fun h1_ => R (Value.tuple #[(Value.pointer (some ⟨Array.size h, 0, none⟩)), (Value.int .i64 (0 : Int))]) h1_
theorem f4.j0_in {R x0 h} (H : f4.j0T R x0 h) : f4.j0 R x0 h := pt_in (kp := f4.kp) mixed f4.good (by kernel_rfl) H
def f4.runT (R : VP) (x0 : Int) (h : Heap) : Prop :=
 splitB (decide (x0 < (1 : Int))) (f4.j1 R x0 true h) (f4.j1 R x0 (decide (x0 > (8 : Int))) h)
theorem f4.run {R : VP} {x0 : Int} {h : Heap} (H : f4.runT R x0 h) : Run Tryd.prog 4 #[(Value.int .i64 x0)] h R := run_in (kp := f4.kp) mixed Tryd.func4 (by kernel_rfl) (by kernel_rfl) f4.good (by kernel_rfl) H
def f58.T : Tab := { sh := tSh, tup := tTup, keep := [], plan := [] }
def f58.kp : Keep := []
theorem f58.good : goodCode Tryd.prog f58.T (rootOf Tryd.f58) = true := by kernel_rfl
def f58.runT (R : VP) (s0 : ByteArray) (x1 : Int) (h : Heap) : Prop :=
 ExtF Tryd.prog 68 #[(Value.string s0), (Value.int .u8 x1)] h fun v1_ h2_ => ∃ x3_, v1_ = (Value.int .i64 x3_) ∧ R (Value.int .i64 x3_) h2_
theorem f58.run {R : VP} {s0 : ByteArray} {x1 : Int} {h : Heap} (H : f58.runT R s0 x1 h) : Run Tryd.prog 58 #[(Value.string s0), (Value.int .u8 x1)] h R := run_in (kp := f58.kp) mixed Tryd.func58 (by kernel_rfl) (by kernel_rfl) f58.good (by kernel_rfl) H
def f16.T : Tab := { sh := tSh, tup := tTup, keep := [], plan := [] }
def f16.kp : Keep := []
theorem f16.good : goodCode Tryd.prog f16.T (rootOf Tryd.f16) = true := by kernel_rfl
def f16.runT (R : VP) (s0 : ByteArray) (h : Heap) : Prop :=
 splitB (!(ByteArray.toList s0 == ByteArray.toList (ByteArray.mk #[]))) (splitB (decide (((ByteArray.size s0 : Nat) : Int) ≤ (16 : Int))) (Run Tryd.prog 32 #[(Value.string s0), (Value.string (ByteArray.mk #[97, 98, 99, 100, 101, 102, 103, 104, 105, 106, 107, 108, 109, 110, 111, 112, 113, 114, 115, 116, 117, 118, 119, 120, 121, 122, 48, 49, 50, 51, 52, 53, 54, 55, 56, 57]))] h fun v1_ h2_ => ∃ s3_, v1_ = (Value.string s3_) ∧ R (Value.bool (ByteArray.toList s3_ == ByteArray.toList (ByteArray.mk #[]))) h2_) (R (Value.bool false) h)) (R (Value.bool false) h)
theorem f16.run {R : VP} {s0 : ByteArray} {h : Heap} (H : f16.runT R s0 h) : Run Tryd.prog 16 #[(Value.string s0)] h R := run_in (kp := f16.kp) mixed Tryd.func16 (by kernel_rfl) (by kernel_rfl) f16.good (by kernel_rfl) H
def f26.T : Tab := { sh := tSh, tup := tTup, keep := [], plan := [(11, (.take 0 (.take 1 (.take 2 (.take 3 (.take 4 (.take 5 (.take 6 (.take 7 (.eff false false [] 8 .done)))))))))), (15, (.take 0 (.take 1 (.take 2 (.take 3 (.take 4 (.take 5 (.take 6 (.take 7 (.eff false false [] 8 .done))))))))))] }
def f26.kp : Keep := []
theorem f26.good : goodCode Tryd.prog f26.T (rootOf Tryd.f26) = true := by kernel_rfl
def f26.runT (R : VP) (A0 : Option Addr) (n0 c0 : Nat) (x1 : Int) (A2 : Option Addr) (n2 c2 : Nat) (h : Heap) : Prop :=
 0 ≤ x1 ∧ x1 ≤ ((n0 : Nat) : Int) ∧ ((n0 : Nat) : Int) ≤ ((c0 : Nat) : Int) ∧ (splitB (((n2 : Nat) : Int) == (0 : Int)) (R (Value.slice A0 n0 c0) h) (splitB (x1 == ((n0 : Nat) : Int)) (AppW 33 4 40 #[(Value.string (ByteArray.mk #[])), (Value.int .i64 (0 : Int)), (Value.int .i64 (0 : Int)), (Value.int .i64 (0 : Int))] A0 n0 c0 (Value.slice A2 n2 c2) h fun v1_ h2_ => ∃ A3_, ∃ n3_, ∃ c3_, v1_ = (Value.slice A3_ n3_ c3_) ∧ R (Value.slice A3_ n3_ c3_) h2_) (splitB (decide ((IntKind.wrap .i64 (((n0 : Nat) : Int) + ((n2 : Nat) : Int))) > ((c0 : Nat) : Int))) (0 ≤ (0 : Int) ∧ (0 : Int) ≤ x1 ∧ x1 ≤ ((c0 : Nat) : Int) ∧ (AppZ 33 4 40 #[(Value.string (ByteArray.mk #[])), (Value.int .i64 (0 : Int)), (Value.int .i64 (0 : Int)), (Value.int .i64 (0 : Int))] (sliceA A0 (Int.toNat (0 : Int)) c0 4) (Int.toNat x1 - Int.toNat (0 : Int)) (c0 - Int.toNat (0 : Int)) (Value.int .i64 (IntKind.wrap .i64 ((IntKind.wrap .i64 (((n0 : Nat) : Int) + ((n2 : Nat) : Int))) - x1))) h fun v4_ h5_ => ∃ A6_, ∃ n6_, ∃ c6_, v4_ = (Value.slice A6_ n6_ c6_) ∧ 0 ≤ x1 ∧ x1 ≤ ((n6_ : Nat) : Int) ∧ ((n6_ : Nat) : Int) ≤ ((c6_ : Nat) : Int) ∧ (Gen Tryd.prog (Builtin.copy_ #[31, 31] 3 #[(Value.slice (sliceA A6_ (Int.toNat x1) c6_ 4) (Int.toNat ((n6_ : Nat) : Int) - Int.toNat x1) (c6_ - Int.toNat x1)), (Value.slice A2 n2 c2)]) h5_ fun v7_ h8_ => ∃ x9_, v7_ = (Value.int .i64 x9_) ∧ 0 ≤ (IntKind.wrap .i64 (x1 + ((n2 : Nat) : Int))) ∧ (IntKind.wrap .i64 (x1 + ((n2 : Nat) : Int))) ≤ ((n6_ : Nat) : Int) ∧ ((n6_ : Nat) : Int) ≤ ((c6_ : Nat) : Int) ∧ (0 ≤ x1 ∧ x1 ≤ ((n0 : Nat) : Int) ∧ ((n0 : Nat) : Int) ≤ ((c0 : Nat) : Int) ∧ (Gen Tryd.prog (Builtin.copy_ #[31, 31] 3 #[(Value.slice (sliceA A6_ (Int.toNat (IntKind.wrap .i64 (x1 + ((n2 : Nat) : Int)))) c6_ 4) (Int.toNat ((n6_ : Nat) : Int) - Int.toNat (IntKind.wrap .i64 (x1 + ((n2 : Nat) : Int)))) (c6_ - Int.toNat (IntKind.wrap .i64 (x1 + ((n2 : Nat) : Int))))), (Value.slice (sliceA A0 (Int.toNat x1) c0 4) (Int.toNat ((n0 : Nat) : Int) - Int.toNat x1) (c0 - Int.toNat x1))]) h8_ fun v10_ h11_ => ∃ x12_, v10_ = (Value.int .i64 x12_) ∧ R (Value.slice A6_ n6_ c6_) h11_))))) (0 ≤ (0 : Int) ∧ (0 : Int) ≤ (IntKind.wrap .i64 (((n0 : Nat) : Int) + ((n2 : Nat) : Int))) ∧ (IntKind.wrap .i64 (((n0 : Nat) : Int) + ((n2 : Nat) : Int))) ≤ ((c0 : Nat) : Int) ∧ (0 ≤ (IntKind.wrap .i64 (x1 + ((n2 : Nat) : Int))) ∧ (IntKind.wrap .i64 (x1 + ((n2 : Nat) : Int))) ≤ (((Int.toNat (IntKind.wrap .i64 (((n0 : Nat) : Int) + ((n2 : Nat) : Int))) - Int.toNat (0 : Int)) : Nat) : Int) ∧ (((Int.toNat (IntKind.wrap .i64 (((n0 : Nat) : Int) + ((n2 : Nat) : Int))) - Int.toNat (0 : Int)) : Nat) : Int) ≤ (((c0 - Int.toNat (0 : Int)) : Nat) : Int) ∧ (ExtF Tryd.prog 36 #[(Value.slice A2 n2 c2), (Value.slice (sliceA (sliceA A0 (Int.toNat (0 : Int)) c0 4) (Int.toNat (IntKind.wrap .i64 (x1 + ((n2 : Nat) : Int)))) (c0 - Int.toNat (0 : Int)) 4) (Int.toNat (((Int.toNat (IntKind.wrap .i64 (((n0 : Nat) : Int) + ((n2 : Nat) : Int))) - Int.toNat (0 : Int)) : Nat) : Int) - Int.toNat (IntKind.wrap .i64 (x1 + ((n2 : Nat) : Int)))) ((c0 - Int.toNat (0 : Int)) - Int.toNat (IntKind.wrap .i64 (x1 + ((n2 : Nat) : Int)))))] h fun v13_ h14_ => ∃ b15_, v13_ = (Value.bool b15_) ∧ splitB (!b15_) (0 ≤ (IntKind.wrap .i64 (x1 + ((n2 : Nat) : Int))) ∧ (IntKind.wrap .i64 (x1 + ((n2 : Nat) : Int))) ≤ (((Int.toNat (IntKind.wrap .i64 (((n0 : Nat) : Int) + ((n2 : Nat) : Int))) - Int.toNat (0 : Int)) : Nat) : Int) ∧ (((Int.toNat (IntKind.wrap .i64 (((n0 : Nat) : Int) + ((n2 : Nat) : Int))) - Int.toNat (0 : Int)) : Nat) : Int) ≤ (((c0 - Int.toNat (0 : Int)) : Nat) : Int) ∧ (0 ≤ x1 ∧ x1 ≤ (((Int.toNat (IntKind.wrap .i64 (((n0 : Nat) : Int) + ((n2 : Nat) : Int))) - Int.toNat (0 : Int)) : Nat) : Int) ∧ (((Int.toNat (IntKind.wrap .i64 (((n0 : Nat) : Int) + ((n2 : Nat) : Int))) - Int.toNat (0 : Int)) : Nat) : Int) ≤ (((c0 - Int.toNat (0 : Int)) : Nat) : Int) ∧ (Gen Tryd.prog (Builtin.copy_ #[31, 31] 3 #[(Value.slice (sliceA (sliceA A0 (Int.toNat (0 : Int)) c0 4) (Int.toNat (IntKind.wrap .i64 (x1 + ((n2 : Nat) : Int)))) (c0 - Int.toNat (0 : Int)) 4) (Int.toNat (((Int.toNat (IntKind.wrap .i64 (((n0 : Nat) : Int) + ((n2 : Nat) : Int))) - Int.toNat (0 : Int)) : Nat) : Int) - Int.toNat (IntKind.wrap .i64 (x1 + ((n2 : Nat) : Int)))) ((c0 - Int.toNat (0 : Int)) - Int.toNat (IntKind.wrap .i64 (x1 + ((n2 : Nat) : Int))))), (Value.slice (sliceA (sliceA A0 (Int.toNat (0 : Int)) c0 4) (Int.toNat x1) (c0 - Int.toNat (0 : Int)) 4) (Int.toNat (((Int.toNat (IntKind.wrap .i64 (((n0 : Nat) : Int) + ((n2 : Nat) : Int))) - Int.toNat (0 : Int)) : Nat) : Int) - Int.toNat x1) ((c0 - Int.toNat (0 : Int)) - Int.toNat x1))]) h14_ fun v16_ h17_ => ∃ x18_, v16_ = (Value.int .i64 x18_) ∧ 0 ≤ x1 ∧ x1 ≤ (((Int.toNat (IntKind.wrap .i64 (((n0 : Nat) : Int) + ((n2 : Nat) : Int))) - Int.toNat (0 : Int)) : Nat) : Int) ∧ (((Int.toNat (IntKind.wrap .i64 (((n0 : Nat) : Int) + ((n2 : Nat) : Int))) - Int.toNat (0 : Int)) : Nat) : Int) ≤ (((c0 - Int.toNat (0 : Int)) : Nat) : Int) ∧ (Gen Tryd.prog (Builtin.copy_ #[31, 31] 3 #[(Value.slice (sliceA (sliceA A0 (Int.toNat (0 : Int)) c0 4) (Int.toNat x1) (c0 - Int.toNat (0 : Int)) 4) (Int.toNat (((Int.toNat (IntKind.wrap .i64 (((n0 : Nat) : Int) + ((n2 : Nat) : Int))) - Int.toNat (0 : Int)) : Nat) : Int) - Int.toNat x1) ((c0 - Int.toNat (0 : Int)) - Int.toNat x1)), (Value.slice A2 n2 c2)]) h17_ fun v19_ h20_ => ∃ x21_, v19_ = (Value.int .i64 x21_) ∧ R (Value.slice (sliceA A0 (Int.toNat (0 : Int)) c0 4) (Int.toNat (IntKind.wrap .i64 (((n0 : Nat) : Int) + ((n2 : Nat) : Int))) - Int.toNat (0 : Int)) (c0 - Int.toNat (0 : Int))) h20_)))) (0 ≤ ((n0 : Nat) : Int) ∧ ((n0 : Nat) : Int) ≤ (((Int.toNat (IntKind.wrap .i64 (((n0 : Nat) : Int) + ((n2 : Nat) : Int))) - Int.toNat (0 : Int)) : Nat) : Int) ∧ (((Int.toNat (IntKind.wrap .i64 (((n0 : Nat) : Int) + ((n2 : Nat) : Int))) - Int.toNat (0 : Int)) : Nat) : Int) ≤ (((c0 - Int.toNat (0 : Int)) : Nat) : Int) ∧ (Gen Tryd.prog (Builtin.copy_ #[31, 31] 3 #[(Value.slice (sliceA (sliceA A0 (Int.toNat (0 : Int)) c0 4) (Int.toNat ((n0 : Nat) : Int)) (c0 - Int.toNat (0 : Int)) 4) (Int.toNat (((Int.toNat (IntKind.wrap .i64 (((n0 : Nat) : Int) + ((n2 : Nat) : Int))) - Int.toNat (0 : Int)) : Nat) : Int) - Int.toNat ((n0 : Nat) : Int)) ((c0 - Int.toNat (0 : Int)) - Int.toNat ((n0 : Nat) : Int))), (Value.slice A2 n2 c2)]) h14_ fun v22_ h23_ => ∃ x24_, v22_ = (Value.int .i64 x24_) ∧ 0 ≤ x1 ∧ x1 ≤ (((Int.toNat (IntKind.wrap .i64 (((n0 : Nat) : Int) + ((n2 : Nat) : Int))) - Int.toNat (0 : Int)) : Nat) : Int) ∧ (((Int.toNat (IntKind.wrap .i64 (((n0 : Nat) : Int) + ((n2 : Nat) : Int))) - Int.toNat (0 : Int)) : Nat) : Int) ≤ (((c0 - Int.toNat (0 : Int)) : Nat) : Int) ∧ (Run Tryd.prog 37 #[(Value.slice (sliceA (sliceA A0 (Int.toNat (0 : Int)) c0 4) (Int.toNat x1) (c0 - Int.toNat (0 : Int)) 4) (Int.toNat (((Int.toNat (IntKind.wrap .i64 (((n0 : Nat) : Int) + ((n2 : Nat) : Int))) - Int.toNat (0 : Int)) : Nat) : Int) - Int.toNat x1) ((c0 - Int.toNat (0 : Int)) - Int.toNat x1)), (Value.int .i64 ((n2 : Nat) : Int))] h23_ fun v25_ h26_ => v25_ = (Value.tuple #[]) ∧ R (Value.slice (sliceA A0 (Int.toNat (0 : Int)) c0 4) (Int.toNat (IntKind.wrap .i64 (((n0 : Nat) : Int) + ((n2 : Nat) : Int))) - Int.toNat (0 : Int)) (c0 - Int.toNat (0 : Int))) h26_)))))))))
theorem f26.run {R : VP} {A0 : Option Addr} {n0 c0 : Nat} {x1 : Int} {A2 : Option Addr} {n2 c2 : Nat} {h : Heap} (H : f26.runT R A0 n0 c0 x1 A2 n2 c2 h) : Run Tryd.prog 26 #[(Value.slice A0 n0 c0), (Value.int .i64 x1), (Value.slice A2 n2 c2)] h R := run_in (kp := f26.kp) mixed Tryd.func26 (by kernel_rfl) (by kernel_rfl) f26.good (by kernel_rfl) H
def f23.T : Tab := { sh := tSh, tup := tTup, keep := [], plan := [] }
def f23.kp : Keep := [([false, false, false, true, true, true], [0, 1, 2, 8, 9, 10])]
theorem f23.good : goodCode Tryd.prog f23.T (rootOf Tryd.f23) = true := by kernel_rfl
def f23.l0 (R A0 n0 c0 s1 v2 x8 x9 x10 h) := Pt Tryd.prog Tryd.f23 R [false, false, false, true, true, true] (mkFr [(0, (Value.slice A0 n0 c0)), (1, (Value.string s1)), (2, v2), (8, (Value.int .i64 x8)), (9, (Value.int .i64 x9)), (10, (Value.int .i64 x10))]) h
def f23.l0T (R : VP) (A0 : Option Addr) (n0 c0 : Nat) (s1 : ByteArray) (v2 : Value) (x8 x9 x10 : Int) (h : Heap) : Prop :=
 splitB (decide (x9 < x10)) (0 ≤ (1 : Int) ∧ (ptrOk A0 fun a1_ => 0 ≤ (IntKind.wrap .i64 (shrI .u64 (IntKind.wrap .u64 (IntKind.wrap .i64 (x9 + x10))) (1 : Int))) ∧ (IntKind.wrap .i64 (shrI .u64 (IntKind.wrap .u64 (IntKind.wrap .i64 (x9 + x10))) (1 : Int))) < ((n0 : Nat) : Int) ∧ (∃ v2_, ldv true 4 h (Addr.add a1_ (Int.toNat (IntKind.wrap .i64 (shrI .u64 (IntKind.wrap .u64 (IntKind.wrap .i64 (x9 + x10))) (1 : Int))) * 4)) = some v2_ ∧ CallF Tryd.prog v2 [v2_, (Value.string s1)] h fun v3_ h4_ => ∃ x5_, v3_ = (Value.int .i64 x5_) ∧ splitB (decide (x5_ < (0 : Int))) (f23.l0 R A0 n0 c0 s1 v2 x8 (IntKind.wrap .i64 ((IntKind.wrap .i64 (shrI .u64 (IntKind.wrap .u64 (IntKind.wrap .i64 (x9 + x10))) (1 : Int))) + (1 : Int))) x10 h4_) (f23.l0 R A0 n0 c0 s1 v2 x8 x9 (IntKind.wrap .i64 (shrI .u64 (IntKind.wrap .u64 (IntKind.wrap .i64 (x9 + x10))) (1 : Int))) h4_)))) (splitB (decide (x9 < x8)) (ptrOk A0 fun a6_ => 0 ≤ x9 ∧ x9 < ((n0 : Nat) : Int) ∧ (∃ v7_, ldv true 4 h (Addr.add a6_ (Int.toNat x9 * 4)) = some v7_ ∧ CallF Tryd.prog v2 [v7_, (Value.string s1)] h fun v8_ h9_ => ∃ x10_, v8_ = (Value.int .i64 x10_) ∧ R (Value.tuple #[(Value.int .i64 x9), (Value.bool (x10_ == (0 : Int)))]) h9_)) (R (Value.tuple #[(Value.int .i64 x9), (Value.bool false)]) h))
theorem f23.l0_in {R A0 n0 c0 s1 v2 x8 x9 x10 h} (H : f23.l0T R A0 n0 c0 s1 v2 x8 x9 x10 h) : f23.l0 R A0 n0 c0 s1 v2 x8 x9 x10 h := pt_in (kp := f23.kp) mixed f23.good (by kernel_rfl) H
def f23.runT (R : VP) (A0 : Option Addr) (n0 c0 : Nat) (s1 : ByteArray) (v2 : Value) (h : Heap) : Prop :=
 f23.l0 R A0 n0 c0 s1 v2 ((n0 : Nat) : Int) (0 : Int) ((n0 : Nat) : Int) h
theorem f23.run {R : VP} {A0 : Option Addr} {n0 c0 : Nat} {s1 : ByteArray} {v2 : Value} {h : Heap} (H : f23.runT R A0 n0 c0 s1 v2 h) : Run Tryd.prog 23 #[(Value.slice A0 n0 c0), (Value.string s1), v2] h R := run_in (kp := f23.kp) mixed Tryd.func23 (by kernel_rfl) (by kernel_rfl) f23.good (by kernel_rfl) H
def f35.T : Tab := { sh := tSh, tup := tTup, keep := [], plan := [] }
def f35.kp : Keep := []
theorem f35.good : goodCode Tryd.prog f35.T (rootOf Tryd.f35) = true := by kernel_rfl
def f35.runT (R : VP) (s0 s1 : ByteArray) (h : Heap) : Prop :=
 ExtF Tryd.prog 50 #[(Value.string s0), (Value.string s1)] h fun v1_ h2_ => ∃ x3_, v1_ = (Value.int .i64 x3_) ∧ R (Value.int .i64 x3_) h2_
theorem f35.run {R : VP} {s0 s1 : ByteArray} {h : Heap} (H : f35.runT R s0 s1 h) : Run Tryd.prog 35 #[(Value.string s0), (Value.string s1)] h R := run_in (kp := f35.kp) mixed Tryd.func35 (by kernel_rfl) (by kernel_rfl) f35.good (by kernel_rfl) H
def f25.T : Tab := { sh := tSh, tup := tTup, keep := [], plan := [] }
def f25.kp : Keep := []
theorem f25.good : goodCode Tryd.prog f25.T (rootOf Tryd.f25) = true := by kernel_rfl
def f25.runT (R : VP) (s0 s1 : ByteArray) (h : Heap) : Prop :=
 Run Tryd.prog 35 #[(Value.string s0), (Value.string s1)] h fun v1_ h2_ => ∃ x3_, v1_ = (Value.int .i64 x3_) ∧ R (Value.int .i64 x3_) h2_
theorem f25.run {R : VP} {s0 s1 : ByteArray} {h : Heap} (H : f25.runT R s0 s1 h) : Run Tryd.prog 25 #[(Value.string s0), (Value.string s1)] h R := run_in (kp := f25.kp) mixed Tryd.func25 (by kernel_rfl) (by kernel_rfl) f25.good (by kernel_rfl) H
def f48.T : Tab := { sh := tSh, tup := tTup, keep := [], plan := [] }
def f48.kp : Keep := []
theorem f48.good : goodCode Tryd.prog f48.T (rootOf Tryd.f48) = true := by kernel_rfl
theorem f48.ok : calleeOk Tryd.prog 48 = true := by kernel_rfl
def f48.runT (R : VP) (v0 : Value) (s1 : ByteArray) (h : Heap) : Prop :=
 newH h (Obj.cells ((v0).cells) 33) fun h1_ => ∃ v2_, ldv false 1 h1_ (⟨Array.size h, 0, none⟩) = some v2_ ∧ ∃ s3_, v2_ = (Value.string s3_) ∧ Run Tryd.prog 25 #[(Value.string s3_), (Value.string s1)] h1_ fun v4_ h5_ => ∃ x6_, v4_ = (Value.int .i64 x6_) ∧ R (Value.int .i64 x6_) h5_
theorem f48.run {R : VP} {v0 : Value} {s1 : ByteArray} {h : Heap} (H : f48.runT R v0 s1 h) : Run Tryd.prog 48 #[v0, (Value.string s1)] h R := run_in (kp := f48.kp) mixed Tryd.func48 (by kernel_rfl) (by kernel_rfl) f48.good (by kernel_rfl) H
def f33.T : Tab := { sh := tSh, tup := tTup, keep := [], plan := [] }
def f33.kp : Keep := []
theorem f33.good : goodCode Tryd.prog f33.T (rootOf Tryd.f33) = true := by kernel_rfl
def f33.runT (R : VP) (a0 : Addr) (s1 : ByteArray) (h : Heap) : Prop :=
 ∃ v1_, ldv false 1 h (Addr.add a0 2) = some v1_ ∧ ∃ A2_, ∃ n2_, ∃ c2_, v1_ = (Value.slice A2_ n2_ c2_) ∧ Run Tryd.prog 23 #[(Value.slice A2_ n2_ c2_), (Value.string s1), (Value.func (.func 48) #[] #[])] h fun v3_ h4_ => ∃ x5_, ∃ b6_, v3_ = (Value.tuple #[(Value.int .i64 x5_), (Value.bool b6_)]) ∧ R (Value.tuple #[(Value.int .i64 x5_), (Value.bool b6_)]) h4_
theorem f33.run {R : VP} {a0 : Addr} {s1 : ByteArray} {h : Heap} (H : f33.runT R a0 s1 h) : Run Tryd.prog 33 #[(Value.pointer (some a0)), (Value.string s1)] h R := run_in (kp := f33.kp) mixed Tryd.func33 (by kernel_rfl) (by kernel_rfl) f33.good (by kernel_rfl) H
def f17.T : Tab := { sh := tSh, tup := tTup, keep := [], plan := [(7, (.take 0 (.take 1 (.take 2 (.take 3 (.take 4 (.take 6 (.take 7 (.take 8 (.take 5 (.take 9 (.alt false false [] 10 (.eff false true [] 11 (.eff false false [] 12 .done)) (.eff false true [] 11 (.eff false false [] 10 (.eff false false [] 12 .done))))))))))))))), (9, (.take 0 (.take 1 (.take 2 (.take 4 (.take 3 (.take 5 (.take 6 (.eff false false [] 7 .done))))))))), (10, (.take 0 (.take 1 (.take 2 (.take 3 (.take 5 (.take 4 (.take 6 (.eff false true [] 7 (.eff false false [] 8 (.take 9 (.take 10 (.eff false false [] 11 .done)))))))))))))] }
def f17.kp : Keep := [([true, true, true], [0, 1, 2, 7, 8]), ([true, true, true, true, true, true], [0, 7, 8, 9])]
theorem f17.good : goodCode Tryd.prog f17.T (rootOf Tryd.f17) = true := by kernel_rfl
def f17.j0 (R a0 s1 x2 x7 b8 h) := Pt Tryd.prog Tryd.f17 R [true, true, true] (mkFr [(0, (Value.pointer (some a0))), (1, (Value.string s1)), (2, (Value.int .i64 x2)), (7, (Value.int .i64 x7)), (8, (Value.bool b8))]) h
def f17.j1 (R a0 x7 b8 a9 h) := Pt Tryd.prog Tryd.f17 R [true, true, true, true, true, true] (mkFr [(0, (Value.pointer (some a0))), (7, (Value.int .i64 x7)), (8, (Value.bool b8)), (9, (Value.pointer (some a9)))]) h
def f17.j0T (R : VP) (a0 : Addr) (s1 : ByteArray) (x2 x7 : Int) (b8 : Bool) (h : Heap) : Prop :=
 ∃ v1_, ldv false 1 h (Addr.add a0 1) = some v1_ ∧ ∃ x2_, v1_ = (Value.int .i64 x2_) ∧ splitB (x2_ == (1099511627776 : Int)) (R (Value.int .i64 (2 : Int)) h) (∃ v3_, ldv false 1 h (Addr.add a0 1) = some v3_ ∧ ∃ x4_, v3_ = (Value.int .i64 x4_) ∧ ∃ h5_, st1 h (Addr.add a0 1) (Value.int .i64 (IntKind.wrap .i64 (x4_ + (1 : Int)))) = some h5_ ∧ ∃ v6_, ldv false 1 h5_ (Addr.add a0 1) = some v6_ ∧ ∃ x7_, v6_ = (Value.int .i64 x7_) ∧ ∃ v8_, ldv false 1 h5_ a0 = some v8_ ∧ ∃ x9_, v8_ = (Value.int .i64 x9_) ∧ (newH h5_ (Obj.cells #[(Value.string (ByteArray.mk #[])), (Value.int .i64 (0 : Int)), (Value.int .i64 (0 : Int)), (Value.int .i64 (0 : Int))] 33) fun h10_ => Ext h5_ h10_ ∧ (∃ l12_ : List Value, (Value.agg #[(Value.string s1), (Value.int .i64 x2), (Value.int .i64 x7_), (Value.int .i64 x9_)]) = Value.agg l12_.toArray ∧ l12_.length = 4 ∧ ∃ h11_, stH h10_ (⟨Array.size h5_, 0, none⟩) l12_ 0 = some h11_ ∧ f17.j1 R a0 x7 b8 (⟨Array.size h5_, 0, none⟩) h11_)) ∧ (newH h5_ (Obj.cells #[(Value.string (ByteArray.mk #[])), (Value.int .i64 (0 : Int)), (Value.int .i64 (0 : Int)), (Value.int .i64 (0 : Int))] 33) fun h13_ => Ext h5_ h13_ ∧ (∃ l15_ : List Value, (Value.agg #[(Value.string s1), (Value.int .i64 x2), (Value.int .i64 x7_), (Value.int .i64 x9_)]) = Value.agg l15_.toArray ∧ l15_.length = 4 ∧ ∃ h14_, stH h13_ (⟨Array.size h5_, 0, none⟩) l15_ 0 = some h14_ ∧ f17.j1 R a0 x7 b8 (⟨Array.size h5_, 0, none⟩) h14_)))
theorem f17.j0_in {R a0 s1 x2 x7 b8 h} (H : f17.j0T R a0 s1 x2 x7 b8 h) : f17.j0 R a0 s1 x2 x7 b8 h := pt_in (kp := f17.kp) mixed f17.good (by kernel_rfl) H
def f17.j1T (R : VP) (a0 : Addr) (x7 : Int) (b8 : Bool) (a9 : Addr) (h : Heap) : Prop :=
 splitB b8 (∃ v1_, ldv false 1 h (Addr.add a0 2) = some v1_ ∧ ∃ A2_, ∃ n2_, ∃ c2_, v1_ = (Value.slice A2_ n2_ c2_) ∧ ∃ v3_, ldv true 4 h a9 = some v3_ ∧ ptrOk A2_ fun a4_ => 0 ≤ x7 ∧ x7 < ((n2_ : Nat) : Int) ∧ (∃ l6_ : List Value, v3_ = Value.agg l6_.toArray ∧ l6_.length = 4 ∧ ∃ h5_, stH h (Addr.add a4_ (Int.toNat x7 * 4)) l6_ 0 = some h5_ ∧ R (Value.int .i64 (0 : Int)) h5_)) (∃ v7_, ldv false 1 h (Addr.add a0 2) = some v7_ ∧ ∃ A8_, ∃ n8_, ∃ c8_, v7_ = (Value.slice A8_ n8_ c8_) ∧ ∃ v9_, ldv true 4 h a9 = some v9_ ∧ ∃ l10_ : List Value, v9_ = Value.agg l10_.toArray ∧ l10_.length = 4 ∧ (newH h (Obj.cells ((List.take 0 ([(Value.string (ByteArray.mk #[])), (Value.int .i64 (0 : Int)), (Value.int .i64 (0 : Int)), (Value.int .i64 (0 : Int))]) ++ l10_ ++ List.drop 4 ([(Value.string (ByteArray.mk #[])), (Value.int .i64 (0 : Int)), (Value.int .i64 (0 : Int)), (Value.int .i64 (0 : Int))])).toArray) 33) fun h11_ => Ext h h11_ ∧ (Run Tryd.prog 26 #[(Value.slice A8_ n8_ c8_), (Value.int .i64 x7), (Value.slice (some ⟨Array.size h, 0, none⟩) 1 1)] h11_ fun v12_ h13_ => ∃ A14_, ∃ n14_, ∃ c14_, v12_ = (Value.slice A14_ n14_ c14_) ∧ ∃ h15_, st1 h13_ (Addr.add a0 2) (Value.slice A14_ n14_ c14_) = some h15_ ∧ R (Value.int .i64 (0 : Int)) h15_)))
theorem f17.j1_in {R a0 x7 b8 a9 h} (H : f17.j1T R a0 x7 b8 a9 h) : f17.j1 R a0 x7 b8 a9 h := pt_in (kp := f17.kp) mixed f17.good (by kernel_rfl) H
def f17.runT (R : VP) (a0 : Addr) (s1 : ByteArray) (x2 : Int) (h : Heap) : Prop :=
 Run Tryd.prog 33 #[(Value.pointer (some a0)), (Value.string s1)] h fun v1_ h2_ => ∃ x3_, ∃ b4_, v1_ = (Value.tuple #[(Value.int .i64 x3_), (Value.bool b4_)]) ∧ splitB (!b4_) (∃ v5_, ldv false 1 h2_ (Addr.add a0 2) = some v5_ ∧ ∃ A6_, ∃ n6_, ∃ c6_, v5_ = (Value.slice A6_ n6_ c6_) ∧ splitB (((n6_ : Nat) : Int) == (60 : Int)) (R (Value.int .i64 (6 : Int)) h2_) (f17.j0 R a0 s1 x2 x3_ b4_ h2_)) (f17.j0 R a0 s1 x2 x3_ b4_ h2_)
theorem f17.run {R : VP} {a0 : Addr} {s1 : ByteArray} {x2 : Int} {h : Heap} (H : f17.runT R a0 s1 x2 h) : Run Tryd.prog 17 #[(Value.pointer (some a0)), (Value.string s1), (Value.int .i64 x2)] h R := run_in (kp := f17.kp) mixed Tryd.func17 (by kernel_rfl) (by kernel_rfl) f17.good (by kernel_rfl) H
def f5.T : Tab := { sh := tSh, tup := tTup, keep := [], plan := [] }
def f5.kp : Keep := []
theorem f5.good : goodCode Tryd.prog f5.T (rootOf Tryd.f5) = true := by kernel_rfl
def f5.runT (R : VP) (a0 : Addr) (s1 : ByteArray) (x2 : Int) (h : Heap) : Prop :=
 Run Tryd.prog 16 #[(Value.string s1)] h fun v1_ h2_ => ∃ b3_, v1_ = (Value.bool b3_) ∧ splitB (!b3_) (R (Value.int .i64 (3 : Int)) h2_) (splitB (decide (x2 < (1 : Int))) (R (Value.int .i64 (1 : Int)) h2_) (Run Tryd.prog 17 #[(Value.pointer (some a0)), (Value.string s1), (Value.int .i64 x2)] h2_ fun v4_ h5_ => ∃ x6_, v4_ = (Value.int .i64 x6_) ∧ R (Value.int .i64 x6_) h5_))
theorem f5.run {R : VP} {a0 : Addr} {s1 : ByteArray} {x2 : Int} {h : Heap} (H : f5.runT R a0 s1 x2 h) : Run Tryd.prog 5 #[(Value.pointer (some a0)), (Value.string s1), (Value.int .i64 x2)] h R := run_in (kp := f5.kp) mixed Tryd.func5 (by kernel_rfl) (by kernel_rfl) f5.good (by kernel_rfl) H
def f6.T : Tab := { sh := tSh, tup := tTup, keep := [], plan := [(6, (.take 0 (.take 1 (.take 2 (.take 4 (.take 5 (.take 6 (.take 3 (.take 7 (.eff false false [] 8 .done))))))))))] }
def f6.kp : Keep := [([false, false, true, false, true, true], [0, 1, 12, 13])]
theorem f6.good : goodCode Tryd.prog f6.T (rootOf Tryd.f6) = true := by kernel_rfl
def f6.l0 (R A0 n0 c0 A1 n1 c1 x12 x13 h) := Pt Tryd.prog Tryd.f6 R [false, false, true, false, true, true] (mkFr [(0, (Value.slice A0 n0 c0)), (1, (Value.slice A1 n1 c1)), (12, (Value.int .i64 x12)), (13, (Value.int .i64 x13))]) h
def f6.l0T (R : VP) (A0 : Option Addr) (n0 c0 : Nat) (A1 : Option Addr) (n1 c1 : Nat) (x12 x13 : Int) (h : Heap) : Prop :=
 splitB (decide (x13 < x12)) (ptrOk A0 fun a1_ => 0 ≤ x13 ∧ x13 < ((n0 : Nat) : Int) ∧ (ptrOk A1 fun a2_ => 0 ≤ x13 ∧ x13 < ((n1 : Nat) : Int) ∧ (∃ v3_, ldv true 4 h (Addr.add a1_ (Int.toNat x13 * 4)) = some v3_ ∧ ∃ v4_, ldv true 4 h (Addr.add a2_ (Int.toNat x13 * 4)) = some v4_ ∧ Gen Tryd.prog (do eqGuard .neq 33 (.tmp 19) (.tmp 23) v3_ v4_; binOp .neq 33 v3_ v4_) h fun v5_ h6_ => ∃ b7_, v5_ = Value.bool b7_ ∧ splitB b7_ (R (Value.bool false) h6_) (f6.l0 R A0 n0 c0 A1 n1 c1 x12 (IntKind.wrap .i64 (x13 + (1 : Int))) h6_)))) (R (Value.bool true) h)
theorem f6.l0_in {R A0 n0 c0 A1 n1 c1 x12 x13 h} (H : f6.l0T R A0 n0 c0 A1 n1 c1 x12 x13 h) : f6.l0 R A0 n0 c0 A1 n1 c1 x12 x13 h := pt_in (kp := f6.kp) mixed f6.good (by kernel_rfl) H
def f6.runT (R : VP) (A0 : Option Addr) (n0 c0 : Nat) (A1 : Option Addr) (n1 c1 : Nat) (h : Heap) : Prop :=
 splitB (((n0 : Nat) : Int) != ((n1 : Nat) : Int)) (R (Value.bool false) h) (f6.l0 R A0 n0 c0 A1 n1 c1 ((n0 : Nat) : Int) (0 : Int) h)
theorem f6.run {R : VP} {A0 : Option Addr} {n0 c0 : Nat} {A1 : Option Addr} {n1 c1 : Nat} {h : Heap} (H : f6.runT R A0 n0 c0 A1 n1 c1 h) : Run Tryd.prog 6 #[(Value.slice A0 n0 c0), (Value.slice A1 n1 c1)] h R := run_in (kp := f6.kp) mixed Tryd.func6 (by kernel_rfl) (by kernel_rfl) f6.good (by kernel_rfl) H
def f18.T : Tab := { sh := tSh, tup := tTup, keep := [], plan := [] }
def f18.kp : Keep := []
theorem f18.good : goodCode Tryd.prog f18.T (rootOf Tryd.f18) = true := by kernel_rfl
def f18.runT (R : VP) (A0 : Option Addr) (n0 c0 : Nat) (h : Heap) : Prop :=
 splitB (Option.isNone A0) (R (Value.slice none 0 0) h) (newH h (Obj.cells #[] 33) fun h1_ => AppW 33 4 40 #[(Value.string (ByteArray.mk #[])), (Value.int .i64 (0 : Int)), (Value.int .i64 (0 : Int)), (Value.int .i64 (0 : Int))] (some ⟨Array.size h, 0, none⟩) 0 0 (Value.slice A0 n0 c0) h1_ fun v2_ h3_ => ∃ A4_, ∃ n4_, ∃ c4_, v2_ = (Value.slice A4_ n4_ c4_) ∧ R (Value.slice A4_ n4_ c4_) h3_)
theorem f18.run {R : VP} {A0 : Option Addr} {n0 c0 : Nat} {h : Heap} (H : f18.runT R A0 n0 c0 h) : Run Tryd.prog 18 #[(Value.slice A0 n0 c0)] h R := run_in (kp := f18.kp) mixed Tryd.func18 (by kernel_rfl) (by kernel_rfl) f18.good (by kernel_rfl) H
def f7.T : Tab := { sh := tSh, tup := tTup, keep := [], plan := [] }
def f7.kp : Keep := []
theorem f7.good : goodCode Tryd.prog f7.T (rootOf Tryd.f7) = true := by kernel_rfl
def f7.runT (R : VP) (a0 : Addr) (h : Heap) : Prop :=
 ∃ v1_, ldv false 1 h (Addr.add a0 2) = some v1_ ∧ ∃ A2_, ∃ n2_, ∃ c2_, v1_ = (Value.slice A2_ n2_ c2_) ∧ Run Tryd.prog 18 #[(Value.slice A2_ n2_ c2_)] h fun v3_ h4_ => ∃ A5_, ∃ n5_, ∃ c5_, v3_ = (Value.slice A5_ n5_ c5_) ∧ R (Value.slice A5_ n5_ c5_) h4_
theorem f7.run {R : VP} {a0 : Addr} {h : Heap} (H : f7.runT R a0 h) : Run Tryd.prog 7 #[(Value.pointer (some a0))] h R := run_in (kp := f7.kp) mixed Tryd.func7 (by kernel_rfl) (by kernel_rfl) f7.good (by kernel_rfl) H
def f8.T : Tab := { sh := tSh, tup := tTup, keep := [], plan := [] }
def f8.kp : Keep := []
theorem f8.good : goodCode Tryd.prog f8.T (rootOf Tryd.f8) = true := by kernel_rfl
def f8.runT (R : VP) (A0 : Option Addr) (n0 c0 : Nat) (x1 : Int) (h : Heap) : Prop :=
 splitB (((n0 : Nat) : Int) == (0 : Int)) (R (Value.string (ByteArray.mk #[])) h) ((IntKind.wrap .u64 ((n0 : Nat) : Int)) ≠ 0 ∧ (ptrOk A0 fun a1_ => 0 ≤ (IntKind.wrap .i64 (Int.tmod (IntKind.wrap .u64 x1) (IntKind.wrap .u64 ((n0 : Nat) : Int)))) ∧ (IntKind.wrap .i64 (Int.tmod (IntKind.wrap .u64 x1) (IntKind.wrap .u64 ((n0 : Nat) : Int)))) < ((n0 : Nat) : Int) ∧ (∃ v2_, ldv false 1 h (Addr.add a1_ (Int.toNat (IntKind.wrap .i64 (Int.tmod (IntKind.wrap .u64 x1) (IntKind.wrap .u64 ((n0 : Nat) : Int)))) * 1)) = some v2_ ∧ ∃ s3_, v2_ = (Value.string s3_) ∧ R (Value.string s3_) h)))
theorem f8.run {R : VP} {A0 : Option Addr} {n0 c0 : Nat} {x1 : Int} {h : Heap} (H : f8.runT R A0 n0 c0 x1 h) : Run Tryd.prog 8 #[(Value.slice A0 n0 c0), (Value.int .i64 x1)] h R := run_in (kp := f8.kp) mixed Tryd.func8 (by kernel_rfl) (by kernel_rfl) f8.good (by kernel_rfl) H
def f9.T : Tab := { sh := tSh, tup := tTup, keep := [], plan := [] }
def f9.kp : Keep := []
theorem f9.good : goodCode Tryd.prog f9.T (rootOf Tryd.f9) = true := by kernel_rfl
def f9.runT (R : VP) (A0 : Option Addr) (n0 c0 : Nat) (x1 : Int) (h : Heap) : Prop :=
 splitB (decide (x1 < ((n0 : Nat) : Int))) (ptrOk A0 fun a1_ => 0 ≤ x1 ∧ x1 < ((n0 : Nat) : Int) ∧ (∃ v2_, ldv false 1 h (Addr.add a1_ (Int.toNat x1 * 1)) = some v2_ ∧ ∃ x3_, v2_ = (Value.int .i64 x3_) ∧ R (Value.int .i64 x3_) h)) (R (Value.int .i64 (0 : Int)) h)
theorem f9.run {R : VP} {A0 : Option Addr} {n0 c0 : Nat} {x1 : Int} {h : Heap} (H : f9.runT R A0 n0 c0 x1 h) : Run Tryd.prog 9 #[(Value.slice A0 n0 c0), (Value.int .i64 x1)] h R := run_in (kp := f9.kp) mixed Tryd.func9 (by kernel_rfl) (by kernel_rfl) f9.good (by kernel_rfl) H
def f19.T : Tab := { sh := tSh, tup := tTup, keep := [], plan := [] }
def f19.kp : Keep := [([true, false, true, true, true], [0, 6, 29]), ([true, true, true, true], [0, 6])]
theorem f19.good : goodCode Tryd.prog f19.T (rootOf Tryd.f19) = true := by kernel_rfl
def f19.j1 (R a0 x6 b29 h) := Pt Tryd.prog Tryd.f19 R [true, false, true, true, true] (mkFr [(0, (Value.pointer (some a0))), (6, (Value.int .i64 x6)), (29, (Value.bool b29))]) h
def f19.j0 (R a0 x6 h) := Pt Tryd.prog Tryd.f19 R [true, true, true, true] (mkFr [(0, (Value.pointer (some a0))), (6, (Value.int .i64 x6))]) h
def f19.j1T (R : VP) (a0 : Addr) (x6 : Int) (b29 : Bool) (h : Heap) : Prop :=
 splitB b29 (R (Value.tuple #[(Value.int .i64 (0 : Int)), (Value.int .i64 (4 : Int))]) h) (f19.j0 R a0 x6 h)
theorem f19.j1_in {R a0 x6 b29 h} (H : f19.j1T R a0 x6 b29 h) : f19.j1 R a0 x6 b29 h := pt_in (kp := f19.kp) mixed f19.good (by kernel_rfl) H
def f19.j0T (R : VP) (a0 : Addr) (x6 : Int) (h : Heap) : Prop :=
 ∃ v1_, ldv false 1 h (Addr.add a0 2) = some v1_ ∧ ∃ A2_, ∃ n2_, ∃ c2_, v1_ = (Value.slice A2_ n2_ c2_) ∧ ptrOk A2_ fun a3_ => 0 ≤ x6 ∧ x6 < ((n2_ : Nat) : Int) ∧ (∃ v4_, ldv false 1 h (Addr.add (Addr.add a3_ (Int.toNat x6 * 4)) 1) = some v4_ ∧ ∃ x5_, v4_ = (Value.int .i64 x5_) ∧ R (Value.tuple #[(Value.int .i64 x5_), (Value.int .i64 (0 : Int))]) h)
theorem f19.j0_in {R a0 x6 h} (H : f19.j0T R a0 x6 h) : f19.j0 R a0 x6 h := pt_in (kp := f19.kp) mixed f19.good (by kernel_rfl) H
def f19.runT (R : VP) (a0 : Addr) (s1 : ByteArray) (h : Heap) : Prop :=
 Run Tryd.prog 16 #[(Value.string s1)] h fun v1_ h2_ => ∃ b3_, v1_ = (Value.bool b3_) ∧ splitB (!b3_) (R (Value.tuple #[(Value.int .i64 (0 : Int)), (Value.int .i64 (3 : Int))]) h2_) (Run Tryd.prog 33 #[(Value.pointer (some a0)), (Value.string s1)] h2_ fun v4_ h5_ => ∃ x6_, ∃ b7_, v4_ = (Value.tuple #[(Value.int .i64 x6_), (Value.bool b7_)]) ∧ splitB (!b7_) (f19.j1 R a0 x6_ true h5_) (∃ v8_, ldv false 1 h5_ (Addr.add a0 2) = some v8_ ∧ ∃ A9_, ∃ n9_, ∃ c9_, v8_ = (Value.slice A9_ n9_ c9_) ∧ ptrOk A9_ fun a10_ => 0 ≤ x6_ ∧ x6_ < ((n9_ : Nat) : Int) ∧ (∃ v11_, ldv false 1 h5_ (Addr.add (Addr.add a10_ (Int.toNat x6_ * 4)) 1) = some v11_ ∧ ∃ x12_, v11_ = (Value.int .i64 x12_) ∧ f19.j1 R a0 x6_ (x12_ == (0 : Int)) h5_)))
theorem f19.run {R : VP} {a0 : Addr} {s1 : ByteArray} {h : Heap} (H : f19.runT R a0 s1 h) : Run Tryd.prog 19 #[(Value.pointer (some a0)), (Value.string s1)] h R := run_in (kp := f19.kp) mixed Tryd.func19 (by kernel_rfl) (by kernel_rfl) f19.good (by kernel_rfl) H
def f10.T : Tab := { sh := tSh, tup := tTup, keep := [], plan := [] }
def f10.kp : Keep := []
theorem f10.good : goodCode Tryd.prog f10.T (rootOf Tryd.f10) = true := by kernel_rfl
def f10.runT (R : VP) (a0 : Addr) (s1 : ByteArray) (h : Heap) : Prop :=
 Run Tryd.prog 19 #[(Value.pointer (some a0)), (Value.string s1)] h fun v1_ h2_ => ∃ x3_, ∃ x4_, v1_ = (Value.tuple #[(Value.int .i64 x3_), (Value.int .i64 x4_)]) ∧ splitB (x4_ != (0 : Int)) (R (Value.int .i64 x4_) h2_) (Run Tryd.prog 17 #[(Value.pointer (some a0)), (Value.string s1), (Value.int .i64 (0 : Int))] h2_ fun v5_ h6_ => ∃ x7_, v5_ = (Value.int .i64 x7_) ∧ R (Value.int .i64 x7_) h6_)
theorem f10.run {R : VP} {a0 : Addr} {s1 : ByteArray} {h : Heap} (H : f10.runT R a0 s1 h) : Run Tryd.prog 10 #[(Value.pointer (some a0)), (Value.string s1)] h R := run_in (kp := f10.kp) mixed Tryd.func10 (by kernel_rfl) (by kernel_rfl) f10.good (by kernel_rfl) H
def f20.T : Tab := { sh := tSh, tup := tTup, keep := [], plan := [] }
def f20.kp : Keep := []
theorem f20.good : goodCode Tryd.prog f20.T (rootOf Tryd.f20) = true := by kernel_rfl
def f20.runT (R : VP) (x0 x1 x2 : Int) (h : Heap) : Prop :=
 splitB (decide (x0 ≥ x1)) (R (Value.bool (decide (x0 ≤ x2))) h) (R (Value.bool false) h)
theorem f20.run {R : VP} {x0 x1 x2 : Int} {h : Heap} (H : f20.runT R x0 x1 x2 h) : Run Tryd.prog 20 #[(Value.int .i64 x0), (Value.int .i64 x1), (Value.int .i64 x2)] h R := run_in (kp := f20.kp) mixed Tryd.func20 (by kernel_rfl) (by kernel_rfl) f20.good (by kernel_rfl) H
def f49.T : Tab := { sh := tSh, tup := tTup, keep := [], plan := [] }
def f49.kp : Keep := [([true, false, false, true, true], [0, 1, 5, 16]), ([true, true, true, true, true, true, true, false, false, true, true], [0, 1, 5, 36]), ([true, true, true], [0, 1, 5]), ([false, false, false, true, true, true, true, true, true, true, true], [0, 1, 5, 6, 7, 8, 9, 10]), ([true, false, true, false, false, false, true, true, true, true, true, true, true, true], [0, 1, 5, 6, 7, 8, 9, 10]), ([true, false, true, false, true, false, false, false, true, true, true, true, true, true, true, true], [0, 1, 5, 6, 7, 8, 9, 10, 93]), ([true, true, false, true, false, false, false, true, true, true, true, true, true, true, true], [0, 1, 5, 6, 7, 8, 9, 10]), ([true, true, true, true, true, false, true, false, false, false, true, true, true, true, true, true, true, true], [0, 1, 5, 6, 7, 8, 9, 10, 107]), ([true, true, true, true, true, true, true, false, true, false, false, false, true, true, true, true, true, true, true, true], [0, 1, 5, 6, 7, 8, 9, 10, 132])]
theorem f49.good : goodCode Tryd.prog f49.T (rootOf Tryd.f49) = true := by kernel_rfl
def f49.j1 (R s0 s1 x5 b16 h) := Pt Tryd.prog Tryd.f49 R [true, false, false, true, true] (mkFr [(0, (Value.string s0)), (1, (Value.string s1)), (5, (Value.int .i64 x5)), (16, (Value.bool b16))]) h
def f49.j2 (R s0 s1 x5 b36 h) := Pt Tryd.prog Tryd.f49 R [true, true, true, true, true, true, true, false, false, true, true] (mkFr [(0, (Value.string s0)), (1, (Value.string s1)), (5, (Value.int .i64 x5)), (36, (Value.bool b36))]) h
def f49.j1T (R : VP) (s0 s1 : ByteArray) (x5 : Int) (b16 : Bool) (h : Heap) : Prop :=
 splitB b16 (R (Value.int .i64 (0 : Int)) h) (splitB (x5 == (1 : Int)) (0 ≤ (0 : Int) ∧ ∃ y1_, s1[Int.toNat (0 : Int)]? = some y1_ ∧ (Run Tryd.prog 58 #[(Value.string s0), (Value.int .u8 ((UInt8.toNat y1_ : Nat) : Int))] h fun v2_ h3_ => ∃ x4_, v2_ = (Value.int .i64 x4_) ∧ R (Value.int .i64 x4_) h3_)) (splitB (decide (x5 ≥ ((ByteArray.size s0 : Nat) : Int))) (R (Value.int .i64 (-1 : Int)) h) (∃ v5_, ldv false 1 h (⟨0, 0, none⟩) = some v5_ ∧ ∃ x6_, v5_ = (Value.int .i64 x6_) ∧ splitB (decide (x5 ≤ x6_)) (f49.j2 R s0 s1 x5 (decide (((ByteArray.size s0 : Nat) : Int) ≤ (64 : Int))) h) (f49.j2 R s0 s1 x5 false h))))
theorem f49.j1_in {R s0 s1 x5 b16 h} (H : f49.j1T R s0 s1 x5 b16 h) : f49.j1 R s0 s1 x5 b16 h := pt_in (kp := f49.kp) mixed f49.good (by kernel_rfl) H
def f49.runT (R : VP) (s0 s1 : ByteArray) (h : Heap) : Prop :=
 splitB (((ByteArray.size s1 : Nat) : Int) == (0 : Int)) (f49.j1 R s0 s1 ((ByteArray.size s1 : Nat) : Int) true h) (f49.j1 R s0 s1 ((ByteArray.size s1 : Nat) : Int) (ByteArray.toList s1 == ByteArray.toList s0) h)
theorem f49.run {R : VP} {s0 s1 : ByteArray} {h : Heap} (H : f49.runT R s0 s1 h) : Run Tryd.prog 49 #[(Value.string s0), (Value.string s1)] h R := run_in (kp := f49.kp) mixed Tryd.func49 (by kernel_rfl) (by kernel_rfl) f49.good (by kernel_rfl) H
def f34.T : Tab := { sh := tSh, tup := tTup, keep := [], plan := [] }
def f34.kp : Keep := []
theorem f34.good : goodCode Tryd.prog f34.T (rootOf Tryd.f34) = true := by kernel_rfl
def f34.runT (R : VP) (s0 s1 : ByteArray) (h : Heap) : Prop :=
 Run Tryd.prog 49 #[(Value.string s0), (Value.string s1)] h fun v1_ h2_ => ∃ x3_, v1_ = (Value.int .i64 x3_) ∧ R (Value.int .i64 x3_) h2_
theorem f34.run {R : VP} {s0 s1 : ByteArray} {h : Heap} (H : f34.runT R s0 s1 h) : Run Tryd.prog 34 #[(Value.string s0), (Value.string s1)] h R := run_in (kp := f34.kp) mixed Tryd.func34 (by kernel_rfl) (by kernel_rfl) f34.good (by kernel_rfl) H
def f21.T : Tab := { sh := tSh, tup := tTup, keep := [], plan := [] }
def f21.kp : Keep := []
theorem f21.good : goodCode Tryd.prog f21.T (rootOf Tryd.f21) = true := by kernel_rfl
def f21.runT (R : VP) (s0 s1 : ByteArray) (h : Heap) : Prop :=
 Run Tryd.prog 34 #[(Value.string s0), (Value.string s1)] h fun v1_ h2_ => ∃ x3_, v1_ = (Value.int .i64 x3_) ∧ R (Value.bool (decide (x3_ ≥ (0 : Int)))) h2_
theorem f21.run {R : VP} {s0 s1 : ByteArray} {h : Heap} (H : f21.runT R s0 s1 h) : Run Tryd.prog 21 #[(Value.string s0), (Value.string s1)] h R := run_in (kp := f21.kp) mixed Tryd.func21 (by kernel_rfl) (by kernel_rfl) f21.good (by kernel_rfl) H
def f11.T : Tab := { sh := tSh, tup := tTup, keep := [], plan := [] }
def f11.kp : Keep := [([false, false, true, false, true, true], [10, 11, 12])]
theorem f11.good : goodCode Tryd.prog f11.T (rootOf Tryd.f11) = true := by kernel_rfl
def f11.l0 (R A10 n10 c10 x11 x12 h) := Pt Tryd.prog Tryd.f11 R [false, false, true, false, true, true] (mkFr [(10, (Value.slice A10 n10 c10)), (11, (Value.int .i64 x11)), (12, (Value.int .i64 x12))]) h
def f11.l0T (R : VP) (A10 : Option Addr) (n10 c10 : Nat) (x11 x12 : Int) (h : Heap) : Prop :=
 splitB (decide (x12 < x11)) (ptrOk A10 fun a1_ => 0 ≤ x12 ∧ x12 < ((n10 : Nat) : Int) ∧ (∃ v2_, ldv false 1 h (Addr.add a1_ (Int.toNat x12 * 1)) = some v2_ ∧ ∃ x3_, v2_ = (Value.int .u8 x3_) ∧ newH h (Obj.cells #[(Value.int .u8 x3_)] 5) fun h4_ => Gen Tryd.prog (convert 59 9 (Value.slice (some ⟨Array.size h, 0, none⟩) 1 1)) h4_ fun v5_ h6_ => ∃ s7_, v5_ = (Value.string s7_) ∧ Run Tryd.prog 21 #[(Value.string (ByteArray.mk #[97, 98, 99, 100, 101, 102, 103, 104, 105, 106, 107, 108, 109, 110, 111, 112, 113, 114, 115, 116, 117, 118, 119, 120, 121, 122, 48, 49, 50, 51, 52, 53, 54, 55, 56, 57])), (Value.string s7_)] h6_ fun v8_ h9_ => ∃ b10_, v8_ = (Value.bool b10_) ∧ splitB (!b10_) (R (Value.bool false) h9_) (f11.l0 R A10 n10 c10 x11 (IntKind.wrap .i64 (x12 + (1 : Int))) h9_))) (R (Value.bool true) h)
theorem f11.l0_in {R A10 n10 c10 x11 x12 h} (H : f11.l0T R A10 n10 c10 x11 x12 h) : f11.l0 R A10 n10 c10 x11 x12 h := pt_in (kp := f11.kp) mixed f11.good (by kernel_rfl) H
def f11.runT (R : VP) (s0 : ByteArray) (h : Heap) : Prop :=
 Run Tryd.prog 20 #[(Value.int .i64 ((ByteArray.size s0 : Nat) : Int)), (Value.int .i64 (1 : Int)), (Value.int .i64 (16 : Int))] h fun v1_ h2_ => ∃ b3_, v1_ = (Value.bool b3_) ∧ splitB (!b3_) (R (Value.bool false) h2_) (Gen Tryd.prog (convert 9 59 (Value.string s0)) h2_ fun v4_ h5_ => ∃ A6_, ∃ n6_, ∃ c6_, v4_ = (Value.slice A6_ n6_ c6_) ∧ f11.l0 R A6_ n6_ c6_ ((n6_ : Nat) : Int) (0 : Int) h5_)
theorem f11.run {R : VP} {s0 : ByteArray} {h : Heap} (H : f11.runT R s0 h) : Run Tryd.prog 11 #[(Value.string s0)] h R := run_in (kp := f11.kp) mixed Tryd.func11 (by kernel_rfl) (by kernel_rfl) f11.good (by kernel_rfl) H
def f12.T : Tab := { sh := tSh, tup := tTup, keep := [], plan := [] }
def f12.kp : Keep := []
theorem f12.good : goodCode Tryd.prog f12.T (rootOf Tryd.f12) = true := by kernel_rfl
def f12.runT (R : VP) (A0 : Option Addr) (n0 c0 : Nat) (x1 : Int) (h : Heap) : Prop :=
 splitB (((n0 : Nat) : Int) == (0 : Int)) (R (Value.slice none 0 0) h) ((IntKind.wrap .u64 ((n0 : Nat) : Int)) ≠ 0 ∧ (ptrOk A0 fun a1_ => 0 ≤ (IntKind.wrap .i64 (Int.tmod (IntKind.wrap .u64 x1) (IntKind.wrap .u64 ((n0 : Nat) : Int)))) ∧ (IntKind.wrap .i64 (Int.tmod (IntKind.wrap .u64 x1) (IntKind.wrap .u64 ((n0 : Nat) : Int)))) < ((n0 : Nat) : Int) ∧ (∃ v2_, ldv false 1 h (Addr.add a1_ (Int.toNat (IntKind.wrap .i64 (Int.tmod (IntKind.wrap .u64 x1) (IntKind.wrap .u64 ((n0 : Nat) : Int)))) * 1)) = some v2_ ∧ ∃ A3_, ∃ n3_, ∃ c3_, v2_ = (Value.slice A3_ n3_ c3_) ∧ R (Value.slice A3_ n3_ c3_) h)))
theorem f12.run {R : VP} {A0 : Option Addr} {n0 c0 : Nat} {x1 : Int} {h : Heap} (H : f12.runT R A0 n0 c0 x1 h) : Run Tryd.prog 12 #[(Value.slice A0 n0 c0), (Value.int .i64 x1)] h R := run_in (kp := f12.kp) mixed Tryd.func12 (by kernel_rfl) (by kernel_rfl) f12.good (by kernel_rfl) H
def f22.T : Tab := { sh := tSh, tup := tTup, keep := [], plan := [(10, (.take 0 (.take 1 (.take 2 (.split 2 (.take 3 (.take 4 (.take 5 (.take 6 (.take 7 (.take 9 (.take 8 (.take 10 (.take 11 (.take 12 .done)))))))))))))))] }
def f22.kp : Keep := [([false, false, true, false, true, true], [0, 8, 9, 10]), ([true, true, true, false, false, true, true, false, false, true, false, true, true], [0, 3, 4, 8, 9, 10])]
theorem f22.good : goodCode Tryd.prog f22.T (rootOf Tryd.f22) = true := by kernel_rfl
def f22.l0 (R A0 n0 c0 A8 n8 c8 x9 x10 h) := Pt Tryd.prog Tryd.f22 R [false, false, true, false, true, true] (mkFr [(0, (Value.slice A0 n0 c0)), (8, (Value.slice A8 n8 c8)), (9, (Value.int .i64 x9)), (10, (Value.int .i64 x10))]) h
def f22.j0 (R A0 n0 c0 x3 a4 A8 n8 c8 x9 x10 h) := Pt Tryd.prog Tryd.f22 R [true, true, true, false, false, true, true, false, false, true, false, true, true] (mkFr [(0, (Value.slice A0 n0 c0)), (3, (Value.int .i64 x3)), (4, (Value.pointer (some a4))), (8, (Value.slice A8 n8 c8)), (9, (Value.int .i64 x9)), (10, (Value.int .i64 x10))]) h
def f22.l0T (R : VP) (A0 : Option Addr) (n0 c0 : Nat) (A8 : Option Addr) (n8 c8 : Nat) (x9 x10 : Int) (h : Heap) : Prop :=
 splitB (decide (x10 < x9)) (ptrOk A8 fun a1_ => 0 ≤ x10 ∧ x10 < ((n8 : Nat) : Int) ∧ (∃ v2_, ldv true 4 h (Addr.add a1_ (Int.toNat x10 * 4)) = some v2_ ∧ newH h (Obj.cells #[(Value.string (ByteArray.mk #[])), (Value.int .i64 (0 : Int)), (Value.int .i64 (0 : Int)), (Value.int .i64 (0 : Int))] 33) fun h3_ => ∃ l5_ : List Value, v2_ = Value.agg l5_.toArray ∧ l5_.length = 4 ∧ ∃ h4_, stH h3_ (⟨Array.size h, 0, none⟩) l5_ 0 = some h4_ ∧ ∃ v6_, ldv false 1 h4_ (⟨Array.size h, 0, none⟩) = some v6_ ∧ ∃ s7_, v6_ = (Value.string s7_) ∧ Run Tryd.prog 16 #[(Value.string s7_)] h4_ fun v8_ h9_ => ∃ b10_, v8_ = (Value.bool b10_) ∧ splitB (!b10_) (R (Value.int .i64 (3 : Int)) h9_) (∃ v11_, ldv false 1 h9_ (Addr.add (⟨Array.size h, 0, none⟩) 1) = some v11_ ∧ ∃ x12_, v11_ = (Value.int .i64 x12_) ∧ splitB (decide (x12_ < (0 : Int))) (R (Value.int .i64 (1 : Int)) h9_) (∃ v13_, ldv false 1 h9_ (Addr.add (⟨Array.size h, 0, none⟩) 2) = some v13_ ∧ ∃ x14_, v13_ = (Value.int .i64 x14_) ∧ splitB (decide (x14_ < (1 : Int))) (R (Value.int .i64 (1 : Int)) h9_) (∃ v15_, ldv false 1 h9_ (Addr.add (⟨Array.size h, 0, none⟩) 2) = some v15_ ∧ ∃ x16_, v15_ = (Value.int .i64 x16_) ∧ splitB (decide (x16_ > (1099511627776 : Int))) (R (Value.int .i64 (1 : Int)) h9_) (∃ v17_, ldv false 1 h9_ (Addr.add (⟨Array.size h, 0, none⟩) 3) = some v17_ ∧ ∃ x18_, v17_ = (Value.int .i64 x18_) ∧ splitB (decide (x18_ < (1 : Int))) (R (Value.int .i64 (1 : Int)) h9_) (∃ v19_, ldv false 1 h9_ (Addr.add (⟨Array.size h, 0, none⟩) 3) = some v19_ ∧ ∃ x20_, v19_ = (Value.int .i64 x20_) ∧ splitB (decide (x20_ > (8 : Int))) (R (Value.int .i64 (1 : Int)) h9_) (f22.j0 R A0 n0 c0 x10 (⟨Array.size h, 0, none⟩) A8 n8 c8 x9 x10 h9_)))))))) (R (Value.int .i64 (0 : Int)) h)
theorem f22.l0_in {R A0 n0 c0 A8 n8 c8 x9 x10 h} (H : f22.l0T R A0 n0 c0 A8 n8 c8 x9 x10 h) : f22.l0 R A0 n0 c0 A8 n8 c8 x9 x10 h := pt_in (kp := f22.kp) mixed f22.good (by kernel_rfl) H
def f22.j0T (R : VP) (A0 : Option Addr) (n0 c0 : Nat) (x3 : Int) (a4 : Addr) (A8 : Option Addr) (n8 c8 : Nat) (x9 x10 : Int) (h : Heap) : Prop :=
 splitB (decide (x3 > (0 : Int))) (ptrOk A0 fun a1_ => 0 ≤ (IntKind.wrap .i64 (x3 - (1 : Int))) ∧ (IntKind.wrap .i64 (x3 - (1 : Int))) < ((n0 : Nat) : Int) ∧ (∃ v2_, ldv false 1 h (Addr.add a1_ (Int.toNat (IntKind.wrap .i64 (x3 - (1 : Int))) * 4)) = some v2_ ∧ ∃ s3_, v2_ = (Value.string s3_) ∧ ∃ v4_, ldv false 1 h a4 = some v4_ ∧ ∃ s5_, v4_ = (Value.string s5_) ∧ splitB (!(Op.bytesLess (ByteArray.toList s3_) (ByteArray.toList s5_))) (R (Value.int .i64 (21 : Int)) h) (f22.l0 R A0 n0 c0 A8 n8 c8 x9 (IntKind.wrap .i64 (x10 + (1 : Int))) h))) (f22.l0 R A0 n0 c0 A8 n8 c8 x9 (IntKind.wrap .i64 (x10 + (1 : Int))) h)
theorem f22.j0_in {R A0 n0 c0 x3 a4 A8 n8 c8 x9 x10 h} (H : f22.j0T R A0 n0 c0 x3 a4 A8 n8 c8 x9 x10 h) : f22.j0 R A0 n0 c0 x3 a4 A8 n8 c8 x9 x10 h := pt_in (kp := f22.kp) mixed f22.good (by kernel_rfl) H
def f22.runT (R : VP) (A0 : Option Addr) (n0 c0 : Nat) (h : Heap) : Prop :=
 splitB (decide (((n0 : Nat) : Int) > (60 : Int))) (R (Value.int .i64 (2 : Int)) h) (f22.l0 R A0 n0 c0 A0 n0 c0 ((n0 : Nat) : Int) (0 : Int) h)
theorem f22.run {R : VP} {A0 : Option Addr} {n0 c0 : Nat} {h : Heap} (H : f22.runT R A0 n0 c0 h) : Run Tryd.prog 22 #[(Value.slice A0 n0 c0)] h R := run_in (kp := f22.kp) mixed Tryd.func22 (by kernel_rfl) (by kernel_rfl) f22.good (by kernel_rfl) H
def f24.T : Tab := { sh := tSh, tup := tTup, keep := [], plan := [] }
def f24.kp : Keep := []
theorem f24.good : goodCode Tryd.prog f24.T (rootOf Tryd.f24) = true := by kernel_rfl
theorem f24.ok : calleeOk Tryd.prog 24 = true := by kernel_rfl
def f24.runT (R : VP) (v0 : Value) (s1 : ByteArray) (h : Heap) : Prop :=
 newH h (Obj.cells ((v0).cells) 33) fun h1_ => ∃ v2_, ldv false 1 h1_ (⟨Array.size h, 0, none⟩) = some v2_ ∧ ∃ s3_, v2_ = (Value.string s3_) ∧ Run Tryd.prog 25 #[(Value.string s3_), (Value.string s1)] h1_ fun v4_ h5_ => ∃ x6_, v4_ = (Value.int .i64 x6_) ∧ R (Value.int .i64 x6_) h5_
theorem f24.run {R : VP} {v0 : Value} {s1 : ByteArray} {h : Heap} (H : f24.runT R v0 s1 h) : Run Tryd.prog 24 #[v0, (Value.string s1)] h R := run_in (kp := f24.kp) mixed Tryd.func24 (by kernel_rfl) (by kernel_rfl) f24.good (by kernel_rfl) H
def f38.T : Tab := { sh := tSh, tup := tTup, keep := [], plan := [] }
def f38.kp : Keep := [([false, false, true, false, true, true], [3, 6, 7, 8])]
theorem f38.good : goodCode Tryd.prog f38.T (rootOf Tryd.f38) = true := by kernel_rfl
def f38.l0 (R x3 A6 n6 c6 x7 x8 h) := Pt Tryd.prog Tryd.f38 R [false, false, true, false, true, true] (mkFr [(3, (Value.int .i64 x3)), (6, (Value.slice A6 n6 c6)), (7, (Value.int .i64 x7)), (8, (Value.int .i64 x8))]) h
def f38.l0T (R : VP) (x3 : Int) (A6 : Option Addr) (n6 c6 : Nat) (x7 x8 : Int) (h : Heap) : Prop :=
 splitB (decide (x8 < x7)) (ptrOk A6 fun a1_ => 0 ≤ x8 ∧ x8 < ((n6 : Nat) : Int) ∧ (∃ v2_, ldv false 1 h (Addr.add a1_ (Int.toNat x8 * 1)) = some v2_ ∧ ∃ x3_, v2_ = (Value.int .i64 x3_) ∧ splitB (x3_ != x3) (R (Value.int .i64 x3_) h) (f38.l0 R x3 A6 n6 c6 x7 (IntKind.wrap .i64 (x8 + (1 : Int))) h))) (R (Value.int .i64 x3) h)
theorem f38.l0_in {R x3 A6 n6 c6 x7 x8 h} (H : f38.l0T R x3 A6 n6 c6 x7 x8 h) : f38.l0 R x3 A6 n6 c6 x7 x8 h := pt_in (kp := f38.kp) mixed f38.good (by kernel_rfl) H
def f38.runT (R : VP) (A0 : Option Addr) (n0 c0 : Nat) (h : Heap) : Prop :=
 f38.l0 R (0 : Int) A0 n0 c0 ((n0 : Nat) : Int) (0 : Int) h
theorem f38.run {R : VP} {A0 : Option Addr} {n0 c0 : Nat} {h : Heap} (H : f38.runT R A0 n0 c0 h) : Run Tryd.prog 38 #[(Value.slice A0 n0 c0)] h R := run_in (kp := f38.kp) mixed Tryd.func38 (by kernel_rfl) (by kernel_rfl) f38.good (by kernel_rfl) H
def f52.T : Tab := { sh := tSh, tup := tTup, keep := [], plan := [] }
def f52.kp : Keep := []
theorem f52.good : goodCode Tryd.prog f52.T (rootOf Tryd.f52) = true := by kernel_rfl
def f52.runT (R : VP) (x0 : Int) (h : Heap) : Prop :=
 R (Value.bool (x0 != x0)) h
theorem f52.run {R : VP} {x0 : Int} {h : Heap} (H : f52.runT R x0 h) : Run Tryd.prog 52 #[(Value.int .i64 x0)] h R := run_in (kp := f52.kp) mixed Tryd.func52 (by kernel_rfl) (by kernel_rfl) f52.good (by kernel_rfl) H
def f39.T : Tab := { sh := tSh, tup := tTup, keep := [], plan := [] }
def f39.kp : Keep := []
theorem f39.good : goodCode Tryd.prog f39.T (rootOf Tryd.f39) = true := by kernel_rfl
def f39.runT (R : VP) (x0 x1 : Int) (h : Heap) : Prop :=
 Run Tryd.prog 52 #[(Value.int .i64 x0)] h fun v1_ h2_ => ∃ b3_, v1_ = (Value.bool b3_) ∧ Run Tryd.prog 52 #[(Value.int .i64 x1)] h2_ fun v4_ h5_ => ∃ b6_, v4_ = (Value.bool b6_) ∧ splitB b3_ (splitB b6_ (R (Value.int .i64 (0 : Int)) h5_) (R (Value.int .i64 (-1 : Int)) h5_)) (splitB b6_ (R (Value.int .i64 (1 : Int)) h5_) (splitB (decide (x0 < x1)) (R (Value.int .i64 (-1 : Int)) h5_) (splitB (decide (x0 > x1)) (R (Value.int .i64 (1 : Int)) h5_) (R (Value.int .i64 (0 : Int)) h5_))))
theorem f39.run {R : VP} {x0 x1 : Int} {h : Heap} (H : f39.runT R x0 x1 h) : Run Tryd.prog 39 #[(Value.int .i64 x0), (Value.int .i64 x1)] h R := run_in (kp := f39.kp) mixed Tryd.func39 (by kernel_rfl) (by kernel_rfl) f39.good (by kernel_rfl) H
def f27.T : Tab := { sh := tSh, tup := tTup, keep := [], plan := [(1, (.take 0 (.take 2 (.take 5 (.take 7 (.take 10 (.take 12 (.take 1 (.take 3 (.take 6 (.take 8 (.take 11 (.take 13 (.eff false true [] 4 (.eff false true [] 9 (.eff false false [] 14 (.eff false false [] 15 (.eff false false [] 16 (.take 17 .done)))))))))))))))))))] }
def f27.kp : Keep := []
theorem f27.good : goodCode Tryd.prog f27.T (rootOf Tryd.f27) = true := by kernel_rfl
def f27.runT (R : VP) (v0 v1 : Value) (h : Heap) : Prop :=
 newH h (Obj.cells ((v0).cells) 33) fun h1_ => newH h1_ (Obj.cells ((v1).cells) 33) fun h2_ => ∃ v3_, ldv false 1 h2_ (Addr.add (⟨Array.size h, 0, none⟩) 2) = some v3_ ∧ ∃ x4_, v3_ = (Value.int .i64 x4_) ∧ ∃ v5_, ldv false 1 h2_ (Addr.add (⟨Array.size h1_, 0, none⟩) 2) = some v5_ ∧ ∃ x6_, v5_ = (Value.int .i64 x6_) ∧ ∃ v7_, ldv false 1 h2_ (Addr.add (⟨Array.size h, 0, none⟩) 3) = some v7_ ∧ ∃ x8_, v7_ = (Value.int .i64 x8_) ∧ ∃ v9_, ldv false 1 h2_ (Addr.add (⟨Array.size h1_, 0, none⟩) 3) = some v9_ ∧ ∃ x10_, v9_ = (Value.int .i64 x10_) ∧ ∃ v11_, ldv false 1 h2_ (Addr.add (⟨Array.size h, 0, none⟩) 1) = some v11_ ∧ ∃ x12_, v11_ = (Value.int .i64 x12_) ∧ ∃ v13_, ldv false 1 h2_ (Addr.add (⟨Array.size h1_, 0, none⟩) 1) = some v13_ ∧ ∃ x14_, v13_ = (Value.int .i64 x14_) ∧ Run Tryd.prog 39 #[(Value.int .i64 x4_), (Value.int .i64 x6_)] h2_ fun v15_ h16_ => ∃ x17_, v15_ = (Value.int .i64 x17_) ∧ Ext h2_ h16_ ∧ (Run Tryd.prog 39 #[(Value.int .i64 x8_), (Value.int .i64 x10_)] h16_ fun v18_ h19_ => ∃ x20_, v18_ = (Value.int .i64 x20_) ∧ Ext h2_ h19_ ∧ (Run Tryd.prog 39 #[(Value.int .i64 x12_), (Value.int .i64 x14_)] h19_ fun v21_ h22_ => ∃ x23_, v21_ = (Value.int .i64 x23_) ∧ newH h22_ (Obj.cells #[(Value.int .i64 x17_), (Value.int .i64 x20_), (Value.int .i64 x23_)] 3) fun h24_ => Run Tryd.prog 38 #[(Value.slice (some ⟨Array.size h22_, 0, none⟩) 3 3)] h24_ fun v25_ h26_ => ∃ x27_, v25_ = (Value.int .i64 x27_) ∧ R (Value.int .i64 x27_) h26_))
theorem f27.run {R : VP} {v0 v1 : Value} {h : Heap} (H : f27.runT R v0 v1 h) : Run Tryd.prog 27 #[v0, v1] h R := run_in (kp := f27.kp) mixed Tryd.func27 (by kernel_rfl) (by kernel_rfl) f27.good (by kernel_rfl) H
def f13.T : Tab := { sh := tSh, tup := tTup, keep := [], plan := [(13, (.take 0 (.take 1 (.take 2 (.take 3 (.take 4 (.eff false false [] 5 (.take 6 .done))))))))] }
def f13.kp : Keep := [([false, false, true, false, true, true, true, true], [0, 6, 7, 26, 27, 28])]
theorem f13.good : goodCode Tryd.prog f13.T (rootOf Tryd.f13) = true := by kernel_rfl
def f13.l0 (R a0 A6 n6 c6 x7 A26 n26 c26 x27 x28 h) := Pt Tryd.prog Tryd.f13 R [false, false, true, false, true, true, true, true] (mkFr [(0, (Value.pointer (some a0))), (6, (Value.slice A6 n6 c6)), (7, (Value.int .i64 x7)), (26, (Value.slice A26 n26 c26)), (27, (Value.int .i64 x27)), (28, (Value.int .i64 x28))]) h
def f13.l0T (R : VP) (a0 : Addr) (A6 : Option Addr) (n6 c6 : Nat) (x7 : Int) (A26 : Option Addr) (n26 c26 : Nat) (x27 x28 : Int) (h : Heap) : Prop :=
 splitB (decide (x28 < x27)) (ptrOk A26 fun a1_ => 0 ≤ x28 ∧ x28 < ((n26 : Nat) : Int) ∧ (∃ v2_, ldv true 4 h (Addr.add a1_ (Int.toNat x28 * 4)) = some v2_ ∧ newH h (Obj.cells #[(Value.string (ByteArray.mk #[])), (Value.int .i64 (0 : Int)), (Value.int .i64 (0 : Int)), (Value.int .i64 (0 : Int))] 33) fun h3_ => ∃ l5_ : List Value, v2_ = Value.agg l5_.toArray ∧ l5_.length = 4 ∧ ∃ h4_, stH h3_ (⟨Array.size h, 0, none⟩) l5_ 0 = some h4_ ∧ ∃ v6_, ldv false 1 h4_ (Addr.add (⟨Array.size h, 0, none⟩) 2) = some v6_ ∧ ∃ x7_, v6_ = (Value.int .i64 x7_) ∧ ∃ v8_, ldv false 1 h4_ (⟨Array.size h, 0, none⟩) = some v8_ ∧ ∃ s9_, v8_ = (Value.string s9_) ∧ Run Tryd.prog 23 #[(Value.slice A6 n6 c6), (Value.string s9_), (Value.func (.func 24) #[] #[])] h4_ fun v10_ h11_ => ∃ x12_, ∃ b13_, v10_ = (Value.tuple #[(Value.int .i64 x12_), (Value.bool b13_)]) ∧ splitB (!b13_) (∃ v14_, ldv true 4 h11_ (⟨Array.size h, 0, none⟩) = some v14_ ∧ ∃ l15_ : List Value, v14_ = Value.agg l15_.toArray ∧ l15_.length = 4 ∧ (newH h11_ (Obj.cells ((List.take 0 ([(Value.string (ByteArray.mk #[])), (Value.int .i64 (0 : Int)), (Value.int .i64 (0 : Int)), (Value.int .i64 (0 : Int))]) ++ l15_ ++ List.drop 4 ([(Value.string (ByteArray.mk #[])), (Value.int .i64 (0 : Int)), (Value.int .i64 (0 : Int)), (Value.int .i64 (0 : Int))])).toArray) 33) fun h16_ => Run Tryd.prog 26 #[(Value.slice A6 n6 c6), (Value.int .i64 x12_), (Value.slice (some ⟨Array.size h11_, 0, none⟩) 1 1)] h16_ fun v17_ h18_ => ∃ A19_, ∃ n19_, ∃ c19_, v17_ = (Value.slice A19_ n19_ c19_) ∧ f13.l0 R a0 A19_ n19_ c19_ (if x7_ > x7 then x7_ else x7) A26 n26 c26 x27 (IntKind.wrap .i64 (x28 + (1 : Int))) h18_)) (ptrOk A6 fun a20_ => 0 ≤ x12_ ∧ x12_ < ((n6 : Nat) : Int) ∧ (∃ v21_, ldv true 4 h11_ (Addr.add a20_ (Int.toNat x12_ * 4)) = some v21_ ∧ ∃ v22_, ldv true 4 h11_ (⟨Array.size h, 0, none⟩) = some v22_ ∧ Run Tryd.prog 27 #[v21_, v22_] h11_ fun v23_ h24_ => ∃ x25_, v23_ = (Value.int .i64 x25_) ∧ splitB (decide (x25_ < (0 : Int))) (∃ v26_, ldv true 4 h24_ (⟨Array.size h, 0, none⟩) = some v26_ ∧ ptrOk A6 fun a27_ => 0 ≤ x12_ ∧ x12_ < ((n6 : Nat) : Int) ∧ (∃ l29_ : List Value, v26_ = Value.agg l29_.toArray ∧ l29_.length = 4 ∧ ∃ h28_, stH h24_ (Addr.add a27_ (Int.toNat x12_ * 4)) l29_ 0 = some h28_ ∧ f13.l0 R a0 A6 n6 c6 (if x7_ > x7 then x7_ else x7) A26 n26 c26 x27 (IntKind.wrap .i64 (x28 + (1 : Int))) h28_)) (f13.l0 R a0 A6 n6 c6 (if x7_ > x7 then x7_ else x7) A26 n26 c26 x27 (IntKind.wrap .i64 (x28 + (1 : Int))) h24_))))) (splitB (decide (((n6 : Nat) : Int) > (60 : Int))) (R (Value.int .i64 (6 : Int)) h) (∃ h30_, st1 h (Addr.add a0 2) (Value.slice A6 n6 c6) = some h30_ ∧ ∃ h31_, st1 h30_ (Addr.add a0 1) (Value.int .i64 x7) = some h31_ ∧ R (Value.int .i64 (0 : Int)) h31_))
theorem f13.l0_in {R a0 A6 n6 c6 x7 A26 n26 c26 x27 x28 h} (H : f13.l0T R a0 A6 n6 c6 x7 A26 n26 c26 x27 x28 h) : f13.l0 R a0 A6 n6 c6 x7 A26 n26 c26 x27 x28 h := pt_in (kp := f13.kp) mixed f13.good (by kernel_rfl) H
def f13.runT (R : VP) (a0 : Addr) (A1 : Option Addr) (n1 c1 : Nat) (h : Heap) : Prop :=
 Run Tryd.prog 22 #[(Value.slice A1 n1 c1)] h fun v1_ h2_ => ∃ x3_, v1_ = (Value.int .i64 x3_) ∧ splitB (x3_ != (0 : Int)) (R (Value.int .i64 x3_) h2_) (∃ v4_, ldv false 1 h2_ (Addr.add a0 2) = some v4_ ∧ ∃ A5_, ∃ n5_, ∃ c5_, v4_ = (Value.slice A5_ n5_ c5_) ∧ Run Tryd.prog 18 #[(Value.slice A5_ n5_ c5_)] h2_ fun v6_ h7_ => ∃ A8_, ∃ n8_, ∃ c8_, v6_ = (Value.slice A8_ n8_ c8_) ∧ ∃ v9_, ldv false 1 h7_ (Addr.add a0 1) = some v9_ ∧ ∃ x10_, v9_ = (Value.int .i64 x10_) ∧ f13.l0 R a0 A8_ n8_ c8_ x10_ A1 n1 c1 ((n1 : Nat) : Int) (0 : Int) h7_)
theorem f13.run {R : VP} {a0 : Addr} {A1 : Option Addr} {n1 c1 : Nat} {h : Heap} (H : f13.runT R a0 A1 n1 c1 h) : Run Tryd.prog 13 #[(Value.pointer (some a0)), (Value.slice A1 n1 c1)] h R := run_in (kp := f13.kp) mixed Tryd.func13 (by kernel_rfl) (by kernel_rfl) f13.good (by kernel_rfl) H
def f28.T : Tab := { sh := tSh, tup := tTup, keep := [], plan := [] }
def f28.kp : Keep := []
theorem f28.good : goodCode Tryd.prog f28.T (rootOf Tryd.f28) = true := by kernel_rfl
def f28.runT (R : VP) (v0 v1 : Value) (h : Heap) : Prop :=
 newH h (Obj.cells ((v0).cells) 43) fun h1_ => newH h1_ (Obj.cells ((v1).cells) 43) fun h2_ => ∃ v3_, ldv false 1 h2_ (Addr.add (⟨Array.size h, 0, none⟩) 1) = some v3_ ∧ ∃ x4_, v3_ = (Value.int .i64 x4_) ∧ ∃ v5_, ldv false 1 h2_ (Addr.add (⟨Array.size h1_, 0, none⟩) 1) = some v5_ ∧ ∃ x6_, v5_ = (Value.int .i64 x6_) ∧ splitB (x4_ != x6_) (∃ v7_, ldv false 1 h2_ (Addr.add (⟨Array.size h1_, 0, none⟩) 1) = some v7_ ∧ ∃ x8_, v7_ = (Value.int .i64 x8_) ∧ ∃ v9_, ldv false 1 h2_ (Addr.add (⟨Array.size h, 0, none⟩) 1) = some v9_ ∧ ∃ x10_, v9_ = (Value.int .i64 x10_) ∧ R (Value.bool (decide (x8_ > x10_))) h2_) (∃ v11_, ldv false 1 h2_ (Addr.add (⟨Array.size h, 0, none⟩) 2) = some v11_ ∧ ∃ x12_, v11_ = (Value.int .i64 x12_) ∧ ∃ v13_, ldv false 1 h2_ (Addr.add (⟨Array.size h1_, 0, none⟩) 2) = some v13_ ∧ ∃ x14_, v13_ = (Value.int .i64 x14_) ∧ splitB (x12_ != x14_) (∃ v15_, ldv false 1 h2_ (Addr.add (⟨Array.size h1_, 0, none⟩) 2) = some v15_ ∧ ∃ x16_, v15_ = (Value.int .i64 x16_) ∧ ∃ v17_, ldv false 1 h2_ (Addr.add (⟨Array.size h, 0, none⟩) 2) = some v17_ ∧ ∃ x18_, v17_ = (Value.int .i64 x18_) ∧ R (Value.bool (decide (x16_ > x18_))) h2_) (∃ v19_, ldv false 1 h2_ (⟨Array.size h1_, 0, none⟩) = some v19_ ∧ ∃ x20_, v19_ = (Value.int .i64 x20_) ∧ ∃ v21_, ldv false 1 h2_ (⟨Array.size h, 0, none⟩) = some v21_ ∧ ∃ x22_, v21_ = (Value.int .i64 x22_) ∧ R (Value.bool (decide (x20_ > x22_))) h2_))
theorem f28.run {R : VP} {v0 v1 : Value} {h : Heap} (H : f28.runT R v0 v1 h) : Run Tryd.prog 28 #[v0, v1] h R := run_in (kp := f28.kp) mixed Tryd.func28 (by kernel_rfl) (by kernel_rfl) f28.good (by kernel_rfl) H
def f14.T : Tab := { sh := tSh, tup := tTup, keep := [], plan := [(10, (.take 0 (.take 1 (.take 2 (.split 2 (.take 3 (.take 5 (.take 6 (.take 7 (.take 8 (.take 9 (.take 4 (.take 10 (.take 11 (.take 12 (.take 13 .done)))))))))))))))), (17, (.take 0 (.take 1 (.take 2 (.take 4 (.take 3 (.take 5 (.alt false false [] 6 (.take 7 (.take 8 (.take 9 (.eff false true [] 10 (.eff false false [] 11 (.take 12 .done)))))) (.eff false true [] 10 (.eff false false [] 6 (.take 7 (.take 8 (.take 9 (.eff false false [] 11 (.take 12 .done))))))))))))))), (27, (.take 0 (.take 1 (.take 2 (.take 4 (.take 3 (.take 5 (.alt false false [] 6 (.take 7 (.take 8 (.take 9 (.eff false true [] 10 (.eff false false [] 11 (.take 12 .done)))))) (.eff false true [] 10 (.eff false false [] 6 (.take 7 (.take 8 (.take 9 (.eff false false [] 11 (.take 12 .done))))))))))))))), (29, (.take 0 (.take 1 (.take 2 (.take 4 (.take 3 (.take 5 (.take 6 (.eff false false [] 7 .done))))))))), (30, (.take 0 (.take 1 (.take 2 (.take 3 (.take 5 (.take 4 (.take 6 (.take 7 (.take 8 (.take 9 (.eff false false [] 10 .done))))))))))))] }
def f14.kp : Keep := [([false, false, true, false, true, true], [0, 1, 20, 21, 22]), ([true, true, true, false, true, false, false, true, true, false, false, true, false, true, true], [0, 1, 5, 6, 20, 21, 22, 32]), ([false, false, true, false, true, true, true, true], [0, 1, 7, 71, 72, 73]), ([true, true, false, false, true, true, false, false, true, false, true, true, true, true], [0, 1, 7, 11, 71, 72, 73]), ([false, false, true, false, true, true, true, true, true, true], [0, 100, 101, 102]), ([true, false, true, true, false, false, true, true, false, false, true, false, true, true, true, true, true, true], [0, 13, 14, 15, 16, 100, 101, 102]), ([true, true, false, true, true, false, false, true, true, false, false, true, false, true, true, true, true, true, true], [0, 13, 14, 100, 101, 102, 129]), ([true, true, true, false, false, true, true, false, false, true, false, true, true, true, true, true, true], [0, 13, 100, 101, 102])]
theorem f14.good : goodCode Tryd.prog f14.T (rootOf Tryd.f14) = true := by kernel_rfl
def f14.l0 (R a0 A1 n1 c1 A20 n20 c20 x21 x22 h) := Pt Tryd.prog Tryd.f14 R [false, false, true, false, true, true] (mkFr [(0, (Value.pointer (some a0))), (1, (Value.slice A1 n1 c1)), (20, (Value.slice A20 n20 c20)), (21, (Value.int .i64 x21)), (22, (Value.int .i64 x22))]) h
def f14.j1 (R a0 A1 n1 c1 x5 a6 A20 n20 c20 x21 x22 b32 h) := Pt Tryd.prog Tryd.f14 R [true, true, true, false, true, false, false, true, true, false, false, true, false, true, true] (mkFr [(0, (Value.pointer (some a0))), (1, (Value.slice A1 n1 c1)), (5, (Value.int .i64 x5)), (6, (Value.pointer (some a6))), (20, (Value.slice A20 n20 c20)), (21, (Value.int .i64 x21)), (22, (Value.int .i64 x22)), (32, (Value.bool b32))]) h
def f14.l1 (R a0 A1 n1 c1 x7 A71 n71 c71 x72 x73 h) := Pt Tryd.prog Tryd.f14 R [false, false, true, false, true, true, true, true] (mkFr [(0, (Value.pointer (some a0))), (1, (Value.slice A1 n1 c1)), (7, (Value.int .i64 x7)), (71, (Value.slice A71 n71 c71)), (72, (Value.int .i64 x72)), (73, (Value.int .i64 x73))]) h
def f14.j0 (R a0 A1 n1 c1 x7 b11 A71 n71 c71 x72 x73 h) := Pt Tryd.prog Tryd.f14 R [true, true, false, false, true, true, false, false, true, false, true, true, true, true] (mkFr [(0, (Value.pointer (some a0))), (1, (Value.slice A1 n1 c1)), (7, (Value.int .i64 x7)), (11, (Value.bool b11)), (71, (Value.slice A71 n71 c71)), (72, (Value.int .i64 x72)), (73, (Value.int .i64 x73))]) h
def f14.l2 (R a0 A100 n100 c100 x101 x102 h) := Pt Tryd.prog Tryd.f14 R [false, false, true, false, true, true, true, true, true, true] (mkFr [(0, (Value.pointer (some a0))), (100, (Value.slice A100 n100 c100)), (101, (Value.int .i64 x101)), (102, (Value.int .i64 x102))]) h
def f14.j3 (R a0 a13 a14 a15 b16 A100 n100 c100 x101 x102 h) := Pt Tryd.prog Tryd.f14 R [true, false, true, true, false, false, true, true, false, false, true, false, true, true, true, true, true, true] (mkFr [(0, (Value.pointer (some a0))), (13, (Value.pointer (some a13))), (14, (Value.pointer (some a14))), (15, (Value.pointer (some a15))), (16, (Value.bool b16)), (100, (Value.slice A100 n100 c100)), (101, (Value.int .i64 x101)), (102, (Value.int .i64 x102))]) h
def f14.j4 (R a0 a13 a14 A100 n100 c100 x101 x102 b129 h) := Pt Tryd.prog Tryd.f14 R [true, true, false, true, true, false, false, true, true, false, false, true, false, true, true, true, true, true, true] (mkFr [(0, (Value.pointer (some a0))), (13, (Value.pointer (some a13))), (14, (Value.pointer (some a14))), (100, (Value.slice A100 n100 c100)), (101, (Value.int .i64 x101)), (102, (Value.int .i64 x102)), (129, (Value.bool b129))]) h
def f14.j2 (R a0 a13 A100 n100 c100 x101 x102 h) := Pt Tryd.prog Tryd.f14 R [true, true, true, false, false, true, true, false, false, true, false, true, true, true, true, true, true] (mkFr [(0, (Value.pointer (some a0))), (13, (Value.pointer (some a13))), (100, (Value.slice A100 n100 c100)), (101, (Value.int .i64 x101)), (102, (Value.int .i64 x102))]) h
def f14.l0T (R : VP) (a0 : Addr) (A1 : Option Addr) (n1 c1 : Nat) (A20 : Option Addr) (n20 c20 : Nat) (x21 x22 : Int) (h : Heap) : Prop :=
 splitB (decide (x22 < x21)) (ptrOk A20 fun a1_ => 0 ≤ x22 ∧ x22 < ((n20 : Nat) : Int) ∧ (∃ v2_, ldv true 4 h (Addr.add a1_ (Int.toNat x22 * 4)) = some v2_ ∧ newH h (Obj.cells #[(Value.string (ByteArray.mk #[])), (Value.int .i64 (0 : Int)), (Value.int .i64 (0 : Int)), (Value.int .i64 (0 : Int))] 33) fun h3_ => ∃ l5_ : List Value, v2_ = Value.agg l5_.toArray ∧ l5_.length = 4 ∧ ∃ h4_, stH h3_ (⟨Array.size h, 0, none⟩) l5_ 0 = some h4_ ∧ ∃ v6_, ldv false 1 h4_ (⟨Array.size h, 0, none⟩) = some v6_ ∧ ∃ s7_, v6_ = (Value.string s7_) ∧ Run Tryd.prog 11 #[(Value.string s7_)] h4_ fun v8_ h9_ => ∃ b10_, v8_ = (Value.bool b10_) ∧ splitB (!b10_) (R (Value.int .i64 (3 : Int)) h9_) (∃ v11_, ldv false 1 h9_ (Addr.add (⟨Array.size h, 0, none⟩) 1) = some v11_ ∧ ∃ x12_, v11_ = (Value.int .i64 x12_) ∧ splitB (decide (x12_ < (0 : Int))) (f14.j1 R a0 A1 n1 c1 x22 (⟨Array.size h, 0, none⟩) A20 n20 c20 x21 x22 true h9_) (∃ v13_, ldv false 1 h9_ (Addr.add (⟨Array.size h, 0, none⟩) 2) = some v13_ ∧ ∃ x14_, v13_ = (Value.int .i64 x14_) ∧ splitB (decide (x14_ < (1 : Int))) (f14.j1 R a0 A1 n1 c1 x22 (⟨Array.size h, 0, none⟩) A20 n20 c20 x21 x22 true h9_) (∃ v15_, ldv false 1 h9_ (Addr.add (⟨Array.size h, 0, none⟩) 2) = some v15_ ∧ ∃ x16_, v15_ = (Value.int .i64 x16_) ∧ splitB (decide (x16_ > (1099511627776 : Int))) (f14.j1 R a0 A1 n1 c1 x22 (⟨Array.size h, 0, none⟩) A20 n20 c20 x21 x22 true h9_) (∃ v17_, ldv false 1 h9_ (Addr.add (⟨Array.size h, 0, none⟩) 3) = some v17_ ∧ ∃ x18_, v17_ = (Value.int .i64 x18_) ∧ splitB (decide (x18_ < (1 : Int))) (f14.j1 R a0 A1 n1 c1 x22 (⟨Array.size h, 0, none⟩) A20 n20 c20 x21 x22 true h9_) (∃ v19_, ldv false 1 h9_ (Addr.add (⟨Array.size h, 0, none⟩) 3) = some v19_ ∧ ∃ x20_, v19_ = (Value.int .i64 x20_) ∧ f14.j1 R a0 A1 n1 c1 x22 (⟨Array.size h, 0, none⟩) A20 n20 c20 x21 x22 (decide (x20_ > (8 : Int))) h9_))))))) (f14.l1 R a0 A1 n1 c1 (0 : Int) A1 n1 c1 ((n1 : Nat) : Int) (0 : Int) h)
theorem f14.l0_in {R a0 A1 n1 c1 A20 n20 c20 x21 x22 h} (H : f14.l0T R a0 A1 n1 c1 A20 n20 c20 x21 x22 h) : f14.l0 R a0 A1 n1 c1 A20 n20 c20 x21 x22 h := pt_in (kp := f14.kp) mixed f14.good (by kernel_rfl) H
def f14.j1T (R : VP) (a0 : Addr) (A1 : Option Addr) (n1 c1 : Nat) (x5 : Int) (a6 : Addr) (A20 : Option Addr) (n20 c20 : Nat) (x21 x22 : Int) (b32 : Bool) (h : Heap) : Prop :=
 splitB b32 (R (Value.int .i64 (1 : Int)) h) (splitB (decide (x5 > (0 : Int))) (ptrOk A1 fun a1_ => 0 ≤ (IntKind.wrap .i64 (x5 - (1 : Int))) ∧ (IntKind.wrap .i64 (x5 - (1 : Int))) < ((n1 : Nat) : Int) ∧ (∃ v2_, ldv false 1 h a6 = some v2_ ∧ ∃ s3_, v2_ = (Value.string s3_) ∧ ∃ v4_, ldv false 1 h (Addr.add a1_ (Int.toNat (IntKind.wrap .i64 (x5 - (1 : Int))) * 4)) = some v4_ ∧ ∃ s5_, v4_ = (Value.string s5_) ∧ splitB (Op.bytesLess (ByteArray.toList s3_) (ByteArray.toList s5_) || (ByteArray.toList s3_ == ByteArray.toList s5_)) (R (Value.int .i64 (21 : Int)) h) (f14.l0 R a0 A1 n1 c1 A20 n20 c20 x21 (IntKind.wrap .i64 (x22 + (1 : Int))) h))) (f14.l0 R a0 A1 n1 c1 A20 n20 c20 x21 (IntKind.wrap .i64 (x22 + (1 : Int))) h))
theorem f14.j1_in {R a0 A1 n1 c1 x5 a6 A20 n20 c20 x21 x22 b32 h} (H : f14.j1T R a0 A1 n1 c1 x5 a6 A20 n20 c20 x21 x22 b32 h) : f14.j1 R a0 A1 n1 c1 x5 a6 A20 n20 c20 x21 x22 b32 h := pt_in (kp := f14.kp) mixed f14.good (by kernel_rfl) H
def f14.l1T (R : VP) (a0 : Addr) (A1 : Option Addr) (n1 c1 : Nat) (x7 : Int) (A71 : Option Addr) (n71 c71 : Nat) (x72 x73 : Int) (h : Heap) : Prop :=
 splitB (decide (x73 < x72)) (ptrOk A71 fun a1_ => 0 ≤ x73 ∧ x73 < ((n71 : Nat) : Int) ∧ (∃ v2_, ldv true 4 h (Addr.add a1_ (Int.toNat x73 * 4)) = some v2_ ∧ newH h (Obj.cells #[(Value.string (ByteArray.mk #[])), (Value.int .i64 (0 : Int)), (Value.int .i64 (0 : Int)), (Value.int .i64 (0 : Int))] 33) fun h3_ => ∃ l5_ : List Value, v2_ = Value.agg l5_.toArray ∧ l5_.length = 4 ∧ ∃ h4_, stH h3_ (⟨Array.size h, 0, none⟩) l5_ 0 = some h4_ ∧ ∃ v6_, ldv false 1 h4_ (Addr.add a0 2) = some v6_ ∧ ∃ v7_, ldv false 1 h4_ (⟨Array.size h, 0, none⟩) = some v7_ ∧ ∃ s8_, v7_ = (Value.string s8_) ∧ (Gen Tryd.prog (Instr.lookup 36 v6_ (Value.string s8_) true) h4_ fun v9_ h10_ => ∃ v11_, ∃ b12_, v9_ = (Value.tuple #[v11_, (Value.bool b12_)]) ∧ newH h10_ (Obj.cells #[(Value.int .i64 (0 : Int)), (Value.int .i64 (0 : Int)), (Value.int .i64 (0 : Int))] 43) fun h13_ => Ext h4_ h13_ ∧ (∃ l15_ : List Value, v11_ = Value.agg l15_.toArray ∧ l15_.length = 3 ∧ ∃ h14_, stH h13_ (⟨Array.size h10_, 0, none⟩) l15_ 0 = some h14_ ∧ f14.j0 R a0 A1 n1 c1 x7 b12_ A71 n71 c71 x72 x73 h14_)) ∧ (newH h4_ (Obj.cells #[(Value.int .i64 (0 : Int)), (Value.int .i64 (0 : Int)), (Value.int .i64 (0 : Int))] 43) fun h16_ => Ext h4_ h16_ ∧ (Gen Tryd.prog (Instr.lookup 36 v6_ (Value.string s8_) true) h16_ fun v17_ h18_ => ∃ v19_, ∃ b20_, v17_ = (Value.tuple #[v19_, (Value.bool b20_)]) ∧ ∃ l22_ : List Value, v19_ = Value.agg l22_.toArray ∧ l22_.length = 3 ∧ ∃ h21_, stH h18_ (⟨Array.size h4_, 0, none⟩) l22_ 0 = some h21_ ∧ f14.j0 R a0 A1 n1 c1 x7 b20_ A71 n71 c71 x72 x73 h21_)))) (∃ v23_, ldv false 1 h (Addr.add a0 2) = some v23_ ∧ Gen Tryd.prog (Builtin.len_ #[36] 3 #[v23_]) h fun v24_ h25_ => ∃ x26_, v24_ = (Value.int .i64 x26_) ∧ splitB (decide ((IntKind.wrap .i64 (x26_ + x7)) > (60 : Int))) (R (Value.int .i64 (6 : Int)) h25_) (f14.l2 R a0 A1 n1 c1 ((n1 : Nat) : Int) (0 : Int) h25_))
theorem f14.l1_in {R a0 A1 n1 c1 x7 A71 n71 c71 x72 x73 h} (H : f14.l1T R a0 A1 n1 c1 x7 A71 n71 c71 x72 x73 h) : f14.l1 R a0 A1 n1 c1 x7 A71 n71 c71 x72 x73 h := pt_in (kp := f14.kp) mixed f14.good (by kernel_rfl) H
def f14.j0T (R : VP) (a0 : Addr) (A1 : Option Addr) (n1 c1 : Nat) (x7 : Int) (b11 : Bool) (A71 : Option Addr) (n71 c71 : Nat) (x72 x73 : Int) (h : Heap) : Prop :=
 splitB (!b11) (f14.l1 R a0 A1 n1 c1 (IntKind.wrap .i64 (x7 + (1 : Int))) A71 n71 c71 x72 (IntKind.wrap .i64 (x73 + (1 : Int))) h) (f14.l1 R a0 A1 n1 c1 x7 A71 n71 c71 x72 (IntKind.wrap .i64 (x73 + (1 : Int))) h)
theorem f14.j0_in {R a0 A1 n1 c1 x7 b11 A71 n71 c71 x72 x73 h} (H : f14.j0T R a0 A1 n1 c1 x7 b11 A71 n71 c71 x72 x73 h) : f14.j0 R a0 A1 n1 c1 x7 b11 A71 n71 c71 x72 x73 h := pt_in (kp := f14.kp) mixed f14.good (by kernel_rfl) H
def f14.l2T (R : VP) (a0 : Addr) (A100 : Option Addr) (n100 c100 : Nat) (x101 x102 : Int) (h : Heap) : Prop :=
 splitB (decide (x102 < x101)) (ptrOk A100 fun a1_ => 0 ≤ x102 ∧ x102 < ((n100 : Nat) : Int) ∧ (∃ v2_, ldv true 4 h (Addr.add a1_ (Int.toNat x102 * 4)) = some v2_ ∧ newH h (Obj.cells #[(Value.string (ByteArray.mk #[])), (Value.int .i64 (0 : Int)), (Value.int .i64 (0 : Int)), (Value.int .i64 (0 : Int))] 33) fun h3_ => ∃ l5_ : List Value, v2_ = Value.agg l5_.toArray ∧ l5_.length = 4 ∧ ∃ h4_, stH h3_ (⟨Array.size h, 0, none⟩) l5_ 0 = some h4_ ∧ ∃ v6_, ldv false 1 h4_ (Addr.add (⟨Array.size h, 0, none⟩) 1) = some v6_ ∧ ∃ x7_, v6_ = (Value.int .i64 x7_) ∧ ∃ v8_, ldv false 1 h4_ (Addr.add (⟨Array.size h, 0, none⟩) 2) = some v8_ ∧ ∃ x9_, v8_ = (Value.int .i64 x9_) ∧ ∃ v10_, ldv false 1 h4_ (Addr.add (⟨Array.size h, 0, none⟩) 3) = some v10_ ∧ ∃ x11_, v10_ = (Value.int .i64 x11_) ∧ newH h4_ (Obj.cells #[(Value.int .i64 (0 : Int)), (Value.int .i64 (0 : Int)), (Value.int .i64 (0 : Int))] 43) fun h12_ => ∃ l14_ : List Value, (Value.agg #[(Value.int .i64 x7_), (Value.int .i64 x9_), (Value.int .i64 x11_)]) = Value.agg l14_.toArray ∧ l14_.length = 3 ∧ ∃ h13_, stH h12_ (⟨Array.size h4_, 0, none⟩) l14_ 0 = some h13_ ∧ ∃ v15_, ldv false 1 h13_ (Addr.add a0 2) = some v15_ ∧ ∃ v16_, ldv false 1 h13_ (⟨Array.size h, 0, none⟩) = some v16_ ∧ ∃ s17_, v16_ = (Value.string s17_) ∧ (Gen Tryd.prog (Instr.lookup 36 v15_ (Value.string s17_) true) h13_ fun v18_ h19_ => ∃ v20_, ∃ b21_, v18_ = (Value.tuple #[v20_, (Value.bool b21_)]) ∧ newH h19_ (Obj.cells #[(Value.int .i64 (0 : Int)), (Value.int .i64 (0 : Int)), (Value.int .i64 (0 : Int))] 43) fun h22_ => Ext h13_ h22_ ∧ (∃ l24_ : List Value, v20_ = Value.agg l24_.toArray ∧ l24_.length = 3 ∧ ∃ h23_, stH h22_ (⟨Array.size h19_, 0, none⟩) l24_ 0 = some h23_ ∧ f14.j3 R a0 (⟨Array.size h, 0, none⟩) (⟨Array.size h4_, 0, none⟩) (⟨Array.size h19_, 0, none⟩) b21_ A100 n100 c100 x101 x102 h23_)) ∧ (newH h13_ (Obj.cells #[(Value.int .i64 (0 : Int)), (Value.int .i64 (0 : Int)), (Value.int .i64 (0 : Int))] 43) fun h25_ => Ext h13_ h25_ ∧ (Gen Tryd.prog (Instr.lookup 36 v15_ (Value.string s17_) true) h25_ fun v26_ h27_ => ∃ v28_, ∃ b29_, v26_ = (Value.tuple #[v28_, (Value.bool b29_)]) ∧ ∃ l31_ : List Value, v28_ = Value.agg l31_.toArray ∧ l31_.length = 3 ∧ ∃ h30_, stH h27_ (⟨Array.size h13_, 0, none⟩) l31_ 0 = some h30_ ∧ f14.j3 R a0 (⟨Array.size h, 0, none⟩) (⟨Array.size h4_, 0, none⟩) (⟨Array.size h13_, 0, none⟩) b29_ A100 n100 c100 x101 x102 h30_)))) (R (Value.int .i64 (0 : Int)) h)
theorem f14.l2_in {R a0 A100 n100 c100 x101 x102 h} (H : f14.l2T R a0 A100 n100 c100 x101 x102 h) : f14.l2 R a0 A100 n100 c100 x101 x102 h := pt_in (kp := f14.kp) mixed f14.good (by kernel_rfl) H
def f14.j3T (R : VP) (a0 a13 a14 a15 : Addr) (b16 : Bool) (A100 : Option Addr) (n100 c100 : Nat) (x101 x102 : Int) (h : Heap) : Prop :=
 splitB (!b16) (f14.j4 R a0 a13 a14 A100 n100 c100 x101 x102 true h) (∃ v1_, ldv true 3 h a15 = some v1_ ∧ ∃ v2_, ldv true 3 h a14 = some v2_ ∧ Run Tryd.prog 28 #[v1_, v2_] h fun v3_ h4_ => ∃ b5_, v3_ = (Value.bool b5_) ∧ f14.j4 R a0 a13 a14 A100 n100 c100 x101 x102 b5_ h4_)
theorem f14.j3_in {R a0 a13 a14 a15 b16 A100 n100 c100 x101 x102 h} (H : f14.j3T R a0 a13 a14 a15 b16 A100 n100 c100 x101 x102 h) : f14.j3 R a0 a13 a14 a15 b16 A100 n100 c100 x101 x102 h := pt_in (kp := f14.kp) mixed f14.good (by kernel_rfl) H
def f14.j4T (R : VP) (a0 a13 a14 : Addr) (A100 : Option Addr) (n100 c100 : Nat) (x101 x102 : Int) (b129 : Bool) (h : Heap) : Prop :=
 splitB b129 (∃ v1_, ldv false 1 h (Addr.add a0 2) = some v1_ ∧ ∃ v2_, ldv false 1 h a13 = some v2_ ∧ ∃ s3_, v2_ = (Value.string s3_) ∧ ∃ v4_, ldv true 3 h a14 = some v4_ ∧ Hwp Tryd.prog (Instr.mapUpdate 36 v1_ (Value.string s3_) v4_) h fun _ h5_ => f14.j2 R a0 a13 A100 n100 c100 x101 x102 h5_) (f14.j2 R a0 a13 A100 n100 c100 x101 x102 h)
theorem f14.j4_in {R a0 a13 a14 A100 n100 c100 x101 x102 b129 h} (H : f14.j4T R a0 a13 a14 A100 n100 c100 x101 x102 b129 h) : f14.j4 R a0 a13 a14 A100 n100 c100 x101 x102 b129 h := pt_in (kp := f14.kp) mixed f14.good (by kernel_rfl) H
def f14.j2T (R : VP) (a0 a13 : Addr) (A100 : Option Addr) (n100 c100 : Nat) (x101 x102 : Int) (h : Heap) : Prop :=
 ∃ v1_, ldv false 1 h (Addr.add a0 1) = some v1_ ∧ ∃ x2_, v1_ = (Value.int .i64 x2_) ∧ ∃ v3_, ldv false 1 h (Addr.add a13 2) = some v3_ ∧ ∃ x4_, v3_ = (Value.int .i64 x4_) ∧ ∃ h5_, st1 h (Addr.add a0 1) (Value.int .i64 (if x4_ > x2_ then x4_ else x2_)) = some h5_ ∧ f14.l2 R a0 A100 n100 c100 x101 (IntKind.wrap .i64 (x102 + (1 : Int))) h5_
theorem f14.j2_in {R a0 a13 A100 n100 c100 x101 x102 h} (H : f14.j2T R a0 a13 A100 n100 c100 x101 x102 h) : f14.j2 R a0 a13 A100 n100 c100 x101 x102 h := pt_in (kp := f14.kp) mixed f14.good (by kernel_rfl) H
def f14.runT (R : VP) (a0 : Addr) (A1 : Option Addr) (n1 c1 : Nat) (h : Heap) : Prop :=
 splitB (decide (((n1 : Nat) : Int) > (60 : Int))) (R (Value.int .i64 (2 : Int)) h) (f14.l0 R a0 A1 n1 c1 A1 n1 c1 ((n1 : Nat) : Int) (0 : Int) h)
theorem f14.run {R : VP} {a0 : Addr} {A1 : Option Addr} {n1 c1 : Nat} {h : Heap} (H : f14.runT R a0 A1 n1 c1 h) : Run Tryd.prog 14 #[(Value.pointer (some a0)), (Value.slice A1 n1 c1)] h R := run_in (kp := f14.kp) mixed Tryd.func14 (by kernel_rfl) (by kernel_rfl) f14.good (by kernel_rfl) H
def f88.T : Tab := { sh := tSh, tup := tTup, keep := [], plan := [] }
def f88.kp : Keep := []
theorem f88.good : goodCode Tryd.prog f88.T (rootOf Tryd.f88) = true := by kernel_rfl
def f88.runT (R : VP) (s0 : ByteArray) (h : Heap) : Prop :=
 R (Value.bool (!(ByteArray.toList s0 == ByteArray.toList s0))) h
theorem f88.run {R : VP} {s0 : ByteArray} {h : Heap} (H : f88.runT R s0 h) : Run Tryd.prog 88 #[(Value.string s0)] h R := run_in (kp := f88.kp) mixed Tryd.func88 (by kernel_rfl) (by kernel_rfl) f88.good (by kernel_rfl) H
def f76.T : Tab := { sh := tSh, tup := tTup, keep := [], plan := [] }
def f76.kp : Keep := []
theorem f76.good : goodCode Tryd.prog f76.T (rootOf Tryd.f76) = true := by kernel_rfl
def f76.runT (R : VP) (s0 s1 : ByteArray) (h : Heap) : Prop :=
 Run Tryd.prog 88 #[(Value.string s0)] h fun v1_ h2_ => ∃ b3_, v1_ = (Value.bool b3_) ∧ splitB b3_ (Run Tryd.prog 88 #[(Value.string s1)] h2_ fun v4_ h5_ => ∃ b6_, v4_ = (Value.bool b6_) ∧ splitB (!b6_) (R (Value.bool true) h5_) (R (Value.bool (Op.bytesLess (ByteArray.toList s0) (ByteArray.toList s1))) h5_)) (R (Value.bool (Op.bytesLess (ByteArray.toList s0) (ByteArray.toList s1))) h2_)
theorem f76.run {R : VP} {s0 s1 : ByteArray} {h : Heap} (H : f76.runT R s0 s1 h) : Run Tryd.prog 76 #[(Value.string s0), (Value.string s1)] h R := run_in (kp := f76.kp) mixed Tryd.func76 (by kernel_rfl) (by kernel_rfl) f76.good (by kernel_rfl) H
def f70.T : Tab := { sh := tSh, tup := tTup, keep := [], plan := [(4, (.take 0 (.take 1 (.take 2 (.take 3 (.split 3 (.take 4 (.take 5 (.take 6 (.take 8 (.take 9 (.take 10 (.take 11 (.take 7 (.take 12 (.eff false false [] 13 (.take 14 .done))))))))))))))))), (6, (.take 0 (.take 1 (.take 2 (.take 3 (.take 4 (.take 5 (.take 6 (.take 7 (.take 8 (.take 10 (.take 11 (.take 12 (.take 9 (.take 13 (.take 14 (.eff false false [] 15 (.take 16 (.eff false false [] 17 .done)))))))))))))))))))] }
def f70.kp : Keep := [([false, false, true], [0, 1, 2, 6]), ([false, false, true, false, false, true, false, false, true], [0, 1, 2, 6, 7]), ([true, false, false, true, false, false, true, false, false, true], [0, 1, 2, 6, 7]), ([true, true, false, false, true], [0, 1, 2, 6])]
theorem f70.good : goodCode Tryd.prog f70.T (rootOf Tryd.f70) = true := by kernel_rfl
def f70.l0 (R A0 n0 c0 x1 x2 x6 h) := Pt Tryd.prog Tryd.f70 R [false, false, true] (mkFr [(0, (Value.slice A0 n0 c0)), (1, (Value.int .i64 x1)), (2, (Value.int .i64 x2)), (6, (Value.int .i64 x6))]) h
def f70.l1 (R A0 n0 c0 x1 x2 x6 x7 h) := Pt Tryd.prog Tryd.f70 R [false, false, true, false, false, true, false, false, true] (mkFr [(0, (Value.slice A0 n0 c0)), (1, (Value.int .i64 x1)), (2, (Value.int .i64 x2)), (6, (Value.int .i64 x6)), (7, (Value.int .i64 x7))]) h
def f70.j1 (R A0 n0 c0 x1 x2 x6 x7 h) := Pt Tryd.prog Tryd.f70 R [true, false, false, true, false, false, true, false, false, true] (mkFr [(0, (Value.slice A0 n0 c0)), (1, (Value.int .i64 x1)), (2, (Value.int .i64 x2)), (6, (Value.int .i64 x6)), (7, (Value.int .i64 x7))]) h
def f70.j0 (R A0 n0 c0 x1 x2 x6 h) := Pt Tryd.prog Tryd.f70 R [true, true, false, false, true] (mkFr [(0, (Value.slice A0 n0 c0)), (1, (Value.int .i64 x1)), (2, (Value.int .i64 x2)), (6, (Value.int .i64 x6))]) h
def f70.l0T (R : VP) (A0 : Option Addr) (n0 c0 : Nat) (x1 x2 x6 : Int) (h : Heap) : Prop :=
 splitB (decide (x6 < x2)) (f70.l1 R A0 n0 c0 x1 x2 x6 x6 h) (R (Value.tuple #[]) h)
theorem f70.l0_in {R A0 n0 c0 x1 x2 x6 h} (H : f70.l0T R A0 n0 c0 x1 x2 x6 h) : f70.l0 R A0 n0 c0 x1 x2 x6 h := pt_in (kp := f70.kp) mixed f70.good (by kernel_rfl) H
def f70.l1T (R : VP) (A0 : Option Addr) (n0 c0 : Nat) (x1 x2 x6 x7 : Int) (h : Heap) : Prop :=
 splitB (decide (x7 > x1)) (ptrOk A0 fun a1_ => 0 ≤ x7 ∧ x7 < ((n0 : Nat) : Int) ∧ (ptrOk A0 fun a2_ => 0 ≤ (IntKind.wrap .i64 (x7 - (1 : Int))) ∧ (IntKind.wrap .i64 (x7 - (1 : Int))) < ((n0 : Nat) : Int) ∧ (∃ v3_, ldv false 1 h (Addr.add a1_ (Int.toNat x7 * 1)) = some v3_ ∧ ∃ s4_, v3_ = (Value.string s4_) ∧ ∃ v5_, ldv false 1 h (Addr.add a2_ (Int.toNat (IntKind.wrap .i64 (x7 - (1 : Int))) * 1)) = some v5_ ∧ ∃ s6_, v5_ = (Value.string s6_) ∧ Run Tryd.prog 76 #[(Value.string s4_), (Value.string s6_)] h fun v7_ h8_ => ∃ b9_, v7_ = (Value.bool b9_) ∧ splitB b9_ (f70.j1 R A0 n0 c0 x1 x2 x6 x7 h8_) (f70.j0 R A0 n0 c0 x1 x2 x6 h8_)))) (f70.j0 R A0 n0 c0 x1 x2 x6 h)
theorem f70.l1_in {R A0 n0 c0 x1 x2 x6 x7 h} (H : f70.l1T R A0 n0 c0 x1 x2 x6 x7 h) : f70.l1 R A0 n0 c0 x1 x2 x6 x7 h := pt_in (kp := f70.kp) mixed f70.good (by kernel_rfl) H
def f70.j1T (R : VP) (A0 : Option Addr) (n0 c0 : Nat) (x1 x2 x6 x7 : Int) (h : Heap) : Prop :=
 ptrOk A0 fun a1_ => 0 ≤ (IntKind.wrap .i64 (x7 - (1 : Int))) ∧ (IntKind.wrap .i64 (x7 - (1 : Int))) < ((n0 : Nat) : Int) ∧ (ptrOk A0 fun a2_ => 0 ≤ x7 ∧ x7 < ((n0 : Nat) : Int) ∧ (∃ v3_, ldv false 1 h (Addr.add a1_ (Int.toNat (IntKind.wrap .i64 (x7 - (1 : Int))) * 1)) = some v3_ ∧ ∃ s4_, v3_ = (Value.string s4_) ∧ ∃ v5_, ldv false 1 h (Addr.add a2_ (Int.toNat x7 * 1)) = some v5_ ∧ ∃ s6_, v5_ = (Value.string s6_) ∧ ptrOk A0 fun a7_ => 0 ≤ x7 ∧ x7 < ((n0 : Nat) : Int) ∧ (∃ h8_, st1 h (Addr.add a7_ (Int.toNat x7 * 1)) (Value.string s4_) = some h8_ ∧ ptrOk A0 fun a9_ => 0 ≤ (IntKind.wrap .i64 (x7 - (1 : Int))) ∧ (IntKind.wrap .i64 (x7 - (1 : Int))) < ((n0 : Nat) : Int) ∧ (∃ h10_, st1 h8_ (Addr.add a9_ (Int.toNat (IntKind.wrap .i64 (x7 - (1 : Int))) * 1)) (Value.string s6_) = some h10_ ∧ f70.l1 R A0 n0 c0 x1 x2 x6 (IntKind.wrap .i64 (x7 - (1 : Int))) h10_))))
theorem f70.j1_in {R A0 n0 c0 x1 x2 x6 x7 h} (H : f70.j1T R A0 n0 c0 x1 x2 x6 x7 h) : f70.j1 R A0 n0 c0 x1 x2 x6 x7 h := pt_in (kp := f70.kp) mixed f70.good (by kernel_rfl) H
def f70.j0T (R : VP) (A0 : Option Addr) (n0 c0 : Nat) (x1 x2 x6 : Int) (h : Heap) : Prop :=
 f70.l0 R A0 n0 c0 x1 x2 (IntKind.wrap .i64 (x6 + (1 : Int))) h
theorem f70.j0_in {R A0 n0 c0 x1 x2 x6 h} (H : f70.j0T R A0 n0 c0 x1 x2 x6 h) : f70.j0 R A0 n0 c0 x1 x2 x6 h := pt_in (kp := f70.kp) mixed f70.good (by kernel_rfl) H
def f70.runT (R : VP) (A0 : Option Addr) (n0 c0 : Nat) (x1 x2 : Int) (h : Heap) : Prop :=
 f70.l0 R A0 n0 c0 x1 x2 (IntKind.wrap .i64 (x1 + (1 : Int))) h
theorem f70.run {R : VP} {A0 : Option Addr} {n0 c0 : Nat} {x1 x2 : Int} {h : Heap} (H : f70.runT R A0 n0 c0 x1 x2 h) : Run Tryd.prog 70 #[(Value.slice A0 n0 c0), (Value.int .i64 x1), (Value.int .i64 x2)] h R := run_in (kp := f70.kp) mixed Tryd.func70 (by kernel_rfl) (by kernel_rfl) f70.good (by kernel_rfl) H
def f83.T : Tab := { sh := tSh, tup := tTup, keep := [], plan := [(3, (.take 0 (.take 1 (.take 2 (.take 3 (.take 4 (.split 4 (.take 5 (.take 6 (.take 7 (.take 8 (.take 9 (.take 11 (.take 12 (.take 13 (.take 14 (.take 15 (.take 16 (.take 10 (.take 17 (.eff false false [] 18 (.take 19 .done)))))))))))))))))))))), (5, (.take 0 (.take 1 (.take 2 (.take 3 (.take 4 (.take 6 (.take 7 (.take 8 (.take 9 (.take 10 (.take 5 (.take 11 (.eff false false [] 12 (.take 13 .done))))))))))))))), (6, (.take 0 (.take 1 (.take 2 (.take 3 (.take 4 (.take 5 (.take 6 (.take 7 (.take 8 (.take 9 (.take 10 (.take 11 (.take 12 (.take 14 (.take 15 (.take 16 (.take 17 (.take 18 (.take 13 (.take 19 (.take 20 (.eff false false [] 21 (.take 22 (.eff false false [] 23 .done)))))))))))))))))))))))))] }
def f83.kp : Keep := [([false, false, true], [0, 2, 3, 8]), ([true, false, true, true, false, false, false, true], [0, 2, 3, 8, 9, 36]), ([true, true, true, false, false, false, true], [0, 2, 3, 8, 9])]
theorem f83.good : goodCode Tryd.prog f83.T (rootOf Tryd.f83) = true := by kernel_rfl
def f83.l0 (R A0 n0 c0 x2 x3 x8 h) := Pt Tryd.prog Tryd.f83 R [false, false, true] (mkFr [(0, (Value.slice A0 n0 c0)), (2, (Value.int .i64 x2)), (3, (Value.int .i64 x3)), (8, (Value.int .i64 x8))]) h
def f83.j1 (R A0 n0 c0 x2 x3 x8 x9 b36 h) := Pt Tryd.prog Tryd.f83 R [true, false, true, true, false, false, false, true] (mkFr [(0, (Value.slice A0 n0 c0)), (2, (Value.int .i64 x2)), (3, (Value.int .i64 x3)), (8, (Value.int .i64 x8)), (9, (Value.int .i64 x9)), (36, (Value.bool b36))]) h
def f83.j0 (R A0 n0 c0 x2 x3 x8 x9 h) := Pt Tryd.prog Tryd.f83 R [true, true, true, false, false, false, true] (mkFr [(0, (Value.slice A0 n0 c0)), (2, (Value.int .i64 x2)), (3, (Value.int .i64 x3)), (8, (Value.int .i64 x8)), (9, (Value.int .i64 x9))]) h
def f83.l0T (R : VP) (A0 : Option Addr) (n0 c0 : Nat) (x2 x3 x8 : Int) (h : Heap) : Prop :=
 splitB (decide ((IntKind.wrap .i64 ((IntKind.wrap .i64 ((2 : Int) * x8)) + (1 : Int))) ≥ x2)) (R (Value.tuple #[]) h) (splitB (decide ((IntKind.wrap .i64 ((IntKind.wrap .i64 ((IntKind.wrap .i64 ((2 : Int) * x8)) + (1 : Int))) + (1 : Int))) < x2)) (ptrOk A0 fun a1_ => 0 ≤ (IntKind.wrap .i64 (x3 + (IntKind.wrap .i64 ((IntKind.wrap .i64 ((2 : Int) * x8)) + (1 : Int))))) ∧ (IntKind.wrap .i64 (x3 + (IntKind.wrap .i64 ((IntKind.wrap .i64 ((2 : Int) * x8)) + (1 : Int))))) < ((n0 : Nat) : Int) ∧ (ptrOk A0 fun a2_ => 0 ≤ (IntKind.wrap .i64 ((IntKind.wrap .i64 (x3 + (IntKind.wrap .i64 ((IntKind.wrap .i64 ((2 : Int) * x8)) + (1 : Int))))) + (1 : Int))) ∧ (IntKind.wrap .i64 ((IntKind.wrap .i64 (x3 + (IntKind.wrap .i64 ((IntKind.wrap .i64 ((2 : Int) * x8)) + (1 : Int))))) + (1 : Int))) < ((n0 : Nat) : Int) ∧ (∃ v3_, ldv false 1 h (Addr.add a1_ (Int.toNat (IntKind.wrap .i64 (x3 + (IntKind.wrap .i64 ((IntKind.wrap .i64 ((2 : Int) * x8)) + (1 : Int))))) * 1)) = some v3_ ∧ ∃ s4_, v3_ = (Value.string s4_) ∧ ∃ v5_, ldv false 1 h (Addr.add a2_ (Int.toNat (IntKind.wrap .i64 ((IntKind.wrap .i64 (x3 + (IntKind.wrap .i64 ((IntKind.wrap .i64 ((2 : Int) * x8)) + (1 : Int))))) + (1 : Int))) * 1)) = some v5_ ∧ ∃ s6_, v5_ = (Value.string s6_) ∧ Run Tryd.prog 76 #[(Value.string s4_), (Value.string s6_)] h fun v7_ h8_ => ∃ b9_, v7_ = (Value.bool b9_) ∧ f83.j1 R A0 n0 c0 x2 x3 x8 (IntKind.wrap .i64 ((IntKind.wrap .i64 ((2 : Int) * x8)) + (1 : Int))) b9_ h8_))) (f83.j1 R A0 n0 c0 x2 x3 x8 (IntKind.wrap .i64 ((IntKind.wrap .i64 ((2 : Int) * x8)) + (1 : Int))) false h))
theorem f83.l0_in {R A0 n0 c0 x2 x3 x8 h} (H : f83.l0T R A0 n0 c0 x2 x3 x8 h) : f83.l0 R A0 n0 c0 x2 x3 x8 h := pt_in (kp := f83.kp) mixed f83.good (by kernel_rfl) H
def f83.j1T (R : VP) (A0 : Option Addr) (n0 c0 : Nat) (x2 x3 x8 x9 : Int) (b36 : Bool) (h : Heap) : Prop :=
 splitB b36 (f83.j0 R A0 n0 c0 x2 x3 x8 (IntKind.wrap .i64 (x9 + (1 : Int))) h) (f83.j0 R A0 n0 c0 x2 x3 x8 x9 h)
theorem f83.j1_in {R A0 n0 c0 x2 x3 x8 x9 b36 h} (H : f83.j1T R A0 n0 c0 x2 x3 x8 x9 b36 h) : f83.j1 R A0 n0 c0 x2 x3 x8 x9 b36 h := pt_in (kp := f83.kp) mixed f83.good (by kernel_rfl) H
def f83.j0T (R : VP) (A0 : Option Addr) (n0 c0 : Nat) (x2 x3 x8 x9 : Int) (h : Heap) : Prop :=
 ptrOk A0 fun a1_ => 0 ≤ (IntKind.wrap .i64 (x3 + x8)) ∧ (IntKind.wrap .i64 (x3 + x8)) < ((n0 : Nat) : Int) ∧ (ptrOk A0 fun a2_ => 0 ≤ (IntKind.wrap .i64 (x3 + x9)) ∧ (IntKind.wrap .i64 (x3 + x9)) < ((n0 : Nat) : Int) ∧ (∃ v3_, ldv false 1 h (Addr.add a1_ (Int.toNat (IntKind.wrap .i64 (x3 + x8)) * 1)) = some v3_ ∧ ∃ s4_, v3_ = (Value.string s4_) ∧ ∃ v5_, ldv false 1 h (Addr.add a2_ (Int.toNat (IntKind.wrap .i64 (x3 + x9)) * 1)) = some v5_ ∧ ∃ s6_, v5_ = (Value.string s6_) ∧ Run Tryd.prog 76 #[(Value.string s4_), (Value.string s6_)] h fun v7_ h8_ => ∃ b9_, v7_ = (Value.bool b9_) ∧ splitB (!b9_) (R (Value.tuple #[]) h8_) (ptrOk A0 fun a10_ => 0 ≤ (IntKind.wrap .i64 (x3 + x9)) ∧ (IntKind.wrap .i64 (x3 + x9)) < ((n0 : Nat) : Int) ∧ (ptrOk A0 fun a11_ => 0 ≤ (IntKind.wrap .i64 (x3 + x8)) ∧ (IntKind.wrap .i64 (x3 + x8)) < ((n0 : Nat) : Int) ∧ (∃ v12_, ldv false 1 h8_ (Addr.add a10_ (Int.toNat (IntKind.wrap .i64 (x3 + x9)) * 1)) = some v12_ ∧ ∃ s13_, v12_ = (Value.string s13_) ∧ ∃ v14_, ldv false 1 h8_ (Addr.add a11_ (Int.toNat (IntKind.wrap .i64 (x3 + x8)) * 1)) = some v14_ ∧ ∃ s15_, v14_ = (Value.string s15_) ∧ ptrOk A0 fun a16_ => 0 ≤ (IntKind.wrap .i64 (x3 + x8)) ∧ (IntKind.wrap .i64 (x3 + x8)) < ((n0 : Nat) : Int) ∧ (∃ h17_, st1 h8_ (Addr.add a16_ (Int.toNat (IntKind.wrap .i64 (x3 + x8)) * 1)) (Value.string s13_) = some h17_ ∧ ptrOk A0 fun a18_ => 0 ≤ (IntKind.wrap .i64 (x3 + x9)) ∧ (IntKind.wrap .i64 (x3 + x9)) < ((n0 : Nat) : Int) ∧ (∃ h19_, st1 h17_ (Addr.add a18_ (Int.toNat (IntKind.wrap .i64 (x3 + x9)) * 1)) (Value.string s15_) = some h19_ ∧ f83.l0 R A0 n0 c0 x2 x3 x9 h19_)))))))
theorem f83.j0_in {R A0 n0 c0 x2 x3 x8 x9 h} (H : f83.j0T R A0 n0 c0 x2 x3 x8 x9 h) : f83.j0 R A0 n0 c0 x2 x3 x8 x9 h := pt_in (kp := f83.kp) mixed f83.good (by kernel_rfl) H
def f83.runT (R : VP) (A0 : Option Addr) (n0 c0 : Nat) (x1 x2 x3 : Int) (h : Heap) : Prop :=
 f83.l0 R A0 n0 c0 x2 x3 x1 h
theorem f83.run {R : VP} {A0 : Option Addr} {n0 c0 : Nat} {x1 x2 x3 : Int} {h : Heap} (H : f83.runT R A0 n0 c0 x1 x2 x3 h) : Run Tryd.prog 83 #[(Value.slice A0 n0 c0), (Value.int .i64 x1), (Value.int .i64 x2), (Value.int .i64 x3)] h R := run_in (kp := f83.kp) mixed Tryd.func83 (by kernel_rfl) (by kernel_rfl) f83.good (by kernel_rfl) H
def f71.T : Tab := { sh := tSh, tup := tTup, keep := [], plan := [(10, (.take 0 (.take 1 (.take 2 (.take 3 (.take 4 (.take 5 (.take 6 (.take 7 (.take 8 (.take 9 (.take 10 (.take 12 (.take 13 (.take 14 (.take 11 (.take 15 (.take 16 (.eff false false [] 17 (.take 18 (.eff false false [] 19 .done)))))))))))))))))))))] }
def f71.kp : Keep := [([false, false, true, false, true, true, true], [0, 6, 7, 8, 9]), ([false, false, true, true, true, true, true], [0, 6, 7, 10])]
theorem f71.good : goodCode Tryd.prog f71.T (rootOf Tryd.f71) = true := by kernel_rfl
def f71.l0 (R A0 n0 c0 x6 x7 x8 x9 h) := Pt Tryd.prog Tryd.f71 R [false, false, true, false, true, true, true] (mkFr [(0, (Value.slice A0 n0 c0)), (6, (Value.int .i64 x6)), (7, (Value.int .i64 x7)), (8, (Value.int .i64 x8)), (9, (Value.int .i64 x9))]) h
def f71.l1 (R A0 n0 c0 x6 x7 x10 h) := Pt Tryd.prog Tryd.f71 R [false, false, true, true, true, true, true] (mkFr [(0, (Value.slice A0 n0 c0)), (6, (Value.int .i64 x6)), (7, (Value.int .i64 x7)), (10, (Value.int .i64 x10))]) h
def f71.l0T (R : VP) (A0 : Option Addr) (n0 c0 : Nat) (x6 x7 x8 x9 : Int) (h : Heap) : Prop :=
 splitB (decide (x9 ≥ (0 : Int))) (Run Tryd.prog 83 #[(Value.slice A0 n0 c0), (Value.int .i64 x9), (Value.int .i64 x8), (Value.int .i64 x6)] h fun v1_ h2_ => v1_ = (Value.tuple #[]) ∧ f71.l0 R A0 n0 c0 x6 x7 x8 (IntKind.wrap .i64 (x9 - (1 : Int))) h2_) (f71.l1 R A0 n0 c0 x6 x7 (IntKind.wrap .i64 (x8 - (1 : Int))) h)
theorem f71.l0_in {R A0 n0 c0 x6 x7 x8 x9 h} (H : f71.l0T R A0 n0 c0 x6 x7 x8 x9 h) : f71.l0 R A0 n0 c0 x6 x7 x8 x9 h := pt_in (kp := f71.kp) mixed f71.good (by kernel_rfl) H
def f71.l1T (R : VP) (A0 : Option Addr) (n0 c0 : Nat) (x6 x7 x10 : Int) (h : Heap) : Prop :=
 splitB (decide (x10 ≥ (0 : Int))) (ptrOk A0 fun a1_ => 0 ≤ (IntKind.wrap .i64 (x6 + x10)) ∧ (IntKind.wrap .i64 (x6 + x10)) < ((n0 : Nat) : Int) ∧ (ptrOk A0 fun a2_ => 0 ≤ x6 ∧ x6 < ((n0 : Nat) : Int) ∧ (∃ v3_, ldv false 1 h (Addr.add a1_ (Int.toNat (IntKind.wrap .i64 (x6 + x10)) * 1)) = some v3_ ∧ ∃ s4_, v3_ = (Value.string s4_) ∧ ∃ v5_, ldv false 1 h (Addr.add a2_ (Int.toNat x6 * 1)) = some v5_ ∧ ∃ s6_, v5_ = (Value.string s6_) ∧ ptrOk A0 fun a7_ => 0 ≤ x6 ∧ x6 < ((n0 : Nat) : Int) ∧ (∃ h8_, st1 h (Addr.add a7_ (Int.toNat x6 * 1)) (Value.string s4_) = some h8_ ∧ ptrOk A0 fun a9_ => 0 ≤ (IntKind.wrap .i64 (x6 + x10)) ∧ (IntKind.wrap .i64 (x6 + x10)) < ((n0 : Nat) : Int) ∧ (∃ h10_, st1 h8_ (Addr.add a9_ (Int.toNat (IntKind.wrap .i64 (x6 + x10)) * 1)) (Value.string s6_) = some h10_ ∧ Run Tryd.prog 83 #[(Value.slice A0 n0 c0), (Value.int .i64 x7), (Value.int .i64 x10), (Value.int .i64 x6)] h10_ fun v11_ h12_ => v11_ = (Value.tuple #[]) ∧ f71.l1 R A0 n0 c0 x6 x7 (IntKind.wrap .i64 (x10 - (1 : Int))) h12_))))) (R (Value.tuple #[]) h)
theorem f71.l1_in {R A0 n0 c0 x6 x7 x10 h} (H : f71.l1T R A0 n0 c0 x6 x7 x10 h) : f71.l1 R A0 n0 c0 x6 x7 x10 h := pt_in (kp := f71.kp) mixed f71.good (by kernel_rfl) H
def f71.runT (R : VP) (A0 : Option Addr) (n0 c0 : Nat) (x1 x2 : Int) (h : Heap) : Prop :=
 (2 : Int) ≠ 0 ∧ (f71.l0 R A0 n0 c0 x1 (0 : Int) (IntKind.wrap .i64 (x2 - x1)) (IntKind.wrap .i64 (Int.tdiv (IntKind.wrap .i64 ((IntKind.wrap .i64 (x2 - x1)) - (1 : Int))) (2 : Int))) h)
theorem f71.run {R : VP} {A0 : Option Addr} {n0 c0 : Nat} {x1 x2 : Int} {h : Heap} (H : f71.runT R A0 n0 c0 x1 x2 h) : Run Tryd.prog 71 #[(Value.slice A0 n0 c0), (Value.int .i64 x1), (Value.int .i64 x2)] h R := run_in (kp := f71.kp) mixed Tryd.func71 (by kernel_rfl) (by kernel_rfl) f71.good (by kernel_rfl) H
def f80.T : Tab := { sh := tSh, tup := tTup, keep := [], plan := [] }
def f80.kp : Keep := [([true, true], [0, 2]), ([true, true, true], [0, 2]), ([true, true, true, true], [0, 2])]
theorem f80.good : goodCode Tryd.prog f80.T (rootOf Tryd.f80) = true := by kernel_rfl
def f80.j0 (R x0 x2 h) := Pt Tryd.prog Tryd.f80 R [true, true] (mkFr [(0, (Value.int .u64 x0)), (2, (Value.int .i64 x2))]) h
def f80.j1 (R x0 x2 h) := Pt Tryd.prog Tryd.f80 R [true, true, true] (mkFr [(0, (Value.int .u64 x0)), (2, (Value.int .i64 x2))]) h
def f80.j2 (R x0 x2 h) := Pt Tryd.prog Tryd.f80 R [true, true, true, true] (mkFr [(0, (Value.int .u64 x0)), (2, (Value.int .i64 x2))]) h
def f80.j0T (R : VP) (x0 x2 : Int) (h : Heap) : Prop :=
 splitB (decide (x0 ≥ (65536 : Int))) (0 ≤ (16 : Int) ∧ (f80.j1 R (shrI .u64 x0 (16 : Int)) (IntKind.wrap .i64 (x2 + (16 : Int))) h)) (f80.j1 R x0 x2 h)
theorem f80.j0_in {R x0 x2 h} (H : f80.j0T R x0 x2 h) : f80.j0 R x0 x2 h := pt_in (kp := f80.kp) mixed f80.good (by kernel_rfl) H
def f80.j1T (R : VP) (x0 x2 : Int) (h : Heap) : Prop :=
 splitB (decide (x0 ≥ (256 : Int))) (0 ≤ (8 : Int) ∧ (f80.j2 R (shrI .u64 x0 (8 : Int)) (IntKind.wrap .i64 (x2 + (8 : Int))) h)) (f80.j2 R x0 x2 h)
theorem f80.j1_in {R x0 x2 h} (H : f80.j1T R x0 x2 h) : f80.j1 R x0 x2 h := pt_in (kp := f80.kp) mixed f80.good (by kernel_rfl) H
def f80.j2T (R : VP) (x0 x2 : Int) (h : Heap) : Prop :=
 0 ≤ (IntKind.wrap .u8 x0) ∧ ∃ y1_, (ByteArray.mk #[0, 1, 2, 2, 3, 3, 3, 3, 4, 4, 4, 4, 4, 4, 4, 4, 5, 5, 5, 5, 5, 5, 5, 5, 5, 5, 5, 5, 5, 5, 5, 5, 6, 6, 6, 6, 6, 6, 6, 6, 6, 6, 6, 6, 6, 6, 6, 6, 6, 6, 6, 6, 6, 6, 6, 6, 6, 6, 6, 6, 6, 6, 6, 6, 7, 7, 7, 7, 7, 7, 7, 7, 7, 7, 7, 7, 7, 7, 7, 7, 7, 7, 7, 7, 7, 7, 7, 7, 7, 7, 7, 7, 7, 7, 7, 7, 7, 7, 7, 7, 7, 7, 7, 7, 7, 7, 7, 7, 7, 7, 7, 7, 7, 7, 7, 7, 7, 7, 7, 7, 7, 7, 7, 7, 7, 7, 7, 7, 8, 8, 8, 8, 8, 8, 8, 8, 8, 8, 8, 8, 8, 8, 8, 8, 8, 8, 8, 8, 8, 8, 8, 8, 8, 8, 8, 8, 8, 8, 8, 8, 8, 8, 8, 8, 8, 8, 8, 8, 8, 8, 8, 8, 8, 8, 8, 8, 8, 8, 8, 8, 8, 8, 8, 8, 8, 8, 8, 8, 8, 8, 8, 8, 8, 8, 8, 8, 8, 8, 8, 8, 8, 8, 8, 8, 8, 8, 8, 8, 8, 8, 8, 8, 8, 8, 8, 8, 8, 8, 8, 8, 8, 8, 8, 8, 8, 8, 8, 8, 8, 8, 8, 8, 8, 8, 8, 8, 8, 8, 8, 8, 8, 8, 8, 8, 8, 8, 8, 8, 8, 8, 8, 8, 8, 8, 8, 8])[Int.toNat (IntKind.wrap .u8 x0)]? = some y1_ ∧ (R (Value.int .i64 (IntKind.wrap .i64 (x2 + (IntKind.wrap .i64 ((UInt8.toNat y1_ : Nat) : Int))))) h)
theorem f80.j2_in {R x0 x2 h} (H : f80.j2T R x0 x2 h) : f80.j2 R x0 x2 h := pt_in (kp := f80.kp) mixed f80.good (by kernel_rfl) H
def f80.runT (R : VP) (x0 : Int) (h : Heap) : Prop :=
 splitB (decide (x0 ≥ (4294967296 : Int))) (0 ≤ (32 : Int) ∧ (f80.j0 R (shrI .u64 x0 (32 : Int)) (32 : Int) h)) (f80.j0 R x0 (0 : Int) h)
theorem f80.run {R : VP} {x0 : Int} {h : Heap} (H : f80.runT R x0 h) : Run Tryd.prog 80 #[(Value.int .u64 x0)] h R := run_in (kp := f80.kp) mixed Tryd.func80 (by kernel_rfl) (by kernel_rfl) f80.good (by kernel_rfl) H
def f64.T : Tab := { sh := tSh, tup := tTup, keep := [], plan := [] }
def f64.kp : Keep := []
theorem f64.good : goodCode Tryd.prog f64.T (rootOf Tryd.f64) = true := by kernel_rfl
def f64.runT (R : VP) (x0 : Int) (h : Heap) : Prop :=
 Run Tryd.prog 80 #[(Value.int .u64 x0)] h fun v1_ h2_ => ∃ x3_, v1_ = (Value.int .i64 x3_) ∧ R (Value.int .i64 x3_) h2_
theorem f64.run {R : VP} {x0 : Int} {h : Heap} (H : f64.runT R x0 h) : Run Tryd.prog 64 #[(Value.int .u64 x0)] h R := run_in (kp := f64.kp) mixed Tryd.func64 (by kernel_rfl) (by kernel_rfl) f64.good (by kernel_rfl) H
def f84.T : Tab := { sh := tSh, tup := tTup, keep := [], plan := [] }
def f84.kp : Keep := []
theorem f84.good : goodCode Tryd.prog f84.T (rootOf Tryd.f84) = true := by kernel_rfl
def f84.runT (R : VP) (x0 : Int) (h : Heap) : Prop :=
 Run Tryd.prog 64 #[(Value.int .u64 (IntKind.wrap .u64 x0))] h fun v1_ h2_ => ∃ x3_, v1_ = (Value.int .i64 x3_) ∧ 0 ≤ x3_ ∧ (R (Value.int .u64 (shlI .u64 (1 : Int) x3_)) h2_)
theorem f84.run {R : VP} {x0 : Int} {h : Heap} (H : f84.runT R x0 h) : Run Tryd.prog 84 #[(Value.int .i64 x0)] h R := run_in (kp := f84.kp) mixed Tryd.func84 (by kernel_rfl) (by kernel_rfl) f84.good (by kernel_rfl) H
def f85.T : Tab := { sh := tSh, tup := tTup, keep := [], plan := [(1, (.take 0 (.take 1 (.take 3 (.take 4 (.take 2 (.take 5 (.take 6 (.take 7 (.take 8 (.eff false false [] 9 .done))))))))))), (2, (.take 0 (.take 1 (.take 3 (.take 4 (.take 2 (.take 5 (.take 6 (.take 7 (.take 8 (.eff false false [] 9 .done))))))))))), (3, (.take 0 (.take 1 (.take 3 (.take 4 (.take 2 (.take 5 (.take 6 (.take 7 (.take 8 (.eff false false [] 9 .done)))))))))))] }
def f85.kp : Keep := []
theorem f85.good : goodCode Tryd.prog f85.T (rootOf Tryd.f85) = true := by kernel_rfl
def f85.runT (R : VP) (a0 : Addr) (h : Heap) : Prop :=
 ∃ v1_, ldv false 1 h a0 = some v1_ ∧ ∃ x2_, v1_ = (Value.int .u64 x2_) ∧ ∃ v3_, ldv false 1 h a0 = some v3_ ∧ ∃ x4_, v3_ = (Value.int .u64 x4_) ∧ 0 ≤ (13 : Int) ∧ (∃ h5_, st1 h a0 (Value.int .u64 (bitsI .xor .u64 x2_ (shlI .u64 x4_ (13 : Int)))) = some h5_ ∧ ∃ v6_, ldv false 1 h5_ a0 = some v6_ ∧ ∃ x7_, v6_ = (Value.int .u64 x7_) ∧ ∃ v8_, ldv false 1 h5_ a0 = some v8_ ∧ ∃ x9_, v8_ = (Value.int .u64 x9_) ∧ 0 ≤ (7 : Int) ∧ (∃ h10_, st1 h5_ a0 (Value.int .u64 (bitsI .xor .u64 x7_ (shrI .u64 x9_ (7 : Int)))) = some h10_ ∧ ∃ v11_, ldv false 1 h10_ a0 = some v11_ ∧ ∃ x12_, v11_ = (Value.int .u64 x12_) ∧ ∃ v13_, ldv false 1 h10_ a0 = some v13_ ∧ ∃ x14_, v13_ = (Value.int .u64 x14_) ∧ 0 ≤ (17 : Int) ∧ (∃ h15_, st1 h10_ a0 (Value.int .u64 (bitsI .xor .u64 x12_ (shlI .u64 x14_ (17 : Int)))) = some h15_ ∧ ∃ v16_, ldv false 1 h15_ a0 = some v16_ ∧ ∃ x17_, v16_ = (Value.int .u64 x17_) ∧ R (Value.int .u64 x17_) h15_)))
theorem f85.run {R : VP} {a0 : Addr} {h : Heap} (H : f85.runT R a0 h) : Run Tryd.prog 85 #[(Value.pointer (some a0))] h R := run_in (kp := f85.kp) mixed Tryd.func85 (by kernel_rfl) (by kernel_rfl) f85.good (by kernel_rfl) H
def f72.T : Tab := { sh := tSh, tup := tTup, keep := [], plan := [(10, (.take 0 (.take 1 (.take 2 (.take 3 (.take 4 (.take 5 (.take 6 (.take 7 (.take 8 (.take 9 (.take 10 (.take 12 (.take 13 (.take 14 (.take 11 (.take 15 (.take 16 (.eff false false [] 17 (.take 18 (.eff false false [] 19 .done)))))))))))))))))))))] }
def f72.kp : Keep := [([false, false, true, true, true, false, true, true], [0, 1, 6, 7, 8, 9]), ([true, true, false, false, true, false, false, true, true, true, false, true, true], [0, 1, 6, 7, 8, 9, 10]), ([true, true, false, false, true, true, true, false, true, true], [0, 1, 6, 7, 8, 9])]
theorem f72.good : goodCode Tryd.prog f72.T (rootOf Tryd.f72) = true := by kernel_rfl
def f72.l0 (R A0 n0 c0 x1 x6 a7 x8 x9 h) := Pt Tryd.prog Tryd.f72 R [false, false, true, true, true, false, true, true] (mkFr [(0, (Value.slice A0 n0 c0)), (1, (Value.int .i64 x1)), (6, (Value.int .i64 x6)), (7, (Value.pointer (some a7))), (8, (Value.int .u64 x8)), (9, (Value.int .i64 x9))]) h
def f72.j1 (R A0 n0 c0 x1 x6 a7 x8 x9 x10 h) := Pt Tryd.prog Tryd.f72 R [true, true, false, false, true, false, false, true, true, true, false, true, true] (mkFr [(0, (Value.slice A0 n0 c0)), (1, (Value.int .i64 x1)), (6, (Value.int .i64 x6)), (7, (Value.pointer (some a7))), (8, (Value.int .u64 x8)), (9, (Value.int .i64 x9)), (10, (Value.int .i64 x10))]) h
def f72.j0 (R A0 n0 c0 x1 x6 a7 x8 x9 h) := Pt Tryd.prog Tryd.f72 R [true, true, false, false, true, true, true, false, true, true] (mkFr [(0, (Value.slice A0 n0 c0)), (1, (Value.int .i64 x1)), (6, (Value.int .i64 x6)), (7, (Value.pointer (some a7))), (8, (Value.int .u64 x8)), (9, (Value.int .i64 x9))]) h
def f72.l0T (R : VP) (A0 : Option Addr) (n0 c0 : Nat) (x1 x6 : Int) (a7 : Addr) (x8 x9 : Int) (h : Heap) : Prop :=
 (4 : Int) ≠ 0 ∧ (splitB (decide (x9 ≤ (IntKind.wrap .i64 ((IntKind.wrap .i64 (x1 + (IntKind.wrap .i64 ((IntKind.wrap .i64 (Int.tdiv x6 (4 : Int))) * (2 : Int))))) + (1 : Int))))) (Run Tryd.prog 85 #[(Value.pointer (some a7))] h fun v1_ h2_ => ∃ x3_, v1_ = (Value.int .u64 x3_) ∧ splitB (decide ((IntKind.wrap .i64 (bitsI .and .u64 x3_ (IntKind.wrap .u64 (x8 - (1 : Int))))) ≥ x6)) (f72.j1 R A0 n0 c0 x1 x6 a7 x8 x9 (IntKind.wrap .i64 ((IntKind.wrap .i64 (bitsI .and .u64 x3_ (IntKind.wrap .u64 (x8 - (1 : Int))))) - x6)) h2_) (f72.j1 R A0 n0 c0 x1 x6 a7 x8 x9 (IntKind.wrap .i64 (bitsI .and .u64 x3_ (IntKind.wrap .u64 (x8 - (1 : Int))))) h2_)) (R (Value.tuple #[]) h))
theorem f72.l0_in {R A0 n0 c0 x1 x6 a7 x8 x9 h} (H : f72.l0T R A0 n0 c0 x1 x6 a7 x8 x9 h) : f72.l0 R A0 n0 c0 x1 x6 a7 x8 x9 h := pt_in (kp := f72.kp) mixed f72.good (by kernel_rfl) H
def f72.j1T (R : VP) (A0 : Option Addr) (n0 c0 : Nat) (x1 x6 : Int) (a7 : Addr) (x8 x9 x10 : Int) (h : Heap) : Prop :=
 ptrOk A0 fun a1_ => 0 ≤ (IntKind.wrap .i64 (x1 + x10)) ∧ (IntKind.wrap .i64 (x1 + x10)) < ((n0 : Nat) : Int) ∧ (ptrOk A0 fun a2_ => 0 ≤ x9 ∧ x9 < ((n0 : Nat) : Int) ∧ (∃ v3_, ldv false 1 h (Addr.add a1_ (Int.toNat (IntKind.wrap .i64 (x1 + x10)) * 1)) = some v3_ ∧ ∃ s4_, v3_ = (Value.string s4_) ∧ ∃ v5_, ldv false 1 h (Addr.add a2_ (Int.toNat x9 * 1)) = some v5_ ∧ ∃ s6_, v5_ = (Value.string s6_) ∧ ptrOk A0 fun a7_ => 0 ≤ x9 ∧ x9 < ((n0 : Nat) : Int) ∧ (∃ h8_, st1 h (Addr.add a7_ (Int.toNat x9 * 1)) (Value.string s4_) = some h8_ ∧ ptrOk A0 fun a9_ => 0 ≤ (IntKind.wrap .i64 (x1 + x10)) ∧ (IntKind.wrap .i64 (x1 + x10)) < ((n0 : Nat) : Int) ∧ (∃ h10_, st1 h8_ (Addr.add a9_ (Int.toNat (IntKind.wrap .i64 (x1 + x10)) * 1)) (Value.string s6_) = some h10_ ∧ f72.j0 R A0 n0 c0 x1 x6 a7 x8 x9 h10_))))
theorem f72.j1_in {R A0 n0 c0 x1 x6 a7 x8 x9 x10 h} (H : f72.j1T R A0 n0 c0 x1 x6 a7 x8 x9 x10 h) : f72.j1 R A0 n0 c0 x1 x6 a7 x8 x9 x10 h := pt_in (kp := f72.kp) mixed f72.good (by kernel_rfl) H
def f72.j0T (R : VP) (A0 : Option Addr) (n0 c0 : Nat) (x1 x6 : Int) (a7 : Addr) (x8 x9 : Int) (h : Heap) : Prop :=
 f72.l0 R A0 n0 c0 x1 x6 a7 x8 (IntKind.wrap .i64 (x9 + (1 : Int))) h
theorem f72.j0_in {R A0 n0 c0 x1 x6 a7 x8 x9 h} (H : f72.j0T R A0 n0 c0 x1 x6 a7 x8 x9 h) : f72.j0 R A0 n0 c0 x1 x6 a7 x8 x9 h := pt_in (kp := f72.kp) mixed f72.good (by kernel_rfl) H
def f72.runT (R : VP) (A0 : Option Addr) (n0 c0 : Nat) (x1 x2 : Int) (h : Heap) : Prop :=
 splitB (decide ((IntKind.wrap .i64 (x2 - x1)) ≥ (8 : Int))) (newH h (Obj.cells #[(Value.int .u64 (0 : Int))] 116) fun h1_ => ∃ h2_, st1 h1_ (⟨Array.size h, 0, none⟩) (Value.int .u64 (IntKind.wrap .u64 (IntKind.wrap .i64 (x2 - x1)))) = some h2_ ∧ Run Tryd.prog 84 #[(Value.int .i64 (IntKind.wrap .i64 (x2 - x1)))] h2_ fun v3_ h4_ => ∃ x5_, v3_ = (Value.int .u64 x5_) ∧ (4 : Int) ≠ 0 ∧ (f72.l0 R A0 n0 c0 x1 (IntKind.wrap .i64 (x2 - x1)) (⟨Array.size h, 0, none⟩) x5_ (IntKind.wrap .i64 ((IntKind.wrap .i64 (x1 + (IntKind.wrap .i64 ((IntKind.wrap .i64 (Int.tdiv (IntKind.wrap .i64 (x2 - x1)) (4 : Int))) * (2 : Int))))) - (1 : Int))) h4_)) (R (Value.tuple #[]) h)
theorem f72.run {R : VP} {A0 : Option Addr} {n0 c0 : Nat} {x1 x2 : Int} {h : Heap} (H : f72.runT R A0 n0 c0 x1 x2 h) : Run Tryd.prog 72 #[(Value.slice A0 n0 c0), (Value.int .i64 x1), (Value.int .i64 x2)] h R := run_in (kp := f72.kp) mixed Tryd.func72 (by kernel_rfl) (by kernel_rfl) f72.good (by kernel_rfl) H
def f89.T : Tab := { sh := tSh, tup := tTup, keep := [], plan := [(1, (.take 0 (.take 1 (.take 2 (.take 4 (.take 5 (.take 6 (.take 3 (.take 7 (.eff false false [] 8 .done))))))))))] }
def f89.kp : Keep := []
theorem f89.good : goodCode Tryd.prog f89.T (rootOf Tryd.f89) = true := by kernel_rfl
def f89.runT (R : VP) (A0 : Option Addr) (n0 c0 : Nat) (x1 x2 : Int) (a3 : Addr) (h : Heap) : Prop :=
 ptrOk A0 fun a1_ => 0 ≤ x2 ∧ x2 < ((n0 : Nat) : Int) ∧ (ptrOk A0 fun a2_ => 0 ≤ x1 ∧ x1 < ((n0 : Nat) : Int) ∧ (∃ v3_, ldv false 1 h (Addr.add a1_ (Int.toNat x2 * 1)) = some v3_ ∧ ∃ s4_, v3_ = (Value.string s4_) ∧ ∃ v5_, ldv false 1 h (Addr.add a2_ (Int.toNat x1 * 1)) = some v5_ ∧ ∃ s6_, v5_ = (Value.string s6_) ∧ Run Tryd.prog 76 #[(Value.string s4_), (Value.string s6_)] h fun v7_ h8_ => ∃ b9_, v7_ = (Value.bool b9_) ∧ splitB b9_ (∃ v10_, ldv false 1 h8_ a3 = some v10_ ∧ ∃ x11_, v10_ = (Value.int .i64 x11_) ∧ ∃ h12_, st1 h8_ a3 (Value.int .i64 (IntKind.wrap .i64 (x11_ + (1 : Int)))) = some h12_ ∧ R (Value.tuple #[(Value.int .i64 x2), (Value.int .i64 x1)]) h12_) (R (Value.tuple #[(Value.int .i64 x1), (Value.int .i64 x2)]) h8_)))
theorem f89.run {R : VP} {A0 : Option Addr} {n0 c0 : Nat} {x1 x2 : Int} {a3 : Addr} {h : Heap} (H : f89.runT R A0 n0 c0 x1 x2 a3 h) : Run Tryd.prog 89 #[(Value.slice A0 n0 c0), (Value.int .i64 x1), (Value.int .i64 x2), (Value.pointer (some a3))] h R := run_in (kp := f89.kp) mixed Tryd.func89 (by kernel_rfl) (by kernel_rfl) f89.good (by kernel_rfl) H
def f87.T : Tab := { sh := tSh, tup := tTup, keep := [], plan := [] }
def f87.kp : Keep := []
theorem f87.good : goodCode Tryd.prog f87.T (rootOf Tryd.f87) = true := by kernel_rfl
def f87.runT (R : VP) (A0 : Option Addr) (n0 c0 : Nat) (x1 x2 x3 : Int) (a4 : Addr) (h : Heap) : Prop :=
 Run Tryd.prog 89 #[(Value.slice A0 n0 c0), (Value.int .i64 x1), (Value.int .i64 x2), (Value.pointer (some a4))] h fun v1_ h2_ => ∃ x3_, ∃ x4_, v1_ = (Value.tuple #[(Value.int .i64 x3_), (Value.int .i64 x4_)]) ∧ Run Tryd.prog 89 #[(Value.slice A0 n0 c0), (Value.int .i64 x4_), (Value.int .i64 x3), (Value.pointer (some a4))] h2_ fun v5_ h6_ => ∃ x7_, ∃ x8_, v5_ = (Value.tuple #[(Value.int .i64 x7_), (Value.int .i64 x8_)]) ∧ Run Tryd.prog 89 #[(Value.slice A0 n0 c0), (Value.int .i64 x3_), (Value.int .i64 x7_), (Value.pointer (some a4))] h6_ fun v9_ h10_ => ∃ x11_, ∃ x12_, v9_ = (Value.tuple #[(Value.int .i64 x11_), (Value.int .i64 x12_)]) ∧ R (Value.int .i64 x12_) h10_
theorem f87.run {R : VP} {A0 : Option Addr} {n0 c0 : Nat} {x1 x2 x3 : Int} {a4 : Addr} {h : Heap} (H : f87.runT R A0 n0 c0 x1 x2 x3 a4 h) : Run Tryd.prog 87 #[(Value.slice A0 n0 c0), (Value.int .i64 x1), (Value.int .i64 x2), (Value.int .i64 x3), (Value.pointer (some a4))] h R := run_in (kp := f87.kp) mixed Tryd.func87 (by kernel_rfl) (by kernel_rfl) f87.good (by kernel_rfl) H
def f86.T : Tab := { sh := tSh, tup := tTup, keep := [], plan := [] }
def f86.kp : Keep := []
theorem f86.good : goodCode Tryd.prog f86.T (rootOf Tryd.f86) = true := by kernel_rfl
def f86.runT (R : VP) (A0 : Option Addr) (n0 c0 : Nat) (x1 : Int) (a2 : Addr) (h : Heap) : Prop :=
 Run Tryd.prog 87 #[(Value.slice A0 n0 c0), (Value.int .i64 (IntKind.wrap .i64 (x1 - (1 : Int)))), (Value.int .i64 x1), (Value.int .i64 (IntKind.wrap .i64 (x1 + (1 : Int)))), (Value.pointer (some a2))] h fun v1_ h2_ => ∃ x3_, v1_ = (Value.int .i64 x3_) ∧ R (Value.int .i64 x3_) h2_
theorem f86.run {R : VP} {A0 : Option Addr} {n0 c0 : Nat} {x1 : Int} {a2 : Addr} {h : Heap} (H : f86.runT R A0 n0 c0 x1 a2 h) : Run Tryd.prog 86 #[(Value.slice A0 n0 c0), (Value.int .i64 x1), (Value.pointer (some a2))] h R := run_in (kp := f86.kp) mixed Tryd.func86 (by kernel_rfl) (by kernel_rfl) f86.good (by kernel_rfl) H
def f73.T : Tab := { sh := tSh, tup := tTup, keep := [], plan := [] }
def f73.kp : Keep := [([true, false, true, false, true, true, true, true, true, true], [0, 9, 10, 11, 12]), ([true, true, true, true, true, true, true], [9, 11])]
theorem f73.good : goodCode Tryd.prog f73.T (rootOf Tryd.f73) = true := by kernel_rfl
def f73.j1 (R A0 n0 c0 a9 x10 x11 x12 h) := Pt Tryd.prog Tryd.f73 R [true, false, true, false, true, true, true, true, true, true] (mkFr [(0, (Value.slice A0 n0 c0)), (9, (Value.pointer (some a9))), (10, (Value.int .i64 x10)), (11, (Value.int .i64 x11)), (12, (Value.int .i64 x12))]) h
def f73.j0 (R a9 x11 h) := Pt Tryd.prog Tryd.f73 R [true, true, true, true, true, true, true] (mkFr [(9, (Value.pointer (some a9))), (11, (Value.int .i64 x11))]) h
def f73.j1T (R : VP) (A0 : Option Addr) (n0 c0 : Nat) (a9 : Addr) (x10 x11 x12 : Int) (h : Heap) : Prop :=
 Run Tryd.prog 87 #[(Value.slice A0 n0 c0), (Value.int .i64 x10), (Value.int .i64 x11), (Value.int .i64 x12), (Value.pointer (some a9))] h fun v1_ h2_ => ∃ x3_, v1_ = (Value.int .i64 x3_) ∧ f73.j0 R a9 x3_ h2_
theorem f73.j1_in {R A0 n0 c0 a9 x10 x11 x12 h} (H : f73.j1T R A0 n0 c0 a9 x10 x11 x12 h) : f73.j1 R A0 n0 c0 a9 x10 x11 x12 h := pt_in (kp := f73.kp) mixed f73.good (by kernel_rfl) H
def f73.j0T (R : VP) (a9 : Addr) (x11 : Int) (h : Heap) : Prop :=
 ∃ v1_, ldv false 1 h a9 = some v1_ ∧ ∃ x2_, v1_ = (Value.int .i64 x2_) ∧ splitB (x2_ == (0 : Int)) (R (Value.tuple #[(Value.int .i64 x11), (Value.int .i64 (1 : Int))]) h) (splitB (x2_ == (12 : Int)) (R (Value.tuple #[(Value.int .i64 x11), (Value.int .i64 (2 : Int))]) h) (R (Value.tuple #[(Value.int .i64 x11), (Value.int .i64 (0 : Int))]) h))
theorem f73.j0_in {R a9 x11 h} (H : f73.j0T R a9 x11 h) : f73.j0 R a9 x11 h := pt_in (kp := f73.kp) mixed f73.good (by kernel_rfl) H
def f73.runT (R : VP) (A0 : Option Addr) (n0 c0 : Nat) (x1 x2 : Int) (h : Heap) : Prop :=
 newH h (Obj.cells #[(Value.int .i64 (0 : Int))] 3) fun h1_ => (4 : Int) ≠ 0 ∧ ((4 : Int) ≠ 0 ∧ ((4 : Int) ≠ 0 ∧ (splitB (decide ((IntKind.wrap .i64 (x2 - x1)) ≥ (8 : Int))) (splitB (decide ((IntKind.wrap .i64 (x2 - x1)) ≥ (50 : Int))) (Run Tryd.prog 86 #[(Value.slice A0 n0 c0), (Value.int .i64 (IntKind.wrap .i64 (x1 + (IntKind.wrap .i64 ((IntKind.wrap .i64 (Int.tdiv (IntKind.wrap .i64 (x2 - x1)) (4 : Int))) * (1 : Int)))))), (Value.pointer (some ⟨Array.size h, 0, none⟩))] h1_ fun v2_ h3_ => ∃ x4_, v2_ = (Value.int .i64 x4_) ∧ Run Tryd.prog 86 #[(Value.slice A0 n0 c0), (Value.int .i64 (IntKind.wrap .i64 (x1 + (IntKind.wrap .i64 ((IntKind.wrap .i64 (Int.tdiv (IntKind.wrap .i64 (x2 - x1)) (4 : Int))) * (2 : Int)))))), (Value.pointer (some ⟨Array.size h, 0, none⟩))] h3_ fun v5_ h6_ => ∃ x7_, v5_ = (Value.int .i64 x7_) ∧ Run Tryd.prog 86 #[(Value.slice A0 n0 c0), (Value.int .i64 (IntKind.wrap .i64 (x1 + (IntKind.wrap .i64 ((IntKind.wrap .i64 (Int.tdiv (IntKind.wrap .i64 (x2 - x1)) (4 : Int))) * (3 : Int)))))), (Value.pointer (some ⟨Array.size h, 0, none⟩))] h6_ fun v8_ h9_ => ∃ x10_, v8_ = (Value.int .i64 x10_) ∧ f73.j1 R A0 n0 c0 (⟨Array.size h, 0, none⟩) x4_ x7_ x10_ h9_) (f73.j1 R A0 n0 c0 (⟨Array.size h, 0, none⟩) (IntKind.wrap .i64 (x1 + (IntKind.wrap .i64 ((IntKind.wrap .i64 (Int.tdiv (IntKind.wrap .i64 (x2 - x1)) (4 : Int))) * (1 : Int))))) (IntKind.wrap .i64 (x1 + (IntKind.wrap .i64 ((IntKind.wrap .i64 (Int.tdiv (IntKind.wrap .i64 (x2 - x1)) (4 : Int))) * (2 : Int))))) (IntKind.wrap .i64 (x1 + (IntKind.wrap .i64 ((IntKind.wrap .i64 (Int.tdiv (IntKind.wrap .i64 (x2 - x1)) (4 : Int))) * (3 : Int))))) h1_)) (f73.j0 R (⟨Array.size h, 0, none⟩) (IntKind.wrap .i64 (x1 + (IntKind.wrap .i64 ((IntKind.wrap .i64 (Int.tdiv (IntKind.wrap .i64 (x2 - x1)) (4 : Int))) * (2 : Int))))) h1_))))
theorem f73.run {R : VP} {A0 : Option Addr} {n0 c0 : Nat} {x1 x2 : Int} {h : Heap} (H : f73.runT R A0 n0 c0 x1 x2 h) : Run Tryd.prog 73 #[(Value.slice A0 n0 c0), (Value.int .i64 x1), (Value.int .i64 x2)] h R := run_in (kp := f73.kp) mixed Tryd.func73 (by kernel_rfl) (by kernel_rfl) f73.good (by kernel_rfl) H
def f74.T : Tab := { sh := tSh, tup := tTup, keep := [], plan := [(3, (.take 0 (.take 1 (.take 2 (.take 3 (.take 4 (.take 5 (.take 6 (.take 8 (.take 9 (.take 10 (.take 7 (.take 11 (.take 12 (.eff false false [] 13 (.take 14 (.eff false false [] 15 .done)))))))))))))))))] }
def f74.kp : Keep := [([false, false, true, true], [0, 6, 7])]
theorem f74.good : goodCode Tryd.prog f74.T (rootOf Tryd.f74) = true := by kernel_rfl
def f74.l0 (R A0 n0 c0 x6 x7 h) := Pt Tryd.prog Tryd.f74 R [false, false, true, true] (mkFr [(0, (Value.slice A0 n0 c0)), (6, (Value.int .i64 x6)), (7, (Value.int .i64 x7))]) h
def f74.l0T (R : VP) (A0 : Option Addr) (n0 c0 : Nat) (x6 x7 : Int) (h : Heap) : Prop :=
 splitB (decide (x6 < x7)) (ptrOk A0 fun a1_ => 0 ≤ x7 ∧ x7 < ((n0 : Nat) : Int) ∧ (ptrOk A0 fun a2_ => 0 ≤ x6 ∧ x6 < ((n0 : Nat) : Int) ∧ (∃ v3_, ldv false 1 h (Addr.add a1_ (Int.toNat x7 * 1)) = some v3_ ∧ ∃ s4_, v3_ = (Value.string s4_) ∧ ∃ v5_, ldv false 1 h (Addr.add a2_ (Int.toNat x6 * 1)) = some v5_ ∧ ∃ s6_, v5_ = (Value.string s6_) ∧ ptrOk A0 fun a7_ => 0 ≤ x6 ∧ x6 < ((n0 : Nat) : Int) ∧ (∃ h8_, st1 h (Addr.add a7_ (Int.toNat x6 * 1)) (Value.string s4_) = some h8_ ∧ ptrOk A0 fun a9_ => 0 ≤ x7 ∧ x7 < ((n0 : Nat) : Int) ∧ (∃ h10_, st1 h8_ (Addr.add a9_ (Int.toNat x7 * 1)) (Value.string s6_) = some h10_ ∧ f74.l0 R A0 n0 c0 (IntKind.wrap .i64 (x6 + (1 : Int))) (IntKind.wrap .i64 (x7 - (1 : Int))) h10_))))) (R (Value.tuple #[]) h)
theorem f74.l0_in {R A0 n0 c0 x6 x7 h} (H : f74.l0T R A0 n0 c0 x6 x7 h) : f74.l0 R A0 n0 c0 x6 x7 h := pt_in (kp := f74.kp) mixed f74.good (by kernel_rfl) H
def f74.runT (R : VP) (A0 : Option Addr) (n0 c0 : Nat) (x1 x2 : Int) (h : Heap) : Prop :=
 f74.l0 R A0 n0 c0 x1 (IntKind.wrap .i64 (x2 - (1 : Int))) h
theorem f74.run {R : VP} {A0 : Option Addr} {n0 c0 : Nat} {x1 x2 : Int} {h : Heap} (H : f74.runT R A0 n0 c0 x1 x2 h) : Run Tryd.prog 74 #[(Value.slice A0 n0 c0), (Value.int .i64 x1), (Value.int .i64 x2)] h R := run_in (kp := f74.kp) mixed Tryd.func74 (by kernel_rfl) (by kernel_rfl) f74.good (by kernel_rfl) H
def f75.T : Tab := { sh := tSh, tup := tTup, keep := [], plan := [(5, (.take 0 (.take 1 (.take 2 (.take 3 (.split 3 (.take 4 (.take 5 (.take 6 (.take 8 (.take 9 (.take 10 (.take 11 (.take 7 (.take 12 (.eff false false [] 13 (.take 14 (.take 15 .done)))))))))))))))))), (11, (.take 0 (.take 1 (.take 2 (.take 3 (.take 4 (.take 5 (.take 6 (.take 7 (.take 8 (.take 10 (.take 11 (.take 12 (.take 9 (.take 13 (.take 14 (.eff false false [] 15 (.take 16 (.eff false false [] 17 .done))))))))))))))))))), (16, (.take 0 (.take 1 (.take 2 (.take 4 (.take 5 (.take 6 (.take 7 (.take 3 (.take 8 (.eff false false [] 9 (.take 10 .done)))))))))))), (17, (.take 0 (.take 1 (.take 2 (.take 3 (.take 4 (.take 5 (.take 6 (.take 7 (.take 8 (.take 10 (.take 11 (.take 12 (.take 9 (.take 13 (.take 14 (.eff false false [] 15 (.take 16 (.eff false false [] 17 .done))))))))))))))))))), (22, (.take 0 (.take 1 (.take 2 (.take 4 (.take 5 (.take 6 (.take 7 (.take 3 (.take 8 (.eff false false [] 9 (.take 10 .done)))))))))))), (23, (.take 0 (.take 1 (.take 2 (.take 3 (.take 4 (.take 5 (.take 6 (.take 7 (.take 8 (.take 10 (.take 11 (.take 12 (.take 9 (.take 13 (.take 14 (.eff false false [] 15 (.take 16 (.eff false false [] 17 .done)))))))))))))))))))] }
def f75.kp : Keep := [([false, false, true, false, true, true], [0, 1, 2, 7, 8]), ([false, false, false, false, false, true, false, false, true, false, true, true], [0, 1, 2, 7, 8]), ([true, false, false, false, false, false, true, false, false, true, false, true, true], [0, 1, 2, 7, 8]), ([true, false, false, true, false, false, true, false, true, true], [0, 1, 2, 7, 8]), ([false, false, true, false, true, false, true, true, true, true, false, false, true, false, false, true, false, true, true], [0, 1, 2, 7, 8, 9]), ([true, true, true, true, true, false, false, true, false, false, true, false, true, true], [0, 1, 2, 7, 8]), ([false, false, true, false, true, true, true, true, true, true, false, false, true, false, false, true, false, true, true], [0, 1, 2, 7, 8, 10]), ([true, true, false, false, true, false, true, true], [0, 1, 2, 7, 8])]
theorem f75.good : goodCode Tryd.prog f75.T (rootOf Tryd.f75) = true := by kernel_rfl
def f75.l0 (R A0 n0 c0 x1 x2 x7 x8 h) := Pt Tryd.prog Tryd.f75 R [false, false, true, false, true, true] (mkFr [(0, (Value.slice A0 n0 c0)), (1, (Value.int .i64 x1)), (2, (Value.int .i64 x2)), (7, (Value.int .i64 x7)), (8, (Value.int .i64 x8))]) h
def f75.l1 (R A0 n0 c0 x1 x2 x7 x8 h) := Pt Tryd.prog Tryd.f75 R [false, false, false, false, false, true, false, false, true, false, true, true] (mkFr [(0, (Value.slice A0 n0 c0)), (1, (Value.int .i64 x1)), (2, (Value.int .i64 x2)), (7, (Value.int .i64 x7)), (8, (Value.int .i64 x8))]) h
def f75.j2 (R A0 n0 c0 x1 x2 x7 x8 h) := Pt Tryd.prog Tryd.f75 R [true, false, false, false, false, false, true, false, false, true, false, true, true] (mkFr [(0, (Value.slice A0 n0 c0)), (1, (Value.int .i64 x1)), (2, (Value.int .i64 x2)), (7, (Value.int .i64 x7)), (8, (Value.int .i64 x8))]) h
def f75.j1 (R A0 n0 c0 x1 x2 x7 x8 h) := Pt Tryd.prog Tryd.f75 R [true, false, false, true, false, false, true, false, true, true] (mkFr [(0, (Value.slice A0 n0 c0)), (1, (Value.int .i64 x1)), (2, (Value.int .i64 x2)), (7, (Value.int .i64 x7)), (8, (Value.int .i64 x8))]) h
def f75.l2 (R A0 n0 c0 x1 x2 x7 x8 x9 h) := Pt Tryd.prog Tryd.f75 R [false, false, true, false, true, false, true, true, true, true, false, false, true, false, false, true, false, true, true] (mkFr [(0, (Value.slice A0 n0 c0)), (1, (Value.int .i64 x1)), (2, (Value.int .i64 x2)), (7, (Value.int .i64 x7)), (8, (Value.int .i64 x8)), (9, (Value.int .i64 x9))]) h
def f75.j3 (R A0 n0 c0 x1 x2 x7 x8 h) := Pt Tryd.prog Tryd.f75 R [true, true, true, true, true, false, false, true, false, false, true, false, true, true] (mkFr [(0, (Value.slice A0 n0 c0)), (1, (Value.int .i64 x1)), (2, (Value.int .i64 x2)), (7, (Value.int .i64 x7)), (8, (Value.int .i64 x8))]) h
def f75.l3 (R A0 n0 c0 x1 x2 x7 x8 x10 h) := Pt Tryd.prog Tryd.f75 R [false, false, true, false, true, true, true, true, true, true, false, false, true, false, false, true, false, true, true] (mkFr [(0, (Value.slice A0 n0 c0)), (1, (Value.int .i64 x1)), (2, (Value.int .i64 x2)), (7, (Value.int .i64 x7)), (8, (Value.int .i64 x8)), (10, (Value.int .i64 x10))]) h
def f75.j0 (R A0 n0 c0 x1 x2 x7 x8 h) := Pt Tryd.prog Tryd.f75 R [true, true, false, false, true, false, true, true] (mkFr [(0, (Value.slice A0 n0 c0)), (1, (Value.int .i64 x1)), (2, (Value.int .i64 x2)), (7, (Value.int .i64 x7)), (8, (Value.int .i64 x8))]) h
def f75.l0T (R : VP) (A0 : Option Addr) (n0 c0 : Nat) (x1 x2 x7 x8 : Int) (h : Heap) : Prop :=
 splitB (decide (x8 < (5 : Int))) (f75.l1 R A0 n0 c0 x1 x2 x7 x8 h) (R (Value.bool false) h)
theorem f75.l0_in {R A0 n0 c0 x1 x2 x7 x8 h} (H : f75.l0T R A0 n0 c0 x1 x2 x7 x8 h) : f75.l0 R A0 n0 c0 x1 x2 x7 x8 h := pt_in (kp := f75.kp) mixed f75.good (by kernel_rfl) H
def f75.l1T (R : VP) (A0 : Option Addr) (n0 c0 : Nat) (x1 x2 x7 x8 : Int) (h : Heap) : Prop :=
 splitB (decide (x7 < x2)) (ptrOk A0 fun a1_ => 0 ≤ x7 ∧ x7 < ((n0 : Nat) : Int) ∧ (ptrOk A0 fun a2_ => 0 ≤ (IntKind.wrap .i64 (x7 - (1 : Int))) ∧ (IntKind.wrap .i64 (x7 - (1 : Int))) < ((n0 : Nat) : Int) ∧ (∃ v3_, ldv false 1 h (Addr.add a1_ (Int.toNat x7 * 1)) = some v3_ ∧ ∃ s4_, v3_ = (Value.string s4_) ∧ ∃ v5_, ldv false 1 h (Addr.add a2_ (Int.toNat (IntKind.wrap .i64 (x7 - (1 : Int))) * 1)) = some v5_ ∧ ∃ s6_, v5_ = (Value.string s6_) ∧ Run Tryd.prog 76 #[(Value.string s4_), (Value.string s6_)] h fun v7_ h8_ => ∃ b9_, v7_ = (Value.bool b9_) ∧ splitB (!b9_) (f75.j2 R A0 n0 c0 x1 x2 x7 x8 h8_) (f75.j1 R A0 n0 c0 x1 x2 x7 x8 h8_)))) (f75.j1 R A0 n0 c0 x1 x2 x7 x8 h)
theorem f75.l1_in {R A0 n0 c0 x1 x2 x7 x8 h} (H : f75.l1T R A0 n0 c0 x1 x2 x7 x8 h) : f75.l1 R A0 n0 c0 x1 x2 x7 x8 h := pt_in (kp := f75.kp) mixed f75.good (by kernel_rfl) H
def f75.j2T (R : VP) (A0 : Option Addr) (n0 c0 : Nat) (x1 x2 x7 x8 : Int) (h : Heap) : Prop :=
 f75.l1 R A0 n0 c0 x1 x2 (IntKind.wrap .i64 (x7 + (1 : Int))) x8 h
theorem f75.j2_in {R A0 n0 c0 x1 x2 x7 x8 h} (H : f75.j2T R A0 n0 c0 x1 x2 x7 x8 h) : f75.j2 R A0 n0 c0 x1 x2 x7 x8 h := pt_in (kp := f75.kp) mixed f75.good (by kernel_rfl) H
def f75.j1T (R : VP) (A0 : Option Addr) (n0 c0 : Nat) (x1 x2 x7 x8 : Int) (h : Heap) : Prop :=
 splitB (x7 == x2) (R (Value.bool true) h) (splitB (decide ((IntKind.wrap .i64 (x2 - x1)) < (50 : Int))) (R (Value.bool false) h) (ptrOk A0 fun a1_ => 0 ≤ (IntKind.wrap .i64 (x7 - (1 : Int))) ∧ (IntKind.wrap .i64 (x7 - (1 : Int))) < ((n0 : Nat) : Int) ∧ (ptrOk A0 fun a2_ => 0 ≤ x7 ∧ x7 < ((n0 : Nat) : Int) ∧ (∃ v3_, ldv false 1 h (Addr.add a1_ (Int.toNat (IntKind.wrap .i64 (x7 - (1 : Int))) * 1)) = some v3_ ∧ ∃ s4_, v3_ = (Value.string s4_) ∧ ∃ v5_, ldv false 1 h (Addr.add a2_ (Int.toNat x7 * 1)) = some v5_ ∧ ∃ s6_, v5_ = (Value.string s6_) ∧ ptrOk A0 fun a7_ => 0 ≤ x7 ∧ x7 < ((n0 : Nat) : Int) ∧ (∃ h8_, st1 h (Addr.add a7_ (Int.toNat x7 * 1)) (Value.string s4_) = some h8_ ∧ ptrOk A0 fun a9_ => 0 ≤ (IntKind.wrap .i64 (x7 - (1 : Int))) ∧ (IntKind.wrap .i64 (x7 - (1 : Int))) < ((n0 : Nat) : Int) ∧ (∃ h10_, st1 h8_ (Addr.add a9_ (Int.toNat (IntKind.wrap .i64 (x7 - (1 : Int))) * 1)) (Value.string s6_) = some h10_ ∧ splitB (decide ((IntKind.wrap .i64 (x7 - x1)) ≥ (2 : Int))) (f75.l2 R A0 n0 c0 x1 x2 x7 x8 (IntKind.wrap .i64 (x7 - (1 : Int))) h10_) (f75.j3 R A0 n0 c0 x1 x2 x7 x8 h10_)))))))
theorem f75.j1_in {R A0 n0 c0 x1 x2 x7 x8 h} (H : f75.j1T R A0 n0 c0 x1 x2 x7 x8 h) : f75.j1 R A0 n0 c0 x1 x2 x7 x8 h := pt_in (kp := f75.kp) mixed f75.good (by kernel_rfl) H
def f75.l2T (R : VP) (A0 : Option Addr) (n0 c0 : Nat) (x1 x2 x7 x8 x9 : Int) (h : Heap) : Prop :=
 splitB (decide (x9 ≥ (1 : Int))) (ptrOk A0 fun a1_ => 0 ≤ x9 ∧ x9 < ((n0 : Nat) : Int) ∧ (ptrOk A0 fun a2_ => 0 ≤ (IntKind.wrap .i64 (x9 - (1 : Int))) ∧ (IntKind.wrap .i64 (x9 - (1 : Int))) < ((n0 : Nat) : Int) ∧ (∃ v3_, ldv false 1 h (Addr.add a1_ (Int.toNat x9 * 1)) = some v3_ ∧ ∃ s4_, v3_ = (Value.string s4_) ∧ ∃ v5_, ldv false 1 h (Addr.add a2_ (Int.toNat (IntKind.wrap .i64 (x9 - (1 : Int))) * 1)) = some v5_ ∧ ∃ s6_, v5_ = (Value.string s6_) ∧ Run Tryd.prog 76 #[(Value.string s4_), (Value.string s6_)] h fun v7_ h8_ => ∃ b9_, v7_ = (Value.bool b9_) ∧ splitB (!b9_) (f75.j3 R A0 n0 c0 x1 x2 x7 x8 h8_) (ptrOk A0 fun a10_ => 0 ≤ (IntKind.wrap .i64 (x9 - (1 : Int))) ∧ (IntKind.wrap .i64 (x9 - (1 : Int))) < ((n0 : Nat) : Int) ∧ (ptrOk A0 fun a11_ => 0 ≤ x9 ∧ x9 < ((n0 : Nat) : Int) ∧ (∃ v12_, ldv false 1 h8_ (Addr.add a10_ (Int.toNat (IntKind.wrap .i64 (x9 - (1 : Int))) * 1)) = some v12_ ∧ ∃ s13_, v12_ = (Value.string s13_) ∧ ∃ v14_, ldv false 1 h8_ (Addr.add a11_ (Int.toNat x9 * 1)) = some v14_ ∧ ∃ s15_, v14_ = (Value.string s15_) ∧ ptrOk A0 fun a16_ => 0 ≤ x9 ∧ x9 < ((n0 : Nat) : Int) ∧ (∃ h17_, st1 h8_ (Addr.add a16_ (Int.toNat x9 * 1)) (Value.string s13_) = some h17_ ∧ ptrOk A0 fun a18_ => 0 ≤ (IntKind.wrap .i64 (x9 - (1 : Int))) ∧ (IntKind.wrap .i64 (x9 - (1 : Int))) < ((n0 : Nat) : Int) ∧ (∃ h19_, st1 h17_ (Addr.add a18_ (Int.toNat (IntKind.wrap .i64 (x9 - (1 : Int))) * 1)) (Value.string s15_) = some h19_ ∧ f75.l2 R A0 n0 c0 x1 x2 x7 x8 (IntKind.wrap .i64 (x9 - (1 : Int))) h19_)))))))) (f75.j3 R A0 n0 c0 x1 x2 x7 x8 h)
theorem f75.l2_in {R A0 n0 c0 x1 x2 x7 x8 x9 h} (H : f75.l2T R A0 n0 c0 x1 x2 x7 x8 x9 h) : f75.l2 R A0 n0 c0 x1 x2 x7 x8 x9 h := pt_in (kp := f75.kp) mixed f75.good (by kernel_rfl) H
def f75.j3T (R : VP) (A0 : Option Addr) (n0 c0 : Nat) (x1 x2 x7 x8 : Int) (h : Heap) : Prop :=
 splitB (decide ((IntKind.wrap .i64 (x2 - x7)) ≥ (2 : Int))) (f75.l3 R A0 n0 c0 x1 x2 x7 x8 (IntKind.wrap .i64 (x7 + (1 : Int))) h) (f75.j0 R A0 n0 c0 x1 x2 x7 x8 h)
theorem f75.j3_in {R A0 n0 c0 x1 x2 x7 x8 h} (H : f75.j3T R A0 n0 c0 x1 x2 x7 x8 h) : f75.j3 R A0 n0 c0 x1 x2 x7 x8 h := pt_in (kp := f75.kp) mixed f75.good (by kernel_rfl) H
def f75.l3T (R : VP) (A0 : Option Addr) (n0 c0 : Nat) (x1 x2 x7 x8 x10 : Int) (h : Heap) : Prop :=
 splitB (decide (x10 < x2)) (ptrOk A0 fun a1_ => 0 ≤ x10 ∧ x10 < ((n0 : Nat) : Int) ∧ (ptrOk A0 fun a2_ => 0 ≤ (IntKind.wrap .i64 (x10 - (1 : Int))) ∧ (IntKind.wrap .i64 (x10 - (1 : Int))) < ((n0 : Nat) : Int) ∧ (∃ v3_, ldv false 1 h (Addr.add a1_ (Int.toNat x10 * 1)) = some v3_ ∧ ∃ s4_, v3_ = (Value.string s4_) ∧ ∃ v5_, ldv false 1 h (Addr.add a2_ (Int.toNat (IntKind.wrap .i64 (x10 - (1 : Int))) * 1)) = some v5_ ∧ ∃ s6_, v5_ = (Value.string s6_) ∧ Run Tryd.prog 76 #[(Value.string s4_), (Value.string s6_)] h fun v7_ h8_ => ∃ b9_, v7_ = (Value.bool b9_) ∧ splitB (!b9_) (f75.j0 R A0 n0 c0 x1 x2 x7 x8 h8_) (ptrOk A0 fun a10_ => 0 ≤ (IntKind.wrap .i64 (x10 - (1 : Int))) ∧ (IntKind.wrap .i64 (x10 - (1 : Int))) < ((n0 : Nat) : Int) ∧ (ptrOk A0 fun a11_ => 0 ≤ x10 ∧ x10 < ((n0 : Nat) : Int) ∧ (∃ v12_, ldv false 1 h8_ (Addr.add a10_ (Int.toNat (IntKind.wrap .i64 (x10 - (1 : Int))) * 1)) = some v12_ ∧ ∃ s13_, v12_ = (Value.string s13_) ∧ ∃ v14_, ldv false 1 h8_ (Addr.add a11_ (Int.toNat x10 * 1)) = some v14_ ∧ ∃ s15_, v14_ = (Value.string s15_) ∧ ptrOk A0 fun a16_ => 0 ≤ x10 ∧ x10 < ((n0 : Nat) : Int) ∧ (∃ h17_, st1 h8_ (Addr.add a16_ (Int.toNat x10 * 1)) (Value.string s13_) = some h17_ ∧ ptrOk A0 fun a18_ => 0 ≤ (IntKind.wrap .i64 (x10 - (1 : Int))) ∧ (IntKind.wrap .i64 (x10 - (1 : Int))) < ((n0 : Nat) : Int) ∧ (∃ h19_, st1 h17_ (Addr.add a18_ (Int.toNat (IntKind.wrap .i64 (x10 - (1 : Int))) * 1)) (Value.string s15_) = some h19_ ∧ f75.l3 R A0 n0 c0 x1 x2 x7 x8 (IntKind.wrap .i64 (x10 + (1 : Int))) h19_)))))))) (f75.j0 R A0 n0 c0 x1 x2 x7 x8 h)
theorem f75.l3_in {R A0 n0 c0 x1 x2 x7 x8 x10 h} (H : f75.l3T R A0 n0 c0 x1 x2 x7 x8 x10 h) : f75.l3 R A0 n0 c0 x1 x2 x7 x8 x10 h := pt_in (kp := f75.kp) mixed f75.good (by kernel_rfl) H
def f75.j0T (R : VP) (A0 : Option Addr) (n0 c0 : Nat) (x1 x2 x7 x8 : Int) (h : Heap) : Prop :=
 f75.l0 R A0 n0 c0 x1 x2 x7 (IntKind.wrap .i64 (x8 + (1 : Int))) h
theorem f75.j0_in {R A0 n0 c0 x1 x2 x7 x8 h} (H : f75.j0T R A0 n0 c0 x1 x2 x7 x8 h) : f75.j0 R A0 n0 c0 x1 x2 x7 x8 h := pt_in (kp := f75.kp) mixed f75.good (by kernel_rfl) H
def f75.runT (R : VP) (A0 : Option Addr) (n0 c0 : Nat) (x1 x2 : Int) (h : Heap) : Prop :=
 f75.l0 R A0 n0 c0 x1 x2 (IntKind.wrap .i64 (x1 + (1 : Int))) (0 : Int) h
theorem f75.run {R : VP} {A0 : Option Addr} {n0 c0 : Nat} {x1 x2 : Int} {h : Heap} (H : f75.runT R A0 n0 c0 x1 x2 h) : Run Tryd.prog 75 #[(Value.slice A0 n0 c0), (Value.int .i64 x1), (Value.int .i64 x2)] h R := run_in (kp := f75.kp) mixed Tryd.func75 (by kernel_rfl) (by kernel_rfl) f75.good (by kernel_rfl) H
def f77.T : Tab := { sh := tSh, tup := tTup, keep := [], plan := [(1, (.take 0 (.take 1 (.take 2 (.take 3 (.take 4 (.take 5 (.take 6 (.take 8 (.take 9 (.take 10 (.take 7 (.take 11 (.take 12 (.eff false false [] 13 (.take 14 (.eff false false [] 15 .done))))))))))))))))), (3, (.take 0 (.take 1 (.take 2 (.take 3 (.split 3 (.take 4 (.take 5 (.take 6 (.take 8 (.take 9 (.take 10 (.take 7 (.take 11 (.eff false false [] 12 (.take 13 (.take 14 .done))))))))))))))))), (5, (.take 0 (.take 1 (.take 2 (.take 3 (.split 3 (.take 4 (.take 5 (.take 6 (.take 8 (.take 9 (.take 10 (.take 7 (.take 11 (.eff false false [] 12 (.take 13 .done)))))))))))))))), (8, (.take 0 (.take 1 (.take 2 (.take 3 (.take 4 (.take 5 (.take 6 (.take 8 (.take 9 (.take 10 (.take 7 (.take 11 (.take 12 (.eff false false [] 13 (.take 14 (.eff false false [] 15 .done)))))))))))))))))] }
def f77.kp : Keep := [([false, false, false, true, true, true], [0, 1, 9, 10]), ([false, false, false, false, false, false, false, true, true, true], [0, 1, 9, 10]), ([true, false, false, false, false, false, false, false, true, true, true], [0, 1, 9, 10]), ([true, false, false, false, false, true, true, true], [0, 1, 9, 10]), ([false, false, false, true, false, false, false, false, true, true, true], [0, 1, 9, 10]), ([true, false, false, false, true, false, false, false, false, true, true, true], [0, 1, 9, 10]), ([true, true, false, false, false, false, true, true, true], [0, 1, 9, 10])]
theorem f77.good : goodCode Tryd.prog f77.T (rootOf Tryd.f77) = true := by kernel_rfl
def f77.l0 (R A0 n0 c0 x1 x9 x10 h) := Pt Tryd.prog Tryd.f77 R [false, false, false, true, true, true] (mkFr [(0, (Value.slice A0 n0 c0)), (1, (Value.int .i64 x1)), (9, (Value.int .i64 x9)), (10, (Value.int .i64 x10))]) h
def f77.l1 (R A0 n0 c0 x1 x9 x10 h) := Pt Tryd.prog Tryd.f77 R [false, false, false, false, false, false, false, true, true, true] (mkFr [(0, (Value.slice A0 n0 c0)), (1, (Value.int .i64 x1)), (9, (Value.int .i64 x9)), (10, (Value.int .i64 x10))]) h
def f77.j2 (R A0 n0 c0 x1 x9 x10 h) := Pt Tryd.prog Tryd.f77 R [true, false, false, false, false, false, false, false, true, true, true] (mkFr [(0, (Value.slice A0 n0 c0)), (1, (Value.int .i64 x1)), (9, (Value.int .i64 x9)), (10, (Value.int .i64 x10))]) h
def f77.j0 (R A0 n0 c0 x1 x9 x10 h) := Pt Tryd.prog Tryd.f77 R [true, false, false, false, false, true, true, true] (mkFr [(0, (Value.slice A0 n0 c0)), (1, (Value.int .i64 x1)), (9, (Value.int .i64 x9)), (10, (Value.int .i64 x10))]) h
def f77.l2 (R A0 n0 c0 x1 x9 x10 h) := Pt Tryd.prog Tryd.f77 R [false, false, false, true, false, false, false, false, true, true, true] (mkFr [(0, (Value.slice A0 n0 c0)), (1, (Value.int .i64 x1)), (9, (Value.int .i64 x9)), (10, (Value.int .i64 x10))]) h
def f77.j3 (R A0 n0 c0 x1 x9 x10 h) := Pt Tryd.prog Tryd.f77 R [true, false, false, false, true, false, false, false, false, true, true, true] (mkFr [(0, (Value.slice A0 n0 c0)), (1, (Value.int .i64 x1)), (9, (Value.int .i64 x9)), (10, (Value.int .i64 x10))]) h
def f77.j1 (R A0 n0 c0 x1 x9 x10 h) := Pt Tryd.prog Tryd.f77 R [true, true, false, false, false, false, true, true, true] (mkFr [(0, (Value.slice A0 n0 c0)), (1, (Value.int .i64 x1)), (9, (Value.int .i64 x9)), (10, (Value.int .i64 x10))]) h
def f77.l0T (R : VP) (A0 : Option Addr) (n0 c0 : Nat) (x1 x9 x10 : Int) (h : Heap) : Prop :=
 f77.l1 R A0 n0 c0 x1 x9 x10 h
theorem f77.l0_in {R A0 n0 c0 x1 x9 x10 h} (H : f77.l0T R A0 n0 c0 x1 x9 x10 h) : f77.l0 R A0 n0 c0 x1 x9 x10 h := pt_in (kp := f77.kp) mixed f77.good (by kernel_rfl) H
def f77.l1T (R : VP) (A0 : Option Addr) (n0 c0 : Nat) (x1 x9 x10 : Int) (h : Heap) : Prop :=
 splitB (decide (x9 ≤ x10)) (ptrOk A0 fun a1_ => 0 ≤ x1 ∧ x1 < ((n0 : Nat) : Int) ∧ (ptrOk A0 fun a2_ => 0 ≤ x9 ∧ x9 < ((n0 : Nat) : Int) ∧ (∃ v3_, ldv false 1 h (Addr.add a1_ (Int.toNat x1 * 1)) = some v3_ ∧ ∃ s4_, v3_ = (Value.string s4_) ∧ ∃ v5_, ldv false 1 h (Addr.add a2_ (Int.toNat x9 * 1)) = some v5_ ∧ ∃ s6_, v5_ = (Value.string s6_) ∧ Run Tryd.prog 76 #[(Value.string s4_), (Value.string s6_)] h fun v7_ h8_ => ∃ b9_, v7_ = (Value.bool b9_) ∧ splitB (!b9_) (f77.j2 R A0 n0 c0 x1 x9 x10 h8_) (f77.j0 R A0 n0 c0 x1 x9 x10 h8_)))) (f77.j0 R A0 n0 c0 x1 x9 x10 h)
theorem f77.l1_in {R A0 n0 c0 x1 x9 x10 h} (H : f77.l1T R A0 n0 c0 x1 x9 x10 h) : f77.l1 R A0 n0 c0 x1 x9 x10 h := pt_in (kp := f77.kp) mixed f77.good (by kernel_rfl) H
def f77.j2T (R : VP) (A0 : Option Addr) (n0 c0 : Nat) (x1 x9 x10 : Int) (h : Heap) : Prop :=
 f77.l1 R A0 n0 c0 x1 (IntKind.wrap .i64 (x9 + (1 : Int))) x10 h
theorem f77.j2_in {R A0 n0 c0 x1 x9 x10 h} (H : f77.j2T R A0 n0 c0 x1 x9 x10 h) : f77.j2 R A0 n0 c0 x1 x9 x10 h := pt_in (kp := f77.kp) mixed f77.good (by kernel_rfl) H
def f77.j0T (R : VP) (A0 : Option Addr) (n0 c0 : Nat) (x1 x9 x10 : Int) (h : Heap) : Prop :=
 f77.l2 R A0 n0 c0 x1 x9 x10 h
theorem f77.j0_in {R A0 n0 c0 x1 x9 x10 h} (H : f77.j0T R A0 n0 c0 x1 x9 x10 h) : f77.j0 R A0 n0 c0 x1 x9 x10 h := pt_in (kp := f77.kp) mixed f77.good (by kernel_rfl) H
def f77.l2T (R : VP) (A0 : Option Addr) (n0 c0 : Nat) (x1 x9 x10 : Int) (h : Heap) : Prop :=
 splitB (decide (x9 ≤ x10)) (ptrOk A0 fun a1_ => 0 ≤ x1 ∧ x1 < ((n0 : Nat) : Int) ∧ (ptrOk A0 fun a2_ => 0 ≤ x10 ∧ x10 < ((n0 : Nat) : Int) ∧ (∃ v3_, ldv false 1 h (Addr.add a1_ (Int.toNat x1 * 1)) = some v3_ ∧ ∃ s4_, v3_ = (Value.string s4_) ∧ ∃ v5_, ldv false 1 h (Addr.add a2_ (Int.toNat x10 * 1)) = some v5_ ∧ ∃ s6_, v5_ = (Value.string s6_) ∧ Run Tryd.prog 76 #[(Value.string s4_), (Value.string s6_)] h fun v7_ h8_ => ∃ b9_, v7_ = (Value.bool b9_) ∧ splitB b9_ (f77.j3 R A0 n0 c0 x1 x9 x10 h8_) (f77.j1 R A0 n0 c0 x1 x9 x10 h8_)))) (f77.j1 R A0 n0 c0 x1 x9 x10 h)
theorem f77.l2_in {R A0 n0 c0 x1 x9 x10 h} (H : f77.l2T R A0 n0 c0 x1 x9 x10 h) : f77.l2 R A0 n0 c0 x1 x9 x10 h := pt_in (kp := f77.kp) mixed f77.good (by kernel_rfl) H
def f77.j3T (R : VP) (A0 : Option Addr) (n0 c0 : Nat) (x1 x9 x10 : Int) (h : Heap) : Prop :=
 f77.l2 R A0 n0 c0 x1 x9 (IntKind.wrap .i64 (x10 - (1 : Int))) h
theorem f77.j3_in {R A0 n0 c0 x1 x9 x10 h} (H : f77.j3T R A0 n0 c0 x1 x9 x10 h) : f77.j3 R A0 n0 c0 x1 x9 x10 h := pt_in (kp := f77.kp) mixed f77.good (by kernel_rfl) H
def f77.j1T (R : VP) (A0 : Option Addr) (n0 c0 : Nat) (x1 x9 x10 : Int) (h : Heap) : Prop :=
 splitB (decide (x9 > x10)) (R (Value.int .i64 x9) h) (ptrOk A0 fun a1_ => 0 ≤ x10 ∧ x10 < ((n0 : Nat) : Int) ∧ (ptrOk A0 fun a2_ => 0 ≤ x9 ∧ x9 < ((n0 : Nat) : Int) ∧ (∃ v3_, ldv false 1 h (Addr.add a1_ (Int.toNat x10 * 1)) = some v3_ ∧ ∃ s4_, v3_ = (Value.string s4_) ∧ ∃ v5_, ldv false 1 h (Addr.add a2_ (Int.toNat x9 * 1)) = some v5_ ∧ ∃ s6_, v5_ = (Value.string s6_) ∧ ptrOk A0 fun a7_ => 0 ≤ x9 ∧ x9 < ((n0 : Nat) : Int) ∧ (∃ h8_, st1 h (Addr.add a7_ (Int.toNat x9 * 1)) (Value.string s4_) = some h8_ ∧ ptrOk A0 fun a9_ => 0 ≤ x10 ∧ x10 < ((n0 : Nat) : Int) ∧ (∃ h10_, st1 h8_ (Addr.add a9_ (Int.toNat x10 * 1)) (Value.string s6_) = some h10_ ∧ f77.l0 R A0 n0 c0 x1 (IntKind.wrap .i64 (x9 + (1 : Int))) (IntKind.wrap .i64 (x10 - (1 : Int))) h10_)))))
theorem f77.j1_in {R A0 n0 c0 x1 x9 x10 h} (H : f77.j1T R A0 n0 c0 x1 x9 x10 h) : f77.j1 R A0 n0 c0 x1 x9 x10 h := pt_in (kp := f77.kp) mixed f77.good (by kernel_rfl) H
def f77.runT (R : VP) (A0 : Option Addr) (n0 c0 : Nat) (x1 x2 x3 : Int) (h : Heap) : Prop :=
 ptrOk A0 fun a1_ => 0 ≤ x3 ∧ x3 < ((n0 : Nat) : Int) ∧ (ptrOk A0 fun a2_ => 0 ≤ x1 ∧ x1 < ((n0 : Nat) : Int) ∧ (∃ v3_, ldv false 1 h (Addr.add a1_ (Int.toNat x3 * 1)) = some v3_ ∧ ∃ s4_, v3_ = (Value.string s4_) ∧ ∃ v5_, ldv false 1 h (Addr.add a2_ (Int.toNat x1 * 1)) = some v5_ ∧ ∃ s6_, v5_ = (Value.string s6_) ∧ ptrOk A0 fun a7_ => 0 ≤ x1 ∧ x1 < ((n0 : Nat) : Int) ∧ (∃ h8_, st1 h (Addr.add a7_ (Int.toNat x1 * 1)) (Value.string s4_) = some h8_ ∧ ptrOk A0 fun a9_ => 0 ≤ x3 ∧ x3 < ((n0 : Nat) : Int) ∧ (∃ h10_, st1 h8_ (Addr.add a9_ (Int.toNat x3 * 1)) (Value.string s6_) = some h10_ ∧ f77.l0 R A0 n0 c0 x1 (IntKind.wrap .i64 (x1 + (1 : Int))) (IntKind.wrap .i64 (x2 - (1 : Int))) h10_))))
theorem f77.run {R : VP} {A0 : Option Addr} {n0 c0 : Nat} {x1 x2 x3 : Int} {h : Heap} (H : f77.runT R A0 n0 c0 x1 x2 x3 h) : Run Tryd.prog 77 #[(Value.slice A0 n0 c0), (Value.int .i64 x1), (Value.int .i64 x2), (Value.int .i64 x3)] h R := run_in (kp := f77.kp) mixed Tryd.func77 (by kernel_rfl) (by kernel_rfl) f77.good (by kernel_rfl) H
def f78.T : Tab := { sh := tSh, tup := tTup, keep := [], plan := [(1, (.take 0 (.take 1 (.take 2 (.take 3 (.take 4 (.take 5 (.take 6 (.take 8 (.take 9 (.take 10 (.take 7 (.take 11 (.take 12 (.eff false false [] 13 (.take 14 (.eff false false [] 15 .done))))))))))))))))), (3, (.take 0 (.take 1 (.take 2 (.take 3 (.split 3 (.take 4 (.take 5 (.take 6 (.take 8 (.take 9 (.take 10 (.take 7 (.take 11 (.eff false false [] 12 (.take 13 .done)))))))))))))))), (5, (.take 0 (.take 1 (.take 2 (.take 3 (.split 3 (.take 4 (.take 5 (.take 6 (.take 8 (.take 9 (.take 10 (.take 7 (.take 11 (.eff false false [] 12 (.take 13 (.take 14 .done))))))))))))))))), (8, (.take 0 (.take 1 (.take 2 (.take 3 (.take 4 (.take 5 (.take 6 (.take 8 (.take 9 (.take 10 (.take 7 (.take 11 (.take 12 (.eff false false [] 13 (.take 14 (.eff false false [] 15 .done))))))))))))))))), (10, (.take 0 (.take 1 (.take 2 (.take 3 (.take 4 (.take 5 (.take 6 (.take 8 (.take 9 (.take 10 (.take 7 (.take 11 (.take 12 (.eff false false [] 13 (.take 14 (.eff false false [] 15 .done))))))))))))))))), (13, (.take 0 (.take 1 (.take 2 (.take 3 (.split 3 (.take 4 (.take 5 (.take 6 (.take 8 (.take 9 (.take 10 (.take 7 (.take 11 (.eff false false [] 12 (.take 13 .done)))))))))))))))), (15, (.take 0 (.take 1 (.take 2 (.take 3 (.split 3 (.take 4 (.take 5 (.take 6 (.take 8 (.take 9 (.take 10 (.take 7 (.take 11 (.eff false false [] 12 (.take 13 (.take 14 .done))))))))))))))))), (18, (.take 0 (.take 1 (.take 2 (.take 3 (.take 4 (.take 5 (.take 6 (.take 8 (.take 9 (.take 10 (.take 7 (.take 11 (.take 12 (.eff false false [] 13 (.take 14 (.eff false false [] 15 .done))))))))))))))))), (21, (.take 0 (.take 1 (.take 2 (.take 3 (.take 4 (.take 5 (.take 6 (.take 8 (.take 9 (.take 10 (.take 7 (.take 11 (.take 12 (.eff false false [] 13 (.take 14 (.eff false false [] 15 .done)))))))))))))))))] }
def f78.kp : Keep := [([false, false, false, true, true, true], [0, 1, 10, 11]), ([true, false, false, false, true, true, true], [0, 1, 10, 11]), ([true, true, true, true], [0, 1, 10, 11]), ([false, false, false, true, true, true, true], [0, 1, 10, 11]), ([true, false, false, false, true, true, true, true], [0, 1, 10, 11]), ([true, true, true, true, true], [0, 1, 10, 11]), ([false, false, false, true, true, true, true, true, true, true, true, true], [0, 1, 10, 11]), ([false, false, false, false, false, false, false, true, true, true, true, true, true, true, true, true], [0, 1, 10, 11]), ([true, false, false, false, false, false, false, false, true, true, true, true, true, true, true, true, true], [0, 1, 10, 11]), ([true, false, false, false, false, true, true, true, true, true, true, true, true, true], [0, 1, 10, 11]), ([false, false, false, true, false, false, false, false, true, true, true, true, true, true, true, true, true], [0, 1, 10, 11]), ([true, false, false, false, true, false, false, false, false, true, true, true, true, true, true, true, true, true], [0, 1, 10, 11]), ([true, true, false, false, false, false, true, true, true, true, true, true, true, true, true], [0, 1, 10, 11]), ([true, true, true, true, true, true, true, true, true, true], [0, 1, 11])]
theorem f78.good : goodCode Tryd.prog f78.T (rootOf Tryd.f78) = true := by kernel_rfl
def f78.l0 (R A0 n0 c0 x1 x10 x11 h) := Pt Tryd.prog Tryd.f78 R [false, false, false, true, true, true] (mkFr [(0, (Value.slice A0 n0 c0)), (1, (Value.int .i64 x1)), (10, (Value.int .i64 x10)), (11, (Value.int .i64 x11))]) h
def f78.j2 (R A0 n0 c0 x1 x10 x11 h) := Pt Tryd.prog Tryd.f78 R [true, false, false, false, true, true, true] (mkFr [(0, (Value.slice A0 n0 c0)), (1, (Value.int .i64 x1)), (10, (Value.int .i64 x10)), (11, (Value.int .i64 x11))]) h
def f78.j0 (R A0 n0 c0 x1 x10 x11 h) := Pt Tryd.prog Tryd.f78 R [true, true, true, true] (mkFr [(0, (Value.slice A0 n0 c0)), (1, (Value.int .i64 x1)), (10, (Value.int .i64 x10)), (11, (Value.int .i64 x11))]) h
def f78.l1 (R A0 n0 c0 x1 x10 x11 h) := Pt Tryd.prog Tryd.f78 R [false, false, false, true, true, true, true] (mkFr [(0, (Value.slice A0 n0 c0)), (1, (Value.int .i64 x1)), (10, (Value.int .i64 x10)), (11, (Value.int .i64 x11))]) h
def f78.j3 (R A0 n0 c0 x1 x10 x11 h) := Pt Tryd.prog Tryd.f78 R [true, false, false, false, true, true, true, true] (mkFr [(0, (Value.slice A0 n0 c0)), (1, (Value.int .i64 x1)), (10, (Value.int .i64 x10)), (11, (Value.int .i64 x11))]) h
def f78.j1 (R A0 n0 c0 x1 x10 x11 h) := Pt Tryd.prog Tryd.f78 R [true, true, true, true, true] (mkFr [(0, (Value.slice A0 n0 c0)), (1, (Value.int .i64 x1)), (10, (Value.int .i64 x10)), (11, (Value.int .i64 x11))]) h
def f78.l2 (R A0 n0 c0 x1 x10 x11 h) := Pt Tryd.prog Tryd.f78 R [false, false, false, true, true, true, true, true, true, true, true, true] (mkFr [(0, (Value.slice A0 n0 c0)), (1, (Value.int .i64 x1)), (10, (Value.int .i64 x10)), (11, (Value.int .i64 x11))]) h
def f78.l3 (R A0 n0 c0 x1 x10 x11 h) := Pt Tryd.prog Tryd.f78 R [false, false, false, false, false, false, false, true, true, true, true, true, true, true, true, true] (mkFr [(0, (Value.slice A0 n0 c0)), (1, (Value.int .i64 x1)), (10, (Value.int .i64 x10)), (11, (Value.int .i64 x11))]) h
def f78.j7 (R A0 n0 c0 x1 x10 x11 h) := Pt Tryd.prog Tryd.f78 R [true, false, false, false, false, false, false, false, true, true, true, true, true, true, true, true, true] (mkFr [(0, (Value.slice A0 n0 c0)), (1, (Value.int .i64 x1)), (10, (Value.int .i64 x10)), (11, (Value.int .i64 x11))]) h
def f78.j5 (R A0 n0 c0 x1 x10 x11 h) := Pt Tryd.prog Tryd.f78 R [true, false, false, false, false, true, true, true, true, true, true, true, true, true] (mkFr [(0, (Value.slice A0 n0 c0)), (1, (Value.int .i64 x1)), (10, (Value.int .i64 x10)), (11, (Value.int .i64 x11))]) h
def f78.l4 (R A0 n0 c0 x1 x10 x11 h) := Pt Tryd.prog Tryd.f78 R [false, false, false, true, false, false, false, false, true, true, true, true, true, true, true, true, true] (mkFr [(0, (Value.slice A0 n0 c0)), (1, (Value.int .i64 x1)), (10, (Value.int .i64 x10)), (11, (Value.int .i64 x11))]) h
def f78.j8 (R A0 n0 c0 x1 x10 x11 h) := Pt Tryd.prog Tryd.f78 R [true, false, false, false, true, false, false, false, false, true, true, true, true, true, true, true, true, true] (mkFr [(0, (Value.slice A0 n0 c0)), (1, (Value.int .i64 x1)), (10, (Value.int .i64 x10)), (11, (Value.int .i64 x11))]) h
def f78.j6 (R A0 n0 c0 x1 x10 x11 h) := Pt Tryd.prog Tryd.f78 R [true, true, false, false, false, false, true, true, true, true, true, true, true, true, true] (mkFr [(0, (Value.slice A0 n0 c0)), (1, (Value.int .i64 x1)), (10, (Value.int .i64 x10)), (11, (Value.int .i64 x11))]) h
def f78.j4 (R A0 n0 c0 x1 x11 h) := Pt Tryd.prog Tryd.f78 R [true, true, true, true, true, true, true, true, true, true] (mkFr [(0, (Value.slice A0 n0 c0)), (1, (Value.int .i64 x1)), (11, (Value.int .i64 x11))]) h
def f78.l0T (R : VP) (A0 : Option Addr) (n0 c0 : Nat) (x1 x10 x11 : Int) (h : Heap) : Prop :=
 splitB (decide (x10 ≤ x11)) (ptrOk A0 fun a1_ => 0 ≤ x10 ∧ x10 < ((n0 : Nat) : Int) ∧ (ptrOk A0 fun a2_ => 0 ≤ x1 ∧ x1 < ((n0 : Nat) : Int) ∧ (∃ v3_, ldv false 1 h (Addr.add a1_ (Int.toNat x10 * 1)) = some v3_ ∧ ∃ s4_, v3_ = (Value.string s4_) ∧ ∃ v5_, ldv false 1 h (Addr.add a2_ (Int.toNat x1 * 1)) = some v5_ ∧ ∃ s6_, v5_ = (Value.string s6_) ∧ Run Tryd.prog 76 #[(Value.string s4_), (Value.string s6_)] h fun v7_ h8_ => ∃ b9_, v7_ = (Value.bool b9_) ∧ splitB b9_ (f78.j2 R A0 n0 c0 x1 x10 x11 h8_) (f78.j0 R A0 n0 c0 x1 x10 x11 h8_)))) (f78.j0 R A0 n0 c0 x1 x10 x11 h)
theorem f78.l0_in {R A0 n0 c0 x1 x10 x11 h} (H : f78.l0T R A0 n0 c0 x1 x10 x11 h) : f78.l0 R A0 n0 c0 x1 x10 x11 h := pt_in (kp := f78.kp) mixed f78.good (by kernel_rfl) H
def f78.j2T (R : VP) (A0 : Option Addr) (n0 c0 : Nat) (x1 x10 x11 : Int) (h : Heap) : Prop :=
 f78.l0 R A0 n0 c0 x1 (IntKind.wrap .i64 (x10 + (1 : Int))) x11 h
theorem f78.j2_in {R A0 n0 c0 x1 x10 x11 h} (H : f78.j2T R A0 n0 c0 x1 x10 x11 h) : f78.j2 R A0 n0 c0 x1 x10 x11 h := pt_in (kp := f78.kp) mixed f78.good (by kernel_rfl) H
def f78.j0T (R : VP) (A0 : Option Addr) (n0 c0 : Nat) (x1 x10 x11 : Int) (h : Heap) : Prop :=
 f78.l1 R A0 n0 c0 x1 x10 x11 h
theorem f78.j0_in {R A0 n0 c0 x1 x10 x11 h} (H : f78.j0T R A0 n0 c0 x1 x10 x11 h) : f78.j0 R A0 n0 c0 x1 x10 x11 h := pt_in (kp := f78.kp) mixed f78.good (by kernel_rfl) H
def f78.l1T (R : VP) (A0 : Option Addr) (n0 c0 : Nat) (x1 x10 x11 : Int) (h : Heap) : Prop :=
 splitB (decide (x10 ≤ x11)) (ptrOk A0 fun a1_ => 0 ≤ x11 ∧ x11 < ((n0 : Nat) : Int) ∧ (ptrOk A0 fun a2_ => 0 ≤ x1 ∧ x1 < ((n0 : Nat) : Int) ∧ (∃ v3_, ldv false 1 h (Addr.add a1_ (Int.toNat x11 * 1)) = some v3_ ∧ ∃ s4_, v3_ = (Value.string s4_) ∧ ∃ v5_, ldv false 1 h (Addr.add a2_ (Int.toNat x1 * 1)) = some v5_ ∧ ∃ s6_, v5_ = (Value.string s6_) ∧ Run Tryd.prog 76 #[(Value.string s4_), (Value.string s6_)] h fun v7_ h8_ => ∃ b9_, v7_ = (Value.bool b9_) ∧ splitB (!b9_) (f78.j3 R A0 n0 c0 x1 x10 x11 h8_) (f78.j1 R A0 n0 c0 x1 x10 x11 h8_)))) (f78.j1 R A0 n0 c0 x1 x10 x11 h)
theorem f78.l1_in {R A0 n0 c0 x1 x10 x11 h} (H : f78.l1T R A0 n0 c0 x1 x10 x11 h) : f78.l1 R A0 n0 c0 x1 x10 x11 h := pt_in (kp := f78.kp) mixed f78.good (by kernel_rfl) H
def f78.j3T (R : VP) (A0 : Option Addr) (n0 c0 : Nat) (x1 x10 x11 : Int) (h : Heap) : Prop :=
 f78.l1 R A0 n0 c0 x1 x10 (IntKind.wrap .i64 (x11 - (1 : Int))) h
theorem f78.j3_in {R A0 n0 c0 x1 x10 x11 h} (H : f78.j3T R A0 n0 c0 x1 x10 x11 h) : f78.j3 R A0 n0 c0 x1 x10 x11 h := pt_in (kp := f78.kp) mixed f78.good (by kernel_rfl) H
def f78.j1T (R : VP) (A0 : Option Addr) (n0 c0 : Nat) (x1 x10 x11 : Int) (h : Heap) : Prop :=
 splitB (decide (x10 > x11)) (ptrOk A0 fun a1_ => 0 ≤ x1 ∧ x1 < ((n0 : Nat) : Int) ∧ (ptrOk A0 fun a2_ => 0 ≤ x11 ∧ x11 < ((n0 : Nat) : Int) ∧ (∃ v3_, ldv false 1 h (Addr.add a1_ (Int.toNat x1 * 1)) = some v3_ ∧ ∃ s4_, v3_ = (Value.string s4_) ∧ ∃ v5_, ldv false 1 h (Addr.add a2_ (Int.toNat x11 * 1)) = some v5_ ∧ ∃ s6_, v5_ = (Value.string s6_) ∧ ptrOk A0 fun a7_ => 0 ≤ x11 ∧ x11 < ((n0 : Nat) : Int) ∧ (∃ h8_, st1 h (Addr.add a7_ (Int.toNat x11 * 1)) (Value.string s4_) = some h8_ ∧ ptrOk A0 fun a9_ => 0 ≤ x1 ∧ x1 < ((n0 : Nat) : Int) ∧ (∃ h10_, st1 h8_ (Addr.add a9_ (Int.toNat x1 * 1)) (Value.string s6_) = some h10_ ∧ R (Value.tuple #[(Value.int .i64 x11), (Value.bool true)]) h10_))))) (ptrOk A0 fun a11_ => 0 ≤ x11 ∧ x11 < ((n0 : Nat) : Int) ∧ (ptrOk A0 fun a12_ => 0 ≤ x10 ∧ x10 < ((n0 : Nat) : Int) ∧ (∃ v13_, ldv false 1 h (Addr.add a11_ (Int.toNat x11 * 1)) = some v13_ ∧ ∃ s14_, v13_ = (Value.string s14_) ∧ ∃ v15_, ldv false 1 h (Addr.add a12_ (Int.toNat x10 * 1)) = some v15_ ∧ ∃ s16_, v15_ = (Value.string s16_) ∧ ptrOk A0 fun a17_ => 0 ≤ x10 ∧ x10 < ((n0 : Nat) : Int) ∧ (∃ h18_, st1 h (Addr.add a17_ (Int.toNat x10 * 1)) (Value.string s14_) = some h18_ ∧ ptrOk A0 fun a19_ => 0 ≤ x11 ∧ x11 < ((n0 : Nat) : Int) ∧ (∃ h20_, st1 h18_ (Addr.add a19_ (Int.toNat x11 * 1)) (Value.string s16_) = some h20_ ∧ f78.l2 R A0 n0 c0 x1 (IntKind.wrap .i64 (x10 + (1 : Int))) (IntKind.wrap .i64 (x11 - (1 : Int))) h20_)))))
theorem f78.j1_in {R A0 n0 c0 x1 x10 x11 h} (H : f78.j1T R A0 n0 c0 x1 x10 x11 h) : f78.j1 R A0 n0 c0 x1 x10 x11 h := pt_in (kp := f78.kp) mixed f78.good (by kernel_rfl) H
def f78.l2T (R : VP) (A0 : Option Addr) (n0 c0 : Nat) (x1 x10 x11 : Int) (h : Heap) : Prop :=
 f78.l3 R A0 n0 c0 x1 x10 x11 h
theorem f78.l2_in {R A0 n0 c0 x1 x10 x11 h} (H : f78.l2T R A0 n0 c0 x1 x10 x11 h) : f78.l2 R A0 n0 c0 x1 x10 x11 h := pt_in (kp := f78.kp) mixed f78.good (by kernel_rfl) H
def f78.l3T (R : VP) (A0 : Option Addr) (n0 c0 : Nat) (x1 x10 x11 : Int) (h : Heap) : Prop :=
 splitB (decide (x10 ≤ x11)) (ptrOk A0 fun a1_ => 0 ≤ x10 ∧ x10 < ((n0 : Nat) : Int) ∧ (ptrOk A0 fun a2_ => 0 ≤ x1 ∧ x1 < ((n0 : Nat) : Int) ∧ (∃ v3_, ldv false 1 h (Addr.add a1_ (Int.toNat x10 * 1)) = some v3_ ∧ ∃ s4_, v3_ = (Value.string s4_) ∧ ∃ v5_, ldv false 1 h (Addr.add a2_ (Int.toNat x1 * 1)) = some v5_ ∧ ∃ s6_, v5_ = (Value.string s6_) ∧ Run Tryd.prog 76 #[(Value.string s4_), (Value.string s6_)] h fun v7_ h8_ => ∃ b9_, v7_ = (Value.bool b9_) ∧ splitB b9_ (f78.j7 R A0 n0 c0 x1 x10 x11 h8_) (f78.j5 R A0 n0 c0 x1 x10 x11 h8_)))) (f78.j5 R A0 n0 c0 x1 x10 x11 h)
theorem f78.l3_in {R A0 n0 c0 x1 x10 x11 h} (H : f78.l3T R A0 n0 c0 x1 x10 x11 h) : f78.l3 R A0 n0 c0 x1 x10 x11 h := pt_in (kp := f78.kp) mixed f78.good (by kernel_rfl) H
def f78.j7T (R : VP) (A0 : Option Addr) (n0 c0 : Nat) (x1 x10 x11 : Int) (h : Heap) : Prop :=
 f78.l3 R A0 n0 c0 x1 (IntKind.wrap .i64 (x10 + (1 : Int))) x11 h
theorem f78.j7_in {R A0 n0 c0 x1 x10 x11 h} (H : f78.j7T R A0 n0 c0 x1 x10 x11 h) : f78.j7 R A0 n0 c0 x1 x10 x11 h := pt_in (kp := f78.kp) mixed f78.good (by kernel_rfl) H
def f78.j5T (R : VP) (A0 : Option Addr) (n0 c0 : Nat) (x1 x10 x11 : Int) (h : Heap) : Prop :=
 f78.l4 R A0 n0 c0 x1 x10 x11 h
theorem f78.j5_in {R A0 n0 c0 x1 x10 x11 h} (H : f78.j5T R A0 n0 c0 x1 x10 x11 h) : f78.j5 R A0 n0 c0 x1 x10 x11 h := pt_in (kp := f78.kp) mixed f78.good (by kernel_rfl) H
def f78.l4T (R : VP) (A0 : Option Addr) (n0 c0 : Nat) (x1 x10 x11 : Int) (h : Heap) : Prop :=
 splitB (decide (x10 ≤ x11)) (ptrOk A0 fun a1_ => 0 ≤ x11 ∧ x11 < ((n0 : Nat) : Int) ∧ (ptrOk A0 fun a2_ => 0 ≤ x1 ∧ x1 < ((n0 : Nat) : Int) ∧ (∃ v3_, ldv false 1 h (Addr.add a1_ (Int.toNat x11 * 1)) = some v3_ ∧ ∃ s4_, v3_ = (Value.string s4_) ∧ ∃ v5_, ldv false 1 h (Addr.add a2_ (Int.toNat x1 * 1)) = some v5_ ∧ ∃ s6_, v5_ = (Value.string s6_) ∧ Run Tryd.prog 76 #[(Value.string s4_), (Value.string s6_)] h fun v7_ h8_ => ∃ b9_, v7_ = (Value.bool b9_) ∧ splitB (!b9_) (f78.j8 R A0 n0 c0 x1 x10 x11 h8_) (f78.j6 R A0 n0 c0 x1 x10 x11 h8_)))) (f78.j6 R A0 n0 c0 x1 x10 x11 h)
theorem f78.l4_in {R A0 n0 c0 x1 x10 x11 h} (H : f78.l4T R A0 n0 c0 x1 x10 x11 h) : f78.l4 R A0 n0 c0 x1 x10 x11 h := pt_in (kp := f78.kp) mixed f78.good (by kernel_rfl) H
def f78.j8T (R : VP) (A0 : Option Addr) (n0 c0 : Nat) (x1 x10 x11 : Int) (h : Heap) : Prop :=
 f78.l4 R A0 n0 c0 x1 x10 (IntKind.wrap .i64 (x11 - (1 : Int))) h
theorem f78.j8_in {R A0 n0 c0 x1 x10 x11 h} (H : f78.j8T R A0 n0 c0 x1 x10 x11 h) : f78.j8 R A0 n0 c0 x1 x10 x11 h := pt_in (kp := f78.kp) mixed f78.good (by kernel_rfl) H
def f78.j6T (R : VP) (A0 : Option Addr) (n0 c0 : Nat) (x1 x10 x11 : Int) (h : Heap) : Prop :=
 splitB (decide (x10 > x11)) (f78.j4 R A0 n0 c0 x1 x11 h) (ptrOk A0 fun a1_ => 0 ≤ x11 ∧ x11 < ((n0 : Nat) : Int) ∧ (ptrOk A0 fun a2_ => 0 ≤ x10 ∧ x10 < ((n0 : Nat) : Int) ∧ (∃ v3_, ldv false 1 h (Addr.add a1_ (Int.toNat x11 * 1)) = some v3_ ∧ ∃ s4_, v3_ = (Value.string s4_) ∧ ∃ v5_, ldv false 1 h (Addr.add a2_ (Int.toNat x10 * 1)) = some v5_ ∧ ∃ s6_, v5_ = (Value.string s6_) ∧ ptrOk A0 fun a7_ => 0 ≤ x10 ∧ x10 < ((n0 : Nat) : Int) ∧ (∃ h8_, st1 h (Addr.add a7_ (Int.toNat x10 * 1)) (Value.string s4_) = some h8_ ∧ ptrOk A0 fun a9_ => 0 ≤ x11 ∧ x11 < ((n0 : Nat) : Int) ∧ (∃ h10_, st1 h8_ (Addr.add a9_ (Int.toNat x11 * 1)) (Value.string s6_) = some h10_ ∧ f78.l2 R A0 n0 c0 x1 (IntKind.wrap .i64 (x10 + (1 : Int))) (IntKind.wrap .i64 (x11 - (1 : Int))) h10_)))))
theorem f78.j6_in {R A0 n0 c0 x1 x10 x11 h} (H : f78.j6T R A0 n0 c0 x1 x10 x11 h) : f78.j6 R A0 n0 c0 x1 x10 x11 h := pt_in (kp := f78.kp) mixed f78.good (by kernel_rfl) H
def f78.j4T (R : VP) (A0 : Option Addr) (n0 c0 : Nat) (x1 x11 : Int) (h : Heap) : Prop :=
 ptrOk A0 fun a1_ => 0 ≤ x1 ∧ x1 < ((n0 : Nat) : Int) ∧ (ptrOk A0 fun a2_ => 0 ≤ x11 ∧ x11 < ((n0 : Nat) : Int) ∧ (∃ v3_, ldv false 1 h (Addr.add a1_ (Int.toNat x1 * 1)) = some v3_ ∧ ∃ s4_, v3_ = (Value.string s4_) ∧ ∃ v5_, ldv false 1 h (Addr.add a2_ (Int.toNat x11 * 1)) = some v5_ ∧ ∃ s6_, v5_ = (Value.string s6_) ∧ ptrOk A0 fun a7_ => 0 ≤ x11 ∧ x11 < ((n0 : Nat) : Int) ∧ (∃ h8_, st1 h (Addr.add a7_ (Int.toNat x11 * 1)) (Value.string s4_) = some h8_ ∧ ptrOk A0 fun a9_ => 0 ≤ x1 ∧ x1 < ((n0 : Nat) : Int) ∧ (∃ h10_, st1 h8_ (Addr.add a9_ (Int.toNat x1 * 1)) (Value.string s6_) = some h10_ ∧ R (Value.tuple #[(Value.int .i64 x11), (Value.bool false)]) h10_))))
theorem f78.j4_in {R A0 n0 c0 x1 x11 h} (H : f78.j4T R A0 n0 c0 x1 x11 h) : f78.j4 R A0 n0 c0 x1 x11 h := pt_in (kp := f78.kp) mixed f78.good (by kernel_rfl) H
def f78.runT (R : VP) (A0 : Option Addr) (n0 c0 : Nat) (x1 x2 x3 : Int) (h : Heap) : Prop :=
 ptrOk A0 fun a1_ => 0 ≤ x3 ∧ x3 < ((n0 : Nat) : Int) ∧ (ptrOk A0 fun a2_ => 0 ≤ x1 ∧ x1 < ((n0 : Nat) : Int) ∧ (∃ v3_, ldv false 1 h (Addr.add a1_ (Int.toNat x3 * 1)) = some v3_ ∧ ∃ s4_, v3_ = (Value.string s4_) ∧ ∃ v5_, ldv false 1 h (Addr.add a2_ (Int.toNat x1 * 1)) = some v5_ ∧ ∃ s6_, v5_ = (Value.string s6_) ∧ ptrOk A0 fun a7_ => 0 ≤ x1 ∧ x1 < ((n0 : Nat) : Int) ∧ (∃ h8_, st1 h (Addr.add a7_ (Int.toNat x1 * 1)) (Value.string s4_) = some h8_ ∧ ptrOk A0 fun a9_ => 0 ≤ x3 ∧ x3 < ((n0 : Nat) : Int) ∧ (∃ h10_, st1 h8_ (Addr.add a9_ (Int.toNat x3 * 1)) (Value.string s6_) = some h10_ ∧ f78.l0 R A0 n0 c0 x1 (IntKind.wrap .i64 (x1 + (1 : Int))) (IntKind.wrap .i64 (x2 - (1 : Int))) h10_))))
theorem f78.run {R : VP} {A0 : Option Addr} {n0 c0 : Nat} {x1 x2 x3 : Int} {h : Heap} (H : f78.runT R A0 n0 c0 x1 x2 x3 h) : Run Tryd.prog 78 #[(Value.slice A0 n0 c0), (Value.int .i64 x1), (Value.int .i64 x2), (Value.int .i64 x3)] h R := run_in (kp := f78.kp) mixed Tryd.func78 (by kernel_rfl) (by kernel_rfl) f78.good (by kernel_rfl) H
def f63.T : Tab := { sh := tSh, tup := tTup, keep := [], plan := [(17, (.take 0 (.take 1 (.take 2 (.split 2 (.take 3 (.take 4 (.take 5 (.take 6 (.take 8 (.take 9 (.take 10 (.take 7 (.take 11 (.eff false false [] 12 (.take 13 (.take 14 .done)))))))))))))))))] }
def f63.kp : Keep := [([false, false, true, true], [0, 1, 2, 3, 8, 9]), ([true, true, true, true, false, false, false, true, true], [0, 1, 2, 3, 8, 9, 10]), ([true, true, true, true, true, true, false, false, false, true, true], [0, 1, 2, 3, 8, 9, 10, 11, 12]), ([true, false, true, true, true, true, true, true, false, false, false, true, true], [0, 1, 2, 3, 8, 9, 10, 11, 68]), ([true, true, true, true, true, true, true, false, false, false, true, true], [0, 1, 2, 3, 8, 9, 10, 11]), ([true, false, true, true, true, true, true, true, true, false, false, false, true, true], [0, 1, 2, 3, 8, 9, 10, 11, 87]), ([true, true, true, true, true, true, true, true, false, false, false, true, true], [0, 1, 2, 3, 10, 11])]
theorem f63.good : goodCode Tryd.prog f63.T (rootOf Tryd.f63) = true := by kernel_rfl
def f63.l0 (R A0 n0 c0 x1 x2 x3 b8 b9 h) := Pt Tryd.prog Tryd.f63 R [false, false, true, true] (mkFr [(0, (Value.slice A0 n0 c0)), (1, (Value.int .i64 x1)), (2, (Value.int .i64 x2)), (3, (Value.int .i64 x3)), (8, (Value.bool b8)), (9, (Value.bool b9))]) h
def f63.j0 (R A0 n0 c0 x1 x2 x3 b8 b9 x10 h) := Pt Tryd.prog Tryd.f63 R [true, true, true, true, false, false, false, true, true] (mkFr [(0, (Value.slice A0 n0 c0)), (1, (Value.int .i64 x1)), (2, (Value.int .i64 x2)), (3, (Value.int .i64 x3)), (8, (Value.bool b8)), (9, (Value.bool b9)), (10, (Value.int .i64 x10))]) h
def f63.j1 (R A0 n0 c0 x1 x2 x3 b8 b9 x10 x11 x12 h) := Pt Tryd.prog Tryd.f63 R [true, true, true, true, true, true, false, false, false, true, true] (mkFr [(0, (Value.slice A0 n0 c0)), (1, (Value.int .i64 x1)), (2, (Value.int .i64 x2)), (3, (Value.int .i64 x3)), (8, (Value.bool b8)), (9, (Value.bool b9)), (10, (Value.int .i64 x10)), (11, (Value.int .i64 x11)), (12, (Value.int .i64 x12))]) h
def f63.j3 (R A0 n0 c0 x1 x2 x3 b8 b9 x10 x11 b68 h) := Pt Tryd.prog Tryd.f63 R [true, false, true, true, true, true, true, true, false, false, false, true, true] (mkFr [(0, (Value.slice A0 n0 c0)), (1, (Value.int .i64 x1)), (2, (Value.int .i64 x2)), (3, (Value.int .i64 x3)), (8, (Value.bool b8)), (9, (Value.bool b9)), (10, (Value.int .i64 x10)), (11, (Value.int .i64 x11)), (68, (Value.bool b68))]) h
def f63.j2 (R A0 n0 c0 x1 x2 x3 b8 b9 x10 x11 h) := Pt Tryd.prog Tryd.f63 R [true, true, true, true, true, true, true, false, false, false, true, true] (mkFr [(0, (Value.slice A0 n0 c0)), (1, (Value.int .i64 x1)), (2, (Value.int .i64 x2)), (3, (Value.int .i64 x3)), (8, (Value.bool b8)), (9, (Value.bool b9)), (10, (Value.int .i64 x10)), (11, (Value.int .i64 x11))]) h
def f63.j5 (R A0 n0 c0 x1 x2 x3 b8 b9 x10 x11 b87 h) := Pt Tryd.prog Tryd.f63 R [true, false, true, true, true, true, true, true, true, false, false, false, true, true] (mkFr [(0, (Value.slice A0 n0 c0)), (1, (Value.int .i64 x1)), (2, (Value.int .i64 x2)), (3, (Value.int .i64 x3)), (8, (Value.bool b8)), (9, (Value.bool b9)), (10, (Value.int .i64 x10)), (11, (Value.int .i64 x11)), (87, (Value.bool b87))]) h
def f63.j4 (R A0 n0 c0 x1 x2 x3 x10 x11 h) := Pt Tryd.prog Tryd.f63 R [true, true, true, true, true, true, true, true, false, false, false, true, true] (mkFr [(0, (Value.slice A0 n0 c0)), (1, (Value.int .i64 x1)), (2, (Value.int .i64 x2)), (3, (Value.int .i64 x3)), (10, (Value.int .i64 x10)), (11, (Value.int .i64 x11))]) h
def f63.l0T (R : VP) (A0 : Option Addr) (n0 c0 : Nat) (x1 x2 x3 : Int) (b8 b9 : Bool) (h : Heap) : Prop :=
 splitB (decide ((IntKind.wrap .i64 (x2 - x1)) ≤ (12 : Int))) (Run Tryd.prog 70 #[(Value.slice A0 n0 c0), (Value.int .i64 x1), (Value.int .i64 x2)] h fun v1_ h2_ => v1_ = (Value.tuple #[]) ∧ R (Value.tuple #[]) h2_) (splitB (x3 == (0 : Int)) (Run Tryd.prog 71 #[(Value.slice A0 n0 c0), (Value.int .i64 x1), (Value.int .i64 x2)] h fun v3_ h4_ => v3_ = (Value.tuple #[]) ∧ R (Value.tuple #[]) h4_) (splitB (!b8) (Run Tryd.prog 72 #[(Value.slice A0 n0 c0), (Value.int .i64 x1), (Value.int .i64 x2)] h fun v5_ h6_ => v5_ = (Value.tuple #[]) ∧ f63.j0 R A0 n0 c0 x1 x2 (IntKind.wrap .i64 (x3 - (1 : Int))) b8 b9 (IntKind.wrap .i64 (x2 - x1)) h6_) (f63.j0 R A0 n0 c0 x1 x2 x3 b8 b9 (IntKind.wrap .i64 (x2 - x1)) h)))
theorem f63.l0_in {R A0 n0 c0 x1 x2 x3 b8 b9 h} (H : f63.l0T R A0 n0 c0 x1 x2 x3 b8 b9 h) : f63.l0 R A0 n0 c0 x1 x2 x3 b8 b9 h := pt_in (kp := f63.kp) mixed f63.good (by kernel_rfl) H
def f63.j0T (R : VP) (A0 : Option Addr) (n0 c0 : Nat) (x1 x2 x3 : Int) (b8 b9 : Bool) (x10 : Int) (h : Heap) : Prop :=
 Run Tryd.prog 73 #[(Value.slice A0 n0 c0), (Value.int .i64 x1), (Value.int .i64 x2)] h fun v1_ h2_ => ∃ x3_, ∃ x4_, v1_ = (Value.tuple #[(Value.int .i64 x3_), (Value.int .i64 x4_)]) ∧ splitB (x4_ == (2 : Int)) (Run Tryd.prog 74 #[(Value.slice A0 n0 c0), (Value.int .i64 x1), (Value.int .i64 x2)] h2_ fun v5_ h6_ => v5_ = (Value.tuple #[]) ∧ f63.j1 R A0 n0 c0 x1 x2 x3 b8 b9 x10 (IntKind.wrap .i64 ((IntKind.wrap .i64 (x2 - (1 : Int))) - (IntKind.wrap .i64 (x3_ - x1)))) (1 : Int) h6_) (f63.j1 R A0 n0 c0 x1 x2 x3 b8 b9 x10 x3_ x4_ h2_)
theorem f63.j0_in {R A0 n0 c0 x1 x2 x3 b8 b9 x10 h} (H : f63.j0T R A0 n0 c0 x1 x2 x3 b8 b9 x10 h) : f63.j0 R A0 n0 c0 x1 x2 x3 b8 b9 x10 h := pt_in (kp := f63.kp) mixed f63.good (by kernel_rfl) H
def f63.j1T (R : VP) (A0 : Option Addr) (n0 c0 : Nat) (x1 x2 x3 : Int) (b8 b9 : Bool) (x10 x11 x12 : Int) (h : Heap) : Prop :=
 splitB b8 (splitB b9 (f63.j3 R A0 n0 c0 x1 x2 x3 b8 b9 x10 x11 (x12 == (1 : Int)) h) (f63.j3 R A0 n0 c0 x1 x2 x3 b8 b9 x10 x11 false h)) (f63.j3 R A0 n0 c0 x1 x2 x3 b8 b9 x10 x11 false h)
theorem f63.j1_in {R A0 n0 c0 x1 x2 x3 b8 b9 x10 x11 x12 h} (H : f63.j1T R A0 n0 c0 x1 x2 x3 b8 b9 x10 x11 x12 h) : f63.j1 R A0 n0 c0 x1 x2 x3 b8 b9 x10 x11 x12 h := pt_in (kp := f63.kp) mixed f63.good (by kernel_rfl) H
def f63.j3T (R : VP) (A0 : Option Addr) (n0 c0 : Nat) (x1 x2 x3 : Int) (b8 b9 : Bool) (x10 x11 : Int) (b68 : Bool) (h : Heap) : Prop :=
 splitB b68 (Run Tryd.prog 75 #[(Value.slice A0 n0 c0), (Value.int .i64 x1), (Value.int .i64 x2)] h fun v1_ h2_ => ∃ b3_, v1_ = (Value.bool b3_) ∧ splitB b3_ (R (Value.tuple #[]) h2_) (f63.j2 R A0 n0 c0 x1 x2 x3 b8 b9 x10 x11 h2_)) (f63.j2 R A0 n0 c0 x1 x2 x3 b8 b9 x10 x11 h)
theorem f63.j3_in {R A0 n0 c0 x1 x2 x3 b8 b9 x10 x11 b68 h} (H : f63.j3T R A0 n0 c0 x1 x2 x3 b8 b9 x10 x11 b68 h) : f63.j3 R A0 n0 c0 x1 x2 x3 b8 b9 x10 x11 b68 h := pt_in (kp := f63.kp) mixed f63.good (by kernel_rfl) H
def f63.j2T (R : VP) (A0 : Option Addr) (n0 c0 : Nat) (x1 x2 x3 : Int) (b8 b9 : Bool) (x10 x11 : Int) (h : Heap) : Prop :=
 splitB (decide (x1 > (0 : Int))) (ptrOk A0 fun a1_ => 0 ≤ (IntKind.wrap .i64 (x1 - (1 : Int))) ∧ (IntKind.wrap .i64 (x1 - (1 : Int))) < ((n0 : Nat) : Int) ∧ (ptrOk A0 fun a2_ => 0 ≤ x11 ∧ x11 < ((n0 : Nat) : Int) ∧ (∃ v3_, ldv false 1 h (Addr.add a1_ (Int.toNat (IntKind.wrap .i64 (x1 - (1 : Int))) * 1)) = some v3_ ∧ ∃ s4_, v3_ = (Value.string s4_) ∧ ∃ v5_, ldv false 1 h (Addr.add a2_ (Int.toNat x11 * 1)) = some v5_ ∧ ∃ s6_, v5_ = (Value.string s6_) ∧ Run Tryd.prog 76 #[(Value.string s4_), (Value.string s6_)] h fun v7_ h8_ => ∃ b9_, v7_ = (Value.bool b9_) ∧ f63.j5 R A0 n0 c0 x1 x2 x3 b8 b9 x10 x11 (!b9_) h8_))) (f63.j5 R A0 n0 c0 x1 x2 x3 b8 b9 x10 x11 false h)
theorem f63.j2_in {R A0 n0 c0 x1 x2 x3 b8 b9 x10 x11 h} (H : f63.j2T R A0 n0 c0 x1 x2 x3 b8 b9 x10 x11 h) : f63.j2 R A0 n0 c0 x1 x2 x3 b8 b9 x10 x11 h := pt_in (kp := f63.kp) mixed f63.good (by kernel_rfl) H
def f63.j5T (R : VP) (A0 : Option Addr) (n0 c0 : Nat) (x1 x2 x3 : Int) (b8 b9 : Bool) (x10 x11 : Int) (b87 : Bool) (h : Heap) : Prop :=
 splitB b87 (Run Tryd.prog 77 #[(Value.slice A0 n0 c0), (Value.int .i64 x1), (Value.int .i64 x2), (Value.int .i64 x11)] h fun v1_ h2_ => ∃ x3_, v1_ = (Value.int .i64 x3_) ∧ f63.l0 R A0 n0 c0 x3_ x2 x3 b8 b9 h2_) (f63.j4 R A0 n0 c0 x1 x2 x3 x10 x11 h)
theorem f63.j5_in {R A0 n0 c0 x1 x2 x3 b8 b9 x10 x11 b87 h} (H : f63.j5T R A0 n0 c0 x1 x2 x3 b8 b9 x10 x11 b87 h) : f63.j5 R A0 n0 c0 x1 x2 x3 b8 b9 x10 x11 b87 h := pt_in (kp := f63.kp) mixed f63.good (by kernel_rfl) H
def f63.j4T (R : VP) (A0 : Option Addr) (n0 c0 : Nat) (x1 x2 x3 x10 x11 : Int) (h : Heap) : Prop :=
 Run Tryd.prog 78 #[(Value.slice A0 n0 c0), (Value.int .i64 x1), (Value.int .i64 x2), (Value.int .i64 x11)] h fun v1_ h2_ => ∃ x3_, ∃ b4_, v1_ = (Value.tuple #[(Value.int .i64 x3_), (Value.bool b4_)]) ∧ (8 : Int) ≠ 0 ∧ (splitB (decide ((IntKind.wrap .i64 (x3_ - x1)) < (IntKind.wrap .i64 (x2 - x3_)))) (Run Tryd.prog 63 #[(Value.slice A0 n0 c0), (Value.int .i64 x1), (Value.int .i64 x3_), (Value.int .i64 x3)] h2_ fun v5_ h6_ => v5_ = (Value.tuple #[]) ∧ f63.l0 R A0 n0 c0 (IntKind.wrap .i64 (x3_ + (1 : Int))) x2 x3 (decide ((IntKind.wrap .i64 (x3_ - x1)) ≥ (IntKind.wrap .i64 (Int.tdiv x10 (8 : Int))))) b4_ h6_) (Run Tryd.prog 63 #[(Value.slice A0 n0 c0), (Value.int .i64 (IntKind.wrap .i64 (x3_ + (1 : Int)))), (Value.int .i64 x2), (Value.int .i64 x3)] h2_ fun v7_ h8_ => v7_ = (Value.tuple #[]) ∧ f63.l0 R A0 n0 c0 x1 x3_ x3 (decide ((IntKind.wrap .i64 (x2 - x3_)) ≥ (IntKind.wrap .i64 (Int.tdiv x10 (8 : Int))))) b4_ h8_))
theorem f63.j4_in {R A0 n0 c0 x1 x2 x3 x10 x11 h} (H : f63.j4T R A0 n0 c0 x1 x2 x3 x10 x11 h) : f63.j4 R A0 n0 c0 x1 x2 x3 x10 x11 h := pt_in (kp := f63.kp) mixed f63.good (by kernel_rfl) H
def f63.runT (R : VP) (A0 : Option Addr) (n0 c0 : Nat) (x1 x2 x3 : Int) (h : Heap) : Prop :=
 f63.l0 R A0 n0 c0 x1 x2 x3 true true h
theorem f63.run {R : VP} {A0 : Option Addr} {n0 c0 : Nat} {x1 x2 x3 : Int} {h : Heap} (H : f63.runT R A0 n0 c0 x1 x2 x3 h) : Run Tryd.prog 63 #[(Value.slice A0 n0 c0), (Value.int .i64 x1), (Value.int .i64 x2), (Value.int .i64 x3)] h R := run_in (kp := f63.kp) mixed Tryd.func63 (by kernel_rfl) (by kernel_rfl) f63.good (by kernel_rfl) H
def f53.T : Tab := { sh := tSh, tup := tTup, keep := [], plan := [] }
def f53.kp : Keep := []
theorem f53.good : goodCode Tryd.prog f53.T (rootOf Tryd.f53) = true := by kernel_rfl
def f53.runT (R : VP) (A0 : Option Addr) (n0 c0 : Nat) (h : Heap) : Prop :=
 Run Tryd.prog 64 #[(Value.int .u64 (IntKind.wrap .u64 ((n0 : Nat) : Int)))] h fun v1_ h2_ => ∃ x3_, v1_ = (Value.int .i64 x3_) ∧ Run Tryd.prog 63 #[(Value.slice A0 n0 c0), (Value.int .i64 (0 : Int)), (Value.int .i64 ((n0 : Nat) : Int)), (Value.int .i64 x3_)] h2_ fun v4_ h5_ => v4_ = (Value.tuple #[]) ∧ R (Value.tuple #[]) h5_
theorem f53.run {R : VP} {A0 : Option Addr} {n0 c0 : Nat} {h : Heap} (H : f53.runT R A0 n0 c0 h) : Run Tryd.prog 53 #[(Value.slice A0 n0 c0)] h R := run_in (kp := f53.kp) mixed Tryd.func53 (by kernel_rfl) (by kernel_rfl) f53.good (by kernel_rfl) H
def f40.T : Tab := { sh := tSh, tup := tTup, keep := [], plan := [] }
def f40.kp : Keep := []
theorem f40.good : goodCode Tryd.prog f40.T (rootOf Tryd.f40) = true := by kernel_rfl
def f40.runT (R : VP) (A0 : Option Addr) (n0 c0 : Nat) (h : Heap) : Prop :=
 Run Tryd.prog 53 #[(Value.slice A0 n0 c0)] h fun v1_ h2_ => v1_ = (Value.tuple #[]) ∧ R (Value.tuple #[]) h2_
theorem f40.run {R : VP} {A0 : Option Addr} {n0 c0 : Nat} {h : Heap} (H : f40.runT R A0 n0 c0 h) : Run Tryd.prog 40 #[(Value.slice A0 n0 c0)] h R := run_in (kp := f40.kp) mixed Tryd.func40 (by kernel_rfl) (by kernel_rfl) f40.good (by kernel_rfl) H
def f29.T : Tab := { sh := tSh, tup := tTup, keep := [(12, [9, 43])], plan := [] }
def f29.kp : Keep := [([false, false, true, false, true, true], [3, 9])]
theorem f29.good : goodCode Tryd.prog f29.T (rootOf Tryd.f29) = true := by kernel_rfl
def f29.l0 (R A3 n3 c3 v9 h) := Pt Tryd.prog Tryd.f29 R [false, false, true, false, true, true] (mkFr [(3, (Value.slice A3 n3 c3)), (9, v9)]) h
def f29.l0T (R : VP) (A3 : Option Addr) (n3 c3 : Nat) (v9 : Value) (h : Heap) : Prop :=
 NextEv Tryd.prog v9 0 h (fun h1_ => Run Tryd.prog 40 #[(Value.slice A3 n3 c3)] h1_ fun v5_ h6_ => v5_ = (Value.tuple #[]) ∧ R (Value.slice A3 n3 c3) h6_) (fun k3_ u4_ h2_ => Gen Tryd.prog (Instr.entry v9) h2_ fun v7_ h8_ => ∃ s9_, ∃ v10_, v7_ = (Value.tuple #[(Value.string s9_), v10_]) ∧ newH h8_ (Obj.cells #[(Value.string s9_)] 9) fun h11_ => AppW 9 1 16 #[(Value.string (ByteArray.mk #[]))] A3 n3 c3 (Value.slice (some ⟨Array.size h8_, 0, none⟩) 1 1) h11_ fun v12_ h13_ => ∃ A14_, ∃ n14_, ∃ c14_, v12_ = (Value.slice A14_ n14_ c14_) ∧ f29.l0 R A14_ n14_ c14_ v9 h13_)
theorem f29.l0_in {R A3 n3 c3 v9 h} (H : f29.l0T R A3 n3 c3 v9 h) : f29.l0 R A3 n3 c3 v9 h := pt_in (kp := f29.kp) mixed f29.good (by kernel_rfl) H
def f29.runT (R : VP) (a0 : Addr) (h : Heap) : Prop :=
 ∃ v1_, ldv false 1 h (Addr.add a0 2) = some v1_ ∧ Gen Tryd.prog (Instr.range 36 v1_) h fun v2_ h3_ => f29.l0 R none 0 0 v2_ h3_
theorem f29.run {R : VP} {a0 : Addr} {h : Heap} (H : f29.runT R a0 h) : Run Tryd.prog 29 #[(Value.pointer (some a0))] h R := run_in (kp := f29.kp) mixed Tryd.func29 (by kernel_rfl) (by kernel_rfl) f29.good (by kernel_rfl) H
def f30.T : Tab := { sh := tSh, tup := tTup, keep := [], plan := [(6, (.take 0 (.take 1 (.take 2 (.take 4 (.take 5 (.take 6 (.take 3 (.take 7 (.eff false false [] 8 .done))))))))))] }
def f30.kp : Keep := [([false, false, true, false, true, true], [0, 1, 12, 13])]
theorem f30.good : goodCode Tryd.prog f30.T (rootOf Tryd.f30) = true := by kernel_rfl
def f30.l0 (R A0 n0 c0 A1 n1 c1 x12 x13 h) := Pt Tryd.prog Tryd.f30 R [false, false, true, false, true, true] (mkFr [(0, (Value.slice A0 n0 c0)), (1, (Value.slice A1 n1 c1)), (12, (Value.int .i64 x12)), (13, (Value.int .i64 x13))]) h
def f30.l0T (R : VP) (A0 : Option Addr) (n0 c0 : Nat) (A1 : Option Addr) (n1 c1 : Nat) (x12 x13 : Int) (h : Heap) : Prop :=
 splitB (decide (x13 < x12)) (ptrOk A0 fun a1_ => 0 ≤ x13 ∧ x13 < ((n0 : Nat) : Int) ∧ (ptrOk A1 fun a2_ => 0 ≤ x13 ∧ x13 < ((n1 : Nat) : Int) ∧ (∃ v3_, ldv true 2 h (Addr.add a1_ (Int.toNat x13 * 2)) = some v3_ ∧ ∃ v4_, ldv true 2 h (Addr.add a2_ (Int.toNat x13 * 2)) = some v4_ ∧ Gen Tryd.prog (do eqGuard .neq 71 (.tmp 19) (.tmp 23) v3_ v4_; binOp .neq 71 v3_ v4_) h fun v5_ h6_ => ∃ b7_, v5_ = Value.bool b7_ ∧ splitB b7_ (R (Value.bool false) h6_) (f30.l0 R A0 n0 c0 A1 n1 c1 x12 (IntKind.wrap .i64 (x13 + (1 : Int))) h6_)))) (R (Value.bool true) h)
theorem f30.l0_in {R A0 n0 c0 A1 n1 c1 x12 x13 h} (H : f30.l0T R A0 n0 c0 A1 n1 c1 x12 x13 h) : f30.l0 R A0 n0 c0 A1 n1 c1 x12 x13 h := pt_in (kp := f30.kp) mixed f30.good (by kernel_rfl) H
def f30.runT (R : VP) (A0 : Option Addr) (n0 c0 : Nat) (A1 : Option Addr) (n1 c1 : Nat) (h : Heap) : Prop :=
 splitB (((n0 : Nat) : Int) != ((n1 : Nat) : Int)) (R (Value.bool false) h) (f30.l0 R A0 n0 c0 A1 n1 c1 ((n0 : Nat) : Int) (0 : Int) h)
theorem f30.run {R : VP} {A0 : Option Addr} {n0 c0 : Nat} {A1 : Option Addr} {n1 c1 : Nat} {h : Heap} (H : f30.runT R A0 n0 c0 A1 n1 c1 h) : Run Tryd.prog 30 #[(Value.slice A0 n0 c0), (Value.slice A1 n1 c1)] h R := run_in (kp := f30.kp) mixed Tryd.func30 (by kernel_rfl) (by kernel_rfl) f30.good (by kernel_rfl) H
def f31.T : Tab := { sh := tSh, tup := tTup, keep := [], plan := [] }
def f31.kp : Keep := [([false, false, true, false, true, true], [3, 9, 10, 11])]
theorem f31.good : goodCode Tryd.prog f31.T (rootOf Tryd.f31) = true := by kernel_rfl
def f31.l0 (R A3 n3 c3 A9 n9 c9 x10 x11 h) := Pt Tryd.prog Tryd.f31 R [false, false, true, false, true, true] (mkFr [(3, (Value.slice A3 n3 c3)), (9, (Value.slice A9 n9 c9)), (10, (Value.int .i64 x10)), (11, (Value.int .i64 x11))]) h
def f31.l0T (R : VP) (A3 : Option Addr) (n3 c3 : Nat) (A9 : Option Addr) (n9 c9 : Nat) (x10 x11 : Int) (h : Heap) : Prop :=
 splitB (decide (x11 < x10)) (ptrOk A9 fun a1_ => 0 ≤ x11 ∧ x11 < ((n9 : Nat) : Int) ∧ (∃ v2_, ldv true 4 h (Addr.add a1_ (Int.toNat x11 * 4)) = some v2_ ∧ newH h (Obj.cells #[(Value.string (ByteArray.mk #[])), (Value.int .i64 (0 : Int)), (Value.int .i64 (0 : Int)), (Value.int .i64 (0 : Int))] 33) fun h3_ => ∃ l5_ : List Value, v2_ = Value.agg l5_.toArray ∧ l5_.length = 4 ∧ ∃ h4_, stH h3_ (⟨Array.size h, 0, none⟩) l5_ 0 = some h4_ ∧ ∃ v6_, ldv false 1 h4_ (Addr.add (⟨Array.size h, 0, none⟩) 1) = some v6_ ∧ ∃ x7_, v6_ = (Value.int .i64 x7_) ∧ splitB (decide (x7_ > (0 : Int))) (∃ v8_, ldv false 1 h4_ (⟨Array.size h, 0, none⟩) = some v8_ ∧ ∃ s9_, v8_ = (Value.string s9_) ∧ ∃ v10_, ldv false 1 h4_ (Addr.add (⟨Array.size h, 0, none⟩) 1) = some v10_ ∧ ∃ x11_, v10_ = (Value.int .i64 x11_) ∧ ∃ l12_ : List Value, (Value.agg #[(Value.string s9_), (Value.int .i64 x11_)]) = Value.agg l12_.toArray ∧ l12_.length = 2 ∧ (newH h4_ (Obj.cells ((List.take 0 ([(Value.string (ByteArray.mk #[])), (Value.int .i64 (0 : Int))]) ++ l12_ ++ List.drop 2 ([(Value.string (ByteArray.mk #[])), (Value.int .i64 (0 : Int))])).toArray) 71) fun h13_ => AppW 71 2 24 #[(Value.string (ByteArray.mk #[])), (Value.int .i64 (0 : Int))] A3 n3 c3 (Value.slice (some ⟨Array.size h4_, 0, none⟩) 1 1) h13_ fun v14_ h15_ => ∃ A16_, ∃ n16_, ∃ c16_, v14_ = (Value.slice A16_ n16_ c16_) ∧ f31.l0 R A16_ n16_ c16_ A9 n9 c9 x10 (IntKind.wrap .i64 (x11 + (1 : Int))) h15_)) (f31.l0 R A3 n3 c3 A9 n9 c9 x10 (IntKind.wrap .i64 (x11 + (1 : Int))) h4_))) (R (Value.slice A3 n3 c3) h)
theorem f31.l0_in {R A3 n3 c3 A9 n9 c9 x10 x11 h} (H : f31.l0T R A3 n3 c3 A9 n9 c9 x10 x11 h) : f31.l0 R A3 n3 c3 A9 n9 c9 x10 x11 h := pt_in (kp := f31.kp) mixed f31.good (by kernel_rfl) H
def f31.runT (R : VP) (a0 : Addr) (h : Heap) : Prop :=
 ∃ v1_, ldv false 1 h (Addr.add a0 2) = some v1_ ∧ ∃ A2_, ∃ n2_, ∃ c2_, v1_ = (Value.slice A2_ n2_ c2_) ∧ f31.l0 R none 0 0 A2_ n2_ c2_ ((n2_ : Nat) : Int) (0 : Int) h
theorem f31.run {R : VP} {a0 : Addr} {h : Heap} (H : f31.runT R a0 h) : Run Tryd.prog 31 #[(Value.pointer (some a0))] h R := run_in (kp := f31.kp) mixed Tryd.func31 (by kernel_rfl) (by kernel_rfl) f31.good (by kernel_rfl) H
end Go.Proofs.YtaiehkhjmplodaaDoor.Fw

end
section
namespace Go.Proofs.YtaiehkhjmplodaaDoor.Fw
open Go Go.Hw Go.Proofs
set_option linter.unusedVariables false
set_option maxRecDepth 100000
def f15.T : Tab := { sh := tSh, tup := tTup, keep := [], plan := [(12, (.take 0 (.take 1 (.take 2 (.take 4 (.take 7 (.take 3 (.eff false false [] 5 (.take 6 (.take 8 .done))))))))))] }
def f15.kp : Keep := [([false, false, true, false, true, true, true], [0, 1, 2, 7, 8, 17, 18, 19]), ([true, true, true, true, true, true, true], [0, 7, 8, 12, 13, 14, 15])]
theorem f15.good : goodCode Tryd.prog f15.T (rootOf Tryd.f15) = true := by kernel_rfl
def f15.l0 (R a0 a1 s2 A7 n7 c7 A8 n8 c8 A17 n17 c17 x18 x19 h) := Pt Tryd.prog Tryd.f15 R [false, false, true, false, true, true, true] (mkFr [(0, (Value.pointer (some a0))), (1, (Value.pointer (some a1))), (2, (Value.string s2)), (7, (Value.slice A7 n7 c7)), (8, (Value.slice A8 n8 c8)), (17, (Value.slice A17 n17 c17)), (18, (Value.int .i64 x18)), (19, (Value.int .i64 x19))]) h
def f15.j0 (R a0 A7 n7 c7 A8 n8 c8 x12 x13 x14 x15 h) := Pt Tryd.prog Tryd.f15 R [true, true, true, true, true, true, true] (mkFr [(0, (Value.pointer (some a0))), (7, (Value.slice A7 n7 c7)), (8, (Value.slice A8 n8 c8)), (12, (Value.int .i64 x12)), (13, (Value.int .i64 x13)), (14, (Value.int .i64 x14)), (15, (Value.int .i64 x15))]) h
def f15.l0T (R : VP) (a0 a1 : Addr) (s2 : ByteArray) (A7 : Option Addr) (n7 c7 : Nat) (A8 : Option Addr) (n8 c8 : Nat) (A17 : Option Addr) (n17 c17 : Nat) (x18 x19 : Int) (h : Heap) : Prop :=
 splitB (decide (x19 < x18)) (ptrOk A17 fun a1_ => 0 ≤ x19 ∧ x19 < ((n17 : Nat) : Int) ∧ (∃ v2_, ldv false 1 h (Addr.add a1_ (Int.toNat x19 * 1)) = some v2_ ∧ ∃ s3_, v2_ = (Value.string s3_) ∧ ∃ v4_, ldv false 1 h (Addr.add a1 2) = some v4_ ∧ Gen Tryd.prog (Instr.lookup 36 v4_ (Value.string s3_) false) h fun v5_ h6_ => newH h6_ (Obj.cells #[(Value.int .i64 (0 : Int)), (Value.int .i64 (0 : Int)), (Value.int .i64 (0 : Int))] 43) fun h7_ => ∃ l9_ : List Value, v5_ = Value.agg l9_.toArray ∧ l9_.length = 3 ∧ ∃ h8_, stH h7_ (⟨Array.size h6_, 0, none⟩) l9_ 0 = some h8_ ∧ ∃ v10_, ldv false 1 h8_ (⟨Array.size h6_, 0, none⟩) = some v10_ ∧ ∃ x11_, v10_ = (Value.int .i64 x11_) ∧ ∃ v12_, ldv false 1 h8_ (Addr.add (⟨Array.size h6_, 0, none⟩) 1) = some v12_ ∧ ∃ x13_, v12_ = (Value.int .i64 x13_) ∧ ∃ v14_, ldv false 1 h8_ (Addr.add (⟨Array.size h6_, 0, none⟩) 2) = some v14_ ∧ ∃ x15_, v14_ = (Value.int .i64 x15_) ∧ ∃ l16_ : List Value, (Value.agg #[(Value.string s3_), (Value.int .i64 x11_), (Value.int .i64 x13_), (Value.int .i64 x15_)]) = Value.agg l16_.toArray ∧ l16_.length = 4 ∧ (newH h8_ (Obj.cells ((List.take 0 ([(Value.string (ByteArray.mk #[])), (Value.int .i64 (0 : Int)), (Value.int .i64 (0 : Int)), (Value.int .i64 (0 : Int))]) ++ l16_ ++ List.drop 4 ([(Value.string (ByteArray.mk #[])), (Value.int .i64 (0 : Int)), (Value.int .i64 (0 : Int)), (Value.int .i64 (0 : Int))])).toArray) 33) fun h17_ => AppW 33 4 40 #[(Value.string (ByteArray.mk #[])), (Value.int .i64 (0 : Int)), (Value.int .i64 (0 : Int)), (Value.int .i64 (0 : Int))] A7 n7 c7 (Value.slice (some ⟨Array.size h8_, 0, none⟩) 1 1) h17_ fun v18_ h19_ => ∃ A20_, ∃ n20_, ∃ c20_, v18_ = (Value.slice A20_ n20_ c20_) ∧ ∃ v21_, ldv false 1 h19_ (⟨Array.size h6_, 0, none⟩) = some v21_ ∧ ∃ x22_, v21_ = (Value.int .i64 x22_) ∧ splitB (decide (x22_ > (0 : Int))) (∃ v23_, ldv false 1 h19_ (⟨Array.size h6_, 0, none⟩) = some v23_ ∧ ∃ x24_, v23_ = (Value.int .i64 x24_) ∧ ∃ l25_ : List Value, (Value.agg #[(Value.string s3_), (Value.int .i64 x24_)]) = Value.agg l25_.toArray ∧ l25_.length = 2 ∧ (newH h19_ (Obj.cells ((List.take 0 ([(Value.string (ByteArray.mk #[])), (Value.int .i64 (0 : Int))]) ++ l25_ ++ List.drop 2 ([(Value.string (ByteArray.mk #[])), (Value.int .i64 (0 : Int))])).toArray) 71) fun h26_ => AppW 71 2 24 #[(Value.string (ByteArray.mk #[])), (Value.int .i64 (0 : Int))] A8 n8 c8 (Value.slice (some ⟨Array.size h19_, 0, none⟩) 1 1) h26_ fun v27_ h28_ => ∃ A29_, ∃ n29_, ∃ c29_, v27_ = (Value.slice A29_ n29_ c29_) ∧ f15.l0 R a0 a1 s2 A20_ n20_ c20_ A29_ n29_ c29_ A17 n17 c17 x18 (IntKind.wrap .i64 (x19 + (1 : Int))) h28_)) (f15.l0 R a0 a1 s2 A20_ n20_ c20_ A8 n8 c8 A17 n17 c17 x18 (IntKind.wrap .i64 (x19 + (1 : Int))) h19_)))) (Run Tryd.prog 19 #[(Value.pointer (some a0)), (Value.string s2)] h fun v30_ h31_ => ∃ x32_, ∃ x33_, v30_ = (Value.tuple #[(Value.int .i64 x32_), (Value.int .i64 x33_)]) ∧ ∃ v34_, ldv false 1 h31_ (Addr.add a1 2) = some v34_ ∧ Gen Tryd.prog (Instr.lookup 36 v34_ (Value.string s2) false) h31_ fun v35_ h36_ => ∃ v37_, fldv false 1 0 v35_ = some v37_ ∧ ∃ x38_, v37_ = (Value.int .i64 x38_) ∧ Run Tryd.prog 11 #[(Value.string s2)] h36_ fun v39_ h40_ => ∃ b41_, v39_ = (Value.bool b41_) ∧ splitB (!b41_) (f15.j0 R a0 A7 n7 c7 A8 n8 c8 x32_ x33_ (3 : Int) x38_ h40_) (splitB (x38_ == (0 : Int)) (f15.j0 R a0 A7 n7 c7 A8 n8 c8 x32_ x33_ (4 : Int) x38_ h40_) (f15.j0 R a0 A7 n7 c7 A8 n8 c8 x32_ x33_ (0 : Int) x38_ h40_)))
theorem f15.l0_in {R a0 a1 s2 A7 n7 c7 A8 n8 c8 A17 n17 c17 x18 x19 h} (H : f15.l0T R a0 a1 s2 A7 n7 c7 A8 n8 c8 A17 n17 c17 x18 x19 h) : f15.l0 R a0 a1 s2 A7 n7 c7 A8 n8 c8 A17 n17 c17 x18 x19 h := pt_in (kp := f15.kp) mixed f15.good (by kernel_rfl) H
def f15.j0T (R : VP) (a0 : Addr) (A7 : Option Addr) (n7 c7 : Nat) (A8 : Option Addr) (n8 c8 : Nat) (x12 x13 x14 x15 : Int) (h : Heap) : Prop :=
 splitB (x12 == x15) (splitB (x13 == x14) (Run Tryd.prog 7 #[(Value.pointer (some a0))] h fun v1_ h2_ => ∃ A3_, ∃ n3_, ∃ c3_, v1_ = (Value.slice A3_ n3_ c3_) ∧ Run Tryd.prog 6 #[(Value.slice A3_ n3_ c3_), (Value.slice A7 n7 c7)] h2_ fun v4_ h5_ => ∃ b6_, v4_ = (Value.bool b6_) ∧ splitB b6_ (Run Tryd.prog 31 #[(Value.pointer (some a0))] h5_ fun v7_ h8_ => ∃ A9_, ∃ n9_, ∃ c9_, v7_ = (Value.slice A9_ n9_ c9_) ∧ Run Tryd.prog 30 #[(Value.slice A9_ n9_ c9_), (Value.slice A8 n8 c8)] h8_ fun v10_ h11_ => ∃ b12_, v10_ = (Value.bool b12_) ∧ R (Value.bool b12_) h11_) (R (Value.bool false) h5_)) (R (Value.bool false) h)) (R (Value.bool false) h)
theorem f15.j0_in {R a0 A7 n7 c7 A8 n8 c8 x12 x13 x14 x15 h} (H : f15.j0T R a0 A7 n7 c7 A8 n8 c8 x12 x13 x14 x15 h) : f15.j0 R a0 A7 n7 c7 A8 n8 c8 x12 x13 x14 x15 h := pt_in (kp := f15.kp) mixed f15.good (by kernel_rfl) H
def f15.runT (R : VP) (a0 a1 : Addr) (s2 : ByteArray) (h : Heap) : Prop :=
 Run Tryd.prog 29 #[(Value.pointer (some a1))] h fun v1_ h2_ => ∃ A3_, ∃ n3_, ∃ c3_, v1_ = (Value.slice A3_ n3_ c3_) ∧ f15.l0 R a0 a1 s2 none 0 0 none 0 0 A3_ n3_ c3_ ((n3_ : Nat) : Int) (0 : Int) h2_
theorem f15.run {R : VP} {a0 a1 : Addr} {s2 : ByteArray} {h : Heap} (H : f15.runT R a0 a1 s2 h) : Run Tryd.prog 15 #[(Value.pointer (some a0)), (Value.pointer (some a1)), (Value.string s2)] h R := run_in (kp := f15.kp) mixed Tryd.func15 (by kernel_rfl) (by kernel_rfl) f15.good (by kernel_rfl) H
def f3.T : Tab := { sh := tSh, tup := tTup, keep := [], plan := [(23, (.take 0 (.take 1 (.take 2 (.take 4 (.take 5 (.take 6 (.take 7 (.take 8 (.take 10 (.take 3 (.take 9 (.eff false true [] 11 (.eff false false [] 12 .done))))))))))))))] }
def f3.kp : Keep := [([true, true], [0, 1, 2, 3]), ([true, false, true, true, true], [0, 1, 2, 3, 11, 12, 57]), ([true, true, true, true], [0, 1, 2, 3, 11, 12]), ([true, true, true, true, true], [0, 1, 2, 3, 11]), ([false, false, true, false, true, true, true, true, true, true], [0, 2, 3, 11, 13, 74, 75, 76]), ([true, false, true, false, true, true, true, false, false, true, true, false, false, true, false, true, true, true, true, true, true], [0, 2, 3, 11, 13, 15, 16, 17, 18, 19, 74, 75, 76, 96, 97]), ([true, true, false, true, false, true, false, true, true, true, false, false, true, true, false, false, true, false, true, true, true, true, true, true], [0, 2, 3, 11, 13, 15, 16, 17, 18, 19, 20, 21, 74, 75, 76]), ([true, true, true, false, false, true, true, false, true, false, true, false, true, true, true, false, false, true, true, false, false, true, false, true, true, true, true, true, true], [0, 2, 3, 11, 13, 15, 16, 17, 18, 19, 20, 21, 74, 75, 76, 133]), ([true, true, true, true, true, false, false, true, true, false, true, false, true, false, true, true, true, false, false, true, true, false, false, true, false, true, true, true, true, true, true], [0, 2, 3, 11, 13, 16, 17, 19, 20, 21, 74, 75, 76, 141]), ([true, true, true, true, true, true, true, false, false, true, true, false, true, false, true, false, true, true, true, false, false, true, true, false, false, true, false, true, true, true, true, true, true], [0, 2, 3, 11, 13, 16, 17, 20, 21, 74, 75, 76, 150]), ([true, true, true, false, true, false, true, false, true, true, true, false, false, true, true, false, false, true, false, true, true, true, true, true, true], [0, 2, 3, 11, 13, 16, 20, 21, 74, 75, 76]), ([true, true, true, true, false, false, true, true, false, false, true, false, true, true, true, true, true, true], [0, 2, 3, 11, 13, 16, 74, 75, 76])]
theorem f3.good : goodCode Tryd.prog f3.T (rootOf Tryd.f3) = true := by kernel_rfl
def f3.j0 (R x0 A1 n1 c1 A2 n2 c2 A3 n3 c3 h) := Pt Tryd.prog Tryd.f3 R [true, true] (mkFr [(0, (Value.int .i64 x0)), (1, (Value.slice A1 n1 c1)), (2, (Value.slice A2 n2 c2)), (3, (Value.slice A3 n3 c3))]) h
def f3.j2 (R x0 A1 n1 c1 A2 n2 c2 A3 n3 c3 p11 x12 b57 h) := Pt Tryd.prog Tryd.f3 R [true, false, true, true, true] (mkFr [(0, (Value.int .i64 x0)), (1, (Value.slice A1 n1 c1)), (2, (Value.slice A2 n2 c2)), (3, (Value.slice A3 n3 c3)), (11, (Value.pointer p11)), (12, (Value.int .i64 x12)), (57, (Value.bool b57))]) h
def f3.j1 (R x0 A1 n1 c1 A2 n2 c2 A3 n3 c3 p11 x12 h) := Pt Tryd.prog Tryd.f3 R [true, true, true, true] (mkFr [(0, (Value.int .i64 x0)), (1, (Value.slice A1 n1 c1)), (2, (Value.slice A2 n2 c2)), (3, (Value.slice A3 n3 c3)), (11, (Value.pointer p11)), (12, (Value.int .i64 x12))]) h
def f3.j3 (R x0 A1 n1 c1 A2 n2 c2 A3 n3 c3 p11 h) := Pt Tryd.prog Tryd.f3 R [true, true, true, true, true] (mkFr [(0, (Value.int .i64 x0)), (1, (Value.slice A1 n1 c1)), (2, (Value.slice A2 n2 c2)), (3, (Value.slice A3 n3 c3)), (11, (Value.pointer p11))]) h
def f3.l0 (R x0 A2 n2 c2 A3 n3 c3 p11 a13 A74 n74 c74 x75 x76 h) := Pt Tryd.prog Tryd.f3 R [false, false, true, false, true, true, true, true, true, true] (mkFr [(0, (Value.int .i64 x0)), (2, (Value.slice A2 n2 c2)), (3, (Value.slice A3 n3 c3)), (11, (Value.pointer p11)), (13, (Value.pointer (some a13))), (74, (Value.slice A74 n74 c74)), (75, (Value.int .i64 x75)), (76, (Value.int .i64 x76))]) h
def f3.j5 (R x0 A2 n2 c2 A3 n3 c3 p11 a13 A15 n15 c15 s16 x17 a18 b19 A74 n74 c74 x75 x76 x96 b97 h) := Pt Tryd.prog Tryd.f3 R [true, false, true, false, true, true, true, false, false, true, true, false, false, true, false, true, true, true, true, true, true] (mkFr [(0, (Value.int .i64 x0)), (2, (Value.slice A2 n2 c2)), (3, (Value.slice A3 n3 c3)), (11, (Value.pointer p11)), (13, (Value.pointer (some a13))), (15, (Value.slice A15 n15 c15)), (16, (Value.string s16)), (17, (Value.int .i64 x17)), (18, (Value.pointer (some a18))), (19, (Value.bool b19)), (74, (Value.slice A74 n74 c74)), (75, (Value.int .i64 x75)), (76, (Value.int .i64 x76)), (96, (Value.int .i64 x96)), (97, (Value.bool b97))]) h
def f3.j6 (R x0 A2 n2 c2 A3 n3 c3 p11 a13 A15 n15 c15 s16 x17 a18 b19 x20 x21 A74 n74 c74 x75 x76 h) := Pt Tryd.prog Tryd.f3 R [true, true, false, true, false, true, false, true, true, true, false, false, true, true, false, false, true, false, true, true, true, true, true, true] (mkFr [(0, (Value.int .i64 x0)), (2, (Value.slice A2 n2 c2)), (3, (Value.slice A3 n3 c3)), (11, (Value.pointer p11)), (13, (Value.pointer (some a13))), (15, (Value.slice A15 n15 c15)), (16, (Value.string s16)), (17, (Value.int .i64 x17)), (18, (Value.pointer (some a18))), (19, (Value.bool b19)), (20, (Value.int .i64 x20)), (21, (Value.int .i64 x21)), (74, (Value.slice A74 n74 c74)), (75, (Value.int .i64 x75)), (76, (Value.int .i64 x76))]) h
def f3.j4 (R x0 A2 n2 c2 A3 n3 c3 p11 a13 s16 A74 n74 c74 x75 x76 h) := Pt Tryd.prog Tryd.f3 R [true, true, true, true, false, false, true, true, false, false, true, false, true, true, true, true, true, true] (mkFr [(0, (Value.int .i64 x0)), (2, (Value.slice A2 n2 c2)), (3, (Value.slice A3 n3 c3)), (11, (Value.pointer p11)), (13, (Value.pointer (some a13))), (16, (Value.string s16)), (74, (Value.slice A74 n74 c74)), (75, (Value.int .i64 x75)), (76, (Value.int .i64 x76))]) h
def f3.j7 (R x0 A2 n2 c2 A3 n3 c3 p11 a13 s16 x20 x21 A74 n74 c74 x75 x76 h) := Pt Tryd.prog Tryd.f3 R [true, true, true, false, true, false, true, false, true, true, true, false, false, true, true, false, false, true, false, true, true, true, true, true, true] (mkFr [(0, (Value.int .i64 x0)), (2, (Value.slice A2 n2 c2)), (3, (Value.slice A3 n3 c3)), (11, (Value.pointer p11)), (13, (Value.pointer (some a13))), (16, (Value.string s16)), (20, (Value.int .i64 x20)), (21, (Value.int .i64 x21)), (74, (Value.slice A74 n74 c74)), (75, (Value.int .i64 x75)), (76, (Value.int .i64 x76))]) h
def f3.j8 (R x0 A2 n2 c2 A3 n3 c3 p11 a13 A15 n15 c15 s16 x17 a18 b19 x20 x21 A74 n74 c74 x75 x76 b133 h) := Pt Tryd.prog Tryd.f3 R [true, true, true, false, false, true, true, false, true, false, true, false, true, true, true, false, false, true, true, false, false, true, false, true, true, true, true, true, true] (mkFr [(0, (Value.int .i64 x0)), (2, (Value.slice A2 n2 c2)), (3, (Value.slice A3 n3 c3)), (11, (Value.pointer p11)), (13, (Value.pointer (some a13))), (15, (Value.slice A15 n15 c15)), (16, (Value.string s16)), (17, (Value.int .i64 x17)), (18, (Value.pointer (some a18))), (19, (Value.bool b19)), (20, (Value.int .i64 x20)), (21, (Value.int .i64 x21)), (74, (Value.slice A74 n74 c74)), (75, (Value.int .i64 x75)), (76, (Value.int .i64 x76)), (133, (Value.bool b133))]) h
def f3.j9 (R x0 A2 n2 c2 A3 n3 c3 p11 a13 s16 x17 b19 x20 x21 A74 n74 c74 x75 x76 b141 h) := Pt Tryd.prog Tryd.f3 R [true, true, true, true, true, false, false, true, true, false, true, false, true, false, true, true, true, false, false, true, true, false, false, true, false, true, true, true, true, true, true] (mkFr [(0, (Value.int .i64 x0)), (2, (Value.slice A2 n2 c2)), (3, (Value.slice A3 n3 c3)), (11, (Value.pointer p11)), (13, (Value.pointer (some a13))), (16, (Value.string s16)), (17, (Value.int .i64 x17)), (19, (Value.bool b19)), (20, (Value.int .i64 x20)), (21, (Value.int .i64 x21)), (74, (Value.slice A74 n74 c74)), (75, (Value.int .i64 x75)), (76, (Value.int .i64 x76)), (141, (Value.bool b141))]) h
def f3.j10 (R x0 A2 n2 c2 A3 n3 c3 p11 a13 s16 x17 x20 x21 A74 n74 c74 x75 x76 b150 h) := Pt Tryd.prog Tryd.f3 R [true, true, true, true, true, true, true, false, false, true, true, false, true, false, true, false, true, true, true, false, false, true, true, false, false, true, false, true, true, true, true, true, true] (mkFr [(0, (Value.int .i64 x0)), (2, (Value.slice A2 n2 c2)), (3, (Value.slice A3 n3 c3)), (11, (Value.pointer p11)), (13, (Value.pointer (some a13))), (16, (Value.string s16)), (17, (Value.int .i64 x17)), (20, (Value.int .i64 x20)), (21, (Value.int .i64 x21)), (74, (Value.slice A74 n74 c74)), (75, (Value.int .i64 x75)), (76, (Value.int .i64 x76)), (150, (Value.bool b150))]) h
def f3.j0T (R : VP) (x0 : Int) (A1 : Option Addr) (n1 c1 : Nat) (A2 : Option Addr) (n2 c2 : Nat) (A3 : Option Addr) (n3 c3 : Nat) (h : Heap) : Prop :=
 Run Tryd.prog 4 #[(Value.int .i64 x0)] h fun v1_ h2_ => ∃ p3_, ∃ x4_, v1_ = (Value.tuple #[(Value.pointer p3_), (Value.int .i64 x4_)]) ∧ splitB (decide (x0 < (1 : Int))) (f3.j2 R x0 A1 n1 c1 A2 n2 c2 A3 n3 c3 p3_ x4_ true h2_) (f3.j2 R x0 A1 n1 c1 A2 n2 c2 A3 n3 c3 p3_ x4_ (decide (x0 > (8 : Int))) h2_)
theorem f3.j0_in {R x0 A1 n1 c1 A2 n2 c2 A3 n3 c3 h} (H : f3.j0T R x0 A1 n1 c1 A2 n2 c2 A3 n3 c3 h) : f3.j0 R x0 A1 n1 c1 A2 n2 c2 A3 n3 c3 h := pt_in (kp := f3.kp) mixed f3.good (by kernel_rfl) H
def f3.j2T (R : VP) (x0 : Int) (A1 : Option Addr) (n1 c1 : Nat) (A2 : Option Addr) (n2 c2 : Nat) (A3 : Option Addr) (n3 c3 : Nat) (p11 : Option Addr) (x12 : Int) (b57 : Bool) (h : Heap) : Prop :=
 splitB b57 (splitB (x12 == (1 : Int)) (R (Value.bool (Option.isNone p11)) h) (R (Value.bool false) h)) (f3.j1 R x0 A1 n1 c1 A2 n2 c2 A3 n3 c3 p11 x12 h)
theorem f3.j2_in {R x0 A1 n1 c1 A2 n2 c2 A3 n3 c3 p11 x12 b57 h} (H : f3.j2T R x0 A1 n1 c1 A2 n2 c2 A3 n3 c3 p11 x12 b57 h) : f3.j2 R x0 A1 n1 c1 A2 n2 c2 A3 n3 c3 p11 x12 b57 h := pt_in (kp := f3.kp) mixed f3.good (by kernel_rfl) H
def f3.j1T (R : VP) (x0 : Int) (A1 : Option Addr) (n1 c1 : Nat) (A2 : Option Addr) (n2 c2 : Nat) (A3 : Option Addr) (n3 c3 : Nat) (p11 : Option Addr) (x12 : Int) (h : Heap) : Prop :=
 splitB (x12 != (0 : Int)) (R (Value.bool false) h) (splitB (Option.isNone p11) (R (Value.bool false) h) (f3.j3 R x0 A1 n1 c1 A2 n2 c2 A3 n3 c3 p11 h))
theorem f3.j1_in {R x0 A1 n1 c1 A2 n2 c2 A3 n3 c3 p11 x12 h} (H : f3.j1T R x0 A1 n1 c1 A2 n2 c2 A3 n3 c3 p11 x12 h) : f3.j1 R x0 A1 n1 c1 A2 n2 c2 A3 n3 c3 p11 x12 h := pt_in (kp := f3.kp) mixed f3.good (by kernel_rfl) H
def f3.j3T (R : VP) (x0 : Int) (A1 : Option Addr) (n1 c1 : Nat) (A2 : Option Addr) (n2 c2 : Nat) (A3 : Option Addr) (n3 c3 : Nat) (p11 : Option Addr) (h : Heap) : Prop :=
 Gen Tryd.prog (Instr.makeMap 36 none) h fun v1_ h2_ => oneCell v1_ (newH h2_ (Obj.cells #[(Value.int .i64 x0), (Value.int .i64 (0 : Int)), v1_] 38) fun h3_ => f3.l0 R x0 A2 n2 c2 A3 n3 c3 p11 (⟨Array.size h2_, 0, none⟩) A1 n1 c1 ((n1 : Nat) : Int) (0 : Int) h3_)
theorem f3.j3_in {R x0 A1 n1 c1 A2 n2 c2 A3 n3 c3 p11 h} (H : f3.j3T R x0 A1 n1 c1 A2 n2 c2 A3 n3 c3 p11 h) : f3.j3 R x0 A1 n1 c1 A2 n2 c2 A3 n3 c3 p11 h := pt_in (kp := f3.kp) mixed f3.good (by kernel_rfl) H
def f3.l0T (R : VP) (x0 : Int) (A2 : Option Addr) (n2 c2 : Nat) (A3 : Option Addr) (n3 c3 : Nat) (p11 : Option Addr) (a13 : Addr) (A74 : Option Addr) (n74 c74 : Nat) (x75 x76 : Int) (h : Heap) : Prop :=
 splitB (decide (x76 < x75)) (ptrOk A74 fun a1_ => 0 ≤ x76 ∧ x76 < ((n74 : Nat) : Int) ∧ (∃ v2_, ldv false 1 h (Addr.add a1_ (Int.toNat x76 * 1)) = some v2_ ∧ ∃ A3_, ∃ n3_, ∃ c3_, v2_ = (Value.slice A3_ n3_ c3_) ∧ Run Tryd.prog 9 #[(Value.slice A3_ n3_ c3_), (Value.int .i64 (1 : Int))] h fun v4_ h5_ => ∃ x6_, v4_ = (Value.int .i64 x6_) ∧ Run Tryd.prog 8 #[(Value.slice A2 n2 c2), (Value.int .i64 x6_)] h5_ fun v7_ h8_ => ∃ s9_, v7_ = (Value.string s9_) ∧ Run Tryd.prog 9 #[(Value.slice A3_ n3_ c3_), (Value.int .i64 (2 : Int))] h8_ fun v10_ h11_ => ∃ x12_, v10_ = (Value.int .i64 x12_) ∧ ∃ v13_, ldv false 1 h11_ (Addr.add a13 2) = some v13_ ∧ Gen Tryd.prog (Instr.lookup 36 v13_ (Value.string s9_) true) h11_ fun v14_ h15_ => ∃ v16_, ∃ b17_, v14_ = (Value.tuple #[v16_, (Value.bool b17_)]) ∧ newH h15_ (Obj.cells #[(Value.int .i64 (0 : Int)), (Value.int .i64 (0 : Int)), (Value.int .i64 (0 : Int))] 43) fun h18_ => ∃ l20_ : List Value, v16_ = Value.agg l20_.toArray ∧ l20_.length = 3 ∧ ∃ h19_, stH h18_ (⟨Array.size h15_, 0, none⟩) l20_ 0 = some h19_ ∧ Run Tryd.prog 9 #[(Value.slice A3_ n3_ c3_), (Value.int .i64 (0 : Int))] h19_ fun v21_ h22_ => ∃ x23_, v21_ = (Value.int .i64 x23_) ∧ splitB (x23_ == (1 : Int)) (f3.j5 R x0 A2 n2 c2 A3 n3 c3 p11 a13 A3_ n3_ c3_ s9_ x12_ (⟨Array.size h15_, 0, none⟩) b17_ A74 n74 c74 x75 x76 x23_ (x23_ == (1 : Int)) h22_) (f3.j5 R x0 A2 n2 c2 A3 n3 c3 p11 a13 A3_ n3_ c3_ s9_ x12_ (⟨Array.size h15_, 0, none⟩) b17_ A74 n74 c74 x75 x76 x23_ (x23_ == (2 : Int)) h22_))) (R (Value.bool true) h)
theorem f3.l0_in {R x0 A2 n2 c2 A3 n3 c3 p11 a13 A74 n74 c74 x75 x76 h} (H : f3.l0T R x0 A2 n2 c2 A3 n3 c3 p11 a13 A74 n74 c74 x75 x76 h) : f3.l0 R x0 A2 n2 c2 A3 n3 c3 p11 a13 A74 n74 c74 x75 x76 h := pt_in (kp := f3.kp) mixed f3.good (by kernel_rfl) H
def f3.j5T (R : VP) (x0 : Int) (A2 : Option Addr) (n2 c2 : Nat) (A3 : Option Addr) (n3 c3 : Nat) (p11 : Option Addr) (a13 : Addr) (A15 : Option Addr) (n15 c15 : Nat) (s16 : ByteArray) (x17 : Int) (a18 : Addr) (b19 : Bool) (A74 : Option Addr) (n74 c74 : Nat) (x75 x76 x96 : Int) (b97 : Bool) (h : Heap) : Prop :=
 splitB b97 (Run Tryd.prog 9 #[(Value.slice A15 n15 c15), (Value.int .i64 (0 : Int))] h fun v1_ h2_ => ∃ x3_, v1_ = (Value.int .i64 x3_) ∧ splitB (x3_ == (1 : Int)) (Run Tryd.prog 5 #[(Value.pointer p11), (Value.string s16), (Value.int .i64 x17)] h2_ fun v4_ h5_ => ∃ x6_, v4_ = (Value.int .i64 x6_) ∧ f3.j6 R x0 A2 n2 c2 A3 n3 c3 p11 a13 A15 n15 c15 s16 x17 a18 b19 x6_ (0 : Int) A74 n74 c74 x75 x76 h5_) (Run Tryd.prog 10 #[(Value.pointer p11), (Value.string s16)] h2_ fun v7_ h8_ => ∃ x9_, v7_ = (Value.int .i64 x9_) ∧ f3.j6 R x0 A2 n2 c2 A3 n3 c3 p11 a13 A15 n15 c15 s16 (0 : Int) a18 b19 x9_ (0 : Int) A74 n74 c74 x75 x76 h8_)) (splitB (x96 == (3 : Int)) (Run Tryd.prog 9 #[(Value.slice A15 n15 c15), (Value.int .i64 (1 : Int))] h fun v10_ h11_ => ∃ x12_, v10_ = (Value.int .i64 x12_) ∧ Run Tryd.prog 12 #[(Value.slice A3 n3 c3), (Value.int .i64 x12_)] h11_ fun v13_ h14_ => ∃ A15_, ∃ n15_, ∃ c15_, v13_ = (Value.slice A15_ n15_ c15_) ∧ Run Tryd.prog 13 #[(Value.pointer p11), (Value.slice A15_ n15_ c15_)] h14_ fun v16_ h17_ => ∃ x18_, v16_ = (Value.int .i64 x18_) ∧ Run Tryd.prog 14 #[(Value.pointer (some a13)), (Value.slice A15_ n15_ c15_)] h17_ fun v19_ h20_ => ∃ x21_, v19_ = (Value.int .i64 x21_) ∧ splitB (x18_ != x21_) (R (Value.bool false) h20_) (f3.j4 R x0 A2 n2 c2 A3 n3 c3 p11 a13 s16 A74 n74 c74 x75 x76 h20_)) (f3.j4 R x0 A2 n2 c2 A3 n3 c3 p11 a13 s16 A74 n74 c74 x75 x76 h))
theorem f3.j5_in {R x0 A2 n2 c2 A3 n3 c3 p11 a13 A15 n15 c15 s16 x17 a18 b19 A74 n74 c74 x75 x76 x96 b97 h} (H : f3.j5T R x0 A2 n2 c2 A3 n3 c3 p11 a13 A15 n15 c15 s16 x17 a18 b19 A74 n74 c74 x75 x76 x96 b97 h) : f3.j5 R x0 A2 n2 c2 A3 n3 c3 p11 a13 A15 n15 c15 s16 x17 a18 b19 A74 n74 c74 x75 x76 x96 b97 h := pt_in (kp := f3.kp) mixed f3.good (by kernel_rfl) H
def f3.j6T (R : VP) (x0 : Int) (A2 : Option Addr) (n2 c2 : Nat) (A3 : Option Addr) (n3 c3 : Nat) (p11 : Option Addr) (a13 : Addr) (A15 : Option Addr) (n15 c15 : Nat) (s16 : ByteArray) (x17 : Int) (a18 : Addr) (b19 : Bool) (x20 x21 : Int) (A74 : Option Addr) (n74 c74 : Nat) (x75 x76 : Int) (h : Heap) : Prop :=
 Run Tryd.prog 11 #[(Value.string s16)] h fun v1_ h2_ => ∃ b3_, v1_ = (Value.bool b3_) ∧ splitB (!b3_) (f3.j7 R x0 A2 n2 c2 A3 n3 c3 p11 a13 s16 x20 (3 : Int) A74 n74 c74 x75 x76 h2_) (Run Tryd.prog 9 #[(Value.slice A15 n15 c15), (Value.int .i64 (0 : Int))] h2_ fun v4_ h5_ => ∃ x6_, v4_ = (Value.int .i64 x6_) ∧ splitB (x6_ == (1 : Int)) (f3.j8 R x0 A2 n2 c2 A3 n3 c3 p11 a13 A15 n15 c15 s16 x17 a18 b19 x20 x21 A74 n74 c74 x75 x76 (decide (x17 < (1 : Int))) h5_) (f3.j8 R x0 A2 n2 c2 A3 n3 c3 p11 a13 A15 n15 c15 s16 x17 a18 b19 x20 x21 A74 n74 c74 x75 x76 false h5_))
theorem f3.j6_in {R x0 A2 n2 c2 A3 n3 c3 p11 a13 A15 n15 c15 s16 x17 a18 b19 x20 x21 A74 n74 c74 x75 x76 h} (H : f3.j6T R x0 A2 n2 c2 A3 n3 c3 p11 a13 A15 n15 c15 s16 x17 a18 b19 x20 x21 A74 n74 c74 x75 x76 h) : f3.j6 R x0 A2 n2 c2 A3 n3 c3 p11 a13 A15 n15 c15 s16 x17 a18 b19 x20 x21 A74 n74 c74 x75 x76 h := pt_in (kp := f3.kp) mixed f3.good (by kernel_rfl) H
def f3.j4T (R : VP) (x0 : Int) (A2 : Option Addr) (n2 c2 : Nat) (A3 : Option Addr) (n3 c3 : Nat) (p11 : Option Addr) (a13 : Addr) (s16 : ByteArray) (A74 : Option Addr) (n74 c74 : Nat) (x75 x76 : Int) (h : Heap) : Prop :=
 Run Tryd.prog 15 #[(Value.pointer p11), (Value.pointer (some a13)), (Value.string s16)] h fun v1_ h2_ => ∃ b3_, v1_ = (Value.bool b3_) ∧ splitB (!b3_) (R (Value.bool false) h2_) (f3.l0 R x0 A2 n2 c2 A3 n3 c3 p11 a13 A74 n74 c74 x75 (IntKind.wrap .i64 (x76 + (1 : Int))) h2_)
theorem f3.j4_in {R x0 A2 n2 c2 A3 n3 c3 p11 a13 s16 A74 n74 c74 x75 x76 h} (H : f3.j4T R x0 A2 n2 c2 A3 n3 c3 p11 a13 s16 A74 n74 c74 x75 x76 h) : f3.j4 R x0 A2 n2 c2 A3 n3 c3 p11 a13 s16 A74 n74 c74 x75 x76 h := pt_in (kp := f3.kp) mixed f3.good (by kernel_rfl) H
def f3.j7T (R : VP) (x0 : Int) (A2 : Option Addr) (n2 c2 : Nat) (A3 : Option Addr) (n3 c3 : Nat) (p11 : Option Addr) (a13 : Addr) (s16 : ByteArray) (x20 x21 : Int) (A74 : Option Addr) (n74 c74 : Nat) (x75 x76 : Int) (h : Heap) : Prop :=
 splitB (x20 != x21) (R (Value.bool false) h) (f3.j4 R x0 A2 n2 c2 A3 n3 c3 p11 a13 s16 A74 n74 c74 x75 x76 h)
theorem f3.j7_in {R x0 A2 n2 c2 A3 n3 c3 p11 a13 s16 x20 x21 A74 n74 c74 x75 x76 h} (H : f3.j7T R x0 A2 n2 c2 A3 n3 c3 p11 a13 s16 x20 x21 A74 n74 c74 x75 x76 h) : f3.j7 R x0 A2 n2 c2 A3 n3 c3 p11 a13 s16 x20 x21 A74 n74 c74 x75 x76 h := pt_in (kp := f3.kp) mixed f3.good (by kernel_rfl) H
def f3.j8T (R : VP) (x0 : Int) (A2 : Option Addr) (n2 c2 : Nat) (A3 : Option Addr) (n3 c3 : Nat) (p11 : Option Addr) (a13 : Addr) (A15 : Option Addr) (n15 c15 : Nat) (s16 : ByteArray) (x17 : Int) (a18 : Addr) (b19 : Bool) (x20 x21 : Int) (A74 : Option Addr) (n74 c74 : Nat) (x75 x76 : Int) (b133 : Bool) (h : Heap) : Prop :=
 splitB b133 (f3.j7 R x0 A2 n2 c2 A3 n3 c3 p11 a13 s16 x20 (1 : Int) A74 n74 c74 x75 x76 h) (Run Tryd.prog 9 #[(Value.slice A15 n15 c15), (Value.int .i64 (0 : Int))] h fun v1_ h2_ => ∃ x3_, v1_ = (Value.int .i64 x3_) ∧ splitB (x3_ == (2 : Int)) (∃ v4_, ldv false 1 h2_ a18 = some v4_ ∧ ∃ x5_, v4_ = (Value.int .i64 x5_) ∧ f3.j9 R x0 A2 n2 c2 A3 n3 c3 p11 a13 s16 x17 b19 x20 x21 A74 n74 c74 x75 x76 (x5_ == (0 : Int)) h2_) (f3.j9 R x0 A2 n2 c2 A3 n3 c3 p11 a13 s16 x17 b19 x20 x21 A74 n74 c74 x75 x76 false h2_))
theorem f3.j8_in {R x0 A2 n2 c2 A3 n3 c3 p11 a13 A15 n15 c15 s16 x17 a18 b19 x20 x21 A74 n74 c74 x75 x76 b133 h} (H : f3.j8T R x0 A2 n2 c2 A3 n3 c3 p11 a13 A15 n15 c15 s16 x17 a18 b19 x20 x21 A74 n74 c74 x75 x76 b133 h) : f3.j8 R x0 A2 n2 c2 A3 n3 c3 p11 a13 A15 n15 c15 s16 x17 a18 b19 x20 x21 A74 n74 c74 x75 x76 b133 h := pt_in (kp := f3.kp) mixed f3.good (by kernel_rfl) H
def f3.j9T (R : VP) (x0 : Int) (A2 : Option Addr) (n2 c2 : Nat) (A3 : Option Addr) (n3 c3 : Nat) (p11 : Option Addr) (a13 : Addr) (s16 : ByteArray) (x17 : Int) (b19 : Bool) (x20 x21 : Int) (A74 : Option Addr) (n74 c74 : Nat) (x75 x76 : Int) (b141 : Bool) (h : Heap) : Prop :=
 splitB b141 (f3.j7 R x0 A2 n2 c2 A3 n3 c3 p11 a13 s16 x20 (4 : Int) A74 n74 c74 x75 x76 h) (splitB (!b19) (∃ v1_, ldv false 1 h (Addr.add a13 2) = some v1_ ∧ Gen Tryd.prog (Builtin.len_ #[36] 3 #[v1_]) h fun v2_ h3_ => ∃ x4_, v2_ = (Value.int .i64 x4_) ∧ f3.j10 R x0 A2 n2 c2 A3 n3 c3 p11 a13 s16 x17 x20 x21 A74 n74 c74 x75 x76 (x4_ == (60 : Int)) h3_) (f3.j10 R x0 A2 n2 c2 A3 n3 c3 p11 a13 s16 x17 x20 x21 A74 n74 c74 x75 x76 false h))
theorem f3.j9_in {R x0 A2 n2 c2 A3 n3 c3 p11 a13 s16 x17 b19 x20 x21 A74 n74 c74 x75 x76 b141 h} (H : f3.j9T R x0 A2 n2 c2 A3 n3 c3 p11 a13 s16 x17 b19 x20 x21 A74 n74 c74 x75 x76 b141 h) : f3.j9 R x0 A2 n2 c2 A3 n3 c3 p11 a13 s16 x17 b19 x20 x21 A74 n74 c74 x75 x76 b141 h := pt_in (kp := f3.kp) mixed f3.good (by kernel_rfl) H
def f3.j10T (R : VP) (x0 : Int) (A2 : Option Addr) (n2 c2 : Nat) (A3 : Option Addr) (n3 c3 : Nat) (p11 : Option Addr) (a13 : Addr) (s16 : ByteArray) (x17 x20 x21 : Int) (A74 : Option Addr) (n74 c74 : Nat) (x75 x76 : Int) (b150 : Bool) (h : Heap) : Prop :=
 splitB b150 (f3.j7 R x0 A2 n2 c2 A3 n3 c3 p11 a13 s16 x20 (6 : Int) A74 n74 c74 x75 x76 h) (∃ v1_, ldv false 1 h (Addr.add a13 1) = some v1_ ∧ ∃ x2_, v1_ = (Value.int .i64 x2_) ∧ splitB (x2_ == (1099511627776 : Int)) (f3.j7 R x0 A2 n2 c2 A3 n3 c3 p11 a13 s16 x20 (2 : Int) A74 n74 c74 x75 x76 h) (∃ v3_, ldv false 1 h (Addr.add a13 1) = some v3_ ∧ ∃ x4_, v3_ = (Value.int .i64 x4_) ∧ ∃ h5_, st1 h (Addr.add a13 1) (Value.int .i64 (IntKind.wrap .i64 (x4_ + (1 : Int)))) = some h5_ ∧ ∃ v6_, ldv false 1 h5_ (Addr.add a13 2) = some v6_ ∧ ∃ v7_, ldv false 1 h5_ (Addr.add a13 1) = some v7_ ∧ ∃ x8_, v7_ = (Value.int .i64 x8_) ∧ Ext h5_ h5_ ∧ (Hwp Tryd.prog (Instr.mapUpdate 36 v6_ (Value.string s16) (Value.agg #[(Value.int .i64 x17), (Value.int .i64 x8_), (Value.int .i64 x0)])) h5_ fun _ h9_ => f3.j7 R x0 A2 n2 c2 A3 n3 c3 p11 a13 s16 x20 x21 A74 n74 c74 x75 x76 h9_)))
theorem f3.j10_in {R x0 A2 n2 c2 A3 n3 c3 p11 a13 s16 x17 x20 x21 A74 n74 c74 x75 x76 b150 h} (H : f3.j10T R x0 A2 n2 c2 A3 n3 c3 p11 a13 s16 x17 x20 x21 A74 n74 c74 x75 x76 b150 h) : f3.j10 R x0 A2 n2 c2 A3 n3 c3 p11 a13 s16 x17 x20 x21 A74 n74 c74 x75 x76 b150 h := pt_in (kp := f3.kp) mixed f3.good (by kernel_rfl) H
def f3.runT (R : VP) (x0 : Int) (A1 : Option Addr) (n1 c1 : Nat) (A2 : Option Addr) (n2 c2 : Nat) (A3 : Option Addr) (n3 c3 : Nat) (h : Heap) : Prop :=
 Run Tryd.prog 4 #[(Value.int .i64 (2 : Int))] h fun v1_ h2_ => ∃ p3_, ∃ x4_, v1_ = (Value.tuple #[(Value.pointer p3_), (Value.int .i64 x4_)]) ∧ splitB (x4_ != (0 : Int)) (R (Value.bool false) h2_) (splitB (Option.isNone p3_) (R (Value.bool false) h2_) (Run Tryd.prog 5 #[(Value.pointer p3_), (Value.string (ByteArray.mk #[97])), (Value.int .i64 (5 : Int))] h2_ fun v5_ h6_ => ∃ x7_, v5_ = (Value.int .i64 x7_) ∧ splitB (x7_ != (0 : Int)) (R (Value.bool false) h6_) (Run Tryd.prog 7 #[(Value.pointer p3_)] h6_ fun v8_ h9_ => ∃ A10_, ∃ n10_, ∃ c10_, v8_ = (Value.slice A10_ n10_ c10_) ∧ ∃ l11_ : List Value, (Value.agg #[(Value.string (ByteArray.mk #[97])), (Value.int .i64 (5 : Int)), (Value.int .i64 (1 : Int)), (Value.int .i64 (2 : Int))]) = Value.agg l11_.toArray ∧ l11_.length = 4 ∧ (newH h9_ (Obj.cells ((List.take 0 ([(Value.string (ByteArray.mk #[])), (Value.int .i64 (0 : Int)), (Value.int .i64 (0 : Int)), (Value.int .i64 (0 : Int))]) ++ l11_ ++ List.drop 4 ([(Value.string (ByteArray.mk #[])), (Value.int .i64 (0 : Int)), (Value.int .i64 (0 : Int)), (Value.int .i64 (0 : Int))])).toArray) 33) fun h12_ => Run Tryd.prog 6 #[(Value.slice A10_ n10_ c10_), (Value.slice (some ⟨Array.size h9_, 0, none⟩) 1 1)] h12_ fun v13_ h14_ => ∃ b15_, v13_ = (Value.bool b15_) ∧ splitB (!b15_) (R (Value.bool false) h14_) (f3.j0 R x0 A1 n1 c1 A2 n2 c2 A3 n3 c3 h14_)))))
theorem f3.run {R : VP} {x0 : Int} {A1 : Option Addr} {n1 c1 : Nat} {A2 : Option Addr} {n2 c2 : Nat} {A3 : Option Addr} {n3 c3 : Nat} {h : Heap} (H : f3.runT R x0 A1 n1 c1 A2 n2 c2 A3 n3 c3 h) : Run Tryd.prog 3 #[(Value.int .i64 x0), (Value.slice A1 n1 c1), (Value.slice A2 n2 c2), (Value.slice A3 n3 c3)] h R := run_in (kp := f3.kp) mixed Tryd.func3 (by kernel_rfl) (by kernel_rfl) f3.good (by kernel_rfl) H
end Go.Proofs.YtaiehkhjmplodaaDoor.Fw

end
section
namespace Go.Hw
open Go
section tests
variable {A B : Prop}
theorem split_dec {p : Prop} [Decidable p] (hA : p → A) (hB : ¬ p → B) : splitB (decide p) A B := by
 by_cases h : p
 · rw [decide_eq_true h]; exact hA h
 · rw [decide_eq_false h]; exact hB h
theorem split_eq {x y : Int} (hA : x = y → A) (hB : x ≠ y → B) : splitB (x == y) A B := by
 by_cases h : x = y
 · rw [show (x == y) = true from beq_iff_eq.2 h]; exact hA h
 · rw [show (x == y) = false from beq_eq_false_iff_ne.2 h]; exact hB h
theorem split_not {b : Bool} (h : splitB b B A) : splitB (!b) A B := by cases b <;> exact h
theorem split_t (h : A) : splitB true A B := h
theorem split_f (h : B) : splitB false A B := h
end tests
theorem wrap_in {n : Int} (h0 : -9223372036854775808 ≤ n) (h1 : n ≤ 9223372036854775807) : IntKind.wrap .i64 n = n := by
 rcases Int.le_total 0 n with h | h
 · exact wrap_nat h h1
 · rcases (show n = 0 ∨ n < 0 by omega) with h2 | h2
   · subst h2; rfl
   have e : n % (2 ^ 64 : Int) = n + 2 ^ 64 := by omega
   simp only [IntKind.wrap, IntKind.signed, IntKind.bits, e, Bool.true_and]
   rw [if_pos (by simp only [decide_eq_true_eq]; omega)]
   omega
theorem add_add (a : Addr) (m n : Nat) : (a.add m).add n = a.add (m + n) := by
 unfold Addr.add
 by_cases h1 : m = 0
 · subst h1; simp
 · by_cases h2 : n = 0
   · subst h2; simp
   · have h3 : m + n ≠ 0 := by omega
     simp only [if_neg h1, if_neg h2, if_neg h3]
     rw [Nat.add_assoc]
theorem add_block (a : Addr) (n : Nat) : (a.add n).block = a.block := by unfold Addr.add; split <;> rfl
theorem add_off (a : Addr) (n : Nat) : (a.add n).off = a.off + n := by
 unfold Addr.add
 split
 · rename_i h; subst h; rfl
 · rfl
theorem add_spot {a : Addr} (n : Nat) (h : a.spot = none) : (a.add n).spot = none := by unfold Addr.add; split; exact h; rfl
def Blk (h : Heap) (b : Nat) (c : List Value) (t : TypeId) : Prop := h[b]? = some (.cells c.toArray t (0, 0))
def Only (h h' : Heap) (b : Nat) : Prop := h'.size = h.size ∧ ∀ i, i ≠ b → h'[i]? = h[i]?
section
variable {h h' : Heap} {b : Nat} {c : List Value} {t : TypeId}
theorem Blk.lt (hb : Blk h b c t) : b < h.size := (Array.getElem?_eq_some_iff.1 hb).1
theorem Blk.cell (hb : Blk h b c t) {a : Addr} {v : Value} (h1 : a.block = b) (h2 : a.spot = none) (h3 : c[a.off]? = some v) : cellH h a = some v := by
 unfold cellH Blk at *
 rw [h1, hb, h2]
 simpa using h3
theorem Blk.cells (hb : Blk h b c t) {a : Addr} (h1 : a.block = b) (h2 : a.spot = none) : ∀ (n i : Nat), a.off + i + n ≤ c.length → cellsH h a i n = some ((c.drop (a.off + i)).take n) := by
 intro n
 induction n with
 | zero => intro i _; simp [cellsH]
 | succ n ih =>
   intro i hle
   have hlt : a.off + i < c.length := by omega
   have h3 : c[(a.add i).off]? = some c[a.off + i] := by rw [add_off]; exact List.getElem?_eq_getElem hlt
   simp only [cellsH, hb.cell (a := a.add i) (by rw [add_block]; exact h1) (add_spot i h2) h3, ih (i + 1) (by omega)]
   rw [List.drop_eq_getElem_cons hlt, List.take_succ_cons]
   rfl
theorem Blk.st (hb : Blk h b c t) {a : Addr} {v : Value} (h1 : a.block = b) (h2 : a.spot = none) (h3 : a.off < c.length) (h4 : oneCell v True) :
   ∃ h', st1 h a v = some h' ∧ Blk h' b (c.set a.off v) t ∧ Only h h' b := by
 have hc : cellH h a = some c[a.off] := hb.cell h1 h2 (List.getElem?_eq_getElem h3)
 have hf : frozenH h a = false := by
   unfold frozenH
   rw [h1, show h[b]? = some (.cells c.toArray t (0, 0)) from hb]
   simp
 refine ⟨setH h a v, ?_, ?_, ?_⟩
 · cases v <;> simp_all [st1, oneCell]
 · unfold Blk setH
   rw [Array.getElem?_modify, if_pos h1.symm.symm, show h[b]? = some (.cells c.toArray t (0, 0)) from hb]
   simp [h2]
 · refine ⟨by simp [setH], fun i hi => ?_⟩
   unfold setH
   rw [Array.getElem?_modify, if_neg (by rw [h1]; exact fun e => hi e.symm)]
theorem Blk.new (h : Heap) (c : Array Value) (t : TypeId) : Blk (h.push (.cells c t)) h.size c.toList t := by
 unfold Blk; simp
theorem Blk.ext (hb : Blk h b c t) (e : Ext h h') : Blk h' b c t := by unfold Blk at *; rw [e.2 b (Blk.lt hb)]; exact hb
theorem Blk.only (hb : Blk h b c t) {b' : Nat} (e : Only h h' b') (hne : b ≠ b') : Blk h' b c t := by unfold Blk at *; rw [e.2 b hne]; exact hb
theorem Ext.push (h : Heap) (o : Obj) : Ext h (h.push o) := ⟨by simp, fun i hi => by rw [Array.getElem?_push, if_neg (by omega)]⟩
theorem Ext.only {h0 : Heap} (e : Ext h0 h) {b : Nat} (o : Only h h' b) (hb : h0.size ≤ b) : Ext h0 h' :=
 ⟨by rw [o.1]; exact e.1, fun i hi => by rw [o.2 i (by omega)]; exact e.2 i hi⟩
theorem Only.refl (h : Heap) (b : Nat) : Only h h b := ⟨rfl, fun _ _ => rfl⟩
theorem Only.trans {h'' : Heap} {b : Nat} (o : Only h h' b) (p : Only h' h'' b) : Only h h'' b := ⟨p.1.trans o.1, fun i hi => (p.2 i hi).trans (o.2 i hi)⟩
end
def Rd {α : Type} (sz : Nat) (E : Heap → α → List Value → Prop) (h : Heap) (A : Option Addr) (l : List α) : Prop :=
 ∀ i (hi : i < l.length), ∃ a cs, A = some a ∧ cellsH h (a.add (i * sz)) 0 sz = some cs ∧ E h l[i] cs
def eInt (k : IntKind) (_ : Heap) (x : Int) (cs : List Value) : Prop := cs = [.int k x]
def eStr (_ : Heap) (x : ByteArray) (cs : List Value) : Prop := cs = [.string x]
def eRow {α : Type} (sz : Nat) (E : Heap → α → List Value → Prop) (h : Heap) (l : List α) (cs : List Value) : Prop := ∃ A c, cs = [.slice A l.length c] ∧ l.length ≤ c ∧ Rd sz E h A l
section
variable {α : Type} {sz : Nat} {E : Heap → α → List Value → Prop} {h h' : Heap} {A : Option Addr} {l : List α}
theorem Rd.nil : Rd sz E h A ([] : List α) := fun i hi => by cases hi
end
theorem CallF.of {P : Program} {f : FuncId} {first captured : Array Value} {args : List Value} {h : Heap} {R : Value → Heap → Prop} (l : List Value) (hc : calleeOk P f = true) (hl : first.toList ++ args ++ captured.toList = l) (hr : Run P f l.toArray h R) :
   CallF P (.func (.func f) first captured) args h R := by
 unfold CallF
 simp only [hc, hl]
 exact hr
theorem newH_in {h : Heap} {c : Array Value} {t : TypeId} {K : Heap → Prop} (H : ∀ h', Blk h' h.size c.toList t → Ext h h' → h'.size = h.size + 1 → K h') : newH h (.cells c t) K :=
 H _ (Blk.new _ _ _) (Ext.push _ _) (by simp)
theorem CallF.mono {P : Program} {v : Value} {args : List Value} {h : Heap} {R R' : Value → Heap → Prop} (hh : CallF P v args h R) (hr : ∀ v h, R v h → R' v h) : CallF P v args h R' := by
 unfold CallF at hh ⊢
 split at hh
 · split at hh
   · exact hh.mono hr
   · exact ExtF.mono hh hr
 · exact hh.elim
def idxOf {α : Type} (p : α → Bool) (l : List α) : Int := match l.findIdx? p with | some i => i | none => -1
end Go.Hw

end
section
namespace Go.Hw
open Go Go.RowKit
theorem below_of {W W' : World} (e : Ext W.heap W'.heap) (s : Same W W') : Below W.heap.size W W' := ⟨s.os, s.tape, s.output, e.1, e.2⟩
section
variable {H : Type} {enc : TypeId × Value → H} {P : Program} {W : World}
theorem cells_of {base : Nat} {a : Addr} {n : Nat} {cs : List Value} (hc : W.cells? base a n = some cs) : cellsH W.heap a 0 n = some cs := by
 obtain ⟨_, hlen, hget⟩ := World.cells?_some hc
 have key : ∀ (m i : Nat), i + m = n → cellsH W.heap a i m = some (cs.drop i) := by
   intro m
   induction m with
   | zero =>
     intro i hi
     rw [List.drop_eq_nil_of_le (by omega)]
     rfl
   | succ m ih =>
     intro i hi
     have hlt : i < cs.length := by omega
     have h1 : cellH W.heap (a.add i) = some cs[i] := (hget i (by omega)).trans (List.getElem?_eq_getElem hlt)
     simp only [cellsH, h1, ih (i + 1) (by omega)]
     rw [List.drop_eq_getElem_cons hlt]
 simpa using key n 0 (by omega)
def Tells {α : Type} (enc : TypeId × Value → H) (P : Program) (W : World) (t : TypeId) (E : Heap → α → List Value → Prop) (Q : α → Prop) : Prop :=
 ∀ (fuel : Nat) (cs : List Value) (x : DataW H × List MemPlace), DataW.trod enc P W 0 (fun _ => true) true fuel t cs = some x → (x.1.weights P t).all (· ≤ reachBytes) = true → ∃ a, E W.heap a cs ∧ Q a
theorem tells_int {t : TypeId} {k : IntKind} (hu : P.underlying t = some (.int k)) : Tells enc P W t (eInt k) (fun x => (Lit.int k x).wf = true) := by
 intro fuel cs x h _
 obtain ⟨n, h1, _, h3⟩ := DataW.trod_int hu h
 exact ⟨n, h1, h3⟩
theorem tells_str {t : TypeId} (hu : P.underlying t = some .string) : Tells enc P W t eStr (fun s => s.size ≤ reachBytes) := by
 intro fuel cs x h hw
 obtain ⟨s, h1, h2, _⟩ := DataW.trod_string hu h
 refine ⟨s, h1, ?_⟩
 rw [h2] at hw
 simp only [DataW.weights, List.all_cons, List.all_nil, Bool.and_true, decide_eq_true_eq] at hw
 simpa using hw
theorem weightsAll_all {e : TypeId} : ∀ (l : List (DataW H)), (DataW.weightsAll P e l).all (· ≤ reachBytes) = true → ∀ d ∈ l, (d.weights P e).all (· ≤ reachBytes) = true := by
 intro l
 induction l with
 | nil => intro _ d hd; cases hd
 | cons x l ih =>
   intro h d hd
   simp only [DataW.weightsAll, List.all_append, Bool.and_eq_true] at h
   rcases List.mem_cons.1 hd with rfl | hd
   · exact h.1
   · exact ih h.2 d hd
theorem list_choose {α : Type} {n : Nat} {p : Nat → α → Prop} (h : ∀ i, i < n → ∃ x, p i x) : ∃ l : List α, l.length = n ∧ ∀ i (hi : i < l.length), p i l[i] := by
 induction n with
 | zero => exact ⟨[], rfl, fun i hi => by cases hi⟩
 | succ n ih =>
   obtain ⟨l, h1, h2⟩ := ih fun i hi => h i (by omega)
   obtain ⟨x, hx⟩ := h n (by omega)
   refine ⟨l ++ [x], by simp [h1], fun i hi => ?_⟩
   rw [List.length_append, List.length_singleton] at hi
   by_cases hin : i < l.length
   · rw [List.getElem_append_left hin]; exact h2 i hin
   · have : i = l.length := by omega
     subst this
     rw [List.getElem_append_right (Nat.le_refl _)]
     simp only [Nat.sub_self, List.getElem_cons_zero]
     rw [h1]; exact hx
theorem tells_slice {α : Type} {t e : TypeId} {sz B : Nat} {E : Heap → α → List Value → Prop} {Q : α → Prop} (hu : P.underlying t = some (.slice e)) (hc : P.cellsOf e = sz) (hB : P.bytesOf e = B) (he : Tells enc P W e E Q) :
   Tells enc P W t (eRow sz E) (fun l => l.length * B ≤ reachBytes ∧ ∀ a ∈ l, Q a) := by
 intro fuel cs x h hw
 rcases DataW.trod_slice hu h with ⟨h1, h2⟩ | ⟨a, len, cap, elems, rest, n, _, h1, h2, _, hl, hm, hlen, hel, _, _⟩
 · exact ⟨[], ⟨none, 0, h1, Nat.le_refl _, Rd.nil⟩, by simp, fun a ha => by cases ha⟩
 · rw [h2] at hw
   simp only [DataW.weights, hu, List.all_cons, List.all_append, Bool.and_eq_true, decide_eq_true_eq] at hw
   obtain ⟨hw1, hw2, _⟩ := hw
   have hall := weightsAll_all _ hw2
   obtain ⟨l, h3, h4⟩ := list_choose (n := len) (p := fun i x => (∃ cs', cellsH W.heap (a.add (i * sz)) 0 sz = some cs' ∧ E W.heap x cs') ∧ Q x) (fun i hi => by
     have h5 := hel i hi
     have hlt : i < elems.length := by omega
     rw [List.getElem?_eq_getElem hlt] at h5
     obtain ⟨cs', h6, h7⟩ := Option.bind_eq_some_iff.1 h5
     obtain ⟨x, h8, h9⟩ := he _ _ _ h7 (hall _ (List.mem_map.2 ⟨_, List.getElem_mem hlt, rfl⟩))
     rw [hc] at h6
     exact ⟨x, ⟨cs', cells_of h6, h8⟩, h9⟩)
   refine ⟨l, ⟨some a, cap, by rw [h1, h3], by omega, fun i hi => ?_⟩, ?_, fun x hx => ?_⟩
   · obtain ⟨⟨cs', h5, h6⟩, _⟩ := h4 i hi
     exact ⟨a, cs', rfl, h5, h6⟩
   · rw [hB] at hw1
     have : l.length ≤ (List.map (·.1) elems).length + (List.map (·.1) rest).length := by simp; omega
     exact Nat.le_trans (Nat.mul_le_mul_right _ this) hw1
   · obtain ⟨i, hi, rfl⟩ := List.getElem_of_mem hx
     exact (h4 i hi).2
end
theorem wf_i64 {x : Int} (h : (Lit.int .i64 x).wf = true) : -9223372036854775808 ≤ x ∧ x ≤ 9223372036854775807 := by
 simpa [Lit.wf, IntKind.min, IntKind.max, IntKind.signed, IntKind.bits] using h
end Go.Hw

end
section
namespace Go.Hw
open Go
theorem cellsH_length {h : Heap} {a : Addr} : ∀ {n i : Nat} {cs : List Value}, cellsH h a i n = some cs → cs.length = n := by
 intro n
 induction n with
 | zero => intro i cs hc; simp only [cellsH, Option.some.injEq] at hc; subst hc; rfl
 | succ n ih =>
   intro i cs hc
   simp only [cellsH] at hc
   split at hc
   · split at hc
     · rename_i vs hv; cases hc; simp [ih hv]
     · cases hc
   · cases hc
def Flat (v : Value) : Prop := oneCell v True
theorem Blk.stH {b : Nat} {t : TypeId} : ∀ (xs : List Value) {h : Heap} {p q r : List Value} {a : Addr} {i : Nat}, Blk h b (p ++ q ++ r) t → a.block = b → a.spot = none → a.off + i = p.length → q.length = xs.length → (∀ v ∈ xs, Flat v) →
   ∃ h', stH h a xs i = some h' ∧ Blk h' b (p ++ xs ++ r) t ∧ Only h h' b := by
 intro xs
 induction xs with
 | nil =>
   intro h p q r a i hb h1 h2 h3 h4 h5
   rw [List.length_eq_zero_iff.1 h4] at hb
   exact ⟨h, rfl, hb, .refl _ _⟩
 | cons v xs ih =>
   intro h p q r a i hb h1 h2 h3 h4 h5
   obtain ⟨u, q', rfl⟩ : ∃ u q', q = u :: q' := by cases q with | nil => cases h4 | cons u q' => exact ⟨u, q', rfl⟩
   have hoff : (a.add i).off = p.length := by rw [add_off, h3]
   obtain ⟨h', s1, b1, o1⟩ := hb.st (a := a.add i) (v := v) (by rw [add_block, h1]) (add_spot _ h2) (by rw [hoff]; simp) (h5 v (List.mem_cons_self ..))
   rw [hoff] at b1
   have e : (p ++ u :: q' ++ r).set p.length v = (p ++ [v]) ++ q' ++ r := by
     rw [List.append_assoc, List.set_append_right _ _ (Nat.le_refl _)]; simp
   rw [e] at b1
   obtain ⟨h'', s2, b2, o2⟩ := ih (p := p ++ [v]) (q := q') (r := r) (a := a) (i := i + 1) b1 h1 h2 (by simp; omega) (by simpa using h4) (fun x hx => h5 x (List.mem_cons_of_mem _ hx))
   refine ⟨h'', ?_, by simpa using b2, o1.trans o2⟩
   simp only [Go.Hw.stH, s1, s2]
theorem zcells_size (z : Array Value) (n : Nat) : (zcells z n).size = n * z.size := by
 unfold zcells Builtin.zeroCells
 simp
end Go.Hw

end
section
namespace Go.Hw
open Go Go.RowKit
def eSt {α : Type} (f : α → List Value) (_ : Heap) (x : α) (cs : List Value) : Prop := cs = f x
theorem cellsH_get {h : Heap} {a : Addr} : ∀ {n i : Nat} {cs : List Value} {k : Nat} {v : Value}, cellsH h a i n = some cs → cs[k]? = some v → cellH h (a.add (i + k)) = some v := by
 intro n
 induction n with
 | zero => intro i cs k v hc hv; simp only [cellsH, Option.some.injEq] at hc; subst hc; cases hv
 | succ n ih =>
   intro i cs k v hc hv
   simp only [cellsH] at hc
   split at hc
   · rename_i u hu
     split at hc
     · rename_i vs hvs
       cases hc
       cases k with
       | zero => cases hv; exact hu
       | succ k => rw [show i + (k + 1) = i + 1 + k by omega]; exact ih hvs (by simpa using hv)
     · cases hc
   · cases hc
section
variable {α : Type} {sz : Nat} {E : Heap → α → List Value → Prop} {h h' : Heap} {A : Option Addr} {l : List α}
theorem cellsH_append {h : Heap} {a : Addr} : ∀ {m i n : Nat} {cs ds : List Value}, cellsH h a i m = some cs → cellsH h a (i + m) n = some ds → cellsH h a i (m + n) = some (cs ++ ds) := by
 intro m
 induction m with
 | zero => intro i n cs ds h1 h2; simp only [cellsH, Option.some.injEq] at h1; subst h1; simpa using h2
 | succ m ih =>
   intro i n cs ds h1 h2
   simp only [cellsH] at h1
   split at h1
   · rename_i u hu
     split at h1
     · rename_i vs hvs
       cases h1
       rw [show m + 1 + n = (m + n) + 1 by omega]
       have h3 := ih hvs (n := n) (ds := ds) (by rw [show i + 1 + m = i + (m + 1) by omega]; exact h2)
       simp only [cellsH, hu, h3, List.cons_append]
     · cases h1
   · cases h1
theorem cellsH_shift {h : Heap} {a : Addr} {j : Nat} : ∀ {n i : Nat}, cellsH h (a.add j) i n = cellsH h a (j + i) n := by
 intro n
 induction n with
 | zero => intro i; rfl
 | succ n ih =>
   intro i
   simp only [cellsH, add_add]
   rw [ih, Nat.add_assoc]
theorem Rd.src {f : α → List Value} (hr : Rd sz (eSt f) h A l) (c : Nat) : srcCells sz (.slice A l.length c) h = some (l.length, l.flatMap f) := by
 cases A with
 | none =>
   cases l with
   | nil => rfl
   | cons x l => obtain ⟨a, _, h1, _⟩ := hr 0 (by simp); cases h1
 | some a =>
   have key : ∀ (k : Nat), k ≤ l.length → cellsH h a 0 (k * sz) = some ((l.take k).flatMap f) := by
     intro k
     induction k with
     | zero => intro _; simp [cellsH]
     | succ k ih =>
       intro hk
       obtain ⟨a', cs, h1, h2, h3⟩ := hr k (by omega)
       cases h1
       rw [cellsH_shift] at h2
       rw [Nat.succ_mul, List.take_succ_eq_append_getElem (by omega), List.flatMap_append]
       refine cellsH_append (ih (by omega)) ?_
       rw [show cs = f l[k] from h3] at h2
       simpa using h2
   have := key l.length (Nat.le_refl _)
   rw [List.take_length] at this
   simp only [srcCells, this, Option.map_some]
theorem flatMap_one {f : α → Value} (l : List α) : l.flatMap (fun x => [f x]) = l.map f := by
 induction l with
 | nil => rfl
 | cons x l ih => rw [List.flatMap_cons, ih]; rfl
theorem Rd.src1 {f : α → Value} (hr : Rd 1 E h A l) (hE : ∀ x ∈ l, ∀ cs, E h x cs → cs = [f x]) (c : Nat) : srcCells 1 (.slice A l.length c) h = some (l.length, l.map f) := by
 have h1 : Rd 1 (eSt fun x => [f x]) h A l := fun i hi => let ⟨a, cs, h1, h2, h3⟩ := hr i hi; ⟨a, cs, h1, h2, hE _ (List.getElem_mem hi) _ h3⟩
 have := h1.src c
 rw [this, flatMap_one]
theorem Rd.srcInt {k : IntKind} {l : List Int} (hr : Rd 1 (eInt k) h A l) (c : Nat) : srcCells 1 (.slice A l.length c) h = some (l.length, l.map (.int k)) := hr.src1 (fun _ _ _ h => h) c
end
theorem Blk.stAll {h : Heap} {b : Nat} {c : List Value} {t : TypeId} (hb : Blk h b c t) (l : List Value) (hn : l.length = c.length) (hf : ∀ v ∈ l, Flat v) :
   ∃ h', Go.Hw.stH h ⟨b, 0, none⟩ l 0 = some h' ∧ Blk h' b l t ∧ Only h h' b := by
 obtain ⟨h', s1, b1, o1⟩ := Blk.stH l (p := []) (q := c) (r := []) (a := ⟨b, 0, none⟩) (i := 0) (by simpa using hb) rfl rfl rfl hn.symm hf
 exact ⟨h', s1, by simpa using b1, o1⟩
def EqF (P : Program) (d : Nat) (t : TypeId) (x y : Value) (b : Bool) : Prop := ∀ h (K : Bool → Heap → Prop), K b h → Hwp P (Op.equalIn d t x y) h K
section
variable {P : Program} {d : Nat} {t : TypeId}
theorem eqf_int {k k1 : IntKind} {a b : Int} (hu : P.underlying t = some (.int k1)) : EqF P (d + 1) t (.int k a) (.int k b) (a == b) := by
 intro h K hk
 unfold Op.equalIn
 refine hwp_bind (hwp_underlying hu ?_)
 simp only [if_true]
 exact hk
theorem eqf_bool {a b : Bool} (hu : P.underlying t = some .bool) : EqF P (d + 1) t (.bool a) (.bool b) (a == b) := by
 intro h K hk
 unfold Op.equalIn
 refine hwp_bind (hwp_underlying hu ?_)
 exact hk
theorem eqf_str {a b : ByteArray} (hu : P.underlying t = some .string) : EqF P (d + 1) t (.string a) (.string b) (a == b) := by
 intro h K hk
 unfold Op.equalIn
 refine hwp_bind (hwp_underlying hu ?_)
 exact hk
theorem hwp_part_flat {cs : Array Value} {off : Nat} {v : Value} {h : Heap} {D : TypeDesc} {K : Value → Heap → Prop} (hu : P.underlying t = some D) (hd : isAggD D = false) (hv : cs[off]? = some v) (hk : K v h) : Hwp P (part t cs off) h K := by
 unfold part
 refine hwp_bind (hwp_isAgg hu ?_)
 rw [hd]
 simp only [Bool.false_eq_true, if_false, hv]
 exact hk
def flatB (P : Program) (t : TypeId) (x y : Value) : Option Bool :=
 match P.underlying t, x, y with
 | some (.int _), .int k a, .int k' b => match kindB k k' with | true => some (a == b) | false => none
 | some .bool, .bool a, .bool b => some (a == b)
 | some .string, .string a, .string b => some (a == b)
 | _, _, _ => none
def flatsB (P : Program) (xs ys : Array Value) : List Field → Option Bool
 | [] => some true
 | f :: fs => match decide (f.name ≠ "_") with
   | false => flatsB P xs ys fs
   | true => match xs[f.offset]?, ys[f.offset]? with
     | some x, some y => match flatB P f.type x y with
       | some b => match flatsB P xs ys fs with
         | some c => some (b && c)
         | none => none
       | none => none
     | _, _ => none
def arrB (P : Program) (e : TypeId) (s : Nat) (xs ys : Array Value) : List Nat → Option Bool
 | [] => some true
 | i :: r => match xs[i * s]?, ys[i * s]? with
   | some x, some y => match flatB P e x y with
     | some b => match arrB P e s xs ys r with
       | some c => some (b && c)
       | none => none
     | none => none
   | _, _ => none
def aggB (P : Program) (t : TypeId) (xs ys : Array Value) : Option Bool :=
 match P.eqGuardType P.depth t, P.stoodInHeld t, P.underlying t with
 | false, false, some (.struct fs) => flatsB P xs ys fs.toList
 | false, _, some (.array n e) => match P.info? e with | some i => arrB P e i.size xs ys (List.range' 0 n) | none => none
 | _, _, _ => none
theorem flatB_spec {x y : Value} {b : Bool} (hb : flatB P t x y = some b) : EqF P (d + 1) t x y b ∧ ∃ D, P.underlying t = some D ∧ isAggD D = false := by
 unfold flatB at hb
 split at hb
 · rename_i k1 k a k' b' hu
   split at hb
   · rename_i hk
     cases hb
     have : k = k' := kindB_spec hk
     subst this
     exact ⟨eqf_int hu, _, hu, rfl⟩
   · cases hb
 · rename_i a b' hu; cases hb; exact ⟨eqf_bool hu, _, hu, rfl⟩
 · rename_i a b' hu; cases hb; exact ⟨eqf_str hu, _, hu, rfl⟩
 · cases hb
theorem eqf_struct {fs : Array Field} {xs ys : Array Value} {b : Bool} (hu : P.underlying t = some (.struct fs)) (hp : P.stoodInHeld t = false) (hb : flatsB P xs ys fs.toList = some b) : EqF P (d + 2) t (.agg xs) (.agg ys) b := by
 intro h K hk
 unfold Op.equalIn
 refine hwp_bind (hwp_underlying hu ?_)
 refine hwp_bind (hwp_program ?_)
 rw [hp]
 simp only [Bool.false_eq_true, if_false]
 rw [← Array.forIn_toList]
 clear hu
 generalize fs.toList = l at *
 refine hwp_bind ?_
 induction l generalizing b with
 | nil => cases hb; exact hk
 | cons f l ih =>
   rw [List.forIn_cons]
   unfold flatsB at hb
   by_cases hn : f.name ≠ "_"
   · rw [decide_eq_true hn] at hb
     rw [if_pos hn]
     simp only at hb
     split at hb
     · rename_i x y hx hy
       split at hb
       · rename_i b1 h1
         split at hb
         · rename_i c hc
           cases hb
           obtain ⟨he, D, hD, hDa⟩ := flatB_spec (d := d) h1
           refine hwp_bind (hwp_bind (hwp_part_flat hD hDa hx (hwp_bind (hwp_part_flat hD hDa hy (hwp_bind (he _ _ ?_))))))
           cases b1 with
           | false => exact hk
           | true => exact ih hk hc
         · cases hb
       · cases hb
     · cases hb
   · rw [decide_eq_false hn] at hb
     rw [if_neg hn]
     exact hwp_bind (hwp_pure (P := P) (ih hk hb))
theorem eqf_array {n : Nat} {e : TypeId} {i : TypeInfo} {xs ys : Array Value} {b : Bool} (hu : P.underlying t = some (.array n e)) (hi : P.info? e = some i) (hb : arrB P e i.size xs ys (List.range' 0 n) = some b) : EqF P (d + 2) t (.agg xs) (.agg ys) b := by
 intro h K hk
 unfold Op.equalIn
 refine hwp_bind (hwp_underlying hu ?_)
 refine hwp_bind (hwp_sizeOf hi ?_)
 simp only [Std.Legacy.Range.forIn_eq_forIn_range', Std.Legacy.Range.size, Nat.sub_zero, Nat.add_sub_cancel, Nat.div_one]
 clear hu
 generalize List.range' 0 n = l at *
 refine hwp_bind ?_
 induction l generalizing b with
 | nil => cases hb; exact hk
 | cons f l ih =>
   rw [List.forIn_cons]
   unfold arrB at hb
   split at hb
   · rename_i x y hx hy
     split at hb
     · rename_i b1 h1
       split at hb
       · rename_i c hc
         cases hb
         obtain ⟨he, D, hD, hDa⟩ := flatB_spec (d := d) h1
         refine hwp_bind (hwp_bind (hwp_part_flat hD hDa hx (hwp_bind (hwp_part_flat hD hDa hy (hwp_bind (he _ _ ?_))))))
         cases b1 with
         | false => exact hk
         | true => exact ih hk hc
       · cases hb
     · cases hb
   · cases hb
theorem equal_agg {xs ys : Array Value} {b : Bool} {h : Heap} {K : Bool → Heap → Prop} (hb : aggB P t xs ys = some b) (hk : K b h) : Hwp P (Op.equal t (.agg xs) (.agg ys)) h K := by
 unfold aggB at hb
 split at hb
 · rename_i fs h1 h2 hu
   exact eqf_struct (d := 9998) hu h2 hb h K hk
 · rename_i n e h1 hu
   split at hb
   · rename_i i hi
     exact eqf_array (d := 9998) hu hi hb h K hk
   · cases hb
 · cases hb
theorem guard_agg {xs ys : Array Value} {b : Bool} {h : Heap} {op : BinOp} {xo yo : Operand} {K : Unit → Heap → Prop} (hb : aggB P t xs ys = some b) (hk : K () h) : Hwp P (eqGuard op t xo yo (.agg xs) (.agg ys)) h K := by
 have h1 : P.eqGuardType P.depth t = false := by
   unfold aggB at hb
   split at hb
   · assumption
   · assumption
   · cases hb
 cases op <;> first | exact hk | (unfold eqGuard; refine hwp_bind (hwp_program (hwp_bind (hwp_program ?_))); rw [h1]; exact hk)
theorem gen_neq {xs ys : Array Value} {b : Bool} {h : Heap} {xo yo : Operand} {K : Value → Heap → Prop} (hb : aggB P t xs ys = some b) (hk : K (.bool (!b)) h) :
   Gen P (do eqGuard .neq t xo yo (.agg xs) (.agg ys); binOp .neq t (.agg xs) (.agg ys)) h K := hwp_bind (guard_agg hb (hwp_bind (equal_agg hb hk)))
end
section
variable {H : Type} {enc : TypeId × Value → H} {P : Program} {W : World}
def TellsF {α : Type} (enc : TypeId × Value → H) (P : Program) (W : World) (T o : Nat) (fs : List (TypeId × Nat)) (F : Heap → α → List Value → Prop) (Q : α → Prop) : Prop :=
 ∀ (n : Nat) (cs : List Value) (xs : List (DataW H × List MemPlace)), cs.length = T → xs.length = fs.length → (∀ (i : Nat) (f : TypeId × Nat), fs[i]? = some f → DataW.trod enc P W 0 (fun _ => true) true n f.1 ((cs.drop f.2).take (P.cellsOf f.1)) = xs[i]?) →
   (DataW.weightsEach P (fs.map (·.1)) (xs.map (·.1))).all (· ≤ reachBytes) = true → ∃ b, F W.heap b (cs.drop o) ∧ Q b
def eNil (_ : Heap) (_ : Unit) (cs : List Value) : Prop := cs = []
def eCons {α β : Type} (E : Heap → α → List Value → Prop) (F : Heap → β → List Value → Prop) (h : Heap) (x : α × β) (cs : List Value) : Prop := ∃ c1 c2, cs = c1 ++ c2 ∧ E h x.1 c1 ∧ F h x.2 c2
theorem tf_nil {T : Nat} : TellsF enc P W T T [] eNil (fun _ => True) := fun n cs xs hl _ _ _ => ⟨(), by unfold eNil; rw [List.drop_eq_nil_of_le (by omega)], trivial⟩
theorem tf_cons {α β : Type} {E : Heap → α → List Value → Prop} {F : Heap → β → List Value → Prop} {Q : α → Prop} {Q' : β → Prop} {T o s : Nat} {f : TypeId} {fs : List (TypeId × Nat)} (hs : P.cellsOf f = s)
   (he : Tells enc P W f E Q) (hf : TellsF enc P W T (o + s) fs F Q') : TellsF enc P W T o ((f, o) :: fs) (eCons E F) (fun x => Q x.1 ∧ Q' x.2) := by
 intro n cs xs hl hx hi hw
 cases xs with
 | nil => cases hx
 | cons x xs =>
   have h0 := hi 0 (f, o) rfl
   simp only [hs] at h0
   simp only [List.map_cons, DataW.weightsEach, List.all_append, Bool.and_eq_true] at hw
   obtain ⟨a, ha, qa⟩ := he n _ _ h0 hw.1
   obtain ⟨b, hb, qb⟩ := hf n cs xs hl (by simpa using hx) (fun i g hg => by simpa using hi (i + 1) g hg) hw.2
   exact ⟨(a, b), ⟨_, _, by rw [← List.drop_drop, List.take_append_drop], ha, hb⟩, qa, qb⟩
def shapeOf (P : Program) (t : TypeId) : Option (List (TypeId × Nat)) := match P.underlying t with | some (.struct fs) => some (fs.toList.map fun f => (f.type, f.offset)) | _ => none
theorem tells_struct {α : Type} {F : Heap → α → List Value → Prop} {Q : α → Prop} {t : TypeId} {fs : List (TypeId × Nat)} {T : Nat} (hs : shapeOf P t = some fs) (hc : P.cellsOf t = T) (hf : TellsF enc P W T 0 fs F Q) : Tells enc P W t F Q := by
 intro fuel cs x h hw
 unfold shapeOf at hs
 split at hs
 · rename_i fa hu
   cases hs
   obtain ⟨xs, n, _, rfl, hl, hlen, hi⟩ := DataW.trod_struct hu h
   simp only [DataW.weights, hu] at hw
   obtain ⟨b, hb, qb⟩ := hf n cs xs (by rw [hl, hc]) (by simpa using hlen) (fun i f hif => by
     rw [List.getElem?_map, Option.map_eq_some_iff] at hif
     obtain ⟨g, hg, rfl⟩ := hif
     exact hi i g (by simpa using hg)) (by rw [List.map_map]; exact hw)
   exact ⟨b, by simpa using hb, qb⟩
 · cases hs
theorem tells_map {α β : Type} {E : Heap → α → List Value → Prop} {F : Heap → β → List Value → Prop} {Q : α → Prop} {Q' : β → Prop} {t : TypeId} (he : Tells enc P W t E Q) (hm : ∀ a cs, E W.heap a cs → Q a → ∃ b, F W.heap b cs ∧ Q' b) : Tells enc P W t F Q' :=
 fun fuel cs x h hw => let ⟨a, ha, qa⟩ := he fuel cs x h hw; hm a cs ha qa
end
end Go.Hw

end
section
namespace Go.Hw
open Go
def Brn (e : List MapEntry) (c : Nat) : Prop := (e.map (·.born)).Pairwise (· < ·) ∧ ∀ x ∈ e, x.born < c
def MapB {α : Type} (kv : α → Value) (h : Heap) (m : Nat) (es : List (α × Value)) : Prop :=
 ∃ (e : Array MapEntry) (clock : Nat), h[m]? = some (.map e clock) ∧ e.toList.map (fun x => (x.key, x.val)) = (es.map fun x => (kv x.1, x.2)) ∧ Brn e.toList clock
theorem Brn.push {e : List MapEntry} {c : Nat} (h : Brn e c) (k v : Value) : Brn (e ++ [{ key := k, val := v, born := c }]) (c + 1) := by
 refine ⟨?_, fun x hx => ?_⟩
 · rw [List.map_append, List.pairwise_append]
   refine ⟨h.1, List.pairwise_singleton .., fun a ha b hb => ?_⟩
   simp only [List.map_cons, List.map_nil, List.mem_singleton] at hb
   obtain ⟨x, hx, rfl⟩ := List.mem_map.1 ha
   rw [hb]; exact h.2 x hx
 · rcases List.mem_append.1 hx with hx | hx
   · have := h.2 x hx; omega
   · rw [List.mem_singleton.1 hx]; exact Nat.lt_succ_self c
theorem Brn.mod {e : List MapEntry} {c : Nat} (h : Brn e c) (i : Nat) (k v : Value) : Brn (e.modify i fun x => { x with key := k, val := v }) c := by
 have hm : (e.modify i fun x => { x with key := k, val := v }).map (·.born) = e.map (·.born) := by
   induction e generalizing i with
   | nil => simp
   | cons x e ih =>
     cases i with
     | zero => simp
     | succ i =>
       rw [List.modify_succ_cons, List.map_cons, List.map_cons, ih ⟨(List.pairwise_cons.1 h.1).2, fun x hx => h.2 x (List.mem_cons_of_mem _ hx)⟩]
 refine ⟨by rw [hm]; exact h.1, fun x hx => ?_⟩
 have : x.born ∈ (e.modify i fun x => { x with key := k, val := v }).map (·.born) := List.mem_map.2 ⟨x, hx, rfl⟩
 rw [hm] at this
 obtain ⟨y, hy, e1⟩ := List.mem_map.1 this
 rw [← e1]; exact h.2 y hy
section
variable {α : Type} {kv : α → Value} {h h' : Heap} {m : Nat} {es : List (α × Value)}
theorem MapB.lt (hb : MapB kv h m es) : m < h.size := by
 obtain ⟨e, c, h1, _⟩ := hb
 exact (Array.getElem?_eq_some_iff.1 h1).1
variable {P : Program} {t : TypeId}
theorem gen_makeMap {K : Value → Heap → Prop} (hk : ∀ h', MapB kv h' h.size [] → Ext h h' → h'.size = h.size + 1 → K (.map (some h.size)) h') : Gen P (Instr.makeMap t none) h K :=
 hk _ ⟨#[], 0, by simp, rfl, .nil, fun x hx => by cases hx⟩ (Ext.push _ _) (by simp)
theorem hwp_getObj {r : Nat} {o : Obj} {K : Obj → Heap → Prop} (h1 : h[r]? = some o) (h2 : ∀ c e f, o ≠ .cells c e f) (hk : K o h) : Hwp P (getObj r) h K := ⟨o, h1, h2, hk⟩
theorem hwp_setObj {r : Nat} {o o' : Obj} {K : Unit → Heap → Prop} (h1 : h[r]? = some o') (h2 : ∀ c e f, o' ≠ .cells c e f) (hk : K () (h.setIfInBounds r o)) : Hwp P (setObj r o) h K := ⟨o', h1, h2, hk⟩
def mget {α : Type} [DecidableEq α] (es : List (α × Value)) (k : α) : Option Value := (es.find? fun x => decide (k = x.1)).map (·.2)
def findAt {α : Type} [DecidableEq α] (k : α) : List (α × Value) → Nat → Option (Nat × Value)
 | [], _ => none
 | x :: es, i => if k = x.1 then some (i, x.2) else findAt k es (i + 1)
structure KeyOk (P : Program) (t : TypeId) {α : Type} [DecidableEq α] (kv : α → Value) (elem : TypeId) : Prop where
 key : ∃ key, P.underlying t = some (.map key elem) ∧ (∀ b v h K, K () h → Hwp P (Instr.checkKey b 10000 key (kv v)) h K) ∧
   ∀ (k : α) (l : List MapEntry) (es : List (α × Value)) (h : Heap) (K : Option (Nat × Value) → Heap → Prop), l.map (fun x => (x.key, x.val)) = es.map (fun x => (kv x.1, x.2)) → K (findAt k es 0) h → Hwp P (Instr.findKey key (kv k) l) h K
 same : ∀ a, Instr.sameBits 10000 (kv a) (kv a) = true
variable [DecidableEq α]
theorem findAt_get (k : α) : ∀ (es : List (α × Value)) (i : Nat), (findAt k es i).map (·.2) = mget es k
 | [], _ => rfl
 | x :: es, i => by
   unfold findAt mget
   by_cases h : k = x.1
   · rw [if_pos h, List.find?_cons_of_pos (by simpa using h)]; rfl
   · rw [if_neg h, List.find?_cons_of_neg (by simpa using h)]; exact findAt_get k es (i + 1)
theorem findNow_at {kind : TypeDesc} (hs : ∀ a b, Instr.sameNow kind (kv a) (kv b) = some (decide (a = b))) (k : α) : ∀ (l : List MapEntry) (es : List (α × Value)) (i : Nat), l.map (fun x => (x.key, x.val)) = es.map (fun x => (kv x.1, x.2)) →
   Instr.findNow kind (kv k) l i = some (findAt k es i) := by
 intro l
 induction l with
 | nil =>
   intro es i he
   cases es with
   | nil => rfl
   | cons x es => cases he
 | cons e l ih =>
   intro es i he
   cases es with
   | nil => cases he
   | cons x es =>
     simp only [List.map_cons, List.cons.injEq, Prod.mk.injEq] at he
     obtain ⟨⟨hkey, hval⟩, he⟩ := he
     unfold Instr.findNow findAt
     rw [hkey, hs]
     by_cases hkx : k = x.1
     · rw [decide_eq_true hkx, if_pos hkx, hval]
     · rw [decide_eq_false hkx, if_neg hkx]
       exact ih es (i + 1) he
theorem KeyOk.flat {elem key : TypeId} {kind : TypeDesc} (hu : P.underlying t = some (.map key elem)) (hkind : P.underlying key = some kind) (hck : ∀ b v h K, K () h → Hwp P (Instr.checkKey b 10000 key (kv v)) h K) (hs : ∀ a b, Instr.sameNow kind (kv a) (kv b) = some (decide (a = b))) (same : ∀ a, Instr.sameBits 10000 (kv a) (kv a) = true) : KeyOk P t kv elem where
 key := ⟨key, hu, hck, fun k l es h K he hk => by
   unfold Instr.findKey
   refine hwp_bind (hwp_underlying hkind ?_)
   rw [findNow_at hs k l es 0 he]
   exact hwp_pure (P := P) hk⟩
 same := same
theorem gen_lookup {elem : TypeId} {z : Value} (ok : KeyOk P t kv elem) (hb : MapB kv h m es) (k : α) (hz : zeroOf P elem = some z) {K : Value → Heap → Prop} (hk : K ((mget es k).getD z) h) : Gen P (Instr.lookup t (.map (some m)) (kv k) false) h K := by
 obtain ⟨key, hu, hck, hf⟩ := ok.key
 obtain ⟨e, clock, h1, h2, hB⟩ := hb
 unfold Gen Instr.lookup
 refine hwp_bind (hwp_underlying hu ?_)
 refine hwp_bind (hwp_getObj h1 (fun _ _ _ hh => by cases hh) ?_)
 refine hwp_bind (hwp_pure (P := P) ?_)
 refine hwp_bind (hck _ _ _ _ ?_)
 refine hwp_bind (hf k _ es _ _ h2 ?_)
 have h4 := findAt_get k es 0
 revert h4
 cases findAt k es 0 with
 | none =>
   intro h4
   have : mget es k = none := by rw [← h4]; rfl
   rw [this] at hk
   exact hwp_bind (hwp_zero hz (hwp_pure (P := P) (hwp_pure (P := P) hk)))
 | some iv =>
   intro h4
   have : mget es k = some iv.2 := by rw [← h4]; rfl
   rw [this] at hk
   exact hwp_pure (P := P) (hwp_pure (P := P) hk)
theorem gen_lookup2 {elem : TypeId} {z : Value} (ok : KeyOk P t kv elem) (hb : MapB kv h m es) (k : α) (hz : zeroOf P elem = some z) {K : Value → Heap → Prop} (hk : K (.tuple #[(mget es k).getD z, .bool (mget es k).isSome]) h) : Gen P (Instr.lookup t (.map (some m)) (kv k) true) h K := by
 obtain ⟨key, hu, hck, hf⟩ := ok.key
 obtain ⟨e, clock, h1, h2, hB⟩ := hb
 unfold Gen Instr.lookup
 refine hwp_bind (hwp_underlying hu ?_)
 refine hwp_bind (hwp_getObj h1 (fun _ _ _ hh => by cases hh) ?_)
 refine hwp_bind (hwp_pure (P := P) ?_)
 refine hwp_bind (hck _ _ _ _ ?_)
 refine hwp_bind (hf k _ es _ _ h2 ?_)
 have h4 := findAt_get k es 0
 revert h4
 cases findAt k es 0 with
 | none =>
   intro h4
   have : mget es k = none := by rw [← h4]; rfl
   rw [this] at hk
   exact hwp_bind (hwp_zero hz (hwp_pure (P := P) (hwp_pure (P := P) hk)))
 | some iv =>
   intro h4
   have : mget es k = some iv.2 := by rw [← h4]; rfl
   rw [this] at hk
   exact hwp_pure (P := P) (hwp_pure (P := P) hk)
def mset : List (α × Value) → α → Value → List (α × Value)
 | [], k, v => [(k, v)]
 | x :: es, k, v => if k = x.1 then (k, v) :: es else x :: mset es k v
theorem findAt_set (k : α) (v : Value) : ∀ (l : List MapEntry) (es : List (α × Value)) (i : Nat), l.map (fun x => (x.key, x.val)) = es.map (fun x => (kv x.1, x.2)) →
   match findAt k es i with
     | none => mset es k v = es ++ [(k, v)]
     | some (j, _) => i ≤ j ∧ (∃ e, l[j - i]? = some e ∧ e.key = kv k) ∧ (l.modify (j - i) fun e => { e with key := kv k, val := v }).map (fun x => (x.key, x.val)) = (mset es k v).map (fun x => (kv x.1, x.2)) := by
 intro l
 induction l with
 | nil =>
   intro es i he
   cases es with
   | nil => rfl
   | cons x es => cases he
 | cons e l ih =>
   intro es i he
   cases es with
   | nil => cases he
   | cons x es =>
     simp only [List.map_cons, List.cons.injEq, Prod.mk.injEq] at he
     obtain ⟨⟨hkey, hval⟩, he⟩ := he
     unfold findAt
     by_cases hkx : k = x.1
     · rw [if_pos hkx]
       refine ⟨Nat.le_refl _, ⟨e, by simp, by rw [hkey, hkx]⟩, ?_⟩
       unfold mset
       rw [if_pos hkx, Nat.sub_self]
       simp [he]
     · rw [if_neg hkx]
       have h2 := ih es (i + 1) he
       unfold mset
       rw [if_neg hkx]
       revert h2
       cases findAt k es (i + 1) with
       | none => intro h2; simp only at h2 ⊢; rw [h2]; rfl
       | some jv =>
         intro h2
         simp only at h2 ⊢
         obtain ⟨h3, ⟨e', h4, h5⟩, h6⟩ := h2
         have e1 : jv.1 - i = (jv.1 - (i + 1)) + 1 := by omega
         refine ⟨by omega, ⟨e', by rw [e1]; simpa using h4, h5⟩, ?_⟩
         rw [e1, List.modify_succ_cons, List.map_cons, List.map_cons, h6, hkey, hval]
theorem gen_mapUpdate {elem : TypeId} (ok : KeyOk P t kv elem) (hb : MapB kv h m es) (k : α) (v : Value) {K : Unit → Heap → Prop} (hk : ∀ h', MapB kv h' m (mset es k v) → Only h h' m → K () h') : Hwp P (Instr.mapUpdate t (.map (some m)) (kv k) v) h K := by
 have hlt := hb.lt
 obtain ⟨key, hu, hck, hf⟩ := ok.key
 obtain ⟨e, clock, h1, h2, hB⟩ := hb
 have only : ∀ o, Only h (h.setIfInBounds m o) m := fun o => ⟨by simp, fun i hi => by rw [Array.getElem?_setIfInBounds, if_neg (fun hh => hi hh.symm)]⟩
 have at' : ∀ o, (h.setIfInBounds m o)[m]? = some o := fun o => by rw [Array.getElem?_setIfInBounds, if_pos rfl, if_pos hlt]
 unfold Instr.mapUpdate
 refine hwp_bind (hwp_underlying hu ?_)
 refine hwp_bind (hwp_getObj h1 (fun _ _ _ hh => by cases hh) ?_)
 refine hwp_bind (hck _ _ _ _ ?_)
 refine hwp_bind (hf k _ es _ _ h2 ?_)
 have h4 := findAt_set k v e.toList es 0 h2
 revert h4
 cases findAt k es 0 with
 | none =>
   intro h4
   simp only at h4
   refine (hwp_setObj h1 (fun _ _ _ hh => by cases hh) (hk _ ⟨_, _, at' _, ?_, ?_⟩ (only _)))
   · rw [h4, Array.toList_push, List.map_append, List.map_append, h2]; rfl
   · rw [Array.toList_push]; exact hB.push _ _
 | some jv =>
   intro h4
   obtain ⟨j, x⟩ := jv
   simp only at h4
   obtain ⟨_, ⟨e', h5, h6⟩, h7⟩ := h4
   have hkey : ((e[j]?).map (·.key)).getD (kv k) = kv k := by
     have : e[j]? = some e' := by simpa using h5
     rw [this]; exact h6
   show Hwp P (Instr.keyThatStays (((e[j]?).map (·.key)).getD (kv k)) (kv k) >>= _) h K
   rw [hkey]
   refine hwp_bind ?_
   unfold Instr.keyThatStays
   rw [ok.same, if_pos rfl]
   refine hwp_pure (P := P) (hwp_setObj h1 (fun _ _ _ hh => by cases hh) (hk _ ⟨_, _, at' _, ?_, ?_⟩ (only _)))
   · rw [Array.toList_modify]
     exact h7
   · rw [Array.toList_modify]; exact hB.mod _ _ _
end
theorem ba_toList {a b : ByteArray} (h : a.toList = b.toList) : a = b := by
 rw [ByteArray.toList_eq, ByteArray.toList_eq] at h
 obtain ⟨⟨x⟩⟩ := a
 obtain ⟨⟨y⟩⟩ := b
 have : x = y := h
 rw [this]
theorem ba_beq (a b : ByteArray) : (a == b) = decide (a = b) := by
 rw [beq_toListBytes]
 by_cases h : a = b
 · rw [decide_eq_true h, h]; simp
 · rw [decide_eq_false h, beq_eq_false_iff_ne]; exact fun hh => h (ba_toList hh)
section
variable {P : Program} {t : TypeId}
theorem keyOk_str {key elem : TypeId} (hu : P.underlying t = some (.map key elem)) (hk : P.underlying key = some .string) : KeyOk P t (fun s : ByteArray => Value.string s) elem :=
 .flat hu hk (fun b v h K hh => by
     unfold Instr.checkKey
     exact hwp_bind (hwp_underlying hk hh)) (fun a b => by
     show some (a == b) = _
     rw [ba_beq]) (fun a => by
   show (a == a) = true
   rw [ba_beq]; simp)
end
end Go.Hw

end
section
namespace Go.Hw
open Go
def bytesOf (l : List Int) : ByteArray := ⟨(l.map fun n => UInt8.ofNat n.toNat).toArray⟩
section
variable {P : Program} {h : Heap}
theorem row_cells {A : Option Addr} {l : List Int} {k : IntKind} (hr : Rd 1 (eInt k) h A l) {a : Addr} (ha : A = some a) : cellsH h a 0 l.length = some (l.map (.int k)) := by
 have := hr.srcInt 0
 subst ha
 simp only [srcCells, Nat.mul_one] at this
 cases hc : cellsH h a 0 l.length with
 | none => rw [hc] at this; simp at this
 | some cs => rw [hc] at this; simp at this; rw [this]
theorem gen_b2s {src dst e : TypeId} {A : Option Addr} {c : Nat} {l : List Int} {K : Value → Heap → Prop} (hsrc : P.underlying src = some (.slice e)) (hdst : P.underlying dst = some .string) (he : P.underlying e = some (.int .u8)) (hr : Rd 1 (eInt .u8) h A l)
   (hk : K (.string (bytesOf l)) h) : Gen P (convert src dst (.slice A l.length c)) h K := by
 unfold Gen convert
 refine hwp_bind (hwp_underlying hsrc (hwp_bind (hwp_underlying hdst ?_)))
 refine hwp_bind (hwp_underlying he ?_)
 unfold Conv.bytesToString
 cases A with
 | none =>
   have : l = [] := by
     cases l with
     | nil => rfl
     | cons x l => obtain ⟨a, _, h1, _⟩ := hr 0 (by simp); cases h1
   subst this
   exact hk
 | some a =>
   refine hwp_bind (hwp_loadCells (row_cells hr rfl) ?_)
   refine hwp_bind ?_
   rw [← Array.forIn_toList]
   have key : ∀ (m : List Int) (s : ByteArray) (K' : ByteArray → Heap → Prop), K' ⟨s.data ++ (m.map fun n => UInt8.ofNat n.toNat).toArray⟩ h → Hwp P (forIn (m.map (Value.int .u8)) s fun c s => match c with | .int .u8 n => pure (ForInStep.yield (s.push (UInt8.ofNat n.toNat))) | _ => stuck "bytesToString: byte expected") h K' := by
     intro m
     induction m with
     | nil => intro s K' hk; exact hwp_pure (P := P) (by simpa using hk)
     | cons x m ih =>
       intro s K' hk
       rw [List.map_cons, List.forIn_cons]
       refine hwp_bind (hwp_pure (P := P) (ih _ K' ?_))
       have : (⟨(s.push (UInt8.ofNat x.toNat)).data ++ (m.map fun n => UInt8.ofNat n.toNat).toArray⟩ : ByteArray) = ⟨s.data ++ ((x :: m).map fun n => UInt8.ofNat n.toNat).toArray⟩ := by
         cases s; simp [ByteArray.push]
       rw [this]; exact hk
   refine key l ByteArray.empty _ ?_
   have e : (⟨ByteArray.empty.data ++ (l.map fun n => UInt8.ofNat n.toNat).toArray⟩ : ByteArray) = bytesOf l := by
     simp [bytesOf, ByteArray.empty, ByteArray.emptyWithCapacity]
     rfl
   rw [e]
   exact hk
end
end Go.Hw

end
section
namespace Go.Hw
open Go
end Go.Hw

end
section
namespace Go.Hw
open Go
def dead : Obj := .cells #[] 0 (0, 0)
def Live (m : Heap) (b : Nat) : Prop := ∃ o, m[b]? = some o ∧ o ≠ dead
def Sub (m h : Heap) : Prop := ∀ (b : Nat) (o : Obj), m[b]? = some o → o ≠ dead → h[b]? = some o
abbrev No : Nat → Prop := fun _ => False
section
variable {m m' h h' k h0 m0 : Heap} {b : Nat} {W W' : Nat → Prop}
theorem Sub.refl (h : Heap) : Sub h h := fun _ _ h _ => h
theorem Sub.trans (s : Sub m h) (t : Sub h k) : Sub m k := fun b o h1 h2 => t b o (s b o h1 h2) h2
theorem Sub.lt (s : Sub m h) (l : Live m b) : b < h.size := by
 obtain ⟨o, h1, h2⟩ := l
 exact (Array.getElem?_eq_some_iff.1 (s b o h1 h2)).1
theorem Sub.ext (s : Sub m h) (e : Ext h h') : Sub m h' := fun b o h1 h2 => by rw [e.2 b (s.lt ⟨o, h1, h2⟩)]; exact s b o h1 h2
theorem Sub.cell (s : Sub m h) {a : Addr} {v : Value} (hc : cellH m a = some v) : cellH h a = some v := by
 unfold cellH at hc
 split at hc
 · rename_i c e f hm
   have hne : (Obj.cells c e f) ≠ dead := by
     intro hd
     unfold dead at hd
     cases hd
     split at hc <;> simp at hc
   unfold cellH
   rw [s _ _ hm hne]; exact hc
 · cases hc
theorem Sub.cells (s : Sub m h) {a : Addr} : ∀ (n i : Nat) {vs : List Value}, cellsH m a i n = some vs → cellsH h a i n = some vs := by
 intro n
 induction n with
 | zero => intro i vs hc; exact hc
 | succ n ih =>
   intro i vs hc
   simp only [cellsH] at hc ⊢
   split at hc
   · rename_i v hv
     rw [s.cell hv]
     split at hc
     · rename_i us hu
       rw [ih _ hu]; exact hc
     · cases hc
   · cases hc
end
structure Tell {α : Type} (sz : Nat) (E : Heap → α → List Value → Prop) : Prop where
 mono : ∀ m h x cs, Sub m h → E m x cs → E h x cs
 len : ∀ h x cs, E h x cs → cs.length = sz
 flat : ∀ h x cs, E h x cs → ∀ v ∈ cs, Flat v
theorem Flats.nil : ∀ v ∈ ([] : List Value), Flat v := fun v hv => by cases hv
theorem Flats.cons {x : Value} {l : List Value} (h : Flat x) (t : ∀ v ∈ l, Flat v) : ∀ v ∈ x :: l, Flat v := fun v hv => by
 rcases List.mem_cons.1 hv with rfl | hv
 · exact h
 · exact t v hv
theorem tell_int (k : IntKind) : Tell 1 (eInt k) := ⟨fun _ _ _ _ _ h => h, fun _ _ _ h => by rw [h]; rfl, fun _ _ _ h => by rw [h]; exact Flats.cons trivial Flats.nil⟩
theorem tell_str : Tell 1 eStr := ⟨fun _ _ _ _ _ h => h, fun _ _ _ h => by rw [h]; rfl, fun _ _ _ h => by rw [h]; exact Flats.cons trivial Flats.nil⟩
section
variable {α : Type} {sz : Nat} {E : Heap → α → List Value → Prop} {m m' h h' : Heap} {A : Option Addr} {l : List α} {c : Nat}
theorem Rd.sub (r : Rd sz E m A l) (T : Tell sz E) (s : Sub m h) : Rd sz E h A l := fun i hi =>
 let ⟨a, cs, h1, h2, h3⟩ := r i hi
 ⟨a, cs, h1, s.cells _ _ h2, T.mono _ _ _ _ s h3⟩
theorem tell_row (T : Tell sz E) : Tell 1 (eRow sz E) := ⟨fun _ _ _ _ s ⟨A, c, h1, h2, h3⟩ => ⟨A, c, h1, h2, h3.sub T s⟩, fun _ _ _ ⟨A, c, h1, _, _⟩ => by rw [h1]; rfl, fun _ _ _ ⟨A, c, h1, _, _⟩ => by rw [h1]; exact Flats.cons trivial Flats.nil⟩
end
structure St (W : Nat → Prop) (h0 m0 h m : Heap) : Prop where
 up : Sub m0 m
 s : Sub m h
 size : h0.size ≤ h.size
 fr : ∀ b, b < h0.size → ¬ W b → h[b]? = h0[b]?
 lv : ∀ b, b < h0.size → Live m b → Live m0 b ∨ W b
def fb (b0 b : Nat) : Prop := b = b0
def fp (A : Option Addr) (c : Nat) (b : Nat) : Prop := c ≠ 0 ∧ ∃ a, A = some a ∧ a.block = b
def Dj (F G : Nat → Prop) : Prop := ∀ b, F b → G b → False
section
variable {m m' h h' h0 m0 : Heap} {b b' : Nat} {W W' F G G' : Nat → Prop}
theorem Dj.symm (d : Dj F G) : Dj G F := fun b h1 h2 => d b h2 h1
theorem Dj.no : Dj No F := fun _ h _ => h
theorem St.refl (s : Sub m h) : St W h m h m := ⟨.refl _, s, Nat.le_refl _, fun _ _ _ => rfl, fun _ _ h => .inl h⟩
theorem St.of_ext (s : Sub m h) (e : Ext h h') : St W h m h' m := ⟨.refl _, s.ext e, e.1, fun b hb _ => e.2 b hb, fun _ _ h => .inl h⟩
theorem St.ext (S : St No h m h' m') : Ext h h' := ⟨S.size, fun b hb => S.fr b hb (fun h => h)⟩
theorem St.then (S : St W h0 m0 h m) (T : St W' h m h' m') (hw : ∀ b, b < h.size → W' b → h0.size ≤ b ∨ W b) : St W h0 m0 h' m' where
 up := S.up.trans T.up
 s := T.s
 size := Nat.le_trans S.size T.size
 fr b hb hn := by
   rw [T.fr b (by have := S.size; omega) (fun hw' => (hw b (by have := S.size; omega) hw').elim (fun h => by omega) hn)]
   exact S.fr b hb hn
 lv b hb hl := by
   rcases T.lv b (by have := S.size; omega) hl with h1 | h1
   · exact S.lv b hb h1
   · exact .inr ((hw b (by have := S.size; omega) h1).elim (fun h => by omega) id)
theorem St.grow (S : St W h0 m0 h m) (T : St No h m h' m') : St W h0 m0 h' m' := S.then T fun _ _ h => h.elim
theorem St.notLive (s : Sub m h) : ¬ Live m h.size := fun l => by have := s.lt l; omega
theorem St.only (s : Sub m h) (hn : ¬ Live m b) (o : Only h h' b) : St (fb b) h m h' m where
 up := .refl _
 s i x h1 h2 := by
   rw [o.2 i (fun e => hn (e ▸ ⟨x, h1, h2⟩))]; exact s i x h1 h2
 size := by rw [o.1]; exact Nat.le_refl _
 fr i _ hw := o.2 i hw
 lv i _ hl := .inl hl
end
open Classical in
noncomputable def addV (m h : Heap) (F : Nat → Prop) : Heap := Array.ofFn (n := h.size) fun i => if Live m i.1 ∨ F i.1 then h[i.1] else dead
section
variable {m h : Heap} {b : Nat} {F : Nat → Prop}
theorem addV_get (hb : b < h.size) (hl : Live m b ∨ F b) : (addV m h F)[b]? = h[b]? := by
 unfold addV
 rw [Array.getElem?_ofFn, dif_pos hb, if_pos hl, Array.getElem?_eq_getElem hb]
theorem addV_live (hl : Live (addV m h F) b) : (Live m b ∨ F b) ∧ b < h.size := by
 obtain ⟨o, h1, h2⟩ := hl
 unfold addV at h1
 rw [Array.getElem?_ofFn] at h1
 split at h1
 · rename_i hb
   refine ⟨?_, hb⟩
   by_cases hc : Live m b ∨ F b
   · exact hc
   · rw [if_neg hc] at h1; cases h1; exact (h2 rfl).elim
 · cases h1
theorem addV_sub : Sub (addV m h F) h := fun b o h1 h2 => by
 have := addV_live ⟨o, h1, h2⟩
 rw [← addV_get this.2 this.1]; exact h1
theorem addV_up (s : Sub m h) : Sub m (addV m h F) := fun b o h1 h2 => by
 rw [addV_get (s.lt ⟨o, h1, h2⟩) (.inl ⟨o, h1, h2⟩)]; exact s b o h1 h2
theorem St.settle (s : Sub m h) (F : Nat → Prop) : St F h m h (addV m h F) := ⟨addV_up s, addV_sub, Nat.le_refl _, fun _ _ _ => rfl, fun _ _ hl => (addV_live hl).1⟩
theorem Blk.settle {c : List Value} {t : TypeId} (hb : Blk h b c t) (hF : F b) : Blk (addV m h F) b c t := by
 unfold Blk at *
 rw [addV_get (Blk.lt hb) (.inr hF)]; exact hb
end
section
variable {α : Type} {sz : Nat} {E : Heap → α → List Value → Prop} {m m' h h' h0 m0 : Heap} {A : Option Addr} {l l' : List α} {c : Nat} {cs ds : List Value} {x y : α} {W W' : Nat → Prop}
def CsE (sz : Nat) (E : Heap → α → List Value → Prop) (m : Heap) : List α → List Value → Prop
 | [], cs => cs = []
 | x :: l, cs => ∃ c1 c2, cs = c1 ++ c2 ∧ c1.length = sz ∧ E m x c1 ∧ CsE sz E m l c2
theorem CsE.nil : CsE sz E m ([] : List α) [] := rfl
theorem CsE.cons {c1 : List Value} (h1 : E m x c1) (h2 : c1.length = sz) (h : CsE sz E m l cs) : CsE sz E m (x :: l) (c1 ++ cs) := ⟨c1, cs, rfl, h2, h1, h⟩
theorem CsE.len : ∀ {l : List α} {cs : List Value}, CsE sz E m l cs → cs.length = l.length * sz := by
 intro l
 induction l with
 | nil => intro cs h; rw [show cs = [] from h]; simp
 | cons x l ih => rintro cs ⟨c1, c2, rfl, h1, h2, h3⟩; rw [List.length_append, ih h3, h1, List.length_cons, Nat.succ_mul, Nat.add_comm]
theorem CsE.append : ∀ {l l' : List α} {cs ds : List Value}, CsE sz E m l cs → CsE sz E m l' ds → CsE sz E m (l ++ l') (cs ++ ds) := by
 intro l
 induction l with
 | nil => intro l' cs ds h h'; rw [show cs = [] from h]; exact h'
 | cons x l ih => rintro l' cs ds ⟨c1, c2, rfl, h1, h2, h3⟩ h'; rw [List.append_assoc]; exact ⟨c1, c2 ++ ds, rfl, h1, h2, ih h3 h'⟩
theorem CsE.sub (T : Tell sz E) (s : Sub m h) : ∀ {l : List α} {cs : List Value}, CsE sz E m l cs → CsE sz E h l cs := by
 intro l
 induction l with
 | nil => intro cs h; exact h
 | cons x l ih => rintro cs ⟨c1, c2, rfl, h1, h2, h3⟩; exact ⟨c1, c2, rfl, h1, T.mono _ _ _ _ s h2, ih h3⟩
theorem CsE.flat (T : Tell sz E) : ∀ {l : List α} {cs : List Value}, CsE sz E m l cs → ∀ v ∈ cs, Flat v := by
 intro l
 induction l with
 | nil => intro cs h; rw [show cs = [] from h]; exact Flats.nil
 | cons x l ih =>
   rintro cs ⟨c1, c2, rfl, h1, h2, h3⟩ v hv
   rcases List.mem_append.1 hv with hv | hv
   · exact T.flat _ _ _ h2 v hv
   · exact ih h3 v hv
theorem CsE.get : ∀ {l : List α} {cs : List Value} {i : Nat}, CsE sz E m l cs → l[i]? = some y → E m y ((cs.drop (i * sz)).take sz) ∧ i * sz + sz ≤ cs.length := by
 intro l
 induction l with
 | nil => intro cs i h h'; cases h'
 | cons x l ih =>
   rintro cs i ⟨c1, c2, rfl, h1, h2, h3⟩ hy
   cases i with
   | zero =>
     cases hy
     simp only [Nat.zero_mul, List.drop_zero]
     rw [← h1, List.take_left]
     exact ⟨h2, by simp⟩
   | succ i =>
     have := ih (i := i) h3 (by simpa using hy)
     rw [show (i + 1) * sz = c1.length + i * sz by rw [h1, Nat.succ_mul, Nat.add_comm], ← List.drop_drop, List.drop_left, List.length_append]
     exact ⟨this.1, by omega⟩
theorem CsE.set {c1 : List Value} (hx : E m x c1) (hz : c1.length = sz) : ∀ {l : List α} {cs : List Value} {i : Nat}, CsE sz E m l cs → i < l.length → CsE sz E m (l.set i x) (cs.take (i * sz) ++ c1 ++ cs.drop (i * sz + sz)) := by
 intro l
 induction l with
 | nil => intro cs i h h'; cases h'
 | cons y l ih =>
   rintro cs i ⟨d1, d2, rfl, h1, h2, h3⟩ hi
   cases i with
   | zero =>
     simp only [Nat.zero_mul, List.take_zero, List.nil_append, Nat.zero_add, List.set_cons_zero]
     rw [← h1, List.drop_left]
     exact ⟨c1, d2, rfl, by rw [hz, h1], hx, by rw [h1]; exact h3⟩
   | succ i =>
     have := ih (i := i) h3 (by simpa using hi)
     rw [show (i + 1) * sz = d1.length + i * sz by rw [h1, Nat.succ_mul, Nat.add_comm], List.take_length_add_append, show d1.length + i * sz + sz = d1.length + (i * sz + sz) by omega, List.drop_length_add_append, List.set_cons_succ]
     exact ⟨d1, _, by simp [List.append_assoc], h1, h2, this⟩
theorem CsE.drop : ∀ {l : List α} {cs : List Value} (k : Nat), CsE sz E m l cs → CsE sz E m (l.drop k) (cs.drop (k * sz)) := by
 intro l
 induction l with
 | nil => intro cs k h; rw [show cs = [] from h]; simp [CsE]
 | cons x l ih =>
   rintro cs k ⟨c1, c2, rfl, h1, h2, h3⟩
   cases k with
   | zero => rw [Nat.zero_mul, List.drop_zero, List.drop_zero]; exact ⟨c1, c2, rfl, h1, h2, h3⟩
   | succ k =>
     rw [show (k + 1) * sz = c1.length + k * sz by rw [h1, Nat.succ_mul, Nat.add_comm], ← List.drop_drop (l := c1 ++ c2), List.drop_left, List.drop_succ_cons]
     exact ih k h3
theorem CsE.take : ∀ {l : List α} {cs : List Value} (k : Nat), CsE sz E m l cs → CsE sz E m (l.take k) (cs.take (k * sz)) := by
 intro l
 induction l with
 | nil => intro cs k h; rw [show cs = [] from h]; simp [CsE]
 | cons x l ih =>
   rintro cs k ⟨c1, c2, rfl, h1, h2, h3⟩
   cases k with
   | zero => simp [CsE]
   | succ k =>
     rw [show (k + 1) * sz = c1.length + k * sz by rw [h1, Nat.succ_mul, Nat.add_comm], List.take_length_add_append, List.take_succ_cons]
     exact ⟨c1, _, rfl, h1, h2, ih k h3⟩
theorem Rd.tail (r : Rd sz E m A (x :: l)) : ∀ a, A = some a → Rd sz E m (some (a.add sz)) l := by
 intro a ha i hi
 obtain ⟨a', cs, h1, h2, h3⟩ := r (i + 1) (by simpa using hi)
 rw [ha] at h1; cases h1
 refine ⟨_, cs, rfl, ?_, h3⟩
 rw [add_add, show sz + i * sz = (i + 1) * sz by rw [Nat.succ_mul, Nat.add_comm]]; exact h2
theorem Rd.cse (T : Tell sz E) : ∀ {l : List α} {a : Addr}, Rd sz E m (some a) l → ∃ cs, cellsH m a 0 (l.length * sz) = some cs ∧ CsE sz E m l cs := by
 intro l
 induction l with
 | nil => intro a r; exact ⟨[], by simp [cellsH], rfl⟩
 | cons x l ih =>
   intro a r
   obtain ⟨cs, h1, h2⟩ := ih (r.tail a rfl)
   obtain ⟨a', c1, h3, h4, h5⟩ := r 0 (by simp)
   cases h3
   rw [Nat.zero_mul, show a.add 0 = a from rfl] at h4
   refine ⟨c1 ++ cs, ?_, c1, cs, rfl, T.len _ _ _ h5, h5, h2⟩
   rw [List.length_cons, Nat.succ_mul, Nat.add_comm]
   refine cellsH_append h4 ?_
   rw [cellsH_shift] at h1
   simpa using h1
theorem CsE.rd {b : Nat} {t : TypeId} {pre rest : List Value} (hb : Blk h b (pre ++ cs ++ rest) t) (hc : CsE sz E m l cs) (hm : ∀ x cs, E m x cs → E h x cs) : Rd sz E h (some ⟨b, pre.length, none⟩) l := by
 intro i hi
 have hg := hc.get (List.getElem?_eq_getElem hi)
 refine ⟨_, _, rfl, ?_, hm _ _ hg.1⟩
 have := hb.cells (a := (⟨b, pre.length, none⟩ : Addr).add (i * sz)) (by rw [add_block]) (add_spot _ rfl) sz 0 (by rw [add_off, List.length_append, List.length_append]; simp only [Nat.add_zero]; omega)
 rw [this, add_off]
 simp only [Nat.add_zero]
 rw [List.append_assoc, ← List.drop_drop, List.drop_left, List.drop_append_of_le_length (by omega), List.take_append_of_le_length (by rw [List.length_drop]; omega)]
def OS (W : Nat → Prop) (h0 : Heap) (sz : Nat) (E : Heap → α → List Value → Prop) (h m : Heap) (A : Option Addr) (l : List α) (c : Nat) : Prop :=
 (l = [] ∧ c = 0) ∨ ∃ b t pre cs rest, A = some ⟨b, pre.length, none⟩ ∧ Blk h b (pre ++ cs ++ rest) t ∧ CsE sz E m l cs ∧ l.length ≤ c ∧ (c - l.length) * sz ≤ rest.length ∧ (h0.size ≤ b ∨ W b) ∧ ¬ Live m b
theorem OS.cap (o : OS W h0 sz E h m A l c) : l.length ≤ c := by
 rcases o with ⟨rfl, rfl⟩ | ⟨b, t, pre, cs, rest, h1, h2, h3, h4, h5, h6, h7⟩
 · exact Nat.le_refl _
 · exact h4
theorem OS.wr (o : OS W h0 sz E h m A l c) : ∀ b, fp A c b → h0.size ≤ b ∨ W b := by
 rintro b ⟨hc, a, ha, rfl⟩
 rcases o with ⟨rfl, rfl⟩ | ⟨b, t, pre, cs, rest, h1, h2, h3, h4, h5, h6, h7⟩
 · exact (hc rfl).elim
 · rw [h1] at ha; cases ha; exact h6
theorem OS.rd (o : OS W h0 sz E h m A l c) (T : Tell sz E) (s : Sub m h) : Rd sz E h A l := by
 rcases o with ⟨rfl, rfl⟩ | ⟨b, t, pre, cs, rest, h1, h2, h3, h4, h5, h6, h7⟩
 · exact .nil
 · subst h1
   exact CsE.rd h2 (h3.sub T s) (fun _ _ h => h)
def OB (W : Nat → Prop) (h0 h m : Heap) (b : Nat) (cs : List Value) (t : TypeId) : Prop := Blk h b cs t ∧ (h0.size ≤ b ∨ W b) ∧ ¬ Live m b
variable {b : Nat} {t : TypeId}
theorem OB.all (o : OB W h0 h m b cs t) : cellsH h ⟨b, 0, none⟩ 0 cs.length = some cs := by
 have := o.1.cells (a := ⟨b, 0, none⟩) rfl rfl cs.length 0 (by simp)
 simpa using this
theorem Blk.all' (o : Blk m b cs t) : cellsH m ⟨b, 0, none⟩ 0 cs.length = some cs := by
 have := o.cells (a := ⟨b, 0, none⟩) rfl rfl cs.length 0 (by simp)
 simpa using this
def VB (E : Heap → α → List Value → Prop) (m : Heap) (b : Nat) (x : α) : Prop := ∃ cs t, Blk m b cs t ∧ cs ≠ [] ∧ E m x cs
end
end Go.Hw

end
section
namespace Go.Hw
def LeO {β : Type} (a b : Option β) : Prop := ∀ r, a = some r → b = some r
theorem LeO.refl {β : Type} (a : Option β) : LeO a a := fun _ h => h
theorem LeO.bind {β γ : Type} {a b : Option β} {f g : β → Option γ} (h : LeO a b) (k : ∀ x, LeO (f x) (g x)) : LeO (a.bind f) (b.bind g) := by
 intro r hr
 cases a with
 | none => cases hr
 | some x => rw [h x rfl]; exact k x r hr
theorem LeO.ite {β : Type} {p : Prop} [Decidable p] {a b a' b' : Option β} (h : LeO a a') (k : LeO b b') : LeO (if p then a else b) (if p then a' else b') := by
 by_cases c : p
 · rw [if_pos c, if_pos c]; exact h
 · rw [if_neg c, if_neg c]; exact k
section
variable {α : Type} {β : α → Type} {F : ((x : α) → Option (β x)) → (x : α) → Option (β x)}
def MonoF (F : ((x : α) → Option (β x)) → (x : α) → Option (β x)) : Prop := ∀ f g, (∀ x, LeO (f x) (g x)) → ∀ x, LeO (F f x) (F g x)
def FixR (F : ((x : α) → Option (β x)) → (x : α) → Option (β x)) (x : α) (r : β x) : Prop :=
 ∀ I : (x : α) → β x → Prop, (∀ f, (∀ x r, f x = some r → I x r) → ∀ x r, F f x = some r → I x r) → I x r
theorem FixR.close {f : (x : α) → Option (β x)} (hf : ∀ x r, f x = some r → FixR F x r) {x : α} {r : β x} (h : F f x = some r) : FixR F x r :=
 fun I hI => hI f (fun y s hs => hf y s hs I hI) x r h
theorem FixR.uniq (M : MonoF F) {x : α} {r r' : β x} (h : FixR F x r) (h' : FixR F x r') : r = r' := by
 refine (h (fun x r => FixR F x r ∧ ∀ r', FixR F x r' → r = r') ?_).2 r' h'
 intro f hf x r hr
 refine ⟨FixR.close (fun y s hs => (hf y s hs).1) hr, fun s hs => ?_⟩
 have key := hs (fun y s => FixR F y s ∧ ∀ e : x = y, (e ▸ r) = s) ?_
 · exact key.2 rfl
 intro f' hf' y t ht
 refine ⟨FixR.close (fun z s hs => (hf' z s hs).1) ht, ?_⟩
 rintro rfl
 let g : (x : α) → Option (β x) := fun z => match f z with | some u => some u | none => f' z
 have hfg : ∀ z, LeO (f z) (g z) := fun z u hu => by simp only [g, hu]
 have hfg' : ∀ z, LeO (f' z) (g z) := by
   intro z u hu
   simp only [g]
   cases hz : f z with
   | none => exact hu
   | some w => simp only; rw [(hf z w hz).2 u (hf' z u hu).1]
 have e1 := M f g hfg _ _ hr
 have e2 := M f' g hfg' _ _ ht
 rw [e1] at e2
 exact Option.some.inj e2
open Classical in
noncomputable def fixF (F : ((x : α) → Option (β x)) → (x : α) → Option (β x)) (x : α) : Option (β x) := if h : ∃ r, FixR F x r then some (Classical.choose h) else none
theorem fixF_iff (M : MonoF F) {x : α} {r : β x} : fixF F x = some r ↔ FixR F x r := by
 unfold fixF
 constructor
 · intro h
   split at h
   · rename_i hx; cases h; exact Classical.choose_spec hx
   · cases h
 · intro h
   rw [dif_pos ⟨r, h⟩, FixR.uniq M (Classical.choose_spec (⟨r, h⟩ : ∃ r, FixR F x r)) h]
theorem fixF_eq (M : MonoF F) (x : α) : fixF F x = F (fixF F) x := by
 have h1 : ∀ r, fixF F x = some r → F (fixF F) x = some r := by
   intro r hr
   refine ((fixF_iff M).1 hr (fun x r => FixR F x r ∧ F (fixF F) x = some r) ?_).2
   intro f hf y s hs
   refine ⟨FixR.close (fun z s hs => (hf z s hs).1) hs, ?_⟩
   exact M f (fixF F) (fun z u hu => (fixF_iff M).2 (hf z u hu).1) _ _ hs
 have h2 : ∀ r, F (fixF F) x = some r → fixF F x = some r := fun r hr => (fixF_iff M).2 (FixR.close (fun y s hs => (fixF_iff M).1 hs) hr)
 cases h : fixF F x with
 | some r => exact (h1 r h).symm
 | none =>
   cases k : F (fixF F) x with
   | none => rfl
   | some r => rw [h2 r k] at h; cases h
theorem fixF_ind (M : MonoF F) {I : (x : α) → β x → Prop} (hI : ∀ f, (∀ x r, f x = some r → I x r) → ∀ x r, F f x = some r → I x r) {x : α} {r : β x} (h : fixF F x = some r) : I x r := (fixF_iff M).1 h I hI
end
end Go.Hw

end
section
namespace Go.Hw
open Go
section tests
variable {A B : Prop} {β γ : Type} {a b : Option β} {r : β}
theorem bind_e {a : Option γ} {f : γ → Option β} (e : a.bind f = some r) : ∃ x, a = some x ∧ f x = some r := by
 cases a with
 | none => cases e
 | some x => exact ⟨x, rfl, e⟩
theorem guard_e {p : Prop} [Decidable p] (e : (if p then a else none) = some r) : p ∧ a = some r := by
 by_cases h : p
 · rw [if_pos h] at e; exact ⟨h, e⟩
 · rw [if_neg h] at e; cases e
theorem split_dec_e {p : Prop} [Decidable p] (e : (if p then a else b) = some r) (hA : p → a = some r → A) (hB : ¬ p → b = some r → B) : splitB (decide p) A B := by
 by_cases h : p
 · rw [if_pos h] at e; rw [decide_eq_true h]; exact hA h e
 · rw [if_neg h] at e; rw [decide_eq_false h]; exact hB h e
theorem split_eq_e {x y : Int} (e : (if x = y then a else b) = some r) (hA : x = y → a = some r → A) (hB : x ≠ y → b = some r → B) : splitB (x == y) A B := by
 by_cases h : x = y
 · rw [if_pos h] at e; rw [show (x == y) = true from beq_iff_eq.2 h]; exact hA h e
 · rw [if_neg h] at e; rw [show (x == y) = false from beq_eq_false_iff_ne.2 h]; exact hB h e
theorem split_ne_e {x y : Int} (e : (if x = y then b else a) = some r) (hA : x ≠ y → a = some r → A) (hB : x = y → b = some r → B) : splitB (x != y) A B := by
 by_cases h : x = y
 · rw [if_pos h] at e; rw [show (x != y) = false from bne_eq_false_iff_eq.2 h]; exact hB h e
 · rw [if_neg h] at e; rw [show (x != y) = true from bne_iff_ne.2 h]; exact hA h e
theorem split_any_e {t : Bool} (e : (if t = true then a else b) = some r) (hA : t = true → a = some r → A) (hB : t = false → b = some r → B) : splitB t A B := by
 cases t
 · exact hB rfl e
 · exact hA rfl e
theorem ba_list (s t : ByteArray) : (ByteArray.toList s == ByteArray.toList t) = decide (s = t) := by
 by_cases h : s = t
 · subst h; simp
 · rw [decide_eq_false h]
   exact beq_eq_false_iff_ne.2 fun e => h (ba_toList e)
end tests
section
variable {α : Type} {l : List α} {x : Int} {y : α}
def gi (l : List α) (x : Int) : Option α := if 0 ≤ x then l[x.toNat]? else none
theorem gi_nat (l : List α) (k : Nat) : gi l (k : Int) = l[k]? := by unfold gi; rw [if_pos (by omega)]; rfl
theorem gi_le (g : gi l x = some y) : 0 ≤ x := by unfold gi at g; split at g; assumption; cases g
theorem gi_get (g : gi l x = some y) : l[x.toNat]? = some y := by unfold gi at g; split at g; exact g; cases g
theorem gi_lt (g : gi l x = some y) : x < (l.length : Int) := by
 have h1 := gi_get g
 have h2 := gi_le g
 have := (List.getElem?_eq_some_iff.1 h1).1
 omega
theorem gi_ltN (g : gi l x = some y) : x.toNat < l.length := (List.getElem?_eq_some_iff.1 (gi_get g)).1
def gb (s : ByteArray) (x : Int) : Option Int := if 0 ≤ x then s[x.toNat]?.map fun b => ((UInt8.toNat b : Nat) : Int) else none
theorem gb_e {s : ByteArray} {x y : Int} (g : gb s x = some y) : 0 ≤ x ∧ ∃ b, s[x.toNat]? = some b ∧ y = ((UInt8.toNat b : Nat) : Int) := by
 unfold gb at g
 split at g
 · rename_i h
   cases hb : s[x.toNat]? with
   | none => rw [hb] at g; cases g
   | some b => rw [hb] at g; cases g; exact ⟨h, b, rfl, rfl⟩
 · cases g
def sl (l : List α) (lo hi : Int) : List α := (l.take hi.toNat).drop lo.toNat
end
section
variable {α : Type} {sz : Nat} {E : Heap → α → List Value → Prop} {m m' h h' h0 m0 : Heap} {A : Option Addr} {l : List α} {c n k : Nat} {cs : List Value} {x : Int} {y : α} {W : Nat → Prop} {a : Addr} {v : Value} {b : Nat} {t : TypeId}
theorem Rd.addr {K : Addr → Prop} (r : Rd sz E m A l) (hn : n = l.length) (g : gi l x = some y) (hk : ∀ a cs, A = some a → cellsH m (a.add (Int.toNat x * sz)) 0 sz = some cs → E m y cs → K a) : ptrOk A fun a => 0 ≤ x ∧ x < ((n : Nat) : Int) ∧ K a := by
 subst hn
 have h1 := gi_get g
 obtain ⟨hi, h2⟩ := List.getElem?_eq_some_iff.1 h1
 obtain ⟨a, cs, rfl, h3, h4⟩ := r _ hi
 rw [h2] at h4
 exact ⟨gi_le g, gi_lt g, hk a cs rfl h3 h4⟩
theorem OS.cellsAt (o : OS W h0 sz E h m A l c) (g : gi l x = some y) : ∃ a cs, A = some a ∧ cellsH h (a.add (Int.toNat x * sz)) 0 sz = some cs ∧ E m y cs := by
 have h1 := gi_get g
 rcases o with ⟨rfl, rfl⟩ | ⟨b, t, pre, cs, rest, rfl, h3, h4, h5, h6, h7⟩
 · cases h1
 have h8 := h4.get h1
 refine ⟨_, _, rfl, ?_, h8.1⟩
 have := h3.cells (a := (⟨b, pre.length, none⟩ : Addr).add (x.toNat * sz)) (by rw [add_block]) (add_spot _ rfl) sz 0 (by rw [add_off, List.length_append, List.length_append]; simp only [Nat.add_zero]; omega)
 rw [this, add_off]
 simp only [Nat.add_zero]
 rw [List.append_assoc, ← List.drop_drop, List.drop_left, List.drop_append_of_le_length (by omega), List.take_append_of_le_length (by rw [List.length_drop]; omega)]
theorem OS.addr {K : Addr → Prop} (o : OS W h0 sz E h m A l c) (hn : n = l.length) (g : gi l x = some y) (hk : ∀ a cs, A = some a → cellsH h (a.add (Int.toNat x * sz)) 0 sz = some cs → E m y cs → K a) : ptrOk A fun a => 0 ≤ x ∧ x < ((n : Nat) : Int) ∧ K a := by
 subst hn
 obtain ⟨a, cs, rfl, h1, h2⟩ := o.cellsAt g
 exact ⟨gi_le g, gi_lt g, hk a cs rfl h1 h2⟩
theorem ld0 (s : Sub m h) (hc : cellsH m a 0 n = some cs) (hv : cs[0]? = some v) : ldv false 1 h a = some v := by
 have h1 : cellH h (a.add 0) = some v := cellsH_get (s.cells _ _ hc) hv
 exact h1
theorem ldk (s : Sub m h) (hc : cellsH m a 0 n = some cs) (hv : cs[k]? = some v) : ldv false 1 h (Addr.add a k) = some v := by
 have := cellsH_get (s.cells _ _ hc) hv
 simpa [ldv] using this
theorem ldA (s : Sub m h) (hc : cellsH m a 0 n = some cs) : ldv true n h a = some (.agg cs.toArray) := by
 simp only [ldv, s.cells _ _ hc, Option.map_some]
theorem OB.st (o : OB W h0 h m b cs t) (s : Sub m h) (hk : k < cs.length) (hf : Flat v) : ∃ h', st1 h (Addr.add ⟨b, 0, none⟩ k) v = some h' ∧ OB W h0 h' m b (cs.set k v) t ∧ St (fb b) h m h' m := by
 obtain ⟨h', h1, h2, h3⟩ := o.1.st (a := Addr.add ⟨b, 0, none⟩ k) (v := v) (add_block _ _) (add_spot _ rfl) (by rw [add_off]; simpa using hk) hf
 rw [add_off, Nat.zero_add] at h2
 exact ⟨h', h1, ⟨h2, o.2⟩, .only s o.2.2 h3⟩
theorem OB.stA (o : OB W h0 h m b cs t) (s : Sub m h) (l : List Value) (hn : l.length = cs.length) (hf : ∀ v ∈ l, Flat v) : ∃ h', stH h ⟨b, 0, none⟩ l 0 = some h' ∧ OB W h0 h' m b l t ∧ St (fb b) h m h' m := by
 obtain ⟨h', h1, h2, h3⟩ := o.1.stAll l hn hf
 exact ⟨h', h1, ⟨h2, o.2⟩, .only s o.2.2 h3⟩
theorem OS.stP (o : OS W h0 sz E h m A l c) (T : Tell sz E) (s : Sub m h) (g : gi l x = some y) (ha : A = some a) (hc : cellsH h (Addr.add a (Int.toNat x * sz)) 0 sz = some cs) {ds : List Value} {y' : α} (k : Nat) (hk : k + ds.length ≤ sz) (hy : E m y' (cs.take k ++ ds ++ cs.drop (k + ds.length))) (hf : ∀ v ∈ ds, Flat v) :
   ∃ h', stH h (Addr.add (Addr.add a (Int.toNat x * sz)) k) ds 0 = some h' ∧ OS W h0 sz E h' m A (l.set (Int.toNat x) y') c ∧ St (fp A c) h m h' m := by
 have h1 := gi_get g
 have hlt := gi_ltN g
 rcases o with ⟨rfl, rfl⟩ | ⟨b, t, pre, es, rest, rfl, h3, h4, h5, h6, h7, h8⟩
 · cases h1
 cases ha
 have h9 := h4.get h1
 have hcs : cs = (es.drop (x.toNat * sz)).take sz := by
   have := h3.cells (a := (⟨b, pre.length, none⟩ : Addr).add (x.toNat * sz)) (by rw [add_block]) (add_spot _ rfl) sz 0 (by rw [add_off, List.length_append, List.length_append]; simp only [Nat.add_zero]; omega)
   rw [hc, add_off] at this
   simp only [Nat.add_zero, Option.some.injEq] at this
   rw [this, List.append_assoc, ← List.drop_drop, List.drop_left, List.drop_append_of_le_length (by omega), List.take_append_of_le_length (by rw [List.length_drop]; omega)]
 have hlen : cs.length = sz := cellsH_length hc
 have hes : es = es.take (x.toNat * sz) ++ cs ++ es.drop (x.toNat * sz + sz) := by
   rw [hcs, List.append_assoc, ← List.drop_drop, List.take_append_drop, List.take_append_drop]
 have hcs2 : cs = cs.take k ++ (cs.drop k).take ds.length ++ cs.drop (k + ds.length) := by
   rw [List.append_assoc, ← List.drop_drop, List.take_append_drop, List.take_append_drop]
 have hb : Blk h b ((pre ++ es.take (x.toNat * sz) ++ cs.take k) ++ (cs.drop k).take ds.length ++ (cs.drop (k + ds.length) ++ (es.drop (x.toNat * sz + sz) ++ rest))) t := by
   have : (pre ++ es.take (x.toNat * sz) ++ cs.take k) ++ (cs.drop k).take ds.length ++ (cs.drop (k + ds.length) ++ (es.drop (x.toNat * sz + sz) ++ rest)) = pre ++ es ++ rest := by
     conv => rhs; rw [hes]; rw [hcs2]
     simp only [List.append_assoc]
   rw [this]; exact h3
 obtain ⟨h', s1, b1, o1⟩ := Blk.stH ds (a := Addr.add (Addr.add ⟨b, pre.length, none⟩ (x.toNat * sz)) k) (i := 0) hb (by rw [add_block, add_block]) (add_spot _ (add_spot _ rfl))
   (by rw [add_off, add_off, List.length_append, List.length_append, List.length_take, List.length_take]; simp only [Nat.add_zero]; omega) (by rw [List.length_take, List.length_drop]; omega) hf
 refine ⟨h', s1, .inr ⟨b, t, pre, es.take (x.toNat * sz) ++ (cs.take k ++ ds ++ cs.drop (k + ds.length)) ++ es.drop (x.toNat * sz + sz), rest, rfl, ?_, ?_, ?_, ?_, h7, h8⟩, ?_⟩
 · have : pre ++ (es.take (x.toNat * sz) ++ (cs.take k ++ ds ++ cs.drop (k + ds.length)) ++ es.drop (x.toNat * sz + sz)) ++ rest = (pre ++ es.take (x.toNat * sz) ++ cs.take k) ++ ds ++ (cs.drop (k + ds.length) ++ (es.drop (x.toNat * sz + sz) ++ rest)) := by simp only [List.append_assoc]
   rw [this]; exact b1
 · exact h4.set hy (T.len _ _ _ hy) hlt
 · rwa [List.length_set]
 · rwa [List.length_set]
 · refine ⟨.refl _, fun i o1' k1 k2 => ?_, by rw [o1.1]; exact Nat.le_refl _, fun i hi hw => ?_, fun i _ hl => .inl hl⟩
   · rw [o1.2 i (fun e => h8 (e ▸ ⟨o1', k1, k2⟩))]; exact s i o1' k1 k2
   · refine o1.2 i fun e => hw ⟨?_, _, rfl, e.symm⟩
     omega
theorem OS.st1k (o : OS W h0 sz E h m A l c) (T : Tell sz E) (s : Sub m h) (g : gi l x = some y) (ha : A = some a) (hc : cellsH h (Addr.add a (Int.toNat x * sz)) 0 sz = some cs) {y' : α} (k : Nat) (hk : k < sz) (hy : E m y' (cs.set k v)) (hf : Flat v) :
   ∃ h', st1 h (Addr.add (Addr.add a (Int.toNat x * sz)) k) v = some h' ∧ OS W h0 sz E h' m A (l.set (Int.toNat x) y') c ∧ St (fp A c) h m h' m := by
 have hlen : cs.length = sz := cellsH_length hc
 obtain ⟨h', h1, h2, h3⟩ := o.stP T s g ha hc (ds := [v]) (y' := y') k hk (by rw [List.append_assoc, List.singleton_append]; rw [List.set_eq_take_append_cons_drop, if_pos (by omega)] at hy; exact hy) (Flats.cons hf Flats.nil)
 refine ⟨h', ?_, h2, h3⟩
 simp only [stH] at h1
 split at h1
 · rename_i h4 h5
   cases h1; exact h5
 · cases h1
theorem OS.stA (o : OS W h0 sz E h m A l c) (T : Tell sz E) (s : Sub m h) (g : gi l x = some y) (ha : A = some a) (hc : cellsH h (Addr.add a (Int.toNat x * sz)) 0 sz = some cs) {ds : List Value} {y' : α} (hy : E m y' ds) (hf : ∀ v ∈ ds, Flat v) :
   ∃ h', stH h (Addr.add a (Int.toNat x * sz)) ds 0 = some h' ∧ OS W h0 sz E h' m A (l.set (Int.toNat x) y') c ∧ St (fp A c) h m h' m := by
 have hlen : cs.length = sz := cellsH_length hc
 have hd := T.len _ _ _ hy
 refine o.stP T s g ha hc (ds := ds) (y' := y') 0 (by omega) ?_ hf
 rw [List.take_zero, List.nil_append, List.drop_eq_nil_of_le (by omega), List.append_nil]; exact hy
theorem zc_len {z : Array Value} {n : Nat} : (zcells z n).toList.length = n * z.size := by rw [Array.length_toList, zcells_size]
def Src (sz : Nat) (E : Heap → α → List Value → Prop) (h m : Heap) (x : Value) (xs : List α) : Prop := ∃ es, srcCells sz x h = some (xs.length, es) ∧ CsE sz E m xs es
theorem Rd.srcE (r : Rd sz E m A l) (T : Tell sz E) (s : Sub m h) (hn : n = l.length) : Src sz E h m (.slice A n c) l := by
 subst hn
 cases A with
 | none =>
   have : l = [] := by
     cases l with
     | nil => rfl
     | cons x l => obtain ⟨a, _, h1, _⟩ := r 0 (by simp); cases h1
   subst this
   exact ⟨[], rfl, rfl⟩
 | some a =>
   obtain ⟨es, h1, h2⟩ := Rd.cse T r
   exact ⟨es, by simp only [srcCells, s.cells _ _ h1, Option.map_some], h2⟩
theorem OS.srcE {c' : Nat} (o : OS W h0 sz E h m A l c) (hn : n = l.length) : Src sz E h m (.slice A n c') l := by
 subst hn
 rcases o with ⟨rfl, rfl⟩ | ⟨b, t, pre, cs, rest, rfl, k1, k2, k3, k4, k5⟩
 · refine ⟨[], ?_, rfl⟩
   cases A with
   | none => rfl
   | some a => simp [srcCells, cellsH]
 · refine ⟨cs, ?_, k2⟩
   have hl := k2.len
   have := k1.cells (a := ⟨b, pre.length, none⟩) rfl rfl (l.length * sz) 0 (by simp [hl])
   simp only [srcCells, this, Nat.add_zero]
   rw [List.append_assoc, List.drop_left, List.take_append_of_le_length (by omega), List.take_of_length_le (by omega)]; rfl
def ap (B : Nat) (l xs : List α) : Option (List α) := if (l.length + xs.length) * B ≤ 140737488355328 then some (l ++ xs) else none
theorem ap_e {B : Nat} {l xs l' : List α} (g : ap B l xs = some l') : (l.length + xs.length) * B ≤ 140737488355328 ∧ l ++ xs = l' := by
 unfold ap at g
 obtain ⟨h, k⟩ := guard_e g
 exact ⟨h, Option.some.inj k⟩
theorem OS.newNo {h' : Heap} (o : OS No h sz E h' m' A l c) : ∀ b, fp A c b → h.size ≤ b := fun b hb => (o.wr b hb).elim id (fun h => h.elim)
theorem nn {x : Value} {l : List Value} : x :: l ≠ [] := fun h => by cases h
end
end Go.Hw

end
section
namespace Go.Hw
open Go
section
variable {α : Type} {sz : Nat} {E : Heap → α → List Value → Prop} {m m' h h' h0 m0 : Heap} {A : Option Addr} {l : List α} {c n k : Nat} {x : Int} {W : Nat → Prop}
theorem Rd.void (r : Rd sz E m none l) : l = [] := by
 cases l with
 | nil => rfl
 | cons x l => obtain ⟨a, _, h1, _⟩ := r 0 (by simp); cases h1
theorem gen_b2s' {P : Program} {src dst e : TypeId} {bs : List Int} {K : Value → Heap → Prop} (hsrc : P.underlying src = some (.slice e)) (hdst : P.underlying dst = some .string) (he : P.underlying e = some (.int .u8)) (hr : Rd 1 (eInt .u8) h A bs) (hn : n = bs.length)
   (hk : K (.string (bytesOf bs)) h) : Gen P (convert src dst (.slice A n c)) h K := by
 subst hn; exact gen_b2s hsrc hdst he hr hk
end
section
variable {α : Type} {sz : Nat} {E : Heap → α → List Value → Prop} {m m' mL h h' h0 m0 : Heap} {A : Option Addr} {l : List α} {c b : Nat} {cs : List Value} {t : TypeId} {W W' : Nat → Prop}
theorem St.unlend (T : St W' h mL h' m') (s : Sub m h) (hd : ∀ b, W' b → ¬ Live m b) : St W' h m h' m where
 up := .refl _
 s b o h1 h2 := by
   rw [T.fr b (s.lt ⟨o, h1, h2⟩) (fun hw => hd b hw ⟨o, h1, h2⟩)]; exact s b o h1 h2
 size := T.size
 fr := T.fr
 lv b _ hl := .inl hl
theorem elim_none_e {β γ : Type} {o : Option γ} {A : Option β} {B : γ → Option β} {r : β} (e : Option.elim o A B = some r) (q : o = none) : A = some r := by subst q; exact e
theorem elim_some_e {β γ : Type} {o : Option γ} {A : Option β} {B : γ → Option β} {r : β} {z : γ} (e : Option.elim o A B = some r) (q : o = some z) : B z = some r := by subst q; exact e
end
section
variable {κ ν : Type} [DecidableEq κ] {h h' m m' h0 m0 : Heap} {b : Nat} {W W' : Nat → Prop} {kv : κ → Value} {es : List (κ × ν)} {vs : List (κ × Value)} {k : κ} {x zv : ν} {v z : Value} {P : Program} {t elem : TypeId} {sz : Nat}
def pget (es : List (κ × ν)) (k : κ) : Option ν := (es.find? fun x => decide (k = x.1)).map (·.2)
def pgd (es : List (κ × ν)) (k : κ) (z : ν) : ν := (pget es k).getD z
def pset : List (κ × ν) → κ → ν → List (κ × ν)
 | [], k, v => [(k, v)]
 | x :: es, k, v => if k = x.1 then (k, v) :: es else x :: pset es k v
theorem pget_nil (k : κ) : pget ([] : List (κ × ν)) k = none := rfl
theorem pget_cons (p : κ × ν) (es : List (κ × ν)) (k : κ) : pget (p :: es) k = if k = p.1 then some p.2 else pget es k := by
 unfold pget
 by_cases h : k = p.1
 · rw [if_pos h, List.find?_cons_of_pos (by simpa using h)]; rfl
 · rw [if_neg h, List.find?_cons_of_neg (by simpa using h)]
theorem pget_pset (es : List (κ × ν)) (k q : κ) (v : ν) : pget (pset es k v) q = if q = k then some v else pget es q := by
 induction es with
 | nil => unfold pset; rw [pget_cons, pget_nil]
 | cons x es ih =>
   unfold pset
   by_cases hk : k = x.1
   · rw [if_pos hk, pget_cons, pget_cons]
     by_cases h : q = k
     · rw [if_pos h, if_pos h]
     · rw [if_neg h, if_neg h, if_neg (by rw [← hk]; exact h)]
   · rw [if_neg hk, pget_cons, pget_cons, ih]
     by_cases h : q = x.1
     · rw [if_pos h, if_pos h, if_neg (fun hh => hk (by rw [← hh, h]))]
     · rw [if_neg h, if_neg h]
theorem mget_cons (p : κ × Value) (es : List (κ × Value)) (k : κ) : mget (p :: es) k = if k = p.1 then some p.2 else mget es k := pget_cons p es k
def eV1 (E : Heap → ν → List Value → Prop) (m : Heap) (x : ν) (v : Value) : Prop := ∃ cs : List Value, v = .agg cs.toArray ∧ E m x cs
def MonoV (EV : Heap → ν → Value → Prop) : Prop := ∀ m h x v, Sub m h → EV m x v → EV h x v
omit [DecidableEq κ] in
theorem monoV1 {E : Heap → ν → List Value → Prop} (T : Tell sz E) : MonoV (eV1 E) := fun _ _ _ _ s ⟨cs, h1, h2⟩ => ⟨cs, h1, T.mono _ _ _ _ s h2⟩
def MR (EV : ν → Value → Prop) : List (κ × ν) → List (κ × Value) → Prop
 | [], vs => vs = []
 | p :: es, vs => ∃ v vs', vs = (p.1, v) :: vs' ∧ EV p.2 v ∧ MR EV es vs'
variable {EV : Heap → ν → Value → Prop}
omit [DecidableEq κ] in
theorem MR.sub (M : MonoV EV) (s : Sub m h) : ∀ {es : List (κ × ν)} {vs : List (κ × Value)}, MR (EV m) es vs → MR (EV h) es vs := by
 intro es
 induction es with
 | nil => intro vs hh; exact hh
 | cons p es ih => rintro vs ⟨v, vs', rfl, h1, h2⟩; exact ⟨v, vs', rfl, M _ _ _ _ s h1, ih h2⟩
omit [DecidableEq κ] in
theorem MR.len {EV : ν → Value → Prop} : ∀ {es : List (κ × ν)} {vs : List (κ × Value)}, MR EV es vs → vs.length = es.length := by
 intro es
 induction es with
 | nil => intro vs hh; rw [show vs = [] from hh]; rfl
 | cons p es ih => rintro vs ⟨v, vs', rfl, h1, h2⟩; simp [ih h2]
theorem MR.get {EV : ν → Value → Prop} (k : κ) : ∀ {es : List (κ × ν)} {vs : List (κ × Value)}, MR EV es vs → (mget vs k).isSome = (pget es k).isSome ∧ ∀ zv z, EV zv z → EV (pgd es k zv) ((mget vs k).getD z) := by
 intro es
 induction es with
 | nil => intro vs hh; rw [show vs = [] from hh]; exact ⟨rfl, fun _ _ h => h⟩
 | cons p es ih =>
   rintro vs ⟨v, vs', rfl, h1, h2⟩
   unfold pgd
   rw [mget_cons, pget_cons]
   by_cases hk : k = p.1
   · rw [if_pos hk, if_pos hk]; exact ⟨rfl, fun _ _ _ => h1⟩
   · rw [if_neg hk, if_neg hk]; exact ih h2
theorem MR.set {EV : ν → Value → Prop} (k : κ) (hx : EV x v) : ∀ {es : List (κ × ν)} {vs : List (κ × Value)}, MR EV es vs → MR EV (pset es k x) (mset vs k v) := by
 intro es
 induction es with
 | nil => intro vs hh; rw [show vs = [] from hh]; exact ⟨v, [], rfl, hx, rfl⟩
 | cons p es ih =>
   rintro vs ⟨w, vs', rfl, h1, h2⟩
   unfold pset mset
   by_cases hk : k = p.1
   · rw [if_pos hk, if_pos hk]; exact ⟨v, vs', rfl, hx, h2⟩
   · rw [if_neg hk, if_neg hk]; exact ⟨w, _, rfl, h1, ih h2⟩
def OM (W : Nat → Prop) (h0 : Heap) (EV : Heap → ν → Value → Prop) (kv : κ → Value) (h m : Heap) (b : Nat) (es : List (κ × ν)) : Prop :=
 ∃ vs, MapB kv h b vs ∧ MR (EV m) es vs ∧ (h0.size ≤ b ∨ W b) ∧ ¬ Live m b
theorem OM.look {K : Value → Heap → Prop} (o : OM W h0 EV kv h m b es) (ok : KeyOk P t kv elem) (k : κ) (hz : zeroOf P elem = some z) (hE : EV m zv z) (hk : ∀ v, EV m (pgd es k zv) v → K v h) : Gen P (Instr.lookup t (.map (some b)) (kv k) false) h K := by
 obtain ⟨vs, h1, h2, _⟩ := o
 exact gen_lookup ok h1 k hz (hk _ ((h2.get k).2 _ _ hE))
theorem OM.look2 {K : Value → Heap → Prop} (o : OM W h0 EV kv h m b es) (ok : KeyOk P t kv elem) (k : κ) (hz : zeroOf P elem = some z) (hE : EV m zv z) (hk : ∀ v, EV m (pgd es k zv) v → K (.tuple #[v, .bool (pget es k).isSome]) h) : Gen P (Instr.lookup t (.map (some b)) (kv k) true) h K := by
 obtain ⟨vs, h1, h2, _⟩ := o
 refine gen_lookup2 ok h1 k hz ?_
 rw [(h2.get k).1]
 exact hk _ ((h2.get k).2 _ _ hE)
theorem OM.upd {K : Unit → Heap → Prop} (o : OM W h0 EV kv h m b es) (s : Sub m h) (ok : KeyOk P t kv elem) (k : κ) (he : EV m x v) (hk : ∀ h', OM W h0 EV kv h' m b (pset es k x) → St (fb b) h m h' m → K () h') : Hwp P (Instr.mapUpdate t (.map (some b)) (kv k) v) h K := by
 obtain ⟨vs, h1, h2, h3, h4⟩ := o
 exact gen_mapUpdate ok h1 k v fun h' b' o' => hk h' ⟨_, b', h2.set k he, h3, h4⟩ (.only s h4 o')
omit [DecidableEq κ] in
theorem OM.len {K : Value → Heap → Prop} {ats : Array TypeId} {ty key : TypeId} (o : OM W h0 EV kv h m b es) (h1 : ats[0]? = some t) (hu : P.underlying t = some (.map key elem)) (hk : K (.int .i64 (es.length : Nat)) h) : Gen P (Builtin.len_ ats ty #[.map (some b)]) h K := by
 obtain ⟨vs, ⟨e, c, k1, k2⟩, h2, _⟩ := o
 have hl : e.size = es.length := by
   have := congrArg List.length k2.1
   simp only [List.length_map, Array.length_toList] at this
   rw [this, h2.len]
 unfold Gen Builtin.len_
 simp only [h1]
 refine hwp_bind (hwp_underlying hu ?_)
 refine hwp_bind (hwp_getObj k1 (fun _ _ _ h => by cases h) ?_)
 refine hwp_pure (P := P) ?_
 rw [hl]; exact hk
end
section
variable {H : Type} {enc : TypeId × Value → H} {P : Program} {W : World}
theorem tells_i64 {t : TypeId} (hu : P.underlying t = some (.int .i64)) : Tells enc P W t (eInt .i64) (fun x => -9223372036854775808 ≤ x ∧ x ≤ 9223372036854775807) := tells_map (tells_int hu) fun a _ h q => ⟨a, h, wf_i64 q⟩
theorem tells_strL {t : TypeId} (hu : P.underlying t = some .string) : Tells enc P W t eStr (fun s => s.size ≤ 140737488351232) := tells_map (tells_str hu) fun a _ h q => ⟨a, h, q⟩
theorem tells_sliceL {α : Type} {t e : TypeId} {sz B : Nat} {E : Heap → α → List Value → Prop} {Q : α → Prop} (hu : P.underlying t = some (.slice e)) (hc : P.cellsOf e = sz) (hB : P.bytesOf e = B) (he : Tells enc P W e E Q) :
   Tells enc P W t (eRow sz E) (fun l => l.length * B ≤ 140737488351232 ∧ ∀ a ∈ l, Q a) := tells_map (tells_slice hu hc hB he) fun a _ h q => ⟨a, h, q⟩
end
end Go.Hw

end
