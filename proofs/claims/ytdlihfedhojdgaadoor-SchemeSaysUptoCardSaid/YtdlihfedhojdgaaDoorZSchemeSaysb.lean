/- Part 2: what the law SchemeSays needs, put together out of texts of this session. -/
import Derived.ProofKit
import Derived.OpenShut
import Derived.ShutString
import Derived.ChangeOld
import Derived.Below
import Derived.SizedLaws
import Derived.ChangeArms
import Derived.Laws.StructEq
import Derived.Test.YtdlihfedhojdgaaDoorZSchemeSaysa
section
namespace Go.Proofs.YtdlihfedhojdgaaDoor.Fw
open Go Go.Hw Go.Proofs
set_option linter.unusedVariables false
def f33.T : Tab := { sh := tSh, tup := tTup, keep := [], plan := [] }
def f33.kp : Keep := [([false, false, true, false, true], [0, 1, 7, 8])]
theorem f33.good : goodCode Tryd.prog f33.T (rootOf Tryd.f33) = true := by kernel_rfl
def f33.l0 (R : Value → Heap → Prop) (A0 : Option Addr) (n0 : Nat) (c0 : Nat) (s1 : ByteArray) (x7 : Int) (x8 : Int) (h : Heap) : Prop := Pt Tryd.prog Tryd.f33 R [false, false, true, false, true] (mkFr [(0, (Value.slice A0 n0 c0)), (1, (Value.string s1)), (7, (Value.int .i64 x7)), (8, (Value.int .i64 x8))]) h
set_option maxRecDepth 100000 in
def f33.l0T (R : Value → Heap → Prop) (A0 : Option Addr) (n0 : Nat) (c0 : Nat) (s1 : ByteArray) (x7 : Int) (x8 : Int) (h : Heap) : Prop :=
  splitB (decide (x8 < x7)) (ptrOk A0 fun a1_ => 0 ≤ x8 ∧ x8 < ((n0 : Nat) : Int) ∧ (∃ v2_, ldv false 1 h (Addr.add a1_ (Int.toNat x8 * 1)) = some v2_ ∧ ∃ s3_, v2_ = (Value.string s3_) ∧ splitB (ByteArray.toList s1 == ByteArray.toList s3_) (R (Value.int .i64 x8) h) (f33.l0 R A0 n0 c0 s1 x7 (IntKind.wrap .i64 (x8 + (1 : Int))) h))) (R (Value.int .i64 (-1 : Int)) h)
set_option maxRecDepth 100000 in
theorem f33.l0_in {R : Value → Heap → Prop} {A0 : Option Addr} {n0 : Nat} {c0 : Nat} {s1 : ByteArray} {x7 : Int} {x8 : Int} {h : Heap} (H : f33.l0T R A0 n0 c0 s1 x7 x8 h) : f33.l0 R A0 n0 c0 s1 x7 x8 h :=
  pt_intro mixed f33.good (Eq.mpr (show (Fwd Tryd.prog f33.T f33.kp Tryd.f33 R [false, false, true, false, true] (mkFr [(0, (Value.slice A0 n0 c0)), (1, (Value.string s1)), (7, (Value.int .i64 x7)), (8, (Value.int .i64 x8))]) h) = (f33.l0T R A0 n0 c0 s1 x7 x8 h) by kernel_rfl) H)
set_option maxRecDepth 100000 in
def f33.runT (R : Value → Heap → Prop) (A0 : Option Addr) (n0 : Nat) (c0 : Nat) (s1 : ByteArray) (h : Heap) : Prop :=
  f33.l0 R A0 n0 c0 s1 ((n0 : Nat) : Int) (0 : Int) h
set_option maxRecDepth 100000 in
theorem f33.run {R : Value → Heap → Prop} {A0 : Option Addr} {n0 : Nat} {c0 : Nat} {s1 : ByteArray} {h : Heap} (H : f33.runT R A0 n0 c0 s1 h) : Run Tryd.prog 33 #[(Value.slice A0 n0 c0), (Value.string s1)] h R :=
  run_of mixed Tryd.func33 (by kernel_rfl) (by kernel_rfl) f33.good (Eq.mpr (show (Fwd Tryd.prog f33.T f33.kp Tryd.f33 R [] (mkFr (argL [(Value.slice A0 n0 c0), (Value.string s1)] 0)) h) = (f33.runT R A0 n0 c0 s1 h) by kernel_rfl) H)
def f6.T : Tab := { sh := tSh, tup := tTup, keep := [], plan := [] }
def f6.kp : Keep := []
theorem f6.good : goodCode Tryd.prog f6.T (rootOf Tryd.f6) = true := by kernel_rfl
set_option maxRecDepth 100000 in
def f6.runT (R : Value → Heap → Prop) (A0 : Option Addr) (n0 : Nat) (c0 : Nat) (s1 : ByteArray) (h : Heap) : Prop :=
  Run Tryd.prog 33 #[(Value.slice A0 n0 c0), (Value.string s1)] h fun v1_ h2_ => ∃ x3_, v1_ = (Value.int .i64 x3_) ∧ R (Value.bool (decide (x3_ ≥ (0 : Int)))) h2_
set_option maxRecDepth 100000 in
theorem f6.run {R : Value → Heap → Prop} {A0 : Option Addr} {n0 : Nat} {c0 : Nat} {s1 : ByteArray} {h : Heap} (H : f6.runT R A0 n0 c0 s1 h) : Run Tryd.prog 6 #[(Value.slice A0 n0 c0), (Value.string s1)] h R :=
  run_of mixed Tryd.func6 (by kernel_rfl) (by kernel_rfl) f6.good (Eq.mpr (show (Fwd Tryd.prog f6.T f6.kp Tryd.f6 R [] (mkFr (argL [(Value.slice A0 n0 c0), (Value.string s1)] 0)) h) = (f6.runT R A0 n0 c0 s1 h) by kernel_rfl) H)
def f48.T : Tab := { sh := tSh, tup := tTup, keep := [], plan := [] }
def f48.kp : Keep := [([true, true], [0, 1])]
theorem f48.good : goodCode Tryd.prog f48.T (rootOf Tryd.f48) = true := by kernel_rfl
def f48.j0 (R : Value → Heap → Prop) (A0 : Option Addr) (n0 : Nat) (c0 : Nat) (x1 : Int) (h : Heap) : Prop := Pt Tryd.prog Tryd.f48 R [true, true] (mkFr [(0, (Value.slice A0 n0 c0)), (1, (Value.int .i64 x1))]) h
set_option maxRecDepth 100000 in
def f48.j0T (R : Value → Heap → Prop) (A0 : Option Addr) (n0 : Nat) (c0 : Nat) (x1 : Int) (h : Heap) : Prop :=
  splitB (decide ((IntKind.wrap .i64 (x1 - (IntKind.wrap .i64 (((c0 : Nat) : Int) - ((n0 : Nat) : Int))))) > (0 : Int))) (0 ≤ (0 : Int) ∧ (0 : Int) ≤ ((c0 : Nat) : Int) ∧ ((c0 : Nat) : Int) ≤ ((c0 : Nat) : Int) ∧ (AppZ 25 3 48 #[(Value.int .i64 (0 : Int)), (Value.string (ByteArray.mk #[])), (Value.slice none 0 0)] (sliceA A0 (Int.toNat (0 : Int)) c0 3) (Int.toNat ((c0 : Nat) : Int) - Int.toNat (0 : Int)) (c0 - Int.toNat (0 : Int)) (Value.int .i64 (IntKind.wrap .i64 (x1 - (IntKind.wrap .i64 (((c0 : Nat) : Int) - ((n0 : Nat) : Int)))))) h fun v1_ h2_ => ∃ A3_, ∃ n3_, ∃ c3_, v1_ = (Value.slice A3_ n3_ c3_) ∧ 0 ≤ (0 : Int) ∧ (0 : Int) ≤ ((n0 : Nat) : Int) ∧ ((n0 : Nat) : Int) ≤ ((c3_ : Nat) : Int) ∧ (R (Value.slice (sliceA A3_ (Int.toNat (0 : Int)) c3_ 3) (Int.toNat ((n0 : Nat) : Int) - Int.toNat (0 : Int)) (c3_ - Int.toNat (0 : Int))) h2_))) (R (Value.slice A0 n0 c0) h)
set_option maxRecDepth 100000 in
theorem f48.j0_in {R : Value → Heap → Prop} {A0 : Option Addr} {n0 : Nat} {c0 : Nat} {x1 : Int} {h : Heap} (H : f48.j0T R A0 n0 c0 x1 h) : f48.j0 R A0 n0 c0 x1 h :=
  pt_intro mixed f48.good (Eq.mpr (show (Fwd Tryd.prog f48.T f48.kp Tryd.f48 R [true, true] (mkFr [(0, (Value.slice A0 n0 c0)), (1, (Value.int .i64 x1))]) h) = (f48.j0T R A0 n0 c0 x1 h) by kernel_rfl) H)
set_option maxRecDepth 100000 in
def f48.runT (R : Value → Heap → Prop) (A0 : Option Addr) (n0 : Nat) (c0 : Nat) (x1 : Int) (h : Heap) : Prop :=
  splitB (decide (x1 < (0 : Int))) (Gen Tryd.prog (Instr.makeInterface 9 (Value.string (ByteArray.mk #[99, 97, 110, 110, 111, 116, 32, 98, 101, 32, 110, 101, 103, 97, 116, 105, 118, 101]))) h fun v1_ h2_ => False) (f48.j0 R A0 n0 c0 x1 h)
set_option maxRecDepth 100000 in
theorem f48.run {R : Value → Heap → Prop} {A0 : Option Addr} {n0 : Nat} {c0 : Nat} {x1 : Int} {h : Heap} (H : f48.runT R A0 n0 c0 x1 h) : Run Tryd.prog 48 #[(Value.slice A0 n0 c0), (Value.int .i64 x1)] h R :=
  run_of mixed Tryd.func48 (by kernel_rfl) (by kernel_rfl) f48.good (Eq.mpr (show (Fwd Tryd.prog f48.T f48.kp Tryd.f48 R [] (mkFr (argL [(Value.slice A0 n0 c0), (Value.int .i64 x1)] 0)) h) = (f48.runT R A0 n0 c0 x1 h) by kernel_rfl) H)
def f31.T : Tab := { sh := tSh, tup := tTup, keep := [], plan := [] }
def f31.kp : Keep := [([false, false, true, false, true, true], [0, 3, 9, 10, 11]), ([false, false, true, false, true, true, true, true], [6, 25, 26, 27])]
theorem f31.good : goodCode Tryd.prog f31.T (rootOf Tryd.f31) = true := by kernel_rfl
def f31.l0 (R : Value → Heap → Prop) (A0 : Option Addr) (n0 : Nat) (c0 : Nat) (x3 : Int) (A9 : Option Addr) (n9 : Nat) (c9 : Nat) (x10 : Int) (x11 : Int) (h : Heap) : Prop := Pt Tryd.prog Tryd.f31 R [false, false, true, false, true, true] (mkFr [(0, (Value.slice A0 n0 c0)), (3, (Value.int .i64 x3)), (9, (Value.slice A9 n9 c9)), (10, (Value.int .i64 x10)), (11, (Value.int .i64 x11))]) h
def f31.l1 (R : Value → Heap → Prop) (A6 : Option Addr) (n6 : Nat) (c6 : Nat) (A25 : Option Addr) (n25 : Nat) (c25 : Nat) (x26 : Int) (x27 : Int) (h : Heap) : Prop := Pt Tryd.prog Tryd.f31 R [false, false, true, false, true, true, true, true] (mkFr [(6, (Value.slice A6 n6 c6)), (25, (Value.slice A25 n25 c25)), (26, (Value.int .i64 x26)), (27, (Value.int .i64 x27))]) h
set_option maxRecDepth 100000 in
def f31.l0T (R : Value → Heap → Prop) (A0 : Option Addr) (n0 : Nat) (c0 : Nat) (x3 : Int) (A9 : Option Addr) (n9 : Nat) (c9 : Nat) (x10 : Int) (x11 : Int) (h : Heap) : Prop :=
  splitB (decide (x11 < x10)) (ptrOk A9 fun a1_ => 0 ≤ x11 ∧ x11 < ((n9 : Nat) : Int) ∧ (∃ v2_, ldv false 1 h (Addr.add a1_ (Int.toNat x11 * 1)) = some v2_ ∧ ∃ A3_, ∃ n3_, ∃ c3_, v2_ = (Value.slice A3_ n3_ c3_) ∧ splitB (decide ((IntKind.wrap .i64 (x3 + ((n3_ : Nat) : Int))) < (0 : Int))) (Gen Tryd.prog (Instr.makeInterface 9 (Value.string (ByteArray.mk #[108, 101, 110, 32, 111, 117, 116, 32, 111, 102, 32, 114, 97, 110, 103, 101]))) h fun v4_ h5_ => False) (f31.l0 R A0 n0 c0 (IntKind.wrap .i64 (x3 + ((n3_ : Nat) : Int))) A9 n9 c9 x10 (IntKind.wrap .i64 (x11 + (1 : Int))) h))) (Run Tryd.prog 48 #[(Value.slice none 0 0), (Value.int .i64 x3)] h fun v6_ h7_ => ∃ A8_, ∃ n8_, ∃ c8_, v6_ = (Value.slice A8_ n8_ c8_) ∧ f31.l1 R A8_ n8_ c8_ A0 n0 c0 ((n0 : Nat) : Int) (0 : Int) h7_)
set_option maxRecDepth 100000 in
theorem f31.l0_in {R : Value → Heap → Prop} {A0 : Option Addr} {n0 : Nat} {c0 : Nat} {x3 : Int} {A9 : Option Addr} {n9 : Nat} {c9 : Nat} {x10 : Int} {x11 : Int} {h : Heap} (H : f31.l0T R A0 n0 c0 x3 A9 n9 c9 x10 x11 h) : f31.l0 R A0 n0 c0 x3 A9 n9 c9 x10 x11 h :=
  pt_intro mixed f31.good (Eq.mpr (show (Fwd Tryd.prog f31.T f31.kp Tryd.f31 R [false, false, true, false, true, true] (mkFr [(0, (Value.slice A0 n0 c0)), (3, (Value.int .i64 x3)), (9, (Value.slice A9 n9 c9)), (10, (Value.int .i64 x10)), (11, (Value.int .i64 x11))]) h) = (f31.l0T R A0 n0 c0 x3 A9 n9 c9 x10 x11 h) by kernel_rfl) H)
set_option maxRecDepth 100000 in
def f31.l1T (R : Value → Heap → Prop) (A6 : Option Addr) (n6 : Nat) (c6 : Nat) (A25 : Option Addr) (n25 : Nat) (c25 : Nat) (x26 : Int) (x27 : Int) (h : Heap) : Prop :=
  splitB (decide (x27 < x26)) (ptrOk A25 fun a1_ => 0 ≤ x27 ∧ x27 < ((n25 : Nat) : Int) ∧ (∃ v2_, ldv false 1 h (Addr.add a1_ (Int.toNat x27 * 1)) = some v2_ ∧ ∃ A3_, ∃ n3_, ∃ c3_, v2_ = (Value.slice A3_ n3_ c3_) ∧ AppW 25 3 48 #[(Value.int .i64 (0 : Int)), (Value.string (ByteArray.mk #[])), (Value.slice none 0 0)] A6 n6 c6 (Value.slice A3_ n3_ c3_) h fun v4_ h5_ => ∃ A6_, ∃ n6_, ∃ c6_, v4_ = (Value.slice A6_ n6_ c6_) ∧ f31.l1 R A6_ n6_ c6_ A25 n25 c25 x26 (IntKind.wrap .i64 (x27 + (1 : Int))) h5_)) (R (Value.slice A6 n6 c6) h)
set_option maxRecDepth 100000 in
theorem f31.l1_in {R : Value → Heap → Prop} {A6 : Option Addr} {n6 : Nat} {c6 : Nat} {A25 : Option Addr} {n25 : Nat} {c25 : Nat} {x26 : Int} {x27 : Int} {h : Heap} (H : f31.l1T R A6 n6 c6 A25 n25 c25 x26 x27 h) : f31.l1 R A6 n6 c6 A25 n25 c25 x26 x27 h :=
  pt_intro mixed f31.good (Eq.mpr (show (Fwd Tryd.prog f31.T f31.kp Tryd.f31 R [false, false, true, false, true, true, true, true] (mkFr [(6, (Value.slice A6 n6 c6)), (25, (Value.slice A25 n25 c25)), (26, (Value.int .i64 x26)), (27, (Value.int .i64 x27))]) h) = (f31.l1T R A6 n6 c6 A25 n25 c25 x26 x27 h) by kernel_rfl) H)
set_option maxRecDepth 100000 in
def f31.runT (R : Value → Heap → Prop) (A0 : Option Addr) (n0 : Nat) (c0 : Nat) (h : Heap) : Prop :=
  f31.l0 R A0 n0 c0 (0 : Int) A0 n0 c0 ((n0 : Nat) : Int) (0 : Int) h
set_option maxRecDepth 100000 in
theorem f31.run {R : Value → Heap → Prop} {A0 : Option Addr} {n0 : Nat} {c0 : Nat} {h : Heap} (H : f31.runT R A0 n0 c0 h) : Run Tryd.prog 31 #[(Value.slice A0 n0 c0)] h R :=
  run_of mixed Tryd.func31 (by kernel_rfl) (by kernel_rfl) f31.good (Eq.mpr (show (Fwd Tryd.prog f31.T f31.kp Tryd.f31 R [] (mkFr (argL [(Value.slice A0 n0 c0)] 0)) h) = (f31.runT R A0 n0 c0 h) by kernel_rfl) H)
def f59.T : Tab := { sh := tSh, tup := tTup, keep := [], plan := [] }
def f59.kp : Keep := []
theorem f59.good : goodCode Tryd.prog f59.T (rootOf Tryd.f59) = true := by kernel_rfl
set_option maxRecDepth 100000 in
def f59.runT (R : Value → Heap → Prop) (s0 : ByteArray) (s1 : ByteArray) (h : Heap) : Prop :=
  splitB (decide (((ByteArray.size s0 : Nat) : Int) ≥ ((ByteArray.size s1 : Nat) : Int))) (0 ≤ (0 : Int) ∧ (0 : Int) ≤ ((ByteArray.size s1 : Nat) : Int) ∧ ((ByteArray.size s1 : Nat) : Int) ≤ ((ByteArray.size s0 : Nat) : Int) ∧ (R (Value.bool (ByteArray.toList (ByteArray.extract s0 (Int.toNat (0 : Int)) (Int.toNat ((ByteArray.size s1 : Nat) : Int))) == ByteArray.toList s1)) h)) (R (Value.bool false) h)
set_option maxRecDepth 100000 in
theorem f59.run {R : Value → Heap → Prop} {s0 : ByteArray} {s1 : ByteArray} {h : Heap} (H : f59.runT R s0 s1 h) : Run Tryd.prog 59 #[(Value.string s0), (Value.string s1)] h R :=
  run_of mixed Tryd.func59 (by kernel_rfl) (by kernel_rfl) f59.good (Eq.mpr (show (Fwd Tryd.prog f59.T f59.kp Tryd.f59 R [] (mkFr (argL [(Value.string s0), (Value.string s1)] 0)) h) = (f59.runT R s0 s1 h) by kernel_rfl) H)
def f49.T : Tab := { sh := tSh, tup := tTup, keep := [], plan := [] }
def f49.kp : Keep := []
theorem f49.good : goodCode Tryd.prog f49.T (rootOf Tryd.f49) = true := by kernel_rfl
set_option maxRecDepth 100000 in
def f49.runT (R : Value → Heap → Prop) (s0 : ByteArray) (s1 : ByteArray) (h : Heap) : Prop :=
  Run Tryd.prog 59 #[(Value.string s0), (Value.string s1)] h fun v1_ h2_ => ∃ b3_, v1_ = (Value.bool b3_) ∧ R (Value.bool b3_) h2_
set_option maxRecDepth 100000 in
theorem f49.run {R : Value → Heap → Prop} {s0 : ByteArray} {s1 : ByteArray} {h : Heap} (H : f49.runT R s0 s1 h) : Run Tryd.prog 49 #[(Value.string s0), (Value.string s1)] h R :=
  run_of mixed Tryd.func49 (by kernel_rfl) (by kernel_rfl) f49.good (Eq.mpr (show (Fwd Tryd.prog f49.T f49.kp Tryd.f49 R [] (mkFr (argL [(Value.string s0), (Value.string s1)] 0)) h) = (f49.runT R s0 s1 h) by kernel_rfl) H)
def f32.T : Tab := { sh := tSh, tup := tTup, keep := [], plan := [] }
def f32.kp : Keep := []
theorem f32.good : goodCode Tryd.prog f32.T (rootOf Tryd.f32) = true := by kernel_rfl
set_option maxRecDepth 100000 in
def f32.runT (R : Value → Heap → Prop) (v0 : Value) (h : Heap) : Prop :=
  newH h (Obj.cells ((v0).cells) 25) fun h1_ => ∃ v2_, ldv false 1 h1_ (⟨Array.size h, 0, none⟩) = some v2_ ∧ ∃ x3_, v2_ = (Value.int .i64 x3_) ∧ splitB (x3_ == (5 : Int)) (∃ v4_, ldv false 1 h1_ (Addr.add (⟨Array.size h, 0, none⟩) 2) = some v4_ ∧ ∃ A5_, ∃ n5_, ∃ c5_, v4_ = (Value.slice A5_ n5_ c5_) ∧ splitB (((n5_ : Nat) : Int) == (0 : Int)) (∃ v6_, ldv false 1 h1_ (Addr.add (⟨Array.size h, 0, none⟩) 1) = some v6_ ∧ ∃ s7_, v6_ = (Value.string s7_) ∧ Run Tryd.prog 49 #[(Value.string s7_), (Value.string (ByteArray.mk #[63]))] h1_ fun v8_ h9_ => ∃ b10_, v8_ = (Value.bool b10_) ∧ R (Value.bool b10_) h9_) (R (Value.bool false) h1_)) (R (Value.bool false) h1_)
set_option maxRecDepth 100000 in
theorem f32.run {R : Value → Heap → Prop} {v0 : Value} {h : Heap} (H : f32.runT R v0 h) : Run Tryd.prog 32 #[v0] h R :=
  run_of mixed Tryd.func32 (by kernel_rfl) (by kernel_rfl) f32.good (Eq.mpr (show (Fwd Tryd.prog f32.T f32.kp Tryd.f32 R [] (mkFr (argL [v0] 0)) h) = (f32.runT R v0 h) by kernel_rfl) H)
def f5.T : Tab := { sh := tSh, tup := tTup, keep := [], plan := [(5, (.take 0 (.take 2 (.take 3 (.take 1 (.eff false 4 (.eff false 5 (.take 6 .done))))))))] }
def f5.kp : Keep := [([false, false, false, true, true, true], [3, 4]), ([true, true, true, false, true, false, false, false, true, true, true], [3, 4, 5, 28])]
theorem f5.good : goodCode Tryd.prog f5.T (rootOf Tryd.f5) = true := by kernel_rfl
def f5.l0 (R : Value → Heap → Prop) (A3 : Option Addr) (n3 : Nat) (c3 : Nat) (A4 : Option Addr) (n4 : Nat) (c4 : Nat) (h : Heap) : Prop := Pt Tryd.prog Tryd.f5 R [false, false, false, true, true, true] (mkFr [(3, (Value.slice A3 n3 c3)), (4, (Value.slice A4 n4 c4))]) h
def f5.j0 (R : Value → Heap → Prop) (A3 : Option Addr) (n3 : Nat) (c3 : Nat) (A4 : Option Addr) (n4 : Nat) (c4 : Nat) (a5 : Addr) (b28 : Bool) (h : Heap) : Prop := Pt Tryd.prog Tryd.f5 R [true, true, true, false, true, false, false, false, true, true, true] (mkFr [(3, (Value.slice A3 n3 c3)), (4, (Value.slice A4 n4 c4)), (5, (Value.pointer (some a5))), (28, (Value.bool b28))]) h
set_option maxRecDepth 100000 in
def f5.l0T (R : Value → Heap → Prop) (A3 : Option Addr) (n3 : Nat) (c3 : Nat) (A4 : Option Addr) (n4 : Nat) (c4 : Nat) (h : Heap) : Prop :=
  splitB (decide (((n4 : Nat) : Int) > (0 : Int))) (ptrOk A4 fun a1_ => 0 ≤ (0 : Int) ∧ (0 : Int) < ((n4 : Nat) : Int) ∧ (∃ v2_, ldv true 3 h (Addr.add a1_ (Int.toNat (0 : Int) * 3)) = some v2_ ∧ newH h (Obj.cells #[(Value.int .i64 (0 : Int)), (Value.string (ByteArray.mk #[])), (Value.slice none 0 0)] 25) fun h3_ => ∃ l5_ : List Value, v2_ = Value.agg l5_.toArray ∧ l5_.length = 3 ∧ ∃ h4_, stH h3_ (⟨Array.size h, 0, none⟩) l5_ 0 = some h4_ ∧ 0 ≤ (1 : Int) ∧ (1 : Int) ≤ ((n4 : Nat) : Int) ∧ ((n4 : Nat) : Int) ≤ ((c4 : Nat) : Int) ∧ (∃ v6_, ldv false 1 h4_ (Addr.add (⟨Array.size h, 0, none⟩) 2) = some v6_ ∧ ∃ A7_, ∃ n7_, ∃ c7_, v6_ = (Value.slice A7_ n7_ c7_) ∧ newH h4_ (Obj.cells #[(Value.slice A7_ n7_ c7_), (Value.slice (sliceA A4 (Int.toNat (1 : Int)) c4 3) (Int.toNat ((n4 : Nat) : Int) - Int.toNat (1 : Int)) (c4 - Int.toNat (1 : Int)))] 23) fun h8_ => Run Tryd.prog 31 #[(Value.slice (some ⟨Array.size h4_, 0, none⟩) 2 2)] h8_ fun v9_ h10_ => ∃ A11_, ∃ n11_, ∃ c11_, v9_ = (Value.slice A11_ n11_ c11_) ∧ ∃ v12_, ldv true 3 h10_ (⟨Array.size h, 0, none⟩) = some v12_ ∧ Run Tryd.prog 32 #[v12_] h10_ fun v13_ h14_ => ∃ b15_, v13_ = (Value.bool b15_) ∧ splitB b15_ (∃ v16_, ldv false 1 h14_ (Addr.add (⟨Array.size h, 0, none⟩) 1) = some v16_ ∧ ∃ s17_, v16_ = (Value.string s17_) ∧ Run Tryd.prog 6 #[(Value.slice A3 n3 c3), (Value.string s17_)] h14_ fun v18_ h19_ => ∃ b20_, v18_ = (Value.bool b20_) ∧ f5.j0 R A3 n3 c3 A11_ n11_ c11_ (⟨Array.size h, 0, none⟩) (!b20_) h19_) (f5.j0 R A3 n3 c3 A11_ n11_ c11_ (⟨Array.size h, 0, none⟩) false h14_)))) (R (Value.slice A3 n3 c3) h)
set_option maxRecDepth 100000 in
theorem f5.l0_in {R : Value → Heap → Prop} {A3 : Option Addr} {n3 : Nat} {c3 : Nat} {A4 : Option Addr} {n4 : Nat} {c4 : Nat} {h : Heap} (H : f5.l0T R A3 n3 c3 A4 n4 c4 h) : f5.l0 R A3 n3 c3 A4 n4 c4 h :=
  pt_intro mixed f5.good (Eq.mpr (show (Fwd Tryd.prog f5.T f5.kp Tryd.f5 R [false, false, false, true, true, true] (mkFr [(3, (Value.slice A3 n3 c3)), (4, (Value.slice A4 n4 c4))]) h) = (f5.l0T R A3 n3 c3 A4 n4 c4 h) by kernel_rfl) H)
set_option maxRecDepth 100000 in
def f5.j0T (R : Value → Heap → Prop) (A3 : Option Addr) (n3 : Nat) (c3 : Nat) (A4 : Option Addr) (n4 : Nat) (c4 : Nat) (a5 : Addr) (b28 : Bool) (h : Heap) : Prop :=
  splitB b28 (∃ v1_, ldv false 1 h (Addr.add a5 1) = some v1_ ∧ ∃ s2_, v1_ = (Value.string s2_) ∧ newH h (Obj.cells #[(Value.string s2_)] 9) fun h3_ => AppW 9 1 16 #[(Value.string (ByteArray.mk #[]))] A3 n3 c3 (Value.slice (some ⟨Array.size h, 0, none⟩) 1 1) h3_ fun v4_ h5_ => ∃ A6_, ∃ n6_, ∃ c6_, v4_ = (Value.slice A6_ n6_ c6_) ∧ f5.l0 R A6_ n6_ c6_ A4 n4 c4 h5_) (f5.l0 R A3 n3 c3 A4 n4 c4 h)
set_option maxRecDepth 100000 in
theorem f5.j0_in {R : Value → Heap → Prop} {A3 : Option Addr} {n3 : Nat} {c3 : Nat} {A4 : Option Addr} {n4 : Nat} {c4 : Nat} {a5 : Addr} {b28 : Bool} {h : Heap} (H : f5.j0T R A3 n3 c3 A4 n4 c4 a5 b28 h) : f5.j0 R A3 n3 c3 A4 n4 c4 a5 b28 h :=
  pt_intro mixed f5.good (Eq.mpr (show (Fwd Tryd.prog f5.T f5.kp Tryd.f5 R [true, true, true, false, true, false, false, false, true, true, true] (mkFr [(3, (Value.slice A3 n3 c3)), (4, (Value.slice A4 n4 c4)), (5, (Value.pointer (some a5))), (28, (Value.bool b28))]) h) = (f5.j0T R A3 n3 c3 A4 n4 c4 a5 b28 h) by kernel_rfl) H)
set_option maxRecDepth 100000 in
def f5.runT (R : Value → Heap → Prop) (v0 : Value) (h : Heap) : Prop :=
  newH h (Obj.cells ((v0).cells) 25) fun h1_ => ∃ v2_, ldv true 3 h1_ (⟨Array.size h, 0, none⟩) = some v2_ ∧ ∃ l3_ : List Value, v2_ = Value.agg l3_.toArray ∧ l3_.length = 3 ∧ (newH h1_ (Obj.cells ((List.take 0 ([(Value.int .i64 (0 : Int)), (Value.string (ByteArray.mk #[])), (Value.slice none 0 0)]) ++ l3_ ++ List.drop 3 ([(Value.int .i64 (0 : Int)), (Value.string (ByteArray.mk #[])), (Value.slice none 0 0)])).toArray) 25) fun h4_ => f5.l0 R none 0 0 (some ⟨Array.size h1_, 0, none⟩) 1 1 h4_)
set_option maxRecDepth 100000 in
theorem f5.run {R : Value → Heap → Prop} {v0 : Value} {h : Heap} (H : f5.runT R v0 h) : Run Tryd.prog 5 #[v0] h R :=
  run_of mixed Tryd.func5 (by kernel_rfl) (by kernel_rfl) f5.good (Eq.mpr (show (Fwd Tryd.prog f5.T f5.kp Tryd.f5 R [] (mkFr (argL [v0] 0)) h) = (f5.runT R v0 h) by kernel_rfl) H)
def f7.T : Tab := { sh := tSh, tup := tTup, keep := [], plan := [(6, (.take 0 (.take 1 (.take 2 (.take 4 (.take 5 (.take 6 (.take 3 (.take 7 (.take 8 .done))))))))))] }
def f7.kp : Keep := [([false, false, true, false, true, true], [0, 1, 12, 13])]
theorem f7.good : goodCode Tryd.prog f7.T (rootOf Tryd.f7) = true := by kernel_rfl
def f7.l0 (R : Value → Heap → Prop) (A0 : Option Addr) (n0 : Nat) (c0 : Nat) (A1 : Option Addr) (n1 : Nat) (c1 : Nat) (x12 : Int) (x13 : Int) (h : Heap) : Prop := Pt Tryd.prog Tryd.f7 R [false, false, true, false, true, true] (mkFr [(0, (Value.slice A0 n0 c0)), (1, (Value.slice A1 n1 c1)), (12, (Value.int .i64 x12)), (13, (Value.int .i64 x13))]) h
set_option maxRecDepth 100000 in
def f7.l0T (R : Value → Heap → Prop) (A0 : Option Addr) (n0 : Nat) (c0 : Nat) (A1 : Option Addr) (n1 : Nat) (c1 : Nat) (x12 : Int) (x13 : Int) (h : Heap) : Prop :=
  splitB (decide (x13 < x12)) (ptrOk A0 fun a1_ => 0 ≤ x13 ∧ x13 < ((n0 : Nat) : Int) ∧ (ptrOk A1 fun a2_ => 0 ≤ x13 ∧ x13 < ((n1 : Nat) : Int) ∧ (∃ v3_, ldv false 1 h (Addr.add a1_ (Int.toNat x13 * 1)) = some v3_ ∧ ∃ s4_, v3_ = (Value.string s4_) ∧ ∃ v5_, ldv false 1 h (Addr.add a2_ (Int.toNat x13 * 1)) = some v5_ ∧ ∃ s6_, v5_ = (Value.string s6_) ∧ splitB (!(ByteArray.toList s4_ == ByteArray.toList s6_)) (R (Value.bool false) h) (f7.l0 R A0 n0 c0 A1 n1 c1 x12 (IntKind.wrap .i64 (x13 + (1 : Int))) h)))) (R (Value.bool true) h)
set_option maxRecDepth 100000 in
theorem f7.l0_in {R : Value → Heap → Prop} {A0 : Option Addr} {n0 : Nat} {c0 : Nat} {A1 : Option Addr} {n1 : Nat} {c1 : Nat} {x12 : Int} {x13 : Int} {h : Heap} (H : f7.l0T R A0 n0 c0 A1 n1 c1 x12 x13 h) : f7.l0 R A0 n0 c0 A1 n1 c1 x12 x13 h :=
  pt_intro mixed f7.good (Eq.mpr (show (Fwd Tryd.prog f7.T f7.kp Tryd.f7 R [false, false, true, false, true, true] (mkFr [(0, (Value.slice A0 n0 c0)), (1, (Value.slice A1 n1 c1)), (12, (Value.int .i64 x12)), (13, (Value.int .i64 x13))]) h) = (f7.l0T R A0 n0 c0 A1 n1 c1 x12 x13 h) by kernel_rfl) H)
set_option maxRecDepth 100000 in
def f7.runT (R : Value → Heap → Prop) (A0 : Option Addr) (n0 : Nat) (c0 : Nat) (A1 : Option Addr) (n1 : Nat) (c1 : Nat) (h : Heap) : Prop :=
  splitB (((n0 : Nat) : Int) != ((n1 : Nat) : Int)) (R (Value.bool false) h) (f7.l0 R A0 n0 c0 A1 n1 c1 ((n0 : Nat) : Int) (0 : Int) h)
set_option maxRecDepth 100000 in
theorem f7.run {R : Value → Heap → Prop} {A0 : Option Addr} {n0 : Nat} {c0 : Nat} {A1 : Option Addr} {n1 : Nat} {c1 : Nat} {h : Heap} (H : f7.runT R A0 n0 c0 A1 n1 c1 h) : Run Tryd.prog 7 #[(Value.slice A0 n0 c0), (Value.slice A1 n1 c1)] h R :=
  run_of mixed Tryd.func7 (by kernel_rfl) (by kernel_rfl) f7.good (Eq.mpr (show (Fwd Tryd.prog f7.T f7.kp Tryd.f7 R [] (mkFr (argL [(Value.slice A0 n0 c0), (Value.slice A1 n1 c1)] 0)) h) = (f7.runT R A0 n0 c0 A1 n1 c1 h) by kernel_rfl) H)
def f60.T : Tab := { sh := tSh, tup := tTup, keep := [], plan := [] }
def f60.kp : Keep := []
theorem f60.good : goodCode Tryd.prog f60.T (rootOf Tryd.f60) = true := by kernel_rfl
set_option maxRecDepth 100000 in
def f60.runT (R : Value → Heap → Prop) (v0 : Value) (h : Heap) : Prop :=
  newH h (Obj.cells ((v0).cells) 25) fun h1_ => ∃ v2_, ldv false 1 h1_ (⟨Array.size h, 0, none⟩) = some v2_ ∧ ∃ x3_, v2_ = (Value.int .i64 x3_) ∧ splitB (x3_ == (5 : Int)) (∃ v4_, ldv false 1 h1_ (Addr.add (⟨Array.size h, 0, none⟩) 2) = some v4_ ∧ ∃ A5_, ∃ n5_, ∃ c5_, v4_ = (Value.slice A5_ n5_ c5_) ∧ splitB (((n5_ : Nat) : Int) == (0 : Int)) (∃ v6_, ldv false 1 h1_ (Addr.add (⟨Array.size h, 0, none⟩) 1) = some v6_ ∧ ∃ s7_, v6_ = (Value.string s7_) ∧ Run Tryd.prog 49 #[(Value.string s7_), (Value.string (ByteArray.mk #[63]))] h1_ fun v8_ h9_ => ∃ b10_, v8_ = (Value.bool b10_) ∧ R (Value.bool b10_) h9_) (R (Value.bool false) h1_)) (R (Value.bool false) h1_)
set_option maxRecDepth 100000 in
theorem f60.run {R : Value → Heap → Prop} {v0 : Value} {h : Heap} (H : f60.runT R v0 h) : Run Tryd.prog 60 #[v0] h R :=
  run_of mixed Tryd.func60 (by kernel_rfl) (by kernel_rfl) f60.good (Eq.mpr (show (Fwd Tryd.prog f60.T f60.kp Tryd.f60 R [] (mkFr (argL [v0] 0)) h) = (f60.runT R v0 h) by kernel_rfl) H)
def f50.T : Tab := { sh := tSh, tup := tTup, keep := [], plan := [] }
def f50.kp : Keep := [([true, false, true], [1, 2, 15]), ([true, true], [1, 2]), ([false, false, true, false, true, true], [1, 22, 23, 24])]
theorem f50.good : goodCode Tryd.prog f50.T (rootOf Tryd.f50) = true := by kernel_rfl
def f50.j1 (R : Value → Heap → Prop) (A1 : Option Addr) (n1 : Nat) (c1 : Nat) (a2 : Addr) (b15 : Bool) (h : Heap) : Prop := Pt Tryd.prog Tryd.f50 R [true, false, true] (mkFr [(1, (Value.slice A1 n1 c1)), (2, (Value.pointer (some a2))), (15, (Value.bool b15))]) h
def f50.j0 (R : Value → Heap → Prop) (A1 : Option Addr) (n1 : Nat) (c1 : Nat) (a2 : Addr) (h : Heap) : Prop := Pt Tryd.prog Tryd.f50 R [true, true] (mkFr [(1, (Value.slice A1 n1 c1)), (2, (Value.pointer (some a2)))]) h
def f50.l0 (R : Value → Heap → Prop) (A1 : Option Addr) (n1 : Nat) (c1 : Nat) (A22 : Option Addr) (n22 : Nat) (c22 : Nat) (x23 : Int) (x24 : Int) (h : Heap) : Prop := Pt Tryd.prog Tryd.f50 R [false, false, true, false, true, true] (mkFr [(1, (Value.slice A1 n1 c1)), (22, (Value.slice A22 n22 c22)), (23, (Value.int .i64 x23)), (24, (Value.int .i64 x24))]) h
set_option maxRecDepth 100000 in
def f50.j1T (R : Value → Heap → Prop) (A1 : Option Addr) (n1 : Nat) (c1 : Nat) (a2 : Addr) (b15 : Bool) (h : Heap) : Prop :=
  splitB b15 (∃ v1_, ldv false 1 h (Addr.add a2 1) = some v1_ ∧ ∃ s2_, v1_ = (Value.string s2_) ∧ newH h (Obj.cells #[(Value.string s2_)] 9) fun h3_ => AppW 9 1 16 #[(Value.string (ByteArray.mk #[]))] A1 n1 c1 (Value.slice (some ⟨Array.size h, 0, none⟩) 1 1) h3_ fun v4_ h5_ => ∃ A6_, ∃ n6_, ∃ c6_, v4_ = (Value.slice A6_ n6_ c6_) ∧ f50.j0 R A6_ n6_ c6_ a2 h5_) (f50.j0 R A1 n1 c1 a2 h)
set_option maxRecDepth 100000 in
theorem f50.j1_in {R : Value → Heap → Prop} {A1 : Option Addr} {n1 : Nat} {c1 : Nat} {a2 : Addr} {b15 : Bool} {h : Heap} (H : f50.j1T R A1 n1 c1 a2 b15 h) : f50.j1 R A1 n1 c1 a2 b15 h :=
  pt_intro mixed f50.good (Eq.mpr (show (Fwd Tryd.prog f50.T f50.kp Tryd.f50 R [true, false, true] (mkFr [(1, (Value.slice A1 n1 c1)), (2, (Value.pointer (some a2))), (15, (Value.bool b15))]) h) = (f50.j1T R A1 n1 c1 a2 b15 h) by kernel_rfl) H)
set_option maxRecDepth 100000 in
def f50.j0T (R : Value → Heap → Prop) (A1 : Option Addr) (n1 : Nat) (c1 : Nat) (a2 : Addr) (h : Heap) : Prop :=
  ∃ v1_, ldv false 1 h (Addr.add a2 2) = some v1_ ∧ ∃ A2_, ∃ n2_, ∃ c2_, v1_ = (Value.slice A2_ n2_ c2_) ∧ f50.l0 R A1 n1 c1 A2_ n2_ c2_ ((n2_ : Nat) : Int) (0 : Int) h
set_option maxRecDepth 100000 in
theorem f50.j0_in {R : Value → Heap → Prop} {A1 : Option Addr} {n1 : Nat} {c1 : Nat} {a2 : Addr} {h : Heap} (H : f50.j0T R A1 n1 c1 a2 h) : f50.j0 R A1 n1 c1 a2 h :=
  pt_intro mixed f50.good (Eq.mpr (show (Fwd Tryd.prog f50.T f50.kp Tryd.f50 R [true, true] (mkFr [(1, (Value.slice A1 n1 c1)), (2, (Value.pointer (some a2)))]) h) = (f50.j0T R A1 n1 c1 a2 h) by kernel_rfl) H)
set_option maxRecDepth 100000 in
def f50.l0T (R : Value → Heap → Prop) (A1 : Option Addr) (n1 : Nat) (c1 : Nat) (A22 : Option Addr) (n22 : Nat) (c22 : Nat) (x23 : Int) (x24 : Int) (h : Heap) : Prop :=
  splitB (decide (x24 < x23)) (ptrOk A22 fun a1_ => 0 ≤ x24 ∧ x24 < ((n22 : Nat) : Int) ∧ (∃ v2_, ldv true 3 h (Addr.add a1_ (Int.toNat x24 * 3)) = some v2_ ∧ newH h (Obj.cells #[(Value.int .i64 (0 : Int)), (Value.string (ByteArray.mk #[])), (Value.slice none 0 0)] 25) fun h3_ => ∃ l5_ : List Value, v2_ = Value.agg l5_.toArray ∧ l5_.length = 3 ∧ ∃ h4_, stH h3_ (⟨Array.size h, 0, none⟩) l5_ 0 = some h4_ ∧ ∃ v6_, ldv true 3 h4_ (⟨Array.size h, 0, none⟩) = some v6_ ∧ Run Tryd.prog 50 #[v6_, (Value.slice A1 n1 c1)] h4_ fun v7_ h8_ => ∃ A9_, ∃ n9_, ∃ c9_, v7_ = (Value.slice A9_ n9_ c9_) ∧ f50.l0 R A9_ n9_ c9_ A22 n22 c22 x23 (IntKind.wrap .i64 (x24 + (1 : Int))) h8_)) (R (Value.slice A1 n1 c1) h)
set_option maxRecDepth 100000 in
theorem f50.l0_in {R : Value → Heap → Prop} {A1 : Option Addr} {n1 : Nat} {c1 : Nat} {A22 : Option Addr} {n22 : Nat} {c22 : Nat} {x23 : Int} {x24 : Int} {h : Heap} (H : f50.l0T R A1 n1 c1 A22 n22 c22 x23 x24 h) : f50.l0 R A1 n1 c1 A22 n22 c22 x23 x24 h :=
  pt_intro mixed f50.good (Eq.mpr (show (Fwd Tryd.prog f50.T f50.kp Tryd.f50 R [false, false, true, false, true, true] (mkFr [(1, (Value.slice A1 n1 c1)), (22, (Value.slice A22 n22 c22)), (23, (Value.int .i64 x23)), (24, (Value.int .i64 x24))]) h) = (f50.l0T R A1 n1 c1 A22 n22 c22 x23 x24 h) by kernel_rfl) H)
set_option maxRecDepth 100000 in
def f50.runT (R : Value → Heap → Prop) (v0 : Value) (A1 : Option Addr) (n1 : Nat) (c1 : Nat) (h : Heap) : Prop :=
  newH h (Obj.cells ((v0).cells) 25) fun h1_ => ∃ v2_, ldv true 3 h1_ (⟨Array.size h, 0, none⟩) = some v2_ ∧ Run Tryd.prog 60 #[v2_] h1_ fun v3_ h4_ => ∃ b5_, v3_ = (Value.bool b5_) ∧ splitB b5_ (∃ v6_, ldv false 1 h4_ (Addr.add (⟨Array.size h, 0, none⟩) 1) = some v6_ ∧ ∃ s7_, v6_ = (Value.string s7_) ∧ Run Tryd.prog 6 #[(Value.slice A1 n1 c1), (Value.string s7_)] h4_ fun v8_ h9_ => ∃ b10_, v8_ = (Value.bool b10_) ∧ f50.j1 R A1 n1 c1 (⟨Array.size h, 0, none⟩) (!b10_) h9_) (f50.j1 R A1 n1 c1 (⟨Array.size h, 0, none⟩) false h4_)
set_option maxRecDepth 100000 in
theorem f50.run {R : Value → Heap → Prop} {v0 : Value} {A1 : Option Addr} {n1 : Nat} {c1 : Nat} {h : Heap} (H : f50.runT R v0 A1 n1 c1 h) : Run Tryd.prog 50 #[v0, (Value.slice A1 n1 c1)] h R :=
  run_of mixed Tryd.func50 (by kernel_rfl) (by kernel_rfl) f50.good (Eq.mpr (show (Fwd Tryd.prog f50.T f50.kp Tryd.f50 R [] (mkFr (argL [v0, (Value.slice A1 n1 c1)] 0)) h) = (f50.runT R v0 A1 n1 c1 h) by kernel_rfl) H)
def f34.T : Tab := { sh := tSh, tup := tTup, keep := [], plan := [] }
def f34.kp : Keep := []
theorem f34.good : goodCode Tryd.prog f34.T (rootOf Tryd.f34) = true := by kernel_rfl
set_option maxRecDepth 100000 in
def f34.runT (R : Value → Heap → Prop) (v0 : Value) (h : Heap) : Prop :=
  newH h (Obj.cells ((v0).cells) 25) fun h1_ => ∃ v2_, ldv true 3 h1_ (⟨Array.size h, 0, none⟩) = some v2_ ∧ Run Tryd.prog 50 #[v2_, (Value.slice none 0 0)] h1_ fun v3_ h4_ => ∃ A5_, ∃ n5_, ∃ c5_, v3_ = (Value.slice A5_ n5_ c5_) ∧ R (Value.slice A5_ n5_ c5_) h4_
set_option maxRecDepth 100000 in
theorem f34.run {R : Value → Heap → Prop} {v0 : Value} {h : Heap} (H : f34.runT R v0 h) : Run Tryd.prog 34 #[v0] h R :=
  run_of mixed Tryd.func34 (by kernel_rfl) (by kernel_rfl) f34.good (Eq.mpr (show (Fwd Tryd.prog f34.T f34.kp Tryd.f34 R [] (mkFr (argL [v0] 0)) h) = (f34.runT R v0 h) by kernel_rfl) H)
def f8.T : Tab := { sh := tSh, tup := tTup, keep := [], plan := [] }
def f8.kp : Keep := [([false, false, true, false, true, true], [1, 3, 8, 9, 10])]
theorem f8.good : goodCode Tryd.prog f8.T (rootOf Tryd.f8) = true := by kernel_rfl
def f8.l0 (R : Value → Heap → Prop) (a1 : Addr) (A3 : Option Addr) (n3 : Nat) (c3 : Nat) (A8 : Option Addr) (n8 : Nat) (c8 : Nat) (x9 : Int) (x10 : Int) (h : Heap) : Prop := Pt Tryd.prog Tryd.f8 R [false, false, true, false, true, true] (mkFr [(1, (Value.pointer (some a1))), (3, (Value.slice A3 n3 c3)), (8, (Value.slice A8 n8 c8)), (9, (Value.int .i64 x9)), (10, (Value.int .i64 x10))]) h
set_option maxRecDepth 100000 in
def f8.l0T (R : Value → Heap → Prop) (a1 : Addr) (A3 : Option Addr) (n3 : Nat) (c3 : Nat) (A8 : Option Addr) (n8 : Nat) (c8 : Nat) (x9 : Int) (x10 : Int) (h : Heap) : Prop :=
  splitB (decide (x10 < x9)) (ptrOk A8 fun a1_ => 0 ≤ x10 ∧ x10 < ((n8 : Nat) : Int) ∧ (∃ v2_, ldv false 1 h (Addr.add a1_ (Int.toNat x10 * 1)) = some v2_ ∧ ∃ s3_, v2_ = (Value.string s3_) ∧ ∃ v4_, ldv false 1 h a1 = some v4_ ∧ ∃ A5_, ∃ n5_, ∃ c5_, v4_ = (Value.slice A5_ n5_ c5_) ∧ Run Tryd.prog 6 #[(Value.slice A5_ n5_ c5_), (Value.string s3_)] h fun v6_ h7_ => ∃ b8_, v6_ = (Value.bool b8_) ∧ splitB (!b8_) (newH h7_ (Obj.cells #[(Value.string s3_)] 9) fun h9_ => AppW 9 1 16 #[(Value.string (ByteArray.mk #[]))] A3 n3 c3 (Value.slice (some ⟨Array.size h7_, 0, none⟩) 1 1) h9_ fun v10_ h11_ => ∃ A12_, ∃ n12_, ∃ c12_, v10_ = (Value.slice A12_ n12_ c12_) ∧ f8.l0 R a1 A12_ n12_ c12_ A8 n8 c8 x9 (IntKind.wrap .i64 (x10 + (1 : Int))) h11_) (f8.l0 R a1 A3 n3 c3 A8 n8 c8 x9 (IntKind.wrap .i64 (x10 + (1 : Int))) h7_))) (R (Value.slice A3 n3 c3) h)
set_option maxRecDepth 100000 in
theorem f8.l0_in {R : Value → Heap → Prop} {a1 : Addr} {A3 : Option Addr} {n3 : Nat} {c3 : Nat} {A8 : Option Addr} {n8 : Nat} {c8 : Nat} {x9 : Int} {x10 : Int} {h : Heap} (H : f8.l0T R a1 A3 n3 c3 A8 n8 c8 x9 x10 h) : f8.l0 R a1 A3 n3 c3 A8 n8 c8 x9 x10 h :=
  pt_intro mixed f8.good (Eq.mpr (show (Fwd Tryd.prog f8.T f8.kp Tryd.f8 R [false, false, true, false, true, true] (mkFr [(1, (Value.pointer (some a1))), (3, (Value.slice A3 n3 c3)), (8, (Value.slice A8 n8 c8)), (9, (Value.int .i64 x9)), (10, (Value.int .i64 x10))]) h) = (f8.l0T R a1 A3 n3 c3 A8 n8 c8 x9 x10 h) by kernel_rfl) H)
set_option maxRecDepth 100000 in
def f8.runT (R : Value → Heap → Prop) (v0 : Value) (h : Heap) : Prop :=
  newH h (Obj.cells ((v0).cells) 27) fun h1_ => ∃ v2_, ldv true 3 h1_ (Addr.add (⟨Array.size h, 0, none⟩) 1) = some v2_ ∧ Run Tryd.prog 34 #[v2_] h1_ fun v3_ h4_ => ∃ A5_, ∃ n5_, ∃ c5_, v3_ = (Value.slice A5_ n5_ c5_) ∧ f8.l0 R (⟨Array.size h, 0, none⟩) none 0 0 A5_ n5_ c5_ ((n5_ : Nat) : Int) (0 : Int) h4_
set_option maxRecDepth 100000 in
theorem f8.run {R : Value → Heap → Prop} {v0 : Value} {h : Heap} (H : f8.runT R v0 h) : Run Tryd.prog 8 #[v0] h R :=
  run_of mixed Tryd.func8 (by kernel_rfl) (by kernel_rfl) f8.good (Eq.mpr (show (Fwd Tryd.prog f8.T f8.kp Tryd.f8 R [] (mkFr (argL [v0] 0)) h) = (f8.runT R v0 h) by kernel_rfl) H)
def f42.T : Tab := { sh := tSh, tup := tTup, keep := [], plan := [] }
def f42.kp : Keep := []
theorem f42.good : goodCode Tryd.prog f42.T (rootOf Tryd.f42) = true := by kernel_rfl
set_option maxRecDepth 100000 in
def f42.runT (R : Value → Heap → Prop) (A0 : Option Addr) (n0 : Nat) (c0 : Nat) (h : Heap) : Prop :=
  splitB (Option.isNone A0) (R (Value.slice none 0 0) h) (newH h (Obj.cells #[] 25) fun h1_ => AppW 25 3 48 #[(Value.int .i64 (0 : Int)), (Value.string (ByteArray.mk #[])), (Value.slice none 0 0)] (some ⟨Array.size h, 0, none⟩) 0 0 (Value.slice A0 n0 c0) h1_ fun v2_ h3_ => ∃ A4_, ∃ n4_, ∃ c4_, v2_ = (Value.slice A4_ n4_ c4_) ∧ R (Value.slice A4_ n4_ c4_) h3_)
set_option maxRecDepth 100000 in
theorem f42.run {R : Value → Heap → Prop} {A0 : Option Addr} {n0 : Nat} {c0 : Nat} {h : Heap} (H : f42.runT R A0 n0 c0 h) : Run Tryd.prog 42 #[(Value.slice A0 n0 c0)] h R :=
  run_of mixed Tryd.func42 (by kernel_rfl) (by kernel_rfl) f42.good (Eq.mpr (show (Fwd Tryd.prog f42.T f42.kp Tryd.f42 R [] (mkFr (argL [(Value.slice A0 n0 c0)] 0)) h) = (f42.runT R A0 n0 c0 h) by kernel_rfl) H)
def f29.T : Tab := { sh := tSh, tup := tTup, keep := [], plan := [(5, (.take 0 (.take 2 (.take 4 (.take 1 (.take 3 (.take 5 (.eff true 6 (.eff false 7 (.eff false 8 .done)))))))))), (9, (.take 0 (.take 2 (.take 4 (.take 5 (.take 3 (.alt true 1 (.eff false 6 (.take 7 (.eff false 8 .done))) (.eff false 6 (.eff true 1 (.take 7 (.eff false 8 .done)))))))))))] }
def f29.kp : Keep := [([true, true, false, true, false, true], [1, 2, 3, 6, 7, 24]), ([true, true], [1, 2, 3, 6]), ([false, false, true, false, true, true, true], [1, 2, 3, 6, 39, 40, 41])]
theorem f29.good : goodCode Tryd.prog f29.T (rootOf Tryd.f29) = true := by kernel_rfl
def f29.j1 (R : Value → Heap → Prop) (A1 : Option Addr) (n1 : Nat) (c1 : Nat) (A2 : Option Addr) (n2 : Nat) (c2 : Nat) (a3 : Addr) (a6 : Addr) (x7 : Int) (b24 : Bool) (h : Heap) : Prop := Pt Tryd.prog Tryd.f29 R [true, true, false, true, false, true] (mkFr [(1, (Value.slice A1 n1 c1)), (2, (Value.slice A2 n2 c2)), (3, (Value.pointer (some a3))), (6, (Value.pointer (some a6))), (7, (Value.int .i64 x7)), (24, (Value.bool b24))]) h
def f29.j0 (R : Value → Heap → Prop) (A1 : Option Addr) (n1 : Nat) (c1 : Nat) (A2 : Option Addr) (n2 : Nat) (c2 : Nat) (a3 : Addr) (a6 : Addr) (h : Heap) : Prop := Pt Tryd.prog Tryd.f29 R [true, true] (mkFr [(1, (Value.slice A1 n1 c1)), (2, (Value.slice A2 n2 c2)), (3, (Value.pointer (some a3))), (6, (Value.pointer (some a6)))]) h
def f29.l0 (R : Value → Heap → Prop) (A1 : Option Addr) (n1 : Nat) (c1 : Nat) (A2 : Option Addr) (n2 : Nat) (c2 : Nat) (a3 : Addr) (a6 : Addr) (A39 : Option Addr) (n39 : Nat) (c39 : Nat) (x40 : Int) (x41 : Int) (h : Heap) : Prop := Pt Tryd.prog Tryd.f29 R [false, false, true, false, true, true, true] (mkFr [(1, (Value.slice A1 n1 c1)), (2, (Value.slice A2 n2 c2)), (3, (Value.pointer (some a3))), (6, (Value.pointer (some a6))), (39, (Value.slice A39 n39 c39)), (40, (Value.int .i64 x40)), (41, (Value.int .i64 x41))]) h
set_option maxRecDepth 100000 in
def f29.j1T (R : Value → Heap → Prop) (A1 : Option Addr) (n1 : Nat) (c1 : Nat) (A2 : Option Addr) (n2 : Nat) (c2 : Nat) (a3 : Addr) (a6 : Addr) (x7 : Int) (b24 : Bool) (h : Heap) : Prop :=
  splitB b24 (ptrOk A2 fun a1_ => 0 ≤ x7 ∧ x7 < ((n2 : Nat) : Int) ∧ (∃ v2_, ldv true 3 h (Addr.add a1_ (Int.toNat x7 * 3)) = some v2_ ∧ Run Tryd.prog 30 #[v2_] h fun v3_ h4_ => ∃ l6_ : List Value, v3_ = Value.agg l6_.toArray ∧ l6_.length = 3 ∧ ∃ h5_, stH h4_ a6 l6_ 0 = some h5_ ∧ ∃ v7_, ldv true 3 h5_ a6 = some v7_ ∧ R v7_ h5_)) (f29.j0 R A1 n1 c1 A2 n2 c2 a3 a6 h)
set_option maxRecDepth 100000 in
theorem f29.j1_in {R : Value → Heap → Prop} {A1 : Option Addr} {n1 : Nat} {c1 : Nat} {A2 : Option Addr} {n2 : Nat} {c2 : Nat} {a3 : Addr} {a6 : Addr} {x7 : Int} {b24 : Bool} {h : Heap} (H : f29.j1T R A1 n1 c1 A2 n2 c2 a3 a6 x7 b24 h) : f29.j1 R A1 n1 c1 A2 n2 c2 a3 a6 x7 b24 h :=
  pt_intro mixed f29.good (Eq.mpr (show (Fwd Tryd.prog f29.T f29.kp Tryd.f29 R [true, true, false, true, false, true] (mkFr [(1, (Value.slice A1 n1 c1)), (2, (Value.slice A2 n2 c2)), (3, (Value.pointer (some a3))), (6, (Value.pointer (some a6))), (7, (Value.int .i64 x7)), (24, (Value.bool b24))]) h) = (f29.j1T R A1 n1 c1 A2 n2 c2 a3 a6 x7 b24 h) by kernel_rfl) H)
set_option maxRecDepth 100000 in
def f29.j0T (R : Value → Heap → Prop) (A1 : Option Addr) (n1 : Nat) (c1 : Nat) (A2 : Option Addr) (n2 : Nat) (c2 : Nat) (a3 : Addr) (a6 : Addr) (h : Heap) : Prop :=
  ∃ v1_, ldv false 1 h a3 = some v1_ ∧ ∃ x2_, v1_ = (Value.int .i64 x2_) ∧ ∃ v3_, ldv false 1 h (Addr.add a3 1) = some v3_ ∧ ∃ s4_, v3_ = (Value.string s4_) ∧ ∃ v5_, ldv false 1 h (Addr.add a3 2) = some v5_ ∧ ∃ A6_, ∃ n6_, ∃ c6_, v5_ = (Value.slice A6_ n6_ c6_) ∧ Run Tryd.prog 42 #[(Value.slice A6_ n6_ c6_)] h fun v7_ h8_ => ∃ A9_, ∃ n9_, ∃ c9_, v7_ = (Value.slice A9_ n9_ c9_) ∧ Ext h h8_ ∧ (∃ l11_ : List Value, (Value.agg #[(Value.int .i64 x2_), (Value.string s4_), (Value.slice A9_ n9_ c9_)]) = Value.agg l11_.toArray ∧ l11_.length = 3 ∧ ∃ h10_, stH h8_ a3 l11_ 0 = some h10_ ∧ ∃ v12_, ldv false 1 h10_ (Addr.add a3 2) = some v12_ ∧ ∃ A13_, ∃ n13_, ∃ c13_, v12_ = (Value.slice A13_ n13_ c13_) ∧ f29.l0 R A1 n1 c1 A2 n2 c2 a3 a6 A13_ n13_ c13_ ((n13_ : Nat) : Int) (0 : Int) h10_)
set_option maxRecDepth 100000 in
theorem f29.j0_in {R : Value → Heap → Prop} {A1 : Option Addr} {n1 : Nat} {c1 : Nat} {A2 : Option Addr} {n2 : Nat} {c2 : Nat} {a3 : Addr} {a6 : Addr} {h : Heap} (H : f29.j0T R A1 n1 c1 A2 n2 c2 a3 a6 h) : f29.j0 R A1 n1 c1 A2 n2 c2 a3 a6 h :=
  pt_intro mixed f29.good (Eq.mpr (show (Fwd Tryd.prog f29.T f29.kp Tryd.f29 R [true, true] (mkFr [(1, (Value.slice A1 n1 c1)), (2, (Value.slice A2 n2 c2)), (3, (Value.pointer (some a3))), (6, (Value.pointer (some a6)))]) h) = (f29.j0T R A1 n1 c1 A2 n2 c2 a3 a6 h) by kernel_rfl) H)
set_option maxRecDepth 100000 in
def f29.l0T (R : Value → Heap → Prop) (A1 : Option Addr) (n1 : Nat) (c1 : Nat) (A2 : Option Addr) (n2 : Nat) (c2 : Nat) (a3 : Addr) (a6 : Addr) (A39 : Option Addr) (n39 : Nat) (c39 : Nat) (x40 : Int) (x41 : Int) (h : Heap) : Prop :=
  splitB (decide (x41 < x40)) (ptrOk A39 fun a1_ => 0 ≤ x41 ∧ x41 < ((n39 : Nat) : Int) ∧ (∃ v2_, ldv true 3 h (Addr.add a1_ (Int.toNat x41 * 3)) = some v2_ ∧ newH h (Obj.cells #[(Value.int .i64 (0 : Int)), (Value.string (ByteArray.mk #[])), (Value.slice none 0 0)] 25) fun h3_ => ∃ l5_ : List Value, v2_ = Value.agg l5_.toArray ∧ l5_.length = 3 ∧ ∃ h4_, stH h3_ (⟨Array.size h, 0, none⟩) l5_ 0 = some h4_ ∧ ∃ v6_, ldv true 3 h4_ (⟨Array.size h, 0, none⟩) = some v6_ ∧ (∃ v7_, ldv false 1 h4_ (Addr.add a3 2) = some v7_ ∧ ∃ A8_, ∃ n8_, ∃ c8_, v7_ = (Value.slice A8_ n8_ c8_) ∧ Ext h4_ h4_ ∧ (Run Tryd.prog 29 #[v6_, (Value.slice A1 n1 c1), (Value.slice A2 n2 c2)] h4_ fun v9_ h10_ => ptrOk A8_ fun a11_ => 0 ≤ x41 ∧ x41 < ((n8_ : Nat) : Int) ∧ (∃ l13_ : List Value, v9_ = Value.agg l13_.toArray ∧ l13_.length = 3 ∧ ∃ h12_, stH h10_ (Addr.add a11_ (Int.toNat x41 * 3)) l13_ 0 = some h12_ ∧ f29.l0 R A1 n1 c1 A2 n2 c2 a3 a6 A39 n39 c39 x40 (IntKind.wrap .i64 (x41 + (1 : Int))) h12_))) ∧ (Run Tryd.prog 29 #[v6_, (Value.slice A1 n1 c1), (Value.slice A2 n2 c2)] h4_ fun v14_ h15_ => ∃ v16_, ldv false 1 h15_ (Addr.add a3 2) = some v16_ ∧ ∃ A17_, ∃ n17_, ∃ c17_, v16_ = (Value.slice A17_ n17_ c17_) ∧ Ext h15_ h15_ ∧ (ptrOk A17_ fun a18_ => 0 ≤ x41 ∧ x41 < ((n17_ : Nat) : Int) ∧ (∃ l20_ : List Value, v14_ = Value.agg l20_.toArray ∧ l20_.length = 3 ∧ ∃ h19_, stH h15_ (Addr.add a18_ (Int.toNat x41 * 3)) l20_ 0 = some h19_ ∧ f29.l0 R A1 n1 c1 A2 n2 c2 a3 a6 A39 n39 c39 x40 (IntKind.wrap .i64 (x41 + (1 : Int))) h19_))))) (∃ v21_, ldv true 3 h a3 = some v21_ ∧ ∃ l23_ : List Value, v21_ = Value.agg l23_.toArray ∧ l23_.length = 3 ∧ ∃ h22_, stH h a6 l23_ 0 = some h22_ ∧ ∃ v24_, ldv true 3 h22_ a6 = some v24_ ∧ R v24_ h22_)
set_option maxRecDepth 100000 in
theorem f29.l0_in {R : Value → Heap → Prop} {A1 : Option Addr} {n1 : Nat} {c1 : Nat} {A2 : Option Addr} {n2 : Nat} {c2 : Nat} {a3 : Addr} {a6 : Addr} {A39 : Option Addr} {n39 : Nat} {c39 : Nat} {x40 : Int} {x41 : Int} {h : Heap} (H : f29.l0T R A1 n1 c1 A2 n2 c2 a3 a6 A39 n39 c39 x40 x41 h) : f29.l0 R A1 n1 c1 A2 n2 c2 a3 a6 A39 n39 c39 x40 x41 h :=
  pt_intro mixed f29.good (Eq.mpr (show (Fwd Tryd.prog f29.T f29.kp Tryd.f29 R [false, false, true, false, true, true, true] (mkFr [(1, (Value.slice A1 n1 c1)), (2, (Value.slice A2 n2 c2)), (3, (Value.pointer (some a3))), (6, (Value.pointer (some a6))), (39, (Value.slice A39 n39 c39)), (40, (Value.int .i64 x40)), (41, (Value.int .i64 x41))]) h) = (f29.l0T R A1 n1 c1 A2 n2 c2 a3 a6 A39 n39 c39 x40 x41 h) by kernel_rfl) H)
set_option maxRecDepth 100000 in
def f29.runT (R : Value → Heap → Prop) (v0 : Value) (A1 : Option Addr) (n1 : Nat) (c1 : Nat) (A2 : Option Addr) (n2 : Nat) (c2 : Nat) (h : Heap) : Prop :=
  newH h (Obj.cells ((v0).cells) 25) fun h1_ => newH h1_ (Obj.cells #[(Value.int .i64 (0 : Int)), (Value.string (ByteArray.mk #[])), (Value.slice none 0 0)] 25) fun h2_ => ∃ v3_, ldv false 1 h2_ (⟨Array.size h, 0, none⟩) = some v3_ ∧ ∃ x4_, v3_ = (Value.int .i64 x4_) ∧ splitB (x4_ == (5 : Int)) (∃ v5_, ldv false 1 h2_ (Addr.add (⟨Array.size h, 0, none⟩) 1) = some v5_ ∧ ∃ s6_, v5_ = (Value.string s6_) ∧ Run Tryd.prog 33 #[(Value.slice A1 n1 c1), (Value.string s6_)] h2_ fun v7_ h8_ => ∃ x9_, v7_ = (Value.int .i64 x9_) ∧ splitB (decide (x9_ ≥ (0 : Int))) (f29.j1 R A1 n1 c1 A2 n2 c2 (⟨Array.size h, 0, none⟩) (⟨Array.size h1_, 0, none⟩) x9_ (decide (x9_ < ((n2 : Nat) : Int))) h8_) (f29.j1 R A1 n1 c1 A2 n2 c2 (⟨Array.size h, 0, none⟩) (⟨Array.size h1_, 0, none⟩) x9_ false h8_)) (f29.j0 R A1 n1 c1 A2 n2 c2 (⟨Array.size h, 0, none⟩) (⟨Array.size h1_, 0, none⟩) h2_)
set_option maxRecDepth 100000 in
theorem f29.run {R : Value → Heap → Prop} {v0 : Value} {A1 : Option Addr} {n1 : Nat} {c1 : Nat} {A2 : Option Addr} {n2 : Nat} {c2 : Nat} {h : Heap} (H : f29.runT R v0 A1 n1 c1 A2 n2 c2 h) : Run Tryd.prog 29 #[v0, (Value.slice A1 n1 c1), (Value.slice A2 n2 c2)] h R :=
  run_of mixed Tryd.func29 (by kernel_rfl) (by kernel_rfl) f29.good (Eq.mpr (show (Fwd Tryd.prog f29.T f29.kp Tryd.f29 R [] (mkFr (argL [v0, (Value.slice A1 n1 c1), (Value.slice A2 n2 c2)] 0)) h) = (f29.runT R v0 A1 n1 c1 A2 n2 c2 h) by kernel_rfl) H)
def f30.T : Tab := { sh := tSh, tup := tTup, keep := [], plan := [] }
def f30.kp : Keep := []
theorem f30.good : goodCode Tryd.prog f30.T (rootOf Tryd.f30) = true := by kernel_rfl
set_option maxRecDepth 100000 in
def f30.runT (R : Value → Heap → Prop) (v0 : Value) (h : Heap) : Prop :=
  newH h (Obj.cells ((v0).cells) 25) fun h1_ => newH h1_ (Obj.cells #[(Value.int .i64 (0 : Int)), (Value.string (ByteArray.mk #[])), (Value.slice none 0 0)] 25) fun h2_ => ∃ v3_, ldv true 3 h2_ (⟨Array.size h, 0, none⟩) = some v3_ ∧ Run Tryd.prog 29 #[v3_, (Value.slice none 0 0), (Value.slice none 0 0)] h2_ fun v4_ h5_ => ∃ l7_ : List Value, v4_ = Value.agg l7_.toArray ∧ l7_.length = 3 ∧ ∃ h6_, stH h5_ (⟨Array.size h1_, 0, none⟩) l7_ 0 = some h6_ ∧ ∃ v8_, ldv true 3 h6_ (⟨Array.size h1_, 0, none⟩) = some v8_ ∧ R v8_ h6_
set_option maxRecDepth 100000 in
theorem f30.run {R : Value → Heap → Prop} {v0 : Value} {h : Heap} (H : f30.runT R v0 h) : Run Tryd.prog 30 #[v0] h R :=
  run_of mixed Tryd.func30 (by kernel_rfl) (by kernel_rfl) f30.good (Eq.mpr (show (Fwd Tryd.prog f30.T f30.kp Tryd.f30 R [] (mkFr (argL [v0] 0)) h) = (f30.runT R v0 h) by kernel_rfl) H)
def f11.T : Tab := { sh := tSh, tup := tTup, keep := [], plan := [] }
def f11.kp : Keep := []
theorem f11.good : goodCode Tryd.prog f11.T (rootOf Tryd.f11) = true := by kernel_rfl
set_option maxRecDepth 100000 in
def f11.runT (R : Value → Heap → Prop) (v0 : Value) (h : Heap) : Prop :=
  newH h (Obj.cells ((v0).cells) 25) fun h1_ => newH h1_ (Obj.cells #[(Value.slice none 0 0), (Value.int .i64 (0 : Int)), (Value.string (ByteArray.mk #[])), (Value.slice none 0 0)] 27) fun h2_ => ∃ v3_, ldv true 3 h2_ (⟨Array.size h, 0, none⟩) = some v3_ ∧ Run Tryd.prog 30 #[v3_] h2_ fun v4_ h5_ => ∃ l6_ : List Value, v4_ = Value.agg l6_.toArray ∧ l6_.length = 3 ∧ (∃ l8_ : List Value, (Value.agg (List.take 1 ([(Value.slice none 0 0), (Value.int .i64 (0 : Int)), (Value.string (ByteArray.mk #[])), (Value.slice none 0 0)]) ++ l6_ ++ List.drop 4 ([(Value.slice none 0 0), (Value.int .i64 (0 : Int)), (Value.string (ByteArray.mk #[])), (Value.slice none 0 0)])).toArray) = Value.agg l8_.toArray ∧ l8_.length = 4 ∧ ∃ h7_, stH h5_ (⟨Array.size h1_, 0, none⟩) l8_ 0 = some h7_ ∧ ∃ v9_, ldv true 4 h7_ (⟨Array.size h1_, 0, none⟩) = some v9_ ∧ R v9_ h7_)
set_option maxRecDepth 100000 in
theorem f11.run {R : Value → Heap → Prop} {v0 : Value} {h : Heap} (H : f11.runT R v0 h) : Run Tryd.prog 11 #[v0] h R :=
  run_of mixed Tryd.func11 (by kernel_rfl) (by kernel_rfl) f11.good (Eq.mpr (show (Fwd Tryd.prog f11.T f11.kp Tryd.f11 R [] (mkFr (argL [v0] 0)) h) = (f11.runT R v0 h) by kernel_rfl) H)
def f9.T : Tab := { sh := tSh, tup := tTup, keep := [], plan := [] }
def f9.kp : Keep := [([false, false, true, false, true, true], [3, 4, 5, 11, 12, 13]), ([false, false, true, false, true, true, true, true], [4, 5, 8, 25, 26, 27])]
theorem f9.good : goodCode Tryd.prog f9.T (rootOf Tryd.f9) = true := by kernel_rfl
def f9.l0 (R : Value → Heap → Prop) (a3 : Addr) (a4 : Addr) (A5 : Option Addr) (n5 : Nat) (c5 : Nat) (A11 : Option Addr) (n11 : Nat) (c11 : Nat) (x12 : Int) (x13 : Int) (h : Heap) : Prop := Pt Tryd.prog Tryd.f9 R [false, false, true, false, true, true] (mkFr [(3, (Value.pointer (some a3))), (4, (Value.pointer (some a4))), (5, (Value.slice A5 n5 c5)), (11, (Value.slice A11 n11 c11)), (12, (Value.int .i64 x12)), (13, (Value.int .i64 x13))]) h
def f9.l1 (R : Value → Heap → Prop) (a4 : Addr) (A5 : Option Addr) (n5 : Nat) (c5 : Nat) (a8 : Addr) (A25 : Option Addr) (n25 : Nat) (c25 : Nat) (x26 : Int) (x27 : Int) (h : Heap) : Prop := Pt Tryd.prog Tryd.f9 R [false, false, true, false, true, true, true, true] (mkFr [(4, (Value.pointer (some a4))), (5, (Value.slice A5 n5 c5)), (8, (Value.pointer (some a8))), (25, (Value.slice A25 n25 c25)), (26, (Value.int .i64 x26)), (27, (Value.int .i64 x27))]) h
set_option maxRecDepth 100000 in
def f9.l0T (R : Value → Heap → Prop) (a3 : Addr) (a4 : Addr) (A5 : Option Addr) (n5 : Nat) (c5 : Nat) (A11 : Option Addr) (n11 : Nat) (c11 : Nat) (x12 : Int) (x13 : Int) (h : Heap) : Prop :=
  splitB (decide (x13 < x12)) (ptrOk A11 fun a1_ => 0 ≤ x13 ∧ x13 < ((n11 : Nat) : Int) ∧ (∃ v2_, ldv true 4 h (Addr.add a1_ (Int.toNat x13 * 4)) = some v2_ ∧ newH h (Obj.cells #[(Value.slice none 0 0), (Value.int .i64 (0 : Int)), (Value.string (ByteArray.mk #[])), (Value.slice none 0 0)] 27) fun h3_ => ∃ l5_ : List Value, v2_ = Value.agg l5_.toArray ∧ l5_.length = 4 ∧ ∃ h4_, stH h3_ (⟨Array.size h, 0, none⟩) l5_ 0 = some h4_ ∧ ∃ v6_, ldv true 4 h4_ (⟨Array.size h, 0, none⟩) = some v6_ ∧ Run Tryd.prog 8 #[v6_] h4_ fun v7_ h8_ => ∃ A9_, ∃ n9_, ∃ c9_, v7_ = (Value.slice A9_ n9_ c9_) ∧ AppW 9 1 16 #[(Value.string (ByteArray.mk #[]))] A5 n5 c5 (Value.slice A9_ n9_ c9_) h8_ fun v10_ h11_ => ∃ A12_, ∃ n12_, ∃ c12_, v10_ = (Value.slice A12_ n12_ c12_) ∧ f9.l0 R a3 a4 A12_ n12_ c12_ A11 n11 c11 x12 (IntKind.wrap .i64 (x13 + (1 : Int))) h11_)) (∃ v13_, ldv true 3 h a3 = some v13_ ∧ Run Tryd.prog 11 #[v13_] h fun v14_ h15_ => newH h15_ (Obj.cells #[(Value.slice none 0 0), (Value.int .i64 (0 : Int)), (Value.string (ByteArray.mk #[])), (Value.slice none 0 0)] 27) fun h16_ => ∃ l18_ : List Value, v14_ = Value.agg l18_.toArray ∧ l18_.length = 4 ∧ ∃ h17_, stH h16_ (⟨Array.size h15_, 0, none⟩) l18_ 0 = some h17_ ∧ ∃ v19_, ldv true 3 h17_ a3 = some v19_ ∧ Run Tryd.prog 34 #[v19_] h17_ fun v20_ h21_ => ∃ A22_, ∃ n22_, ∃ c22_, v20_ = (Value.slice A22_ n22_ c22_) ∧ f9.l1 R a4 A5 n5 c5 (⟨Array.size h15_, 0, none⟩) A22_ n22_ c22_ ((n22_ : Nat) : Int) (0 : Int) h21_)
set_option maxRecDepth 100000 in
theorem f9.l0_in {R : Value → Heap → Prop} {a3 : Addr} {a4 : Addr} {A5 : Option Addr} {n5 : Nat} {c5 : Nat} {A11 : Option Addr} {n11 : Nat} {c11 : Nat} {x12 : Int} {x13 : Int} {h : Heap} (H : f9.l0T R a3 a4 A5 n5 c5 A11 n11 c11 x12 x13 h) : f9.l0 R a3 a4 A5 n5 c5 A11 n11 c11 x12 x13 h :=
  pt_intro mixed f9.good (Eq.mpr (show (Fwd Tryd.prog f9.T f9.kp Tryd.f9 R [false, false, true, false, true, true] (mkFr [(3, (Value.pointer (some a3))), (4, (Value.pointer (some a4))), (5, (Value.slice A5 n5 c5)), (11, (Value.slice A11 n11 c11)), (12, (Value.int .i64 x12)), (13, (Value.int .i64 x13))]) h) = (f9.l0T R a3 a4 A5 n5 c5 A11 n11 c11 x12 x13 h) by kernel_rfl) H)
set_option maxRecDepth 100000 in
def f9.l1T (R : Value → Heap → Prop) (a4 : Addr) (A5 : Option Addr) (n5 : Nat) (c5 : Nat) (a8 : Addr) (A25 : Option Addr) (n25 : Nat) (c25 : Nat) (x26 : Int) (x27 : Int) (h : Heap) : Prop :=
  splitB (decide (x27 < x26)) (ptrOk A25 fun a1_ => 0 ≤ x27 ∧ x27 < ((n25 : Nat) : Int) ∧ (∃ v2_, ldv false 1 h (Addr.add a1_ (Int.toNat x27 * 1)) = some v2_ ∧ ∃ s3_, v2_ = (Value.string s3_) ∧ Run Tryd.prog 6 #[(Value.slice A5 n5 c5), (Value.string s3_)] h fun v4_ h5_ => ∃ b6_, v4_ = (Value.bool b6_) ∧ splitB (!b6_) (∃ v7_, ldv false 1 h5_ a8 = some v7_ ∧ ∃ A8_, ∃ n8_, ∃ c8_, v7_ = (Value.slice A8_ n8_ c8_) ∧ newH h5_ (Obj.cells #[(Value.string s3_)] 9) fun h9_ => AppW 9 1 16 #[(Value.string (ByteArray.mk #[]))] A8_ n8_ c8_ (Value.slice (some ⟨Array.size h5_, 0, none⟩) 1 1) h9_ fun v10_ h11_ => ∃ A12_, ∃ n12_, ∃ c12_, v10_ = (Value.slice A12_ n12_ c12_) ∧ ∃ h13_, st1 h11_ a8 (Value.slice A12_ n12_ c12_) = some h13_ ∧ f9.l1 R a4 A5 n5 c5 a8 A25 n25 c25 x26 (IntKind.wrap .i64 (x27 + (1 : Int))) h13_) (f9.l1 R a4 A5 n5 c5 a8 A25 n25 c25 x26 (IntKind.wrap .i64 (x27 + (1 : Int))) h5_))) (∃ v14_, ldv true 4 h a8 = some v14_ ∧ ∃ l16_ : List Value, v14_ = Value.agg l16_.toArray ∧ l16_.length = 4 ∧ ∃ h15_, stH h a4 l16_ 0 = some h15_ ∧ ∃ v17_, ldv true 4 h15_ a4 = some v17_ ∧ R v17_ h15_)
set_option maxRecDepth 100000 in
theorem f9.l1_in {R : Value → Heap → Prop} {a4 : Addr} {A5 : Option Addr} {n5 : Nat} {c5 : Nat} {a8 : Addr} {A25 : Option Addr} {n25 : Nat} {c25 : Nat} {x26 : Int} {x27 : Int} {h : Heap} (H : f9.l1T R a4 A5 n5 c5 a8 A25 n25 c25 x26 x27 h) : f9.l1 R a4 A5 n5 c5 a8 A25 n25 c25 x26 x27 h :=
  pt_intro mixed f9.good (Eq.mpr (show (Fwd Tryd.prog f9.T f9.kp Tryd.f9 R [false, false, true, false, true, true, true, true] (mkFr [(4, (Value.pointer (some a4))), (5, (Value.slice A5 n5 c5)), (8, (Value.pointer (some a8))), (25, (Value.slice A25 n25 c25)), (26, (Value.int .i64 x26)), (27, (Value.int .i64 x27))]) h) = (f9.l1T R a4 A5 n5 c5 a8 A25 n25 c25 x26 x27 h) by kernel_rfl) H)
set_option maxRecDepth 100000 in
def f9.runT (R : Value → Heap → Prop) (A0 : Option Addr) (n0 : Nat) (c0 : Nat) (v1 : Value) (h : Heap) : Prop :=
  newH h (Obj.cells ((v1).cells) 25) fun h1_ => newH h1_ (Obj.cells #[(Value.slice none 0 0), (Value.int .i64 (0 : Int)), (Value.string (ByteArray.mk #[])), (Value.slice none 0 0)] 27) fun h2_ => f9.l0 R (⟨Array.size h, 0, none⟩) (⟨Array.size h1_, 0, none⟩) none 0 0 A0 n0 c0 ((n0 : Nat) : Int) (0 : Int) h2_
set_option maxRecDepth 100000 in
theorem f9.run {R : Value → Heap → Prop} {A0 : Option Addr} {n0 : Nat} {c0 : Nat} {v1 : Value} {h : Heap} (H : f9.runT R A0 n0 c0 v1 h) : Run Tryd.prog 9 #[(Value.slice A0 n0 c0), v1] h R :=
  run_of mixed Tryd.func9 (by kernel_rfl) (by kernel_rfl) f9.good (Eq.mpr (show (Fwd Tryd.prog f9.T f9.kp Tryd.f9 R [] (mkFr (argL [(Value.slice A0 n0 c0), v1] 0)) h) = (f9.runT R A0 n0 c0 v1 h) by kernel_rfl) H)
def f35.T : Tab := { sh := tSh, tup := tTup, keep := [], plan := [] }
def f35.kp : Keep := [([false, false, true, false, true, true], [3, 6, 7, 8])]
theorem f35.good : goodCode Tryd.prog f35.T (rootOf Tryd.f35) = true := by kernel_rfl
def f35.l0 (R : Value → Heap → Prop) (s3 : ByteArray) (A6 : Option Addr) (n6 : Nat) (c6 : Nat) (x7 : Int) (x8 : Int) (h : Heap) : Prop := Pt Tryd.prog Tryd.f35 R [false, false, true, false, true, true] (mkFr [(3, (Value.string s3)), (6, (Value.slice A6 n6 c6)), (7, (Value.int .i64 x7)), (8, (Value.int .i64 x8))]) h
set_option maxRecDepth 100000 in
def f35.l0T (R : Value → Heap → Prop) (s3 : ByteArray) (A6 : Option Addr) (n6 : Nat) (c6 : Nat) (x7 : Int) (x8 : Int) (h : Heap) : Prop :=
  splitB (decide (x8 < x7)) (ptrOk A6 fun a1_ => 0 ≤ x8 ∧ x8 < ((n6 : Nat) : Int) ∧ (∃ v2_, ldv false 1 h (Addr.add a1_ (Int.toNat x8 * 1)) = some v2_ ∧ ∃ x3_, v2_ = (Value.int .i64 x3_) ∧ Run Tryd.prog 16 #[(Value.int .i64 x3_)] h fun v4_ h5_ => ∃ s6_, v4_ = (Value.string s6_) ∧ ByteArray.size s6_ + ByteArray.size (ByteArray.mk #[44]) ≤ 9223372036854775807 ∧ (ByteArray.size s3 + ByteArray.size (s6_ ++ (ByteArray.mk #[44])) ≤ 9223372036854775807 ∧ (f35.l0 R (s3 ++ (s6_ ++ (ByteArray.mk #[44]))) A6 n6 c6 x7 (IntKind.wrap .i64 (x8 + (1 : Int))) h5_)))) (R (Value.string s3) h)
set_option maxRecDepth 100000 in
theorem f35.l0_in {R : Value → Heap → Prop} {s3 : ByteArray} {A6 : Option Addr} {n6 : Nat} {c6 : Nat} {x7 : Int} {x8 : Int} {h : Heap} (H : f35.l0T R s3 A6 n6 c6 x7 x8 h) : f35.l0 R s3 A6 n6 c6 x7 x8 h :=
  pt_intro mixed f35.good (Eq.mpr (show (Fwd Tryd.prog f35.T f35.kp Tryd.f35 R [false, false, true, false, true, true] (mkFr [(3, (Value.string s3)), (6, (Value.slice A6 n6 c6)), (7, (Value.int .i64 x7)), (8, (Value.int .i64 x8))]) h) = (f35.l0T R s3 A6 n6 c6 x7 x8 h) by kernel_rfl) H)
set_option maxRecDepth 100000 in
def f35.runT (R : Value → Heap → Prop) (A0 : Option Addr) (n0 : Nat) (c0 : Nat) (h : Heap) : Prop :=
  f35.l0 R (ByteArray.mk #[]) A0 n0 c0 ((n0 : Nat) : Int) (0 : Int) h
set_option maxRecDepth 100000 in
theorem f35.run {R : Value → Heap → Prop} {A0 : Option Addr} {n0 : Nat} {c0 : Nat} {h : Heap} (H : f35.runT R A0 n0 c0 h) : Run Tryd.prog 35 #[(Value.slice A0 n0 c0)] h R :=
  run_of mixed Tryd.func35 (by kernel_rfl) (by kernel_rfl) f35.good (Eq.mpr (show (Fwd Tryd.prog f35.T f35.kp Tryd.f35 R [] (mkFr (argL [(Value.slice A0 n0 c0)] 0)) h) = (f35.runT R A0 n0 c0 h) by kernel_rfl) H)
def f36.T : Tab := { sh := tSh, tup := tTup, keep := [], plan := [] }
def f36.kp : Keep := [([false, false, true, false, true, true], [3, 6, 7, 8])]
theorem f36.good : goodCode Tryd.prog f36.T (rootOf Tryd.f36) = true := by kernel_rfl
def f36.l0 (R : Value → Heap → Prop) (s3 : ByteArray) (A6 : Option Addr) (n6 : Nat) (c6 : Nat) (x7 : Int) (x8 : Int) (h : Heap) : Prop := Pt Tryd.prog Tryd.f36 R [false, false, true, false, true, true] (mkFr [(3, (Value.string s3)), (6, (Value.slice A6 n6 c6)), (7, (Value.int .i64 x7)), (8, (Value.int .i64 x8))]) h
set_option maxRecDepth 100000 in
def f36.l0T (R : Value → Heap → Prop) (s3 : ByteArray) (A6 : Option Addr) (n6 : Nat) (c6 : Nat) (x7 : Int) (x8 : Int) (h : Heap) : Prop :=
  splitB (decide (x8 < x7)) (ptrOk A6 fun a1_ => 0 ≤ x8 ∧ x8 < ((n6 : Nat) : Int) ∧ (∃ v2_, ldv false 1 h (Addr.add a1_ (Int.toNat x8 * 1)) = some v2_ ∧ ∃ s3_, v2_ = (Value.string s3_) ∧ newH h (Obj.cells #[(Value.int .i64 ((ByteArray.size s3_ : Nat) : Int))] 3) fun h4_ => Run Tryd.prog 35 #[(Value.slice (some ⟨Array.size h, 0, none⟩) 1 1)] h4_ fun v5_ h6_ => ∃ s7_, v5_ = (Value.string s7_) ∧ ByteArray.size s7_ + ByteArray.size s3_ ≤ 9223372036854775807 ∧ (ByteArray.size s3 + ByteArray.size (s7_ ++ s3_) ≤ 9223372036854775807 ∧ (f36.l0 R (s3 ++ (s7_ ++ s3_)) A6 n6 c6 x7 (IntKind.wrap .i64 (x8 + (1 : Int))) h6_)))) (R (Value.string s3) h)
set_option maxRecDepth 100000 in
theorem f36.l0_in {R : Value → Heap → Prop} {s3 : ByteArray} {A6 : Option Addr} {n6 : Nat} {c6 : Nat} {x7 : Int} {x8 : Int} {h : Heap} (H : f36.l0T R s3 A6 n6 c6 x7 x8 h) : f36.l0 R s3 A6 n6 c6 x7 x8 h :=
  pt_intro mixed f36.good (Eq.mpr (show (Fwd Tryd.prog f36.T f36.kp Tryd.f36 R [false, false, true, false, true, true] (mkFr [(3, (Value.string s3)), (6, (Value.slice A6 n6 c6)), (7, (Value.int .i64 x7)), (8, (Value.int .i64 x8))]) h) = (f36.l0T R s3 A6 n6 c6 x7 x8 h) by kernel_rfl) H)
set_option maxRecDepth 100000 in
def f36.runT (R : Value → Heap → Prop) (A0 : Option Addr) (n0 : Nat) (c0 : Nat) (h : Heap) : Prop :=
  f36.l0 R (ByteArray.mk #[]) A0 n0 c0 ((n0 : Nat) : Int) (0 : Int) h
set_option maxRecDepth 100000 in
theorem f36.run {R : Value → Heap → Prop} {A0 : Option Addr} {n0 : Nat} {c0 : Nat} {h : Heap} (H : f36.runT R A0 n0 c0 h) : Run Tryd.prog 36 #[(Value.slice A0 n0 c0)] h R :=
  run_of mixed Tryd.func36 (by kernel_rfl) (by kernel_rfl) f36.good (Eq.mpr (show (Fwd Tryd.prog f36.T f36.kp Tryd.f36 R [] (mkFr (argL [(Value.slice A0 n0 c0)] 0)) h) = (f36.runT R A0 n0 c0 h) by kernel_rfl) H)
def f10.T : Tab := { sh := tSh, tup := tTup, keep := [], plan := [(1, (.take 0 (.take 2 (.take 7 (.take 1 (.take 3 (.take 4 (.alt false 5 (.alt false 6 (.eff true 8 (.eff true 9 (.eff false 10 (.take 11 (.take 12 .done))))) (.eff true 8 (.alt false 6 (.eff true 9 (.eff false 10 (.take 11 (.take 12 .done)))) (.eff true 9 (.eff false 6 (.eff false 10 (.take 11 (.take 12 .done)))))))) (.eff true 8 (.alt false 5 (.alt false 6 (.eff true 9 (.eff false 10 (.take 11 (.take 12 .done)))) (.eff true 9 (.eff false 6 (.eff false 10 (.take 11 (.take 12 .done)))))) (.eff true 9 (.eff false 5 (.eff false 6 (.eff false 10 (.take 11 (.take 12 .done))))))))))))))))] }
def f10.kp : Keep := [([true, true], [1, 3]), ([false, false, true, false, true, true], [3, 19, 20, 21])]
theorem f10.good : goodCode Tryd.prog f10.T (rootOf Tryd.f10) = true := by kernel_rfl
def f10.j0 (R : Value → Heap → Prop) (a1 : Addr) (s3 : ByteArray) (h : Heap) : Prop := Pt Tryd.prog Tryd.f10 R [true, true] (mkFr [(1, (Value.pointer (some a1))), (3, (Value.string s3))]) h
def f10.l0 (R : Value → Heap → Prop) (s3 : ByteArray) (A19 : Option Addr) (n19 : Nat) (c19 : Nat) (x20 : Int) (x21 : Int) (h : Heap) : Prop := Pt Tryd.prog Tryd.f10 R [false, false, true, false, true, true] (mkFr [(3, (Value.string s3)), (19, (Value.slice A19 n19 c19)), (20, (Value.int .i64 x20)), (21, (Value.int .i64 x21))]) h
set_option maxRecDepth 100000 in
def f10.j0T (R : Value → Heap → Prop) (a1 : Addr) (s3 : ByteArray) (h : Heap) : Prop :=
  ∃ v1_, ldv false 1 h (Addr.add a1 2) = some v1_ ∧ ∃ A2_, ∃ n2_, ∃ c2_, v1_ = (Value.slice A2_ n2_ c2_) ∧ f10.l0 R s3 A2_ n2_ c2_ ((n2_ : Nat) : Int) (0 : Int) h
set_option maxRecDepth 100000 in
theorem f10.j0_in {R : Value → Heap → Prop} {a1 : Addr} {s3 : ByteArray} {h : Heap} (H : f10.j0T R a1 s3 h) : f10.j0 R a1 s3 h :=
  pt_intro mixed f10.good (Eq.mpr (show (Fwd Tryd.prog f10.T f10.kp Tryd.f10 R [true, true] (mkFr [(1, (Value.pointer (some a1))), (3, (Value.string s3))]) h) = (f10.j0T R a1 s3 h) by kernel_rfl) H)
set_option maxRecDepth 100000 in
def f10.l0T (R : Value → Heap → Prop) (s3 : ByteArray) (A19 : Option Addr) (n19 : Nat) (c19 : Nat) (x20 : Int) (x21 : Int) (h : Heap) : Prop :=
  splitB (decide (x21 < x20)) (ptrOk A19 fun a1_ => 0 ≤ x21 ∧ x21 < ((n19 : Nat) : Int) ∧ (∃ v2_, ldv true 3 h (Addr.add a1_ (Int.toNat x21 * 3)) = some v2_ ∧ newH h (Obj.cells #[(Value.int .i64 (0 : Int)), (Value.string (ByteArray.mk #[])), (Value.slice none 0 0)] 25) fun h3_ => ∃ l5_ : List Value, v2_ = Value.agg l5_.toArray ∧ l5_.length = 3 ∧ ∃ h4_, stH h3_ (⟨Array.size h, 0, none⟩) l5_ 0 = some h4_ ∧ ∃ v6_, ldv true 3 h4_ (⟨Array.size h, 0, none⟩) = some v6_ ∧ Run Tryd.prog 10 #[v6_] h4_ fun v7_ h8_ => ∃ s9_, v7_ = (Value.string s9_) ∧ ByteArray.size s3 + ByteArray.size s9_ ≤ 9223372036854775807 ∧ (f10.l0 R (s3 ++ s9_) A19 n19 c19 x20 (IntKind.wrap .i64 (x21 + (1 : Int))) h8_))) (R (Value.string s3) h)
set_option maxRecDepth 100000 in
theorem f10.l0_in {R : Value → Heap → Prop} {s3 : ByteArray} {A19 : Option Addr} {n19 : Nat} {c19 : Nat} {x20 : Int} {x21 : Int} {h : Heap} (H : f10.l0T R s3 A19 n19 c19 x20 x21 h) : f10.l0 R s3 A19 n19 c19 x20 x21 h :=
  pt_intro mixed f10.good (Eq.mpr (show (Fwd Tryd.prog f10.T f10.kp Tryd.f10 R [false, false, true, false, true, true] (mkFr [(3, (Value.string s3)), (19, (Value.slice A19 n19 c19)), (20, (Value.int .i64 x20)), (21, (Value.int .i64 x21))]) h) = (f10.l0T R s3 A19 n19 c19 x20 x21 h) by kernel_rfl) H)
set_option maxRecDepth 100000 in
def f10.runT (R : Value → Heap → Prop) (v0 : Value) (h : Heap) : Prop :=
  newH h (Obj.cells ((v0).cells) 25) fun h1_ => ∃ v2_, ldv false 1 h1_ (⟨Array.size h, 0, none⟩) = some v2_ ∧ ∃ x3_, v2_ = (Value.int .i64 x3_) ∧ ∃ v4_, ldv false 1 h1_ (Addr.add (⟨Array.size h, 0, none⟩) 2) = some v4_ ∧ ∃ A5_, ∃ n5_, ∃ c5_, v4_ = (Value.slice A5_ n5_ c5_) ∧ (newH h1_ (Obj.cells #[(Value.int .i64 x3_), (Value.int .i64 ((n5_ : Nat) : Int))] 3) fun h6_ => (Run Tryd.prog 35 #[(Value.slice (some ⟨Array.size h1_, 0, none⟩) 2 2)] h6_ fun v7_ h8_ => ∃ s9_, v7_ = (Value.string s9_) ∧ ∃ v10_, ldv false 1 h8_ (Addr.add (⟨Array.size h, 0, none⟩) 1) = some v10_ ∧ ∃ s11_, v10_ = (Value.string s11_) ∧ Ext h8_ h8_ ∧ (newH h8_ (Obj.cells #[(Value.string s11_)] 9) fun h12_ => Ext h8_ h12_ ∧ (Run Tryd.prog 36 #[(Value.slice (some ⟨Array.size h8_, 0, none⟩) 1 1)] h12_ fun v13_ h14_ => ∃ s15_, v13_ = (Value.string s15_) ∧ ByteArray.size s9_ + ByteArray.size s15_ ≤ 9223372036854775807 ∧ (f10.j0 R (⟨Array.size h, 0, none⟩) (s9_ ++ s15_) h14_)))) ∧ (∃ v16_, ldv false 1 h6_ (Addr.add (⟨Array.size h, 0, none⟩) 1) = some v16_ ∧ ∃ s17_, v16_ = (Value.string s17_) ∧ Ext h6_ h6_ ∧ ((Run Tryd.prog 35 #[(Value.slice (some ⟨Array.size h1_, 0, none⟩) 2 2)] h6_ fun v18_ h19_ => ∃ s20_, v18_ = (Value.string s20_) ∧ newH h19_ (Obj.cells #[(Value.string s17_)] 9) fun h21_ => Ext h19_ h21_ ∧ (Run Tryd.prog 36 #[(Value.slice (some ⟨Array.size h19_, 0, none⟩) 1 1)] h21_ fun v22_ h23_ => ∃ s24_, v22_ = (Value.string s24_) ∧ ByteArray.size s20_ + ByteArray.size s24_ ≤ 9223372036854775807 ∧ (f10.j0 R (⟨Array.size h, 0, none⟩) (s20_ ++ s24_) h23_))) ∧ (newH h6_ (Obj.cells #[(Value.string s17_)] 9) fun h25_ => Ext h6_ h25_ ∧ (Run Tryd.prog 35 #[(Value.slice (some ⟨Array.size h1_, 0, none⟩) 2 2)] h25_ fun v26_ h27_ => ∃ s28_, v26_ = (Value.string s28_) ∧ Run Tryd.prog 36 #[(Value.slice (some ⟨Array.size h6_, 0, none⟩) 1 1)] h27_ fun v29_ h30_ => ∃ s31_, v29_ = (Value.string s31_) ∧ ByteArray.size s28_ + ByteArray.size s31_ ≤ 9223372036854775807 ∧ (f10.j0 R (⟨Array.size h, 0, none⟩) (s28_ ++ s31_) h30_)))))) ∧ (∃ v32_, ldv false 1 h1_ (Addr.add (⟨Array.size h, 0, none⟩) 1) = some v32_ ∧ ∃ s33_, v32_ = (Value.string s33_) ∧ Ext h1_ h1_ ∧ ((newH h1_ (Obj.cells #[(Value.int .i64 x3_), (Value.int .i64 ((n5_ : Nat) : Int))] 3) fun h34_ => (Run Tryd.prog 35 #[(Value.slice (some ⟨Array.size h1_, 0, none⟩) 2 2)] h34_ fun v35_ h36_ => ∃ s37_, v35_ = (Value.string s37_) ∧ newH h36_ (Obj.cells #[(Value.string s33_)] 9) fun h38_ => Ext h36_ h38_ ∧ (Run Tryd.prog 36 #[(Value.slice (some ⟨Array.size h36_, 0, none⟩) 1 1)] h38_ fun v39_ h40_ => ∃ s41_, v39_ = (Value.string s41_) ∧ ByteArray.size s37_ + ByteArray.size s41_ ≤ 9223372036854775807 ∧ (f10.j0 R (⟨Array.size h, 0, none⟩) (s37_ ++ s41_) h40_))) ∧ (newH h34_ (Obj.cells #[(Value.string s33_)] 9) fun h42_ => Ext h34_ h42_ ∧ (Run Tryd.prog 35 #[(Value.slice (some ⟨Array.size h1_, 0, none⟩) 2 2)] h42_ fun v43_ h44_ => ∃ s45_, v43_ = (Value.string s45_) ∧ Run Tryd.prog 36 #[(Value.slice (some ⟨Array.size h34_, 0, none⟩) 1 1)] h44_ fun v46_ h47_ => ∃ s48_, v46_ = (Value.string s48_) ∧ ByteArray.size s45_ + ByteArray.size s48_ ≤ 9223372036854775807 ∧ (f10.j0 R (⟨Array.size h, 0, none⟩) (s45_ ++ s48_) h47_)))) ∧ (newH h1_ (Obj.cells #[(Value.string s33_)] 9) fun h49_ => Ext h1_ h49_ ∧ (newH h49_ (Obj.cells #[(Value.int .i64 x3_), (Value.int .i64 ((n5_ : Nat) : Int))] 3) fun h50_ => Run Tryd.prog 35 #[(Value.slice (some ⟨Array.size h49_, 0, none⟩) 2 2)] h50_ fun v51_ h52_ => ∃ s53_, v51_ = (Value.string s53_) ∧ Run Tryd.prog 36 #[(Value.slice (some ⟨Array.size h1_, 0, none⟩) 1 1)] h52_ fun v54_ h55_ => ∃ s56_, v54_ = (Value.string s56_) ∧ ByteArray.size s53_ + ByteArray.size s56_ ≤ 9223372036854775807 ∧ (f10.j0 R (⟨Array.size h, 0, none⟩) (s53_ ++ s56_) h55_)))))
set_option maxRecDepth 100000 in
theorem f10.run {R : Value → Heap → Prop} {v0 : Value} {h : Heap} (H : f10.runT R v0 h) : Run Tryd.prog 10 #[v0] h R :=
  run_of mixed Tryd.func10 (by kernel_rfl) (by kernel_rfl) f10.good (Eq.mpr (show (Fwd Tryd.prog f10.T f10.kp Tryd.f10 R [] (mkFr (argL [v0] 0)) h) = (f10.runT R v0 h) by kernel_rfl) H)
def f12.T : Tab := { sh := tSh, tup := tTup, keep := [], plan := [] }
def f12.kp : Keep := []
theorem f12.good : goodCode Tryd.prog f12.T (rootOf Tryd.f12) = true := by kernel_rfl
set_option maxRecDepth 100000 in
def f12.runT (R : Value → Heap → Prop) (v0 : Value) (A1 : Option Addr) (n1 : Nat) (c1 : Nat) (h : Heap) : Prop :=
  newH h (Obj.cells ((v0).cells) 27) fun h1_ => newH h1_ (Obj.cells #[(Value.int .i64 (0 : Int)), (Value.string (ByteArray.mk #[])), (Value.slice none 0 0)] 25) fun h2_ => ∃ v3_, ldv false 1 h2_ (⟨Array.size h, 0, none⟩) = some v3_ ∧ ∃ A4_, ∃ n4_, ∃ c4_, v3_ = (Value.slice A4_ n4_ c4_) ∧ splitB (((n1 : Nat) : Int) != ((n4_ : Nat) : Int)) (∃ l6_ : List Value, (Value.agg #[(Value.int .i64 (0 : Int)), (Value.string (ByteArray.mk #[])), (Value.slice none 0 0)]) = Value.agg l6_.toArray ∧ l6_.length = 3 ∧ ∃ h5_, stH h2_ (⟨Array.size h1_, 0, none⟩) l6_ 0 = some h5_ ∧ ∃ v7_, ldv true 3 h5_ (⟨Array.size h1_, 0, none⟩) = some v7_ ∧ R (Value.tuple #[v7_, (Value.int .i64 (1 : Int))]) h5_) (∃ v8_, ldv true 3 h2_ (Addr.add (⟨Array.size h, 0, none⟩) 1) = some v8_ ∧ ∃ v9_, ldv false 1 h2_ (⟨Array.size h, 0, none⟩) = some v9_ ∧ ∃ A10_, ∃ n10_, ∃ c10_, v9_ = (Value.slice A10_ n10_ c10_) ∧ Run Tryd.prog 29 #[v8_, (Value.slice A10_ n10_ c10_), (Value.slice A1 n1 c1)] h2_ fun v11_ h12_ => ∃ l14_ : List Value, v11_ = Value.agg l14_.toArray ∧ l14_.length = 3 ∧ ∃ h13_, stH h12_ (⟨Array.size h1_, 0, none⟩) l14_ 0 = some h13_ ∧ ∃ v15_, ldv true 3 h13_ (⟨Array.size h1_, 0, none⟩) = some v15_ ∧ R (Value.tuple #[v15_, (Value.int .i64 (0 : Int))]) h13_)
set_option maxRecDepth 100000 in
theorem f12.run {R : Value → Heap → Prop} {v0 : Value} {A1 : Option Addr} {n1 : Nat} {c1 : Nat} {h : Heap} (H : f12.runT R v0 A1 n1 c1 h) : Run Tryd.prog 12 #[v0, (Value.slice A1 n1 c1)] h R :=
  run_of mixed Tryd.func12 (by kernel_rfl) (by kernel_rfl) f12.good (Eq.mpr (show (Fwd Tryd.prog f12.T f12.kp Tryd.f12 R [] (mkFr (argL [v0, (Value.slice A1 n1 c1)] 0)) h) = (f12.runT R v0 A1 n1 c1 h) by kernel_rfl) H)
def f13.T : Tab := { sh := tSh, tup := tTup, keep := [], plan := [(8, (.take 0 (.take 3 (.take 4 (.take 1 (.take 2 (.eff true 5 (.eff true 6 (.eff false 7 (.take 8 (.eff false 9 .done)))))))))))] }
def f13.kp : Keep := [([true, false, true, true], [1, 2, 3, 6, 7, 27]), ([true, true, true], [1, 2, 3, 6]), ([false, false, true, false, true, true, true, true], [1, 2, 6, 8, 39, 40, 41])]
theorem f13.good : goodCode Tryd.prog f13.T (rootOf Tryd.f13) = true := by kernel_rfl
def f13.j1 (R : Value → Heap → Prop) (A1 : Option Addr) (n1 : Nat) (c1 : Nat) (A2 : Option Addr) (n2 : Nat) (c2 : Nat) (a3 : Addr) (a6 : Addr) (x7 : Int) (b27 : Bool) (h : Heap) : Prop := Pt Tryd.prog Tryd.f13 R [true, false, true, true] (mkFr [(1, (Value.slice A1 n1 c1)), (2, (Value.slice A2 n2 c2)), (3, (Value.pointer (some a3))), (6, (Value.pointer (some a6))), (7, (Value.int .i64 x7)), (27, (Value.bool b27))]) h
def f13.j0 (R : Value → Heap → Prop) (A1 : Option Addr) (n1 : Nat) (c1 : Nat) (A2 : Option Addr) (n2 : Nat) (c2 : Nat) (a3 : Addr) (a6 : Addr) (h : Heap) : Prop := Pt Tryd.prog Tryd.f13 R [true, true, true] (mkFr [(1, (Value.slice A1 n1 c1)), (2, (Value.slice A2 n2 c2)), (3, (Value.pointer (some a3))), (6, (Value.pointer (some a6)))]) h
def f13.l0 (R : Value → Heap → Prop) (A1 : Option Addr) (n1 : Nat) (c1 : Nat) (A2 : Option Addr) (n2 : Nat) (c2 : Nat) (a6 : Addr) (a8 : Addr) (A39 : Option Addr) (n39 : Nat) (c39 : Nat) (x40 : Int) (x41 : Int) (h : Heap) : Prop := Pt Tryd.prog Tryd.f13 R [false, false, true, false, true, true, true, true] (mkFr [(1, (Value.slice A1 n1 c1)), (2, (Value.slice A2 n2 c2)), (6, (Value.pointer (some a6))), (8, (Value.pointer (some a8))), (39, (Value.slice A39 n39 c39)), (40, (Value.int .i64 x40)), (41, (Value.int .i64 x41))]) h
set_option maxRecDepth 100000 in
def f13.j1T (R : Value → Heap → Prop) (A1 : Option Addr) (n1 : Nat) (c1 : Nat) (A2 : Option Addr) (n2 : Nat) (c2 : Nat) (a3 : Addr) (a6 : Addr) (x7 : Int) (b27 : Bool) (h : Heap) : Prop :=
  splitB b27 (ptrOk A2 fun a1_ => 0 ≤ x7 ∧ x7 < ((n2 : Nat) : Int) ∧ (∃ v2_, ldv true 3 h (Addr.add a1_ (Int.toNat x7 * 3)) = some v2_ ∧ Run Tryd.prog 13 #[v2_, (Value.slice none 0 0), (Value.slice none 0 0)] h fun v3_ h4_ => ∃ l6_ : List Value, v3_ = Value.agg l6_.toArray ∧ l6_.length = 3 ∧ ∃ h5_, stH h4_ a6 l6_ 0 = some h5_ ∧ ∃ v7_, ldv true 3 h5_ a6 = some v7_ ∧ R v7_ h5_)) (f13.j0 R A1 n1 c1 A2 n2 c2 a3 a6 h)
set_option maxRecDepth 100000 in
theorem f13.j1_in {R : Value → Heap → Prop} {A1 : Option Addr} {n1 : Nat} {c1 : Nat} {A2 : Option Addr} {n2 : Nat} {c2 : Nat} {a3 : Addr} {a6 : Addr} {x7 : Int} {b27 : Bool} {h : Heap} (H : f13.j1T R A1 n1 c1 A2 n2 c2 a3 a6 x7 b27 h) : f13.j1 R A1 n1 c1 A2 n2 c2 a3 a6 x7 b27 h :=
  pt_intro mixed f13.good (Eq.mpr (show (Fwd Tryd.prog f13.T f13.kp Tryd.f13 R [true, false, true, true] (mkFr [(1, (Value.slice A1 n1 c1)), (2, (Value.slice A2 n2 c2)), (3, (Value.pointer (some a3))), (6, (Value.pointer (some a6))), (7, (Value.int .i64 x7)), (27, (Value.bool b27))]) h) = (f13.j1T R A1 n1 c1 A2 n2 c2 a3 a6 x7 b27 h) by kernel_rfl) H)
set_option maxRecDepth 100000 in
def f13.j0T (R : Value → Heap → Prop) (A1 : Option Addr) (n1 : Nat) (c1 : Nat) (A2 : Option Addr) (n2 : Nat) (c2 : Nat) (a3 : Addr) (a6 : Addr) (h : Heap) : Prop :=
  ∃ v1_, ldv false 1 h a3 = some v1_ ∧ ∃ x2_, v1_ = (Value.int .i64 x2_) ∧ ∃ v3_, ldv false 1 h (Addr.add a3 1) = some v3_ ∧ ∃ s4_, v3_ = (Value.string s4_) ∧ newH h (Obj.cells #[(Value.int .i64 (0 : Int)), (Value.string (ByteArray.mk #[])), (Value.slice none 0 0)] 25) fun h5_ => ∃ l7_ : List Value, (Value.agg #[(Value.int .i64 x2_), (Value.string s4_), (Value.slice none 0 0)]) = Value.agg l7_.toArray ∧ l7_.length = 3 ∧ ∃ h6_, stH h5_ (⟨Array.size h, 0, none⟩) l7_ 0 = some h6_ ∧ ∃ v8_, ldv false 1 h6_ (Addr.add a3 2) = some v8_ ∧ ∃ A9_, ∃ n9_, ∃ c9_, v8_ = (Value.slice A9_ n9_ c9_) ∧ f13.l0 R A1 n1 c1 A2 n2 c2 a6 (⟨Array.size h, 0, none⟩) A9_ n9_ c9_ ((n9_ : Nat) : Int) (0 : Int) h6_
set_option maxRecDepth 100000 in
theorem f13.j0_in {R : Value → Heap → Prop} {A1 : Option Addr} {n1 : Nat} {c1 : Nat} {A2 : Option Addr} {n2 : Nat} {c2 : Nat} {a3 : Addr} {a6 : Addr} {h : Heap} (H : f13.j0T R A1 n1 c1 A2 n2 c2 a3 a6 h) : f13.j0 R A1 n1 c1 A2 n2 c2 a3 a6 h :=
  pt_intro mixed f13.good (Eq.mpr (show (Fwd Tryd.prog f13.T f13.kp Tryd.f13 R [true, true, true] (mkFr [(1, (Value.slice A1 n1 c1)), (2, (Value.slice A2 n2 c2)), (3, (Value.pointer (some a3))), (6, (Value.pointer (some a6)))]) h) = (f13.j0T R A1 n1 c1 A2 n2 c2 a3 a6 h) by kernel_rfl) H)
set_option maxRecDepth 100000 in
def f13.l0T (R : Value → Heap → Prop) (A1 : Option Addr) (n1 : Nat) (c1 : Nat) (A2 : Option Addr) (n2 : Nat) (c2 : Nat) (a6 : Addr) (a8 : Addr) (A39 : Option Addr) (n39 : Nat) (c39 : Nat) (x40 : Int) (x41 : Int) (h : Heap) : Prop :=
  splitB (decide (x41 < x40)) (ptrOk A39 fun a1_ => 0 ≤ x41 ∧ x41 < ((n39 : Nat) : Int) ∧ (∃ v2_, ldv true 3 h (Addr.add a1_ (Int.toNat x41 * 3)) = some v2_ ∧ newH h (Obj.cells #[(Value.int .i64 (0 : Int)), (Value.string (ByteArray.mk #[])), (Value.slice none 0 0)] 25) fun h3_ => ∃ l5_ : List Value, v2_ = Value.agg l5_.toArray ∧ l5_.length = 3 ∧ ∃ h4_, stH h3_ (⟨Array.size h, 0, none⟩) l5_ 0 = some h4_ ∧ ∃ v6_, ldv false 1 h4_ (Addr.add a8 2) = some v6_ ∧ ∃ A7_, ∃ n7_, ∃ c7_, v6_ = (Value.slice A7_ n7_ c7_) ∧ ∃ v8_, ldv true 3 h4_ (⟨Array.size h, 0, none⟩) = some v8_ ∧ Run Tryd.prog 13 #[v8_, (Value.slice A1 n1 c1), (Value.slice A2 n2 c2)] h4_ fun v9_ h10_ => Ext h4_ h10_ ∧ (∃ l11_ : List Value, v9_ = Value.agg l11_.toArray ∧ l11_.length = 3 ∧ (newH h10_ (Obj.cells ((List.take 0 ([(Value.int .i64 (0 : Int)), (Value.string (ByteArray.mk #[])), (Value.slice none 0 0)]) ++ l11_ ++ List.drop 3 ([(Value.int .i64 (0 : Int)), (Value.string (ByteArray.mk #[])), (Value.slice none 0 0)])).toArray) 25) fun h12_ => Ext h10_ h12_ ∧ (AppW 25 3 48 #[(Value.int .i64 (0 : Int)), (Value.string (ByteArray.mk #[])), (Value.slice none 0 0)] A7_ n7_ c7_ (Value.slice (some ⟨Array.size h10_, 0, none⟩) 1 1) h12_ fun v13_ h14_ => ∃ A15_, ∃ n15_, ∃ c15_, v13_ = (Value.slice A15_ n15_ c15_) ∧ ∃ h16_, st1 h14_ (Addr.add a8 2) (Value.slice A15_ n15_ c15_) = some h16_ ∧ f13.l0 R A1 n1 c1 A2 n2 c2 a6 a8 A39 n39 c39 x40 (IntKind.wrap .i64 (x41 + (1 : Int))) h16_))))) (∃ v17_, ldv true 3 h a8 = some v17_ ∧ ∃ l19_ : List Value, v17_ = Value.agg l19_.toArray ∧ l19_.length = 3 ∧ ∃ h18_, stH h a6 l19_ 0 = some h18_ ∧ ∃ v20_, ldv true 3 h18_ a6 = some v20_ ∧ R v20_ h18_)
set_option maxRecDepth 100000 in
theorem f13.l0_in {R : Value → Heap → Prop} {A1 : Option Addr} {n1 : Nat} {c1 : Nat} {A2 : Option Addr} {n2 : Nat} {c2 : Nat} {a6 : Addr} {a8 : Addr} {A39 : Option Addr} {n39 : Nat} {c39 : Nat} {x40 : Int} {x41 : Int} {h : Heap} (H : f13.l0T R A1 n1 c1 A2 n2 c2 a6 a8 A39 n39 c39 x40 x41 h) : f13.l0 R A1 n1 c1 A2 n2 c2 a6 a8 A39 n39 c39 x40 x41 h :=
  pt_intro mixed f13.good (Eq.mpr (show (Fwd Tryd.prog f13.T f13.kp Tryd.f13 R [false, false, true, false, true, true, true, true] (mkFr [(1, (Value.slice A1 n1 c1)), (2, (Value.slice A2 n2 c2)), (6, (Value.pointer (some a6))), (8, (Value.pointer (some a8))), (39, (Value.slice A39 n39 c39)), (40, (Value.int .i64 x40)), (41, (Value.int .i64 x41))]) h) = (f13.l0T R A1 n1 c1 A2 n2 c2 a6 a8 A39 n39 c39 x40 x41 h) by kernel_rfl) H)
set_option maxRecDepth 100000 in
def f13.runT (R : Value → Heap → Prop) (v0 : Value) (A1 : Option Addr) (n1 : Nat) (c1 : Nat) (A2 : Option Addr) (n2 : Nat) (c2 : Nat) (h : Heap) : Prop :=
  newH h (Obj.cells ((v0).cells) 25) fun h1_ => newH h1_ (Obj.cells #[(Value.int .i64 (0 : Int)), (Value.string (ByteArray.mk #[])), (Value.slice none 0 0)] 25) fun h2_ => ∃ v3_, ldv false 1 h2_ (Addr.add (⟨Array.size h, 0, none⟩) 1) = some v3_ ∧ ∃ s4_, v3_ = (Value.string s4_) ∧ Run Tryd.prog 33 #[(Value.slice A1 n1 c1), (Value.string s4_)] h2_ fun v5_ h6_ => ∃ x7_, v5_ = (Value.int .i64 x7_) ∧ ∃ v8_, ldv false 1 h6_ (⟨Array.size h, 0, none⟩) = some v8_ ∧ ∃ x9_, v8_ = (Value.int .i64 x9_) ∧ splitB (x9_ == (5 : Int)) (splitB (decide (x7_ ≥ (0 : Int))) (f13.j1 R A1 n1 c1 A2 n2 c2 (⟨Array.size h, 0, none⟩) (⟨Array.size h1_, 0, none⟩) x7_ (decide (x7_ < ((n2 : Nat) : Int))) h6_) (f13.j1 R A1 n1 c1 A2 n2 c2 (⟨Array.size h, 0, none⟩) (⟨Array.size h1_, 0, none⟩) x7_ false h6_)) (f13.j1 R A1 n1 c1 A2 n2 c2 (⟨Array.size h, 0, none⟩) (⟨Array.size h1_, 0, none⟩) x7_ false h6_)
set_option maxRecDepth 100000 in
theorem f13.run {R : Value → Heap → Prop} {v0 : Value} {A1 : Option Addr} {n1 : Nat} {c1 : Nat} {A2 : Option Addr} {n2 : Nat} {c2 : Nat} {h : Heap} (H : f13.runT R v0 A1 n1 c1 A2 n2 c2 h) : Run Tryd.prog 13 #[v0, (Value.slice A1 n1 c1), (Value.slice A2 n2 c2)] h R :=
  run_of mixed Tryd.func13 (by kernel_rfl) (by kernel_rfl) f13.good (Eq.mpr (show (Fwd Tryd.prog f13.T f13.kp Tryd.f13 R [] (mkFr (argL [v0, (Value.slice A1 n1 c1), (Value.slice A2 n2 c2)] 0)) h) = (f13.runT R v0 A1 n1 c1 A2 n2 c2 h) by kernel_rfl) H)
def f14.T : Tab := { sh := tSh, tup := tTup, keep := [], plan := [] }
def f14.kp : Keep := []
theorem f14.good : goodCode Tryd.prog f14.T (rootOf Tryd.f14) = true := by kernel_rfl
set_option maxRecDepth 100000 in
def f14.runT (R : Value → Heap → Prop) (x0 : Int) (x1 : Int) (h : Heap) : Prop :=
  x1 ≠ 0 ∧ (splitB (decide ((Int.tmod x0 x1) < (0 : Int))) (R (Value.int .i64 (IntKind.wrap .i64 ((Int.tmod x0 x1) + x1))) h) (R (Value.int .i64 (Int.tmod x0 x1)) h))
set_option maxRecDepth 100000 in
theorem f14.run {R : Value → Heap → Prop} {x0 : Int} {x1 : Int} {h : Heap} (H : f14.runT R x0 x1 h) : Run Tryd.prog 14 #[(Value.int .i64 x0), (Value.int .i64 x1)] h R :=
  run_of mixed Tryd.func14 (by kernel_rfl) (by kernel_rfl) f14.good (Eq.mpr (show (Fwd Tryd.prog f14.T f14.kp Tryd.f14 R [] (mkFr (argL [(Value.int .i64 x0), (Value.int .i64 x1)] 0)) h) = (f14.runT R x0 x1 h) by kernel_rfl) H)
def f17.T : Tab := { sh := tSh, tup := tTup, keep := [], plan := [] }
def f17.kp : Keep := []
theorem f17.good : goodCode Tryd.prog f17.T (rootOf Tryd.f17) = true := by kernel_rfl
set_option maxRecDepth 100000 in
def f17.runT (R : Value → Heap → Prop) (x0 : Int) (h : Heap) : Prop :=
  Run Tryd.prog 16 #[(Value.int .i64 x0)] h fun v1_ h2_ => ∃ s3_, v1_ = (Value.string s3_) ∧ ByteArray.size (ByteArray.mk #[63]) + ByteArray.size s3_ ≤ 9223372036854775807 ∧ (R (Value.string ((ByteArray.mk #[63]) ++ s3_)) h2_)
set_option maxRecDepth 100000 in
theorem f17.run {R : Value → Heap → Prop} {x0 : Int} {h : Heap} (H : f17.runT R x0 h) : Run Tryd.prog 17 #[(Value.int .i64 x0)] h R :=
  run_of mixed Tryd.func17 (by kernel_rfl) (by kernel_rfl) f17.good (Eq.mpr (show (Fwd Tryd.prog f17.T f17.kp Tryd.f17 R [] (mkFr (argL [(Value.int .i64 x0)] 0)) h) = (f17.runT R x0 h) by kernel_rfl) H)
def f15.T : Tab := { sh := tSh, tup := tTup, keep := [], plan := [(7, (.take 0 (.take 2 (.take 4 (.take 6 (.take 7 (.take 1 (.take 3 (.alt false 5 (.alt true 8 (.take 9 (.take 10 (.eff false 11 (.take 12 .done)))) (.eff false 11 (.eff true 8 (.take 9 (.take 10 (.take 12 .done)))))) (.eff true 8 (.take 9 (.take 10 (.eff false 5 (.eff false 11 (.take 12 .done)))))))))))))))] }
def f15.kp : Keep := [([false, false, true, false, true, true], [1, 2, 4, 6, 10, 11])]
theorem f15.good : goodCode Tryd.prog f15.T (rootOf Tryd.f15) = true := by kernel_rfl
def f15.l0 (R : Value → Heap → Prop) (x1 : Int) (a2 : Addr) (a4 : Addr) (A6 : Option Addr) (n6 : Nat) (c6 : Nat) (x10 : Int) (x11 : Int) (h : Heap) : Prop := Pt Tryd.prog Tryd.f15 R [false, false, true, false, true, true] (mkFr [(1, (Value.int .i64 x1)), (2, (Value.pointer (some a2))), (4, (Value.pointer (some a4))), (6, (Value.slice A6 n6 c6)), (10, (Value.int .i64 x10)), (11, (Value.int .i64 x11))]) h
set_option maxRecDepth 100000 in
def f15.l0T (R : Value → Heap → Prop) (x1 : Int) (a2 : Addr) (a4 : Addr) (A6 : Option Addr) (n6 : Nat) (c6 : Nat) (x10 : Int) (x11 : Int) (h : Heap) : Prop :=
  splitB (decide (x11 < x10)) (Run Tryd.prog 17 #[(Value.int .i64 (IntKind.wrap .i64 (x1 + x11)))] h fun v1_ h2_ => ∃ s3_, v1_ = (Value.string s3_) ∧ ∃ l4_ : List Value, (Value.agg #[(Value.int .i64 (5 : Int)), (Value.string s3_), (Value.slice none 0 0)]) = Value.agg l4_.toArray ∧ l4_.length = 3 ∧ (newH h2_ (Obj.cells ((List.take 0 ([(Value.int .i64 (0 : Int)), (Value.string (ByteArray.mk #[])), (Value.slice none 0 0)]) ++ l4_ ++ List.drop 3 ([(Value.int .i64 (0 : Int)), (Value.string (ByteArray.mk #[])), (Value.slice none 0 0)])).toArray) 25) fun h5_ => AppW 25 3 48 #[(Value.int .i64 (0 : Int)), (Value.string (ByteArray.mk #[])), (Value.slice none 0 0)] A6 n6 c6 (Value.slice (some ⟨Array.size h2_, 0, none⟩) 1 1) h5_ fun v6_ h7_ => ∃ A8_, ∃ n8_, ∃ c8_, v6_ = (Value.slice A8_ n8_ c8_) ∧ f15.l0 R x1 a2 a4 A8_ n8_ c8_ x10 (IntKind.wrap .i64 (x11 + (1 : Int))) h7_)) (∃ v9_, ldv true 3 h (Addr.add a2 1) = some v9_ ∧ ∃ v10_, ldv false 1 h a2 = some v10_ ∧ ∃ A11_, ∃ n11_, ∃ c11_, v10_ = (Value.slice A11_ n11_ c11_) ∧ (Run Tryd.prog 29 #[v9_, (Value.slice A11_ n11_ c11_), (Value.slice A6 n6 c6)] h fun v12_ h13_ => (∃ v14_, ldv false 1 h13_ a2 = some v14_ ∧ ∃ A15_, ∃ n15_, ∃ c15_, v14_ = (Value.slice A15_ n15_ c15_) ∧ Ext h13_ h13_ ∧ (∃ l17_ : List Value, v12_ = Value.agg l17_.toArray ∧ l17_.length = 3 ∧ ∃ h16_, stH h13_ a4 l17_ 0 = some h16_ ∧ ∃ v18_, ldv true 3 h16_ a4 = some v18_ ∧ R (Value.tuple #[v18_, (Value.int .i64 (IntKind.wrap .i64 (x1 + ((n15_ : Nat) : Int))))]) h16_)) ∧ (∃ l20_ : List Value, v12_ = Value.agg l20_.toArray ∧ l20_.length = 3 ∧ ∃ h19_, stH h13_ a4 l20_ 0 = some h19_ ∧ ∃ v21_, ldv false 1 h19_ a2 = some v21_ ∧ ∃ A22_, ∃ n22_, ∃ c22_, v21_ = (Value.slice A22_ n22_ c22_) ∧ Ext h19_ h19_ ∧ (∃ v23_, ldv true 3 h19_ a4 = some v23_ ∧ R (Value.tuple #[v23_, (Value.int .i64 (IntKind.wrap .i64 (x1 + ((n22_ : Nat) : Int))))]) h19_))) ∧ (∃ v24_, ldv false 1 h a2 = some v24_ ∧ ∃ A25_, ∃ n25_, ∃ c25_, v24_ = (Value.slice A25_ n25_ c25_) ∧ Ext h h ∧ (Run Tryd.prog 29 #[v9_, (Value.slice A11_ n11_ c11_), (Value.slice A6 n6 c6)] h fun v26_ h27_ => ∃ l29_ : List Value, v26_ = Value.agg l29_.toArray ∧ l29_.length = 3 ∧ ∃ h28_, stH h27_ a4 l29_ 0 = some h28_ ∧ ∃ v30_, ldv true 3 h28_ a4 = some v30_ ∧ R (Value.tuple #[v30_, (Value.int .i64 (IntKind.wrap .i64 (x1 + ((n25_ : Nat) : Int))))]) h28_)))
set_option maxRecDepth 100000 in
theorem f15.l0_in {R : Value → Heap → Prop} {x1 : Int} {a2 : Addr} {a4 : Addr} {A6 : Option Addr} {n6 : Nat} {c6 : Nat} {x10 : Int} {x11 : Int} {h : Heap} (H : f15.l0T R x1 a2 a4 A6 n6 c6 x10 x11 h) : f15.l0 R x1 a2 a4 A6 n6 c6 x10 x11 h :=
  pt_intro mixed f15.good (Eq.mpr (show (Fwd Tryd.prog f15.T f15.kp Tryd.f15 R [false, false, true, false, true, true] (mkFr [(1, (Value.int .i64 x1)), (2, (Value.pointer (some a2))), (4, (Value.pointer (some a4))), (6, (Value.slice A6 n6 c6)), (10, (Value.int .i64 x10)), (11, (Value.int .i64 x11))]) h) = (f15.l0T R x1 a2 a4 A6 n6 c6 x10 x11 h) by kernel_rfl) H)
set_option maxRecDepth 100000 in
def f15.runT (R : Value → Heap → Prop) (v0 : Value) (x1 : Int) (h : Heap) : Prop :=
  newH h (Obj.cells ((v0).cells) 27) fun h1_ => newH h1_ (Obj.cells #[(Value.int .i64 (0 : Int)), (Value.string (ByteArray.mk #[])), (Value.slice none 0 0)] 25) fun h2_ => ∃ v3_, ldv false 1 h2_ (⟨Array.size h, 0, none⟩) = some v3_ ∧ ∃ A4_, ∃ n4_, ∃ c4_, v3_ = (Value.slice A4_ n4_ c4_) ∧ f15.l0 R x1 (⟨Array.size h, 0, none⟩) (⟨Array.size h1_, 0, none⟩) none 0 0 ((n4_ : Nat) : Int) (0 : Int) h2_
set_option maxRecDepth 100000 in
theorem f15.run {R : Value → Heap → Prop} {v0 : Value} {x1 : Int} {h : Heap} (H : f15.runT R v0 x1 h) : Run Tryd.prog 15 #[v0, (Value.int .i64 x1)] h R :=
  run_of mixed Tryd.func15 (by kernel_rfl) (by kernel_rfl) f15.good (Eq.mpr (show (Fwd Tryd.prog f15.T f15.kp Tryd.f15 R [] (mkFr (argL [v0, (Value.int .i64 x1)] 0)) h) = (f15.runT R v0 x1 h) by kernel_rfl) H)
def f65.T : Tab := { sh := tSh, tup := tTup, keep := [], plan := [] }
def f65.kp : Keep := [([false, false, true, false, true, true], [1, 2, 15, 16, 17])]
theorem f65.good : goodCode Tryd.prog f65.T (rootOf Tryd.f65) = true := by kernel_rfl
def f65.l0 (R : Value → Heap → Prop) (A1 : Option Addr) (n1 : Nat) (c1 : Nat) (v2 : Value) (A15 : Option Addr) (n15 : Nat) (c15 : Nat) (x16 : Int) (x17 : Int) (h : Heap) : Prop := Pt Tryd.prog Tryd.f65 R [false, false, true, false, true, true] (mkFr [(1, (Value.slice A1 n1 c1)), (2, v2), (15, (Value.slice A15 n15 c15)), (16, (Value.int .i64 x16)), (17, (Value.int .i64 x17))]) h
set_option maxRecDepth 100000 in
def f65.l0T (R : Value → Heap → Prop) (A1 : Option Addr) (n1 : Nat) (c1 : Nat) (v2 : Value) (A15 : Option Addr) (n15 : Nat) (c15 : Nat) (x16 : Int) (x17 : Int) (h : Heap) : Prop :=
  splitB (decide (x17 < x16)) (ptrOk A15 fun a1_ => 0 ≤ x17 ∧ x17 < ((n15 : Nat) : Int) ∧ (∃ v2_, ldv true 3 h (Addr.add a1_ (Int.toNat x17 * 3)) = some v2_ ∧ newH h (Obj.cells #[(Value.int .i64 (0 : Int)), (Value.string (ByteArray.mk #[])), (Value.slice none 0 0)] 25) fun h3_ => ∃ l5_ : List Value, v2_ = Value.agg l5_.toArray ∧ l5_.length = 3 ∧ ∃ h4_, stH h3_ (⟨Array.size h, 0, none⟩) l5_ 0 = some h4_ ∧ ptrOk A1 fun a6_ => 0 ≤ x17 ∧ x17 < ((n1 : Nat) : Int) ∧ (∃ v7_, ldv true 3 h4_ (Addr.add a6_ (Int.toNat x17 * 3)) = some v7_ ∧ newH h4_ (Obj.cells #[(Value.int .i64 (0 : Int)), (Value.string (ByteArray.mk #[])), (Value.slice none 0 0)] 25) fun h8_ => ∃ l10_ : List Value, v7_ = Value.agg l10_.toArray ∧ l10_.length = 3 ∧ ∃ h9_, stH h8_ (⟨Array.size h4_, 0, none⟩) l10_ 0 = some h9_ ∧ ∃ v11_, ldv true 3 h9_ (⟨Array.size h, 0, none⟩) = some v11_ ∧ ∃ v12_, ldv true 3 h9_ (⟨Array.size h4_, 0, none⟩) = some v12_ ∧ CallF Tryd.prog v2 [v11_, v12_] h9_ fun v13_ h14_ => ∃ b15_, v13_ = (Value.bool b15_) ∧ splitB (!b15_) (R (Value.bool false) h14_) (f65.l0 R A1 n1 c1 v2 A15 n15 c15 x16 (IntKind.wrap .i64 (x17 + (1 : Int))) h14_)))) (R (Value.bool true) h)
set_option maxRecDepth 100000 in
theorem f65.l0_in {R : Value → Heap → Prop} {A1 : Option Addr} {n1 : Nat} {c1 : Nat} {v2 : Value} {A15 : Option Addr} {n15 : Nat} {c15 : Nat} {x16 : Int} {x17 : Int} {h : Heap} (H : f65.l0T R A1 n1 c1 v2 A15 n15 c15 x16 x17 h) : f65.l0 R A1 n1 c1 v2 A15 n15 c15 x16 x17 h :=
  pt_intro mixed f65.good (Eq.mpr (show (Fwd Tryd.prog f65.T f65.kp Tryd.f65 R [false, false, true, false, true, true] (mkFr [(1, (Value.slice A1 n1 c1)), (2, v2), (15, (Value.slice A15 n15 c15)), (16, (Value.int .i64 x16)), (17, (Value.int .i64 x17))]) h) = (f65.l0T R A1 n1 c1 v2 A15 n15 c15 x16 x17 h) by kernel_rfl) H)
set_option maxRecDepth 100000 in
def f65.runT (R : Value → Heap → Prop) (A0 : Option Addr) (n0 : Nat) (c0 : Nat) (A1 : Option Addr) (n1 : Nat) (c1 : Nat) (v2 : Value) (h : Heap) : Prop :=
  splitB (((n0 : Nat) : Int) != ((n1 : Nat) : Int)) (R (Value.bool false) h) (f65.l0 R A1 n1 c1 v2 A0 n0 c0 ((n0 : Nat) : Int) (0 : Int) h)
set_option maxRecDepth 100000 in
theorem f65.run {R : Value → Heap → Prop} {A0 : Option Addr} {n0 : Nat} {c0 : Nat} {A1 : Option Addr} {n1 : Nat} {c1 : Nat} {v2 : Value} {h : Heap} (H : f65.runT R A0 n0 c0 A1 n1 c1 v2 h) : Run Tryd.prog 65 #[(Value.slice A0 n0 c0), (Value.slice A1 n1 c1), v2] h R :=
  run_of mixed Tryd.func65 (by kernel_rfl) (by kernel_rfl) f65.good (Eq.mpr (show (Fwd Tryd.prog f65.T f65.kp Tryd.f65 R [] (mkFr (argL [(Value.slice A0 n0 c0), (Value.slice A1 n1 c1), v2] 0)) h) = (f65.runT R A0 n0 c0 A1 n1 c1 v2 h) by kernel_rfl) H)
def f52.T : Tab := { sh := tSh, tup := tTup, keep := [], plan := [] }
def f52.kp : Keep := []
theorem f52.good : goodCode Tryd.prog f52.T (rootOf Tryd.f52) = true := by kernel_rfl
set_option maxRecDepth 100000 in
theorem f52.ok : calleeOk Tryd.prog 52 = true := by kernel_rfl
set_option maxRecDepth 100000 in
def f52.runT (R : Value → Heap → Prop) (v0 : Value) (v1 : Value) (h : Heap) : Prop :=
  newH h (Obj.cells ((v0).cells) 25) fun h1_ => newH h1_ (Obj.cells ((v1).cells) 25) fun h2_ => ∃ v3_, ldv false 1 h2_ (⟨Array.size h, 0, none⟩) = some v3_ ∧ ∃ x4_, v3_ = (Value.int .i64 x4_) ∧ ∃ v5_, ldv false 1 h2_ (⟨Array.size h1_, 0, none⟩) = some v5_ ∧ ∃ x6_, v5_ = (Value.int .i64 x6_) ∧ splitB (x4_ == x6_) (∃ v7_, ldv false 1 h2_ (Addr.add (⟨Array.size h, 0, none⟩) 1) = some v7_ ∧ ∃ s8_, v7_ = (Value.string s8_) ∧ ∃ v9_, ldv false 1 h2_ (Addr.add (⟨Array.size h1_, 0, none⟩) 1) = some v9_ ∧ ∃ s10_, v9_ = (Value.string s10_) ∧ splitB (ByteArray.toList s8_ == ByteArray.toList s10_) (∃ v11_, ldv false 1 h2_ (Addr.add (⟨Array.size h, 0, none⟩) 2) = some v11_ ∧ ∃ A12_, ∃ n12_, ∃ c12_, v11_ = (Value.slice A12_ n12_ c12_) ∧ ∃ v13_, ldv false 1 h2_ (Addr.add (⟨Array.size h1_, 0, none⟩) 2) = some v13_ ∧ ∃ A14_, ∃ n14_, ∃ c14_, v13_ = (Value.slice A14_ n14_ c14_) ∧ Run Tryd.prog 65 #[(Value.slice A12_ n12_ c12_), (Value.slice A14_ n14_ c14_), (Value.func (.func 52) #[] #[])] h2_ fun v15_ h16_ => ∃ b17_, v15_ = (Value.bool b17_) ∧ R (Value.bool b17_) h16_) (R (Value.bool false) h2_)) (R (Value.bool false) h2_)
set_option maxRecDepth 100000 in
theorem f52.run {R : Value → Heap → Prop} {v0 : Value} {v1 : Value} {h : Heap} (H : f52.runT R v0 v1 h) : Run Tryd.prog 52 #[v0, v1] h R :=
  run_of mixed Tryd.func52 (by kernel_rfl) (by kernel_rfl) f52.good (Eq.mpr (show (Fwd Tryd.prog f52.T f52.kp Tryd.f52 R [] (mkFr (argL [v0, v1] 0)) h) = (f52.runT R v0 v1 h) by kernel_rfl) H)
def f38.T : Tab := { sh := tSh, tup := tTup, keep := [], plan := [(12, (.take 0 (.take 2 (.take 4 (.take 7 (.take 1 (.take 3 (.take 5 (.take 6 (.eff false 8 (.take 9 .done)))))))))))] }
def f38.kp : Keep := [([true, false, true], [0, 3, 5, 6, 21]), ([true, true], [0, 3, 5, 6]), ([true, true, true], [0, 3, 5, 6]), ([false, false, true, false, true, true, true], [0, 3, 6, 60, 61, 62])]
theorem f38.good : goodCode Tryd.prog f38.T (rootOf Tryd.f38) = true := by kernel_rfl
def f38.j1 (R : Value → Heap → Prop) (A0 : Option Addr) (n0 : Nat) (c0 : Nat) (v3 : Value) (a5 : Addr) (a6 : Addr) (b21 : Bool) (h : Heap) : Prop := Pt Tryd.prog Tryd.f38 R [true, false, true] (mkFr [(0, (Value.slice A0 n0 c0)), (3, v3), (5, (Value.pointer (some a5))), (6, (Value.pointer (some a6))), (21, (Value.bool b21))]) h
def f38.j0 (R : Value → Heap → Prop) (A0 : Option Addr) (n0 : Nat) (c0 : Nat) (v3 : Value) (a5 : Addr) (a6 : Addr) (h : Heap) : Prop := Pt Tryd.prog Tryd.f38 R [true, true] (mkFr [(0, (Value.slice A0 n0 c0)), (3, v3), (5, (Value.pointer (some a5))), (6, (Value.pointer (some a6)))]) h
def f38.j2 (R : Value → Heap → Prop) (A0 : Option Addr) (n0 : Nat) (c0 : Nat) (v3 : Value) (a5 : Addr) (a6 : Addr) (h : Heap) : Prop := Pt Tryd.prog Tryd.f38 R [true, true, true] (mkFr [(0, (Value.slice A0 n0 c0)), (3, v3), (5, (Value.pointer (some a5))), (6, (Value.pointer (some a6)))]) h
def f38.l0 (R : Value → Heap → Prop) (A0 : Option Addr) (n0 : Nat) (c0 : Nat) (v3 : Value) (a6 : Addr) (A60 : Option Addr) (n60 : Nat) (c60 : Nat) (x61 : Int) (x62 : Int) (h : Heap) : Prop := Pt Tryd.prog Tryd.f38 R [false, false, true, false, true, true, true] (mkFr [(0, (Value.slice A0 n0 c0)), (3, v3), (6, (Value.pointer (some a6))), (60, (Value.slice A60 n60 c60)), (61, (Value.int .i64 x61)), (62, (Value.int .i64 x62))]) h
set_option maxRecDepth 100000 in
def f38.j1T (R : Value → Heap → Prop) (A0 : Option Addr) (n0 : Nat) (c0 : Nat) (v3 : Value) (a5 : Addr) (a6 : Addr) (b21 : Bool) (h : Heap) : Prop :=
  splitB b21 (∃ v1_, ldv false 1 h (Addr.add a5 1) = some v1_ ∧ ∃ s2_, v1_ = (Value.string s2_) ∧ Gen Tryd.prog (Instr.lookup 77 v3 (Value.string s2_) true) h fun v3_ h4_ => ∃ v5_, ∃ b6_, v3_ = (Value.tuple #[v5_, (Value.bool b6_)]) ∧ newH h4_ (Obj.cells #[(Value.int .i64 (0 : Int)), (Value.string (ByteArray.mk #[])), (Value.slice none 0 0)] 25) fun h7_ => ∃ l9_ : List Value, v5_ = Value.agg l9_.toArray ∧ l9_.length = 3 ∧ ∃ h8_, stH h7_ (⟨Array.size h4_, 0, none⟩) l9_ 0 = some h8_ ∧ splitB (!b6_) (∃ v10_, ldv false 1 h8_ (Addr.add a5 1) = some v10_ ∧ ∃ s11_, v10_ = (Value.string s11_) ∧ ∃ v12_, ldv true 3 h8_ a6 = some v12_ ∧ Hwp Tryd.prog (Instr.mapUpdate 77 v3 (Value.string s11_) v12_) h8_ fun _ h13_ => R (Value.bool true) h13_) (∃ v14_, ldv true 3 h8_ (⟨Array.size h4_, 0, none⟩) = some v14_ ∧ ∃ v15_, ldv true 3 h8_ a6 = some v15_ ∧ Run Tryd.prog 52 #[v14_, v15_] h8_ fun v16_ h17_ => ∃ b18_, v16_ = (Value.bool b18_) ∧ R (Value.bool b18_) h17_)) (f38.j0 R A0 n0 c0 v3 a5 a6 h)
set_option maxRecDepth 100000 in
theorem f38.j1_in {R : Value → Heap → Prop} {A0 : Option Addr} {n0 : Nat} {c0 : Nat} {v3 : Value} {a5 : Addr} {a6 : Addr} {b21 : Bool} {h : Heap} (H : f38.j1T R A0 n0 c0 v3 a5 a6 b21 h) : f38.j1 R A0 n0 c0 v3 a5 a6 b21 h :=
  pt_intro mixed f38.good (Eq.mpr (show (Fwd Tryd.prog f38.T f38.kp Tryd.f38 R [true, false, true] (mkFr [(0, (Value.slice A0 n0 c0)), (3, v3), (5, (Value.pointer (some a5))), (6, (Value.pointer (some a6))), (21, (Value.bool b21))]) h) = (f38.j1T R A0 n0 c0 v3 a5 a6 b21 h) by kernel_rfl) H)
set_option maxRecDepth 100000 in
def f38.j0T (R : Value → Heap → Prop) (A0 : Option Addr) (n0 : Nat) (c0 : Nat) (v3 : Value) (a5 : Addr) (a6 : Addr) (h : Heap) : Prop :=
  ∃ v1_, ldv false 1 h a5 = some v1_ ∧ ∃ x2_, v1_ = (Value.int .i64 x2_) ∧ ∃ v3_, ldv false 1 h a6 = some v3_ ∧ ∃ x4_, v3_ = (Value.int .i64 x4_) ∧ splitB (x2_ != x4_) (R (Value.bool false) h) (∃ v5_, ldv false 1 h (Addr.add a5 1) = some v5_ ∧ ∃ s6_, v5_ = (Value.string s6_) ∧ ∃ v7_, ldv false 1 h (Addr.add a6 1) = some v7_ ∧ ∃ s8_, v7_ = (Value.string s8_) ∧ splitB (!(ByteArray.toList s6_ == ByteArray.toList s8_)) (R (Value.bool false) h) (∃ v9_, ldv false 1 h (Addr.add a5 2) = some v9_ ∧ ∃ A10_, ∃ n10_, ∃ c10_, v9_ = (Value.slice A10_ n10_ c10_) ∧ ∃ v11_, ldv false 1 h (Addr.add a6 2) = some v11_ ∧ ∃ A12_, ∃ n12_, ∃ c12_, v11_ = (Value.slice A12_ n12_ c12_) ∧ splitB (((n10_ : Nat) : Int) != ((n12_ : Nat) : Int)) (R (Value.bool false) h) (f38.j2 R A0 n0 c0 v3 a5 a6 h)))
set_option maxRecDepth 100000 in
theorem f38.j0_in {R : Value → Heap → Prop} {A0 : Option Addr} {n0 : Nat} {c0 : Nat} {v3 : Value} {a5 : Addr} {a6 : Addr} {h : Heap} (H : f38.j0T R A0 n0 c0 v3 a5 a6 h) : f38.j0 R A0 n0 c0 v3 a5 a6 h :=
  pt_intro mixed f38.good (Eq.mpr (show (Fwd Tryd.prog f38.T f38.kp Tryd.f38 R [true, true] (mkFr [(0, (Value.slice A0 n0 c0)), (3, v3), (5, (Value.pointer (some a5))), (6, (Value.pointer (some a6)))]) h) = (f38.j0T R A0 n0 c0 v3 a5 a6 h) by kernel_rfl) H)
set_option maxRecDepth 100000 in
def f38.j2T (R : Value → Heap → Prop) (A0 : Option Addr) (n0 : Nat) (c0 : Nat) (v3 : Value) (a5 : Addr) (a6 : Addr) (h : Heap) : Prop :=
  ∃ v1_, ldv false 1 h (Addr.add a5 2) = some v1_ ∧ ∃ A2_, ∃ n2_, ∃ c2_, v1_ = (Value.slice A2_ n2_ c2_) ∧ f38.l0 R A0 n0 c0 v3 a6 A2_ n2_ c2_ ((n2_ : Nat) : Int) (0 : Int) h
set_option maxRecDepth 100000 in
theorem f38.j2_in {R : Value → Heap → Prop} {A0 : Option Addr} {n0 : Nat} {c0 : Nat} {v3 : Value} {a5 : Addr} {a6 : Addr} {h : Heap} (H : f38.j2T R A0 n0 c0 v3 a5 a6 h) : f38.j2 R A0 n0 c0 v3 a5 a6 h :=
  pt_intro mixed f38.good (Eq.mpr (show (Fwd Tryd.prog f38.T f38.kp Tryd.f38 R [true, true, true] (mkFr [(0, (Value.slice A0 n0 c0)), (3, v3), (5, (Value.pointer (some a5))), (6, (Value.pointer (some a6)))]) h) = (f38.j2T R A0 n0 c0 v3 a5 a6 h) by kernel_rfl) H)
set_option maxRecDepth 100000 in
def f38.l0T (R : Value → Heap → Prop) (A0 : Option Addr) (n0 : Nat) (c0 : Nat) (v3 : Value) (a6 : Addr) (A60 : Option Addr) (n60 : Nat) (c60 : Nat) (x61 : Int) (x62 : Int) (h : Heap) : Prop :=
  splitB (decide (x62 < x61)) (ptrOk A60 fun a1_ => 0 ≤ x62 ∧ x62 < ((n60 : Nat) : Int) ∧ (∃ v2_, ldv true 3 h (Addr.add a1_ (Int.toNat x62 * 3)) = some v2_ ∧ newH h (Obj.cells #[(Value.int .i64 (0 : Int)), (Value.string (ByteArray.mk #[])), (Value.slice none 0 0)] 25) fun h3_ => ∃ l5_ : List Value, v2_ = Value.agg l5_.toArray ∧ l5_.length = 3 ∧ ∃ h4_, stH h3_ (⟨Array.size h, 0, none⟩) l5_ 0 = some h4_ ∧ ∃ v6_, ldv true 3 h4_ (⟨Array.size h, 0, none⟩) = some v6_ ∧ ∃ v7_, ldv false 1 h4_ (Addr.add a6 2) = some v7_ ∧ ∃ A8_, ∃ n8_, ∃ c8_, v7_ = (Value.slice A8_ n8_ c8_) ∧ ptrOk A8_ fun a9_ => 0 ≤ x62 ∧ x62 < ((n8_ : Nat) : Int) ∧ (∃ v10_, ldv true 3 h4_ (Addr.add a9_ (Int.toNat x62 * 3)) = some v10_ ∧ Run Tryd.prog 38 #[(Value.slice A0 n0 c0), v6_, v10_, v3] h4_ fun v11_ h12_ => ∃ b13_, v11_ = (Value.bool b13_) ∧ splitB (!b13_) (R (Value.bool false) h12_) (f38.l0 R A0 n0 c0 v3 a6 A60 n60 c60 x61 (IntKind.wrap .i64 (x62 + (1 : Int))) h12_)))) (R (Value.bool true) h)
set_option maxRecDepth 100000 in
theorem f38.l0_in {R : Value → Heap → Prop} {A0 : Option Addr} {n0 : Nat} {c0 : Nat} {v3 : Value} {a6 : Addr} {A60 : Option Addr} {n60 : Nat} {c60 : Nat} {x61 : Int} {x62 : Int} {h : Heap} (H : f38.l0T R A0 n0 c0 v3 a6 A60 n60 c60 x61 x62 h) : f38.l0 R A0 n0 c0 v3 a6 A60 n60 c60 x61 x62 h :=
  pt_intro mixed f38.good (Eq.mpr (show (Fwd Tryd.prog f38.T f38.kp Tryd.f38 R [false, false, true, false, true, true, true] (mkFr [(0, (Value.slice A0 n0 c0)), (3, v3), (6, (Value.pointer (some a6))), (60, (Value.slice A60 n60 c60)), (61, (Value.int .i64 x61)), (62, (Value.int .i64 x62))]) h) = (f38.l0T R A0 n0 c0 v3 a6 A60 n60 c60 x61 x62 h) by kernel_rfl) H)
set_option maxRecDepth 100000 in
def f38.runT (R : Value → Heap → Prop) (A0 : Option Addr) (n0 : Nat) (c0 : Nat) (v1 : Value) (v2 : Value) (v3 : Value) (h : Heap) : Prop :=
  newH h (Obj.cells ((v1).cells) 25) fun h1_ => newH h1_ (Obj.cells ((v2).cells) 25) fun h2_ => ∃ v3_, ldv false 1 h2_ (⟨Array.size h, 0, none⟩) = some v3_ ∧ ∃ x4_, v3_ = (Value.int .i64 x4_) ∧ splitB (x4_ == (5 : Int)) (∃ v5_, ldv false 1 h2_ (Addr.add (⟨Array.size h, 0, none⟩) 1) = some v5_ ∧ ∃ s6_, v5_ = (Value.string s6_) ∧ Run Tryd.prog 6 #[(Value.slice A0 n0 c0), (Value.string s6_)] h2_ fun v7_ h8_ => ∃ b9_, v7_ = (Value.bool b9_) ∧ f38.j1 R A0 n0 c0 v3 (⟨Array.size h, 0, none⟩) (⟨Array.size h1_, 0, none⟩) b9_ h8_) (f38.j1 R A0 n0 c0 v3 (⟨Array.size h, 0, none⟩) (⟨Array.size h1_, 0, none⟩) false h2_)
set_option maxRecDepth 100000 in
theorem f38.run {R : Value → Heap → Prop} {A0 : Option Addr} {n0 : Nat} {c0 : Nat} {v1 : Value} {v2 : Value} {v3 : Value} {h : Heap} (H : f38.runT R A0 n0 c0 v1 v2 v3 h) : Run Tryd.prog 38 #[(Value.slice A0 n0 c0), v1, v2, v3] h R :=
  run_of mixed Tryd.func38 (by kernel_rfl) (by kernel_rfl) f38.good (Eq.mpr (show (Fwd Tryd.prog f38.T f38.kp Tryd.f38 R [] (mkFr (argL [(Value.slice A0 n0 c0), v1, v2, v3] 0)) h) = (f38.runT R A0 n0 c0 v1 v2 v3 h) by kernel_rfl) H)
def f18.T : Tab := { sh := tSh, tup := tTup, keep := [], plan := [] }
def f18.kp : Keep := []
theorem f18.good : goodCode Tryd.prog f18.T (rootOf Tryd.f18) = true := by kernel_rfl
set_option maxRecDepth 100000 in
def f18.runT (R : Value → Heap → Prop) (v0 : Value) (v1 : Value) (h : Heap) : Prop :=
  newH h (Obj.cells ((v0).cells) 27) fun h1_ => newH h1_ (Obj.cells ((v1).cells) 25) fun h2_ => Gen Tryd.prog (Instr.makeMap 77 none) h2_ fun v3_ h4_ => ∃ v5_, ldv false 1 h4_ (⟨Array.size h, 0, none⟩) = some v5_ ∧ ∃ A6_, ∃ n6_, ∃ c6_, v5_ = (Value.slice A6_ n6_ c6_) ∧ ∃ v7_, ldv true 3 h4_ (Addr.add (⟨Array.size h, 0, none⟩) 1) = some v7_ ∧ ∃ v8_, ldv true 3 h4_ (⟨Array.size h1_, 0, none⟩) = some v8_ ∧ Run Tryd.prog 38 #[(Value.slice A6_ n6_ c6_), v7_, v8_, v3_] h4_ fun v9_ h10_ => ∃ b11_, v9_ = (Value.bool b11_) ∧ R (Value.bool b11_) h10_
set_option maxRecDepth 100000 in
theorem f18.run {R : Value → Heap → Prop} {v0 : Value} {v1 : Value} {h : Heap} (H : f18.runT R v0 v1 h) : Run Tryd.prog 18 #[v0, v1] h R :=
  run_of mixed Tryd.func18 (by kernel_rfl) (by kernel_rfl) f18.good (Eq.mpr (show (Fwd Tryd.prog f18.T f18.kp Tryd.f18 R [] (mkFr (argL [v0, v1] 0)) h) = (f18.runT R v0 v1 h) by kernel_rfl) H)
def f19.T : Tab := { sh := tSh, tup := tTup, keep := [], plan := [(4, (.take 0 (.take 1 (.take 2 (.take 4 (.take 5 (.take 6 (.take 3 (.alt true 7 (.alt true 8 (.eff true 9 (.eff false 10 (.eff false 11 .done))) (.eff true 9 (.eff true 8 (.eff false 10 (.eff false 11 .done))))) (.alt true 8 (.alt true 7 (.eff true 9 (.eff false 10 (.eff false 11 .done))) (.eff true 9 (.alt true 7 (.eff false 10 (.eff false 11 .done)) (.eff false 10 (.eff true 7 (.eff false 11 .done)))))) (.eff true 9 (.alt true 7 (.eff true 8 (.eff false 10 (.eff false 11 .done))) (.eff true 8 (.alt true 7 (.eff false 10 (.eff false 11 .done)) (.eff false 10 (.eff true 7 (.eff false 11 .done))))))))))))))))), (9, (.take 0 (.take 2 (.take 6 (.take 1 (.take 3 (.alt true 4 (.alt false 5 (.alt true 7 (.take 11 (.eff true 8 (.eff true 9 (.eff false 10 (.eff false 12 (.take 13 (.eff false 14 .done))))))) (.eff true 8 (.alt true 7 (.take 11 (.eff true 9 (.eff false 10 (.eff false 12 (.take 13 (.eff false 14 .done)))))) (.eff true 9 (.eff true 7 (.take 11 (.eff false 10 (.eff false 12 (.take 13 (.eff false 14 .done)))))))))) (.alt true 7 (.alt false 5 (.take 11 (.eff true 8 (.eff true 9 (.eff false 10 (.eff false 12 (.take 13 (.eff false 14 .done))))))) (.eff true 8 (.alt false 5 (.take 11 (.eff true 9 (.eff false 10 (.eff false 12 (.take 13 (.eff false 14 .done)))))) (.eff true 9 (.eff false 5 (.take 11 (.eff false 10 (.eff false 12 (.take 13 (.eff false 14 .done)))))))))) (.eff true 8 (.alt false 5 (.alt true 7 (.take 11 (.eff true 9 (.eff false 10 (.eff false 12 (.take 13 (.eff false 14 .done)))))) (.eff true 9 (.eff true 7 (.take 11 (.eff false 10 (.eff false 12 (.take 13 (.eff false 14 .done)))))))) (.alt true 7 (.alt false 5 (.take 11 (.eff true 9 (.eff false 10 (.eff false 12 (.take 13 (.eff false 14 .done)))))) (.eff true 9 (.eff false 5 (.take 11 (.eff false 10 (.eff false 12 (.take 13 (.eff false 14 .done)))))))) (.eff true 9 (.alt false 5 (.eff true 7 (.take 11 (.eff false 10 (.eff false 12 (.take 13 (.eff false 14 .done)))))) (.eff true 7 (.eff false 5 (.take 11 (.eff false 10 (.eff false 12 (.take 13 (.eff false 14 .done)))))))))))))) (.alt true 7 (.alt true 4 (.alt false 5 (.take 11 (.eff true 8 (.eff true 9 (.eff false 10 (.eff false 12 (.take 13 (.eff false 14 .done))))))) (.eff true 8 (.alt false 5 (.take 11 (.eff true 9 (.eff false 10 (.eff false 12 (.take 13 (.eff false 14 .done)))))) (.eff true 9 (.eff false 5 (.take 11 (.eff false 10 (.eff false 12 (.take 13 (.eff false 14 .done)))))))))) (.eff true 8 (.alt true 4 (.alt false 5 (.take 11 (.eff true 9 (.eff false 10 (.eff false 12 (.take 13 (.eff false 14 .done)))))) (.eff true 9 (.eff false 5 (.take 11 (.eff false 10 (.eff false 12 (.take 13 (.eff false 14 .done)))))))) (.eff true 9 (.eff true 4 (.eff false 5 (.take 11 (.eff false 10 (.eff false 12 (.take 13 (.eff false 14 .done))))))))))) (.eff true 8 (.alt true 4 (.alt false 5 (.alt true 7 (.take 11 (.eff true 9 (.eff false 10 (.eff false 12 (.take 13 (.eff false 14 .done)))))) (.eff true 9 (.eff true 7 (.take 11 (.eff false 10 (.eff false 12 (.take 13 (.eff false 14 .done)))))))) (.alt true 7 (.alt false 5 (.take 11 (.eff true 9 (.eff false 10 (.eff false 12 (.take 13 (.eff false 14 .done)))))) (.eff true 9 (.eff false 5 (.take 11 (.eff false 10 (.eff false 12 (.take 13 (.eff false 14 .done)))))))) (.eff true 9 (.alt false 5 (.eff true 7 (.take 11 (.eff false 10 (.eff false 12 (.take 13 (.eff false 14 .done)))))) (.eff true 7 (.eff false 5 (.take 11 (.eff false 10 (.eff false 12 (.take 13 (.eff false 14 .done))))))))))) (.alt true 7 (.alt true 4 (.alt false 5 (.take 11 (.eff true 9 (.eff false 10 (.eff false 12 (.take 13 (.eff false 14 .done)))))) (.eff true 9 (.eff false 5 (.take 11 (.eff false 10 (.eff false 12 (.take 13 (.eff false 14 .done)))))))) (.eff true 9 (.eff true 4 (.eff false 5 (.take 11 (.eff false 10 (.eff false 12 (.take 13 (.eff false 14 .done))))))))) (.eff true 9 (.alt true 4 (.alt false 5 (.eff true 7 (.take 11 (.eff false 10 (.eff false 12 (.take 13 (.eff false 14 .done)))))) (.eff true 7 (.eff false 5 (.take 11 (.eff false 10 (.eff false 12 (.take 13 (.eff false 14 .done)))))))) (.eff true 7 (.eff true 4 (.eff false 5 (.take 11 (.eff false 10 (.eff false 12 (.take 13 (.eff false 14 .done))))))))))))))))))))), (10, (.take 0 (.take 2 (.take 1 (.take 3 (.take 4 (.alt false 5 (.eff true 6 (.eff false 7 (.take 8 .done))) (.eff true 6 (.eff false 5 (.eff false 7 (.take 8 .done))))))))))), (17, (.take 0 (.take 1 (.take 3 (.take 6 (.take 8 (.take 2 (.take 4 (.take 5 (.take 7 (.take 9 (.take 10 (.eff false 11 (.eff false 12 (.eff false 13 (.take 14 .done))))))))))))))))] }
def f19.kp : Keep := [([false, false, false, true, true, true], [0, 7, 8]), ([true, false, true, false, false, false, true, true, true], [0, 7, 8, 9, 10]), ([true, false, true, true, false, true, false, false, false, true, true, true], [0, 7, 8, 9, 10, 39]), ([true, true, true, false, true, false, false, false, true, true, true], [0, 7, 8, 9, 10]), ([true, true, true, true, false, true, false, false, false, true, true, true], [0, 7, 8, 9, 10]), ([false, false, true, true, true, true, true, false, true, false, false, false, true, true, true], [0, 7, 8, 9, 10, 92, 93])]
theorem f19.good : goodCode Tryd.prog f19.T (rootOf Tryd.f19) = true := by kernel_rfl
def f19.l0 (R : Value → Heap → Prop) (A0 : Option Addr) (n0 : Nat) (c0 : Nat) (a7 : Addr) (A8 : Option Addr) (n8 : Nat) (c8 : Nat) (h : Heap) : Prop := Pt Tryd.prog Tryd.f19 R [false, false, false, true, true, true] (mkFr [(0, (Value.slice A0 n0 c0)), (7, (Value.pointer (some a7))), (8, (Value.slice A8 n8 c8))]) h
def f19.j0 (R : Value → Heap → Prop) (A0 : Option Addr) (n0 : Nat) (c0 : Nat) (a7 : Addr) (A8 : Option Addr) (n8 : Nat) (c8 : Nat) (a9 : Addr) (a10 : Addr) (h : Heap) : Prop := Pt Tryd.prog Tryd.f19 R [true, false, true, false, false, false, true, true, true] (mkFr [(0, (Value.slice A0 n0 c0)), (7, (Value.pointer (some a7))), (8, (Value.slice A8 n8 c8)), (9, (Value.pointer (some a9))), (10, (Value.pointer (some a10)))]) h
def f19.j2 (R : Value → Heap → Prop) (A0 : Option Addr) (n0 : Nat) (c0 : Nat) (a7 : Addr) (A8 : Option Addr) (n8 : Nat) (c8 : Nat) (a9 : Addr) (a10 : Addr) (b39 : Bool) (h : Heap) : Prop := Pt Tryd.prog Tryd.f19 R [true, false, true, true, false, true, false, false, false, true, true, true] (mkFr [(0, (Value.slice A0 n0 c0)), (7, (Value.pointer (some a7))), (8, (Value.slice A8 n8 c8)), (9, (Value.pointer (some a9))), (10, (Value.pointer (some a10))), (39, (Value.bool b39))]) h
def f19.j1 (R : Value → Heap → Prop) (A0 : Option Addr) (n0 : Nat) (c0 : Nat) (a7 : Addr) (A8 : Option Addr) (n8 : Nat) (c8 : Nat) (a9 : Addr) (a10 : Addr) (h : Heap) : Prop := Pt Tryd.prog Tryd.f19 R [true, true, true, false, true, false, false, false, true, true, true] (mkFr [(0, (Value.slice A0 n0 c0)), (7, (Value.pointer (some a7))), (8, (Value.slice A8 n8 c8)), (9, (Value.pointer (some a9))), (10, (Value.pointer (some a10)))]) h
def f19.j3 (R : Value → Heap → Prop) (A0 : Option Addr) (n0 : Nat) (c0 : Nat) (a7 : Addr) (A8 : Option Addr) (n8 : Nat) (c8 : Nat) (a9 : Addr) (a10 : Addr) (h : Heap) : Prop := Pt Tryd.prog Tryd.f19 R [true, true, true, true, false, true, false, false, false, true, true, true] (mkFr [(0, (Value.slice A0 n0 c0)), (7, (Value.pointer (some a7))), (8, (Value.slice A8 n8 c8)), (9, (Value.pointer (some a9))), (10, (Value.pointer (some a10)))]) h
def f19.l1 (R : Value → Heap → Prop) (A0 : Option Addr) (n0 : Nat) (c0 : Nat) (a7 : Addr) (A8 : Option Addr) (n8 : Nat) (c8 : Nat) (a9 : Addr) (a10 : Addr) (x92 : Int) (x93 : Int) (h : Heap) : Prop := Pt Tryd.prog Tryd.f19 R [false, false, true, true, true, true, true, false, true, false, false, false, true, true, true] (mkFr [(0, (Value.slice A0 n0 c0)), (7, (Value.pointer (some a7))), (8, (Value.slice A8 n8 c8)), (9, (Value.pointer (some a9))), (10, (Value.pointer (some a10))), (92, (Value.int .i64 x92)), (93, (Value.int .i64 x93))]) h
set_option maxRecDepth 100000 in
def f19.l0T (R : Value → Heap → Prop) (A0 : Option Addr) (n0 : Nat) (c0 : Nat) (a7 : Addr) (A8 : Option Addr) (n8 : Nat) (c8 : Nat) (h : Heap) : Prop :=
  splitB (decide (((n8 : Nat) : Int) > (0 : Int))) (ptrOk A8 fun a1_ => 0 ≤ (0 : Int) ∧ (0 : Int) < ((n8 : Nat) : Int) ∧ (0 ≤ (0 : Int) ∧ (0 : Int) < ((2 : Nat) : Int) ∧ (ptrOk A8 fun a2_ => 0 ≤ (0 : Int) ∧ (0 : Int) < ((n8 : Nat) : Int) ∧ (0 ≤ (1 : Int) ∧ (1 : Int) < ((2 : Nat) : Int) ∧ (∃ v3_, ldv true 3 h (Addr.add (Addr.add a1_ (Int.toNat (0 : Int) * 6)) (Int.toNat (0 : Int) * 3)) = some v3_ ∧ (∃ v4_, ldv true 3 h (Addr.add (Addr.add a2_ (Int.toNat (0 : Int) * 6)) (Int.toNat (1 : Int) * 3)) = some v4_ ∧ Ext h h ∧ ((newH h (Obj.cells #[(Value.int .i64 (0 : Int)), (Value.string (ByteArray.mk #[])), (Value.slice none 0 0)] 25) fun h5_ => Ext h h5_ ∧ (newH h5_ (Obj.cells #[(Value.int .i64 (0 : Int)), (Value.string (ByteArray.mk #[])), (Value.slice none 0 0)] 25) fun h6_ => Ext h5_ h6_ ∧ (∃ l8_ : List Value, v3_ = Value.agg l8_.toArray ∧ l8_.length = 3 ∧ ∃ h7_, stH h6_ (⟨Array.size h, 0, none⟩) l8_ 0 = some h7_ ∧ ∃ l10_ : List Value, v4_ = Value.agg l10_.toArray ∧ l10_.length = 3 ∧ ∃ h9_, stH h7_ (⟨Array.size h5_, 0, none⟩) l10_ 0 = some h9_ ∧ f19.j0 R A0 n0 c0 a7 A8 n8 c8 (⟨Array.size h, 0, none⟩) (⟨Array.size h5_, 0, none⟩) h9_))) ∧ (newH h (Obj.cells #[(Value.int .i64 (0 : Int)), (Value.string (ByteArray.mk #[])), (Value.slice none 0 0)] 25) fun h11_ => Ext h h11_ ∧ (newH h11_ (Obj.cells #[(Value.int .i64 (0 : Int)), (Value.string (ByteArray.mk #[])), (Value.slice none 0 0)] 25) fun h12_ => Ext h11_ h12_ ∧ (∃ l14_ : List Value, v3_ = Value.agg l14_.toArray ∧ l14_.length = 3 ∧ ∃ h13_, stH h12_ (⟨Array.size h11_, 0, none⟩) l14_ 0 = some h13_ ∧ ∃ l16_ : List Value, v4_ = Value.agg l16_.toArray ∧ l16_.length = 3 ∧ ∃ h15_, stH h13_ (⟨Array.size h, 0, none⟩) l16_ 0 = some h15_ ∧ f19.j0 R A0 n0 c0 a7 A8 n8 c8 (⟨Array.size h11_, 0, none⟩) (⟨Array.size h, 0, none⟩) h15_))))) ∧ ((newH h (Obj.cells #[(Value.int .i64 (0 : Int)), (Value.string (ByteArray.mk #[])), (Value.slice none 0 0)] 25) fun h17_ => Ext h h17_ ∧ ((∃ v18_, ldv true 3 h17_ (Addr.add (Addr.add a2_ (Int.toNat (0 : Int) * 6)) (Int.toNat (1 : Int) * 3)) = some v18_ ∧ Ext h17_ h17_ ∧ (newH h17_ (Obj.cells #[(Value.int .i64 (0 : Int)), (Value.string (ByteArray.mk #[])), (Value.slice none 0 0)] 25) fun h19_ => Ext h17_ h19_ ∧ (∃ l21_ : List Value, v3_ = Value.agg l21_.toArray ∧ l21_.length = 3 ∧ ∃ h20_, stH h19_ (⟨Array.size h, 0, none⟩) l21_ 0 = some h20_ ∧ ∃ l23_ : List Value, v18_ = Value.agg l23_.toArray ∧ l23_.length = 3 ∧ ∃ h22_, stH h20_ (⟨Array.size h17_, 0, none⟩) l23_ 0 = some h22_ ∧ f19.j0 R A0 n0 c0 a7 A8 n8 c8 (⟨Array.size h, 0, none⟩) (⟨Array.size h17_, 0, none⟩) h22_))) ∧ (newH h17_ (Obj.cells #[(Value.int .i64 (0 : Int)), (Value.string (ByteArray.mk #[])), (Value.slice none 0 0)] 25) fun h24_ => Ext h17_ h24_ ∧ ((∃ v25_, ldv true 3 h24_ (Addr.add (Addr.add a2_ (Int.toNat (0 : Int) * 6)) (Int.toNat (1 : Int) * 3)) = some v25_ ∧ Ext h24_ h24_ ∧ (∃ l27_ : List Value, v3_ = Value.agg l27_.toArray ∧ l27_.length = 3 ∧ ∃ h26_, stH h24_ (⟨Array.size h, 0, none⟩) l27_ 0 = some h26_ ∧ ∃ l29_ : List Value, v25_ = Value.agg l29_.toArray ∧ l29_.length = 3 ∧ ∃ h28_, stH h26_ (⟨Array.size h17_, 0, none⟩) l29_ 0 = some h28_ ∧ f19.j0 R A0 n0 c0 a7 A8 n8 c8 (⟨Array.size h, 0, none⟩) (⟨Array.size h17_, 0, none⟩) h28_)) ∧ (∃ l31_ : List Value, v3_ = Value.agg l31_.toArray ∧ l31_.length = 3 ∧ ∃ h30_, stH h24_ (⟨Array.size h, 0, none⟩) l31_ 0 = some h30_ ∧ ∃ v32_, ldv true 3 h30_ (Addr.add (Addr.add a2_ (Int.toNat (0 : Int) * 6)) (Int.toNat (1 : Int) * 3)) = some v32_ ∧ Ext h30_ h30_ ∧ (∃ l34_ : List Value, v32_ = Value.agg l34_.toArray ∧ l34_.length = 3 ∧ ∃ h33_, stH h30_ (⟨Array.size h17_, 0, none⟩) l34_ 0 = some h33_ ∧ f19.j0 R A0 n0 c0 a7 A8 n8 c8 (⟨Array.size h, 0, none⟩) (⟨Array.size h17_, 0, none⟩) h33_)))))) ∧ (newH h (Obj.cells #[(Value.int .i64 (0 : Int)), (Value.string (ByteArray.mk #[])), (Value.slice none 0 0)] 25) fun h35_ => Ext h h35_ ∧ ((∃ v36_, ldv true 3 h35_ (Addr.add (Addr.add a2_ (Int.toNat (0 : Int) * 6)) (Int.toNat (1 : Int) * 3)) = some v36_ ∧ Ext h35_ h35_ ∧ (newH h35_ (Obj.cells #[(Value.int .i64 (0 : Int)), (Value.string (ByteArray.mk #[])), (Value.slice none 0 0)] 25) fun h37_ => Ext h35_ h37_ ∧ (∃ l39_ : List Value, v3_ = Value.agg l39_.toArray ∧ l39_.length = 3 ∧ ∃ h38_, stH h37_ (⟨Array.size h35_, 0, none⟩) l39_ 0 = some h38_ ∧ ∃ l41_ : List Value, v36_ = Value.agg l41_.toArray ∧ l41_.length = 3 ∧ ∃ h40_, stH h38_ (⟨Array.size h, 0, none⟩) l41_ 0 = some h40_ ∧ f19.j0 R A0 n0 c0 a7 A8 n8 c8 (⟨Array.size h35_, 0, none⟩) (⟨Array.size h, 0, none⟩) h40_))) ∧ (newH h35_ (Obj.cells #[(Value.int .i64 (0 : Int)), (Value.string (ByteArray.mk #[])), (Value.slice none 0 0)] 25) fun h42_ => Ext h35_ h42_ ∧ ((∃ v43_, ldv true 3 h42_ (Addr.add (Addr.add a2_ (Int.toNat (0 : Int) * 6)) (Int.toNat (1 : Int) * 3)) = some v43_ ∧ Ext h42_ h42_ ∧ (∃ l45_ : List Value, v3_ = Value.agg l45_.toArray ∧ l45_.length = 3 ∧ ∃ h44_, stH h42_ (⟨Array.size h35_, 0, none⟩) l45_ 0 = some h44_ ∧ ∃ l47_ : List Value, v43_ = Value.agg l47_.toArray ∧ l47_.length = 3 ∧ ∃ h46_, stH h44_ (⟨Array.size h, 0, none⟩) l47_ 0 = some h46_ ∧ f19.j0 R A0 n0 c0 a7 A8 n8 c8 (⟨Array.size h35_, 0, none⟩) (⟨Array.size h, 0, none⟩) h46_)) ∧ (∃ l49_ : List Value, v3_ = Value.agg l49_.toArray ∧ l49_.length = 3 ∧ ∃ h48_, stH h42_ (⟨Array.size h35_, 0, none⟩) l49_ 0 = some h48_ ∧ ∃ v50_, ldv true 3 h48_ (Addr.add (Addr.add a2_ (Int.toNat (0 : Int) * 6)) (Int.toNat (1 : Int) * 3)) = some v50_ ∧ Ext h48_ h48_ ∧ (∃ l52_ : List Value, v50_ = Value.agg l52_.toArray ∧ l52_.length = 3 ∧ ∃ h51_, stH h48_ (⟨Array.size h, 0, none⟩) l52_ 0 = some h51_ ∧ f19.j0 R A0 n0 c0 a7 A8 n8 c8 (⟨Array.size h35_, 0, none⟩) (⟨Array.size h, 0, none⟩) h51_)))))))))))) (R (Value.bool true) h)
set_option maxRecDepth 100000 in
theorem f19.l0_in {R : Value → Heap → Prop} {A0 : Option Addr} {n0 : Nat} {c0 : Nat} {a7 : Addr} {A8 : Option Addr} {n8 : Nat} {c8 : Nat} {h : Heap} (H : f19.l0T R A0 n0 c0 a7 A8 n8 c8 h) : f19.l0 R A0 n0 c0 a7 A8 n8 c8 h :=
  pt_intro mixed f19.good (Eq.mpr (show (Fwd Tryd.prog f19.T f19.kp Tryd.f19 R [false, false, false, true, true, true] (mkFr [(0, (Value.slice A0 n0 c0)), (7, (Value.pointer (some a7))), (8, (Value.slice A8 n8 c8))]) h) = (f19.l0T R A0 n0 c0 a7 A8 n8 c8 h) by kernel_rfl) H)
set_option maxRecDepth 100000 in
def f19.j0T (R : Value → Heap → Prop) (A0 : Option Addr) (n0 : Nat) (c0 : Nat) (a7 : Addr) (A8 : Option Addr) (n8 : Nat) (c8 : Nat) (a9 : Addr) (a10 : Addr) (h : Heap) : Prop :=
  0 ≤ (1 : Int) ∧ (1 : Int) ≤ ((n8 : Nat) : Int) ∧ ((n8 : Nat) : Int) ≤ ((c8 : Nat) : Int) ∧ (∃ v1_, ldv false 1 h a9 = some v1_ ∧ ∃ x2_, v1_ = (Value.int .i64 x2_) ∧ splitB (x2_ == (5 : Int)) (∃ v3_, ldv false 1 h (Addr.add a9 1) = some v3_ ∧ ∃ s4_, v3_ = (Value.string s4_) ∧ Run Tryd.prog 6 #[(Value.slice A0 n0 c0), (Value.string s4_)] h fun v5_ h6_ => ∃ b7_, v5_ = (Value.bool b7_) ∧ f19.j2 R A0 n0 c0 a7 (sliceA A8 (Int.toNat (1 : Int)) c8 6) (Int.toNat ((n8 : Nat) : Int) - Int.toNat (1 : Int)) (c8 - Int.toNat (1 : Int)) a9 a10 b7_ h6_) (f19.j2 R A0 n0 c0 a7 (sliceA A8 (Int.toNat (1 : Int)) c8 6) (Int.toNat ((n8 : Nat) : Int) - Int.toNat (1 : Int)) (c8 - Int.toNat (1 : Int)) a9 a10 false h))
set_option maxRecDepth 100000 in
theorem f19.j0_in {R : Value → Heap → Prop} {A0 : Option Addr} {n0 : Nat} {c0 : Nat} {a7 : Addr} {A8 : Option Addr} {n8 : Nat} {c8 : Nat} {a9 : Addr} {a10 : Addr} {h : Heap} (H : f19.j0T R A0 n0 c0 a7 A8 n8 c8 a9 a10 h) : f19.j0 R A0 n0 c0 a7 A8 n8 c8 a9 a10 h :=
  pt_intro mixed f19.good (Eq.mpr (show (Fwd Tryd.prog f19.T f19.kp Tryd.f19 R [true, false, true, false, false, false, true, true, true] (mkFr [(0, (Value.slice A0 n0 c0)), (7, (Value.pointer (some a7))), (8, (Value.slice A8 n8 c8)), (9, (Value.pointer (some a9))), (10, (Value.pointer (some a10)))]) h) = (f19.j0T R A0 n0 c0 a7 A8 n8 c8 a9 a10 h) by kernel_rfl) H)
set_option maxRecDepth 100000 in
def f19.j2T (R : Value → Heap → Prop) (A0 : Option Addr) (n0 : Nat) (c0 : Nat) (a7 : Addr) (A8 : Option Addr) (n8 : Nat) (c8 : Nat) (a9 : Addr) (a10 : Addr) (b39 : Bool) (h : Heap) : Prop :=
  splitB b39 (∃ v1_, ldv false 1 h a7 = some v1_ ∧ ∃ A2_, ∃ n2_, ∃ c2_, v1_ = (Value.slice A2_ n2_ c2_) ∧ ∃ v3_, ldv false 1 h (Addr.add a9 1) = some v3_ ∧ ∃ s4_, v3_ = (Value.string s4_) ∧ Run Tryd.prog 33 #[(Value.slice A2_ n2_ c2_), (Value.string s4_)] h fun v5_ h6_ => ∃ x7_, v5_ = (Value.int .i64 x7_) ∧ splitB (decide (x7_ < (0 : Int))) (∃ v8_, ldv false 1 h6_ a7 = some v8_ ∧ ∃ A9_, ∃ n9_, ∃ c9_, v8_ = (Value.slice A9_ n9_ c9_) ∧ ∃ v10_, ldv false 1 h6_ (Addr.add a9 1) = some v10_ ∧ ∃ s11_, v10_ = (Value.string s11_) ∧ (newH h6_ (Obj.cells #[(Value.string s11_)] 9) fun h12_ => Ext h6_ h12_ ∧ ((AppW 9 1 16 #[(Value.string (ByteArray.mk #[]))] A9_ n9_ c9_ (Value.slice (some ⟨Array.size h6_, 0, none⟩) 1 1) h12_ fun v13_ h14_ => ∃ A15_, ∃ n15_, ∃ c15_, v13_ = (Value.slice A15_ n15_ c15_) ∧ (∃ v16_, ldv false 1 h14_ (Addr.add a7 1) = some v16_ ∧ ∃ A17_, ∃ n17_, ∃ c17_, v16_ = (Value.slice A17_ n17_ c17_) ∧ Ext h14_ h14_ ∧ (∃ v18_, ldv true 3 h14_ a10 = some v18_ ∧ Ext h14_ h14_ ∧ (∃ l19_ : List Value, v18_ = Value.agg l19_.toArray ∧ l19_.length = 3 ∧ (newH h14_ (Obj.cells ((List.take 0 ([(Value.int .i64 (0 : Int)), (Value.string (ByteArray.mk #[])), (Value.slice none 0 0)]) ++ l19_ ++ List.drop 3 ([(Value.int .i64 (0 : Int)), (Value.string (ByteArray.mk #[])), (Value.slice none 0 0)])).toArray) 25) fun h20_ => Ext h14_ h20_ ∧ (AppW 25 3 48 #[(Value.int .i64 (0 : Int)), (Value.string (ByteArray.mk #[])), (Value.slice none 0 0)] A17_ n17_ c17_ (Value.slice (some ⟨Array.size h14_, 0, none⟩) 1 1) h20_ fun v21_ h22_ => ∃ A23_, ∃ n23_, ∃ c23_, v21_ = (Value.slice A23_ n23_ c23_) ∧ ∃ h24_, st1 h22_ a7 (Value.slice A15_ n15_ c15_) = some h24_ ∧ ∃ h25_, st1 h24_ (Addr.add a7 1) (Value.slice A23_ n23_ c23_) = some h25_ ∧ f19.l0 R A0 n0 c0 a7 A8 n8 c8 h25_))))) ∧ (∃ v26_, ldv true 3 h14_ a10 = some v26_ ∧ Ext h14_ h14_ ∧ ((∃ v27_, ldv false 1 h14_ (Addr.add a7 1) = some v27_ ∧ ∃ A28_, ∃ n28_, ∃ c28_, v27_ = (Value.slice A28_ n28_ c28_) ∧ Ext h14_ h14_ ∧ (∃ l29_ : List Value, v26_ = Value.agg l29_.toArray ∧ l29_.length = 3 ∧ (newH h14_ (Obj.cells ((List.take 0 ([(Value.int .i64 (0 : Int)), (Value.string (ByteArray.mk #[])), (Value.slice none 0 0)]) ++ l29_ ++ List.drop 3 ([(Value.int .i64 (0 : Int)), (Value.string (ByteArray.mk #[])), (Value.slice none 0 0)])).toArray) 25) fun h30_ => Ext h14_ h30_ ∧ (AppW 25 3 48 #[(Value.int .i64 (0 : Int)), (Value.string (ByteArray.mk #[])), (Value.slice none 0 0)] A28_ n28_ c28_ (Value.slice (some ⟨Array.size h14_, 0, none⟩) 1 1) h30_ fun v31_ h32_ => ∃ A33_, ∃ n33_, ∃ c33_, v31_ = (Value.slice A33_ n33_ c33_) ∧ ∃ h34_, st1 h32_ a7 (Value.slice A15_ n15_ c15_) = some h34_ ∧ ∃ h35_, st1 h34_ (Addr.add a7 1) (Value.slice A33_ n33_ c33_) = some h35_ ∧ f19.l0 R A0 n0 c0 a7 A8 n8 c8 h35_)))) ∧ (∃ l36_ : List Value, v26_ = Value.agg l36_.toArray ∧ l36_.length = 3 ∧ (newH h14_ (Obj.cells ((List.take 0 ([(Value.int .i64 (0 : Int)), (Value.string (ByteArray.mk #[])), (Value.slice none 0 0)]) ++ l36_ ++ List.drop 3 ([(Value.int .i64 (0 : Int)), (Value.string (ByteArray.mk #[])), (Value.slice none 0 0)])).toArray) 25) fun h37_ => Ext h14_ h37_ ∧ (∃ v38_, ldv false 1 h37_ (Addr.add a7 1) = some v38_ ∧ ∃ A39_, ∃ n39_, ∃ c39_, v38_ = (Value.slice A39_ n39_ c39_) ∧ Ext h37_ h37_ ∧ (AppW 25 3 48 #[(Value.int .i64 (0 : Int)), (Value.string (ByteArray.mk #[])), (Value.slice none 0 0)] A39_ n39_ c39_ (Value.slice (some ⟨Array.size h14_, 0, none⟩) 1 1) h37_ fun v40_ h41_ => ∃ A42_, ∃ n42_, ∃ c42_, v40_ = (Value.slice A42_ n42_ c42_) ∧ ∃ h43_, st1 h41_ a7 (Value.slice A15_ n15_ c15_) = some h43_ ∧ ∃ h44_, st1 h43_ (Addr.add a7 1) (Value.slice A42_ n42_ c42_) = some h44_ ∧ f19.l0 R A0 n0 c0 a7 A8 n8 c8 h44_))))))) ∧ ((∃ v45_, ldv false 1 h12_ (Addr.add a7 1) = some v45_ ∧ ∃ A46_, ∃ n46_, ∃ c46_, v45_ = (Value.slice A46_ n46_ c46_) ∧ Ext h12_ h12_ ∧ ((AppW 9 1 16 #[(Value.string (ByteArray.mk #[]))] A9_ n9_ c9_ (Value.slice (some ⟨Array.size h6_, 0, none⟩) 1 1) h12_ fun v47_ h48_ => ∃ A49_, ∃ n49_, ∃ c49_, v47_ = (Value.slice A49_ n49_ c49_) ∧ ∃ v50_, ldv true 3 h48_ a10 = some v50_ ∧ Ext h48_ h48_ ∧ (∃ l51_ : List Value, v50_ = Value.agg l51_.toArray ∧ l51_.length = 3 ∧ (newH h48_ (Obj.cells ((List.take 0 ([(Value.int .i64 (0 : Int)), (Value.string (ByteArray.mk #[])), (Value.slice none 0 0)]) ++ l51_ ++ List.drop 3 ([(Value.int .i64 (0 : Int)), (Value.string (ByteArray.mk #[])), (Value.slice none 0 0)])).toArray) 25) fun h52_ => Ext h48_ h52_ ∧ (AppW 25 3 48 #[(Value.int .i64 (0 : Int)), (Value.string (ByteArray.mk #[])), (Value.slice none 0 0)] A46_ n46_ c46_ (Value.slice (some ⟨Array.size h48_, 0, none⟩) 1 1) h52_ fun v53_ h54_ => ∃ A55_, ∃ n55_, ∃ c55_, v53_ = (Value.slice A55_ n55_ c55_) ∧ ∃ h56_, st1 h54_ a7 (Value.slice A49_ n49_ c49_) = some h56_ ∧ ∃ h57_, st1 h56_ (Addr.add a7 1) (Value.slice A55_ n55_ c55_) = some h57_ ∧ f19.l0 R A0 n0 c0 a7 A8 n8 c8 h57_)))) ∧ (∃ v58_, ldv true 3 h12_ a10 = some v58_ ∧ Ext h12_ h12_ ∧ ((AppW 9 1 16 #[(Value.string (ByteArray.mk #[]))] A9_ n9_ c9_ (Value.slice (some ⟨Array.size h6_, 0, none⟩) 1 1) h12_ fun v59_ h60_ => ∃ A61_, ∃ n61_, ∃ c61_, v59_ = (Value.slice A61_ n61_ c61_) ∧ ∃ l62_ : List Value, v58_ = Value.agg l62_.toArray ∧ l62_.length = 3 ∧ (newH h60_ (Obj.cells ((List.take 0 ([(Value.int .i64 (0 : Int)), (Value.string (ByteArray.mk #[])), (Value.slice none 0 0)]) ++ l62_ ++ List.drop 3 ([(Value.int .i64 (0 : Int)), (Value.string (ByteArray.mk #[])), (Value.slice none 0 0)])).toArray) 25) fun h63_ => Ext h60_ h63_ ∧ (AppW 25 3 48 #[(Value.int .i64 (0 : Int)), (Value.string (ByteArray.mk #[])), (Value.slice none 0 0)] A46_ n46_ c46_ (Value.slice (some ⟨Array.size h60_, 0, none⟩) 1 1) h63_ fun v64_ h65_ => ∃ A66_, ∃ n66_, ∃ c66_, v64_ = (Value.slice A66_ n66_ c66_) ∧ ∃ h67_, st1 h65_ a7 (Value.slice A61_ n61_ c61_) = some h67_ ∧ ∃ h68_, st1 h67_ (Addr.add a7 1) (Value.slice A66_ n66_ c66_) = some h68_ ∧ f19.l0 R A0 n0 c0 a7 A8 n8 c8 h68_))) ∧ (∃ l69_ : List Value, v58_ = Value.agg l69_.toArray ∧ l69_.length = 3 ∧ (newH h12_ (Obj.cells ((List.take 0 ([(Value.int .i64 (0 : Int)), (Value.string (ByteArray.mk #[])), (Value.slice none 0 0)]) ++ l69_ ++ List.drop 3 ([(Value.int .i64 (0 : Int)), (Value.string (ByteArray.mk #[])), (Value.slice none 0 0)])).toArray) 25) fun h70_ => Ext h12_ h70_ ∧ (AppW 9 1 16 #[(Value.string (ByteArray.mk #[]))] A9_ n9_ c9_ (Value.slice (some ⟨Array.size h6_, 0, none⟩) 1 1) h70_ fun v71_ h72_ => ∃ A73_, ∃ n73_, ∃ c73_, v71_ = (Value.slice A73_ n73_ c73_) ∧ AppW 25 3 48 #[(Value.int .i64 (0 : Int)), (Value.string (ByteArray.mk #[])), (Value.slice none 0 0)] A46_ n46_ c46_ (Value.slice (some ⟨Array.size h12_, 0, none⟩) 1 1) h72_ fun v74_ h75_ => ∃ A76_, ∃ n76_, ∃ c76_, v74_ = (Value.slice A76_ n76_ c76_) ∧ ∃ h77_, st1 h75_ a7 (Value.slice A73_ n73_ c73_) = some h77_ ∧ ∃ h78_, st1 h77_ (Addr.add a7 1) (Value.slice A76_ n76_ c76_) = some h78_ ∧ f19.l0 R A0 n0 c0 a7 A8 n8 c8 h78_))))))) ∧ (∃ v79_, ldv true 3 h12_ a10 = some v79_ ∧ Ext h12_ h12_ ∧ ((AppW 9 1 16 #[(Value.string (ByteArray.mk #[]))] A9_ n9_ c9_ (Value.slice (some ⟨Array.size h6_, 0, none⟩) 1 1) h12_ fun v80_ h81_ => ∃ A82_, ∃ n82_, ∃ c82_, v80_ = (Value.slice A82_ n82_ c82_) ∧ (∃ v83_, ldv false 1 h81_ (Addr.add a7 1) = some v83_ ∧ ∃ A84_, ∃ n84_, ∃ c84_, v83_ = (Value.slice A84_ n84_ c84_) ∧ Ext h81_ h81_ ∧ (∃ l85_ : List Value, v79_ = Value.agg l85_.toArray ∧ l85_.length = 3 ∧ (newH h81_ (Obj.cells ((List.take 0 ([(Value.int .i64 (0 : Int)), (Value.string (ByteArray.mk #[])), (Value.slice none 0 0)]) ++ l85_ ++ List.drop 3 ([(Value.int .i64 (0 : Int)), (Value.string (ByteArray.mk #[])), (Value.slice none 0 0)])).toArray) 25) fun h86_ => Ext h81_ h86_ ∧ (AppW 25 3 48 #[(Value.int .i64 (0 : Int)), (Value.string (ByteArray.mk #[])), (Value.slice none 0 0)] A84_ n84_ c84_ (Value.slice (some ⟨Array.size h81_, 0, none⟩) 1 1) h86_ fun v87_ h88_ => ∃ A89_, ∃ n89_, ∃ c89_, v87_ = (Value.slice A89_ n89_ c89_) ∧ ∃ h90_, st1 h88_ a7 (Value.slice A82_ n82_ c82_) = some h90_ ∧ ∃ h91_, st1 h90_ (Addr.add a7 1) (Value.slice A89_ n89_ c89_) = some h91_ ∧ f19.l0 R A0 n0 c0 a7 A8 n8 c8 h91_)))) ∧ (∃ l92_ : List Value, v79_ = Value.agg l92_.toArray ∧ l92_.length = 3 ∧ (newH h81_ (Obj.cells ((List.take 0 ([(Value.int .i64 (0 : Int)), (Value.string (ByteArray.mk #[])), (Value.slice none 0 0)]) ++ l92_ ++ List.drop 3 ([(Value.int .i64 (0 : Int)), (Value.string (ByteArray.mk #[])), (Value.slice none 0 0)])).toArray) 25) fun h93_ => Ext h81_ h93_ ∧ (∃ v94_, ldv false 1 h93_ (Addr.add a7 1) = some v94_ ∧ ∃ A95_, ∃ n95_, ∃ c95_, v94_ = (Value.slice A95_ n95_ c95_) ∧ Ext h93_ h93_ ∧ (AppW 25 3 48 #[(Value.int .i64 (0 : Int)), (Value.string (ByteArray.mk #[])), (Value.slice none 0 0)] A95_ n95_ c95_ (Value.slice (some ⟨Array.size h81_, 0, none⟩) 1 1) h93_ fun v96_ h97_ => ∃ A98_, ∃ n98_, ∃ c98_, v96_ = (Value.slice A98_ n98_ c98_) ∧ ∃ h99_, st1 h97_ a7 (Value.slice A82_ n82_ c82_) = some h99_ ∧ ∃ h100_, st1 h99_ (Addr.add a7 1) (Value.slice A98_ n98_ c98_) = some h100_ ∧ f19.l0 R A0 n0 c0 a7 A8 n8 c8 h100_))))) ∧ ((∃ v101_, ldv false 1 h12_ (Addr.add a7 1) = some v101_ ∧ ∃ A102_, ∃ n102_, ∃ c102_, v101_ = (Value.slice A102_ n102_ c102_) ∧ Ext h12_ h12_ ∧ ((AppW 9 1 16 #[(Value.string (ByteArray.mk #[]))] A9_ n9_ c9_ (Value.slice (some ⟨Array.size h6_, 0, none⟩) 1 1) h12_ fun v103_ h104_ => ∃ A105_, ∃ n105_, ∃ c105_, v103_ = (Value.slice A105_ n105_ c105_) ∧ ∃ l106_ : List Value, v79_ = Value.agg l106_.toArray ∧ l106_.length = 3 ∧ (newH h104_ (Obj.cells ((List.take 0 ([(Value.int .i64 (0 : Int)), (Value.string (ByteArray.mk #[])), (Value.slice none 0 0)]) ++ l106_ ++ List.drop 3 ([(Value.int .i64 (0 : Int)), (Value.string (ByteArray.mk #[])), (Value.slice none 0 0)])).toArray) 25) fun h107_ => Ext h104_ h107_ ∧ (AppW 25 3 48 #[(Value.int .i64 (0 : Int)), (Value.string (ByteArray.mk #[])), (Value.slice none 0 0)] A102_ n102_ c102_ (Value.slice (some ⟨Array.size h104_, 0, none⟩) 1 1) h107_ fun v108_ h109_ => ∃ A110_, ∃ n110_, ∃ c110_, v108_ = (Value.slice A110_ n110_ c110_) ∧ ∃ h111_, st1 h109_ a7 (Value.slice A105_ n105_ c105_) = some h111_ ∧ ∃ h112_, st1 h111_ (Addr.add a7 1) (Value.slice A110_ n110_ c110_) = some h112_ ∧ f19.l0 R A0 n0 c0 a7 A8 n8 c8 h112_))) ∧ (∃ l113_ : List Value, v79_ = Value.agg l113_.toArray ∧ l113_.length = 3 ∧ (newH h12_ (Obj.cells ((List.take 0 ([(Value.int .i64 (0 : Int)), (Value.string (ByteArray.mk #[])), (Value.slice none 0 0)]) ++ l113_ ++ List.drop 3 ([(Value.int .i64 (0 : Int)), (Value.string (ByteArray.mk #[])), (Value.slice none 0 0)])).toArray) 25) fun h114_ => Ext h12_ h114_ ∧ (AppW 9 1 16 #[(Value.string (ByteArray.mk #[]))] A9_ n9_ c9_ (Value.slice (some ⟨Array.size h6_, 0, none⟩) 1 1) h114_ fun v115_ h116_ => ∃ A117_, ∃ n117_, ∃ c117_, v115_ = (Value.slice A117_ n117_ c117_) ∧ AppW 25 3 48 #[(Value.int .i64 (0 : Int)), (Value.string (ByteArray.mk #[])), (Value.slice none 0 0)] A102_ n102_ c102_ (Value.slice (some ⟨Array.size h12_, 0, none⟩) 1 1) h116_ fun v118_ h119_ => ∃ A120_, ∃ n120_, ∃ c120_, v118_ = (Value.slice A120_ n120_ c120_) ∧ ∃ h121_, st1 h119_ a7 (Value.slice A117_ n117_ c117_) = some h121_ ∧ ∃ h122_, st1 h121_ (Addr.add a7 1) (Value.slice A120_ n120_ c120_) = some h122_ ∧ f19.l0 R A0 n0 c0 a7 A8 n8 c8 h122_))))) ∧ (∃ l123_ : List Value, v79_ = Value.agg l123_.toArray ∧ l123_.length = 3 ∧ (newH h12_ (Obj.cells ((List.take 0 ([(Value.int .i64 (0 : Int)), (Value.string (ByteArray.mk #[])), (Value.slice none 0 0)]) ++ l123_ ++ List.drop 3 ([(Value.int .i64 (0 : Int)), (Value.string (ByteArray.mk #[])), (Value.slice none 0 0)])).toArray) 25) fun h124_ => Ext h12_ h124_ ∧ ((AppW 9 1 16 #[(Value.string (ByteArray.mk #[]))] A9_ n9_ c9_ (Value.slice (some ⟨Array.size h6_, 0, none⟩) 1 1) h124_ fun v125_ h126_ => ∃ A127_, ∃ n127_, ∃ c127_, v125_ = (Value.slice A127_ n127_ c127_) ∧ ∃ v128_, ldv false 1 h126_ (Addr.add a7 1) = some v128_ ∧ ∃ A129_, ∃ n129_, ∃ c129_, v128_ = (Value.slice A129_ n129_ c129_) ∧ Ext h126_ h126_ ∧ (AppW 25 3 48 #[(Value.int .i64 (0 : Int)), (Value.string (ByteArray.mk #[])), (Value.slice none 0 0)] A129_ n129_ c129_ (Value.slice (some ⟨Array.size h12_, 0, none⟩) 1 1) h126_ fun v130_ h131_ => ∃ A132_, ∃ n132_, ∃ c132_, v130_ = (Value.slice A132_ n132_ c132_) ∧ ∃ h133_, st1 h131_ a7 (Value.slice A127_ n127_ c127_) = some h133_ ∧ ∃ h134_, st1 h133_ (Addr.add a7 1) (Value.slice A132_ n132_ c132_) = some h134_ ∧ f19.l0 R A0 n0 c0 a7 A8 n8 c8 h134_)) ∧ (∃ v135_, ldv false 1 h124_ (Addr.add a7 1) = some v135_ ∧ ∃ A136_, ∃ n136_, ∃ c136_, v135_ = (Value.slice A136_ n136_ c136_) ∧ Ext h124_ h124_ ∧ (AppW 9 1 16 #[(Value.string (ByteArray.mk #[]))] A9_ n9_ c9_ (Value.slice (some ⟨Array.size h6_, 0, none⟩) 1 1) h124_ fun v137_ h138_ => ∃ A139_, ∃ n139_, ∃ c139_, v137_ = (Value.slice A139_ n139_ c139_) ∧ AppW 25 3 48 #[(Value.int .i64 (0 : Int)), (Value.string (ByteArray.mk #[])), (Value.slice none 0 0)] A136_ n136_ c136_ (Value.slice (some ⟨Array.size h12_, 0, none⟩) 1 1) h138_ fun v140_ h141_ => ∃ A142_, ∃ n142_, ∃ c142_, v140_ = (Value.slice A142_ n142_ c142_) ∧ ∃ h143_, st1 h141_ a7 (Value.slice A139_ n139_ c139_) = some h143_ ∧ ∃ h144_, st1 h143_ (Addr.add a7 1) (Value.slice A142_ n142_ c142_) = some h144_ ∧ f19.l0 R A0 n0 c0 a7 A8 n8 c8 h144_))))))))))) ∧ ((∃ v145_, ldv false 1 h6_ (Addr.add a7 1) = some v145_ ∧ ∃ A146_, ∃ n146_, ∃ c146_, v145_ = (Value.slice A146_ n146_ c146_) ∧ Ext h6_ h6_ ∧ ((newH h6_ (Obj.cells #[(Value.string s11_)] 9) fun h147_ => Ext h6_ h147_ ∧ ((AppW 9 1 16 #[(Value.string (ByteArray.mk #[]))] A9_ n9_ c9_ (Value.slice (some ⟨Array.size h6_, 0, none⟩) 1 1) h147_ fun v148_ h149_ => ∃ A150_, ∃ n150_, ∃ c150_, v148_ = (Value.slice A150_ n150_ c150_) ∧ ∃ v151_, ldv true 3 h149_ a10 = some v151_ ∧ Ext h149_ h149_ ∧ (∃ l152_ : List Value, v151_ = Value.agg l152_.toArray ∧ l152_.length = 3 ∧ (newH h149_ (Obj.cells ((List.take 0 ([(Value.int .i64 (0 : Int)), (Value.string (ByteArray.mk #[])), (Value.slice none 0 0)]) ++ l152_ ++ List.drop 3 ([(Value.int .i64 (0 : Int)), (Value.string (ByteArray.mk #[])), (Value.slice none 0 0)])).toArray) 25) fun h153_ => Ext h149_ h153_ ∧ (AppW 25 3 48 #[(Value.int .i64 (0 : Int)), (Value.string (ByteArray.mk #[])), (Value.slice none 0 0)] A146_ n146_ c146_ (Value.slice (some ⟨Array.size h149_, 0, none⟩) 1 1) h153_ fun v154_ h155_ => ∃ A156_, ∃ n156_, ∃ c156_, v154_ = (Value.slice A156_ n156_ c156_) ∧ ∃ h157_, st1 h155_ a7 (Value.slice A150_ n150_ c150_) = some h157_ ∧ ∃ h158_, st1 h157_ (Addr.add a7 1) (Value.slice A156_ n156_ c156_) = some h158_ ∧ f19.l0 R A0 n0 c0 a7 A8 n8 c8 h158_)))) ∧ (∃ v159_, ldv true 3 h147_ a10 = some v159_ ∧ Ext h147_ h147_ ∧ ((AppW 9 1 16 #[(Value.string (ByteArray.mk #[]))] A9_ n9_ c9_ (Value.slice (some ⟨Array.size h6_, 0, none⟩) 1 1) h147_ fun v160_ h161_ => ∃ A162_, ∃ n162_, ∃ c162_, v160_ = (Value.slice A162_ n162_ c162_) ∧ ∃ l163_ : List Value, v159_ = Value.agg l163_.toArray ∧ l163_.length = 3 ∧ (newH h161_ (Obj.cells ((List.take 0 ([(Value.int .i64 (0 : Int)), (Value.string (ByteArray.mk #[])), (Value.slice none 0 0)]) ++ l163_ ++ List.drop 3 ([(Value.int .i64 (0 : Int)), (Value.string (ByteArray.mk #[])), (Value.slice none 0 0)])).toArray) 25) fun h164_ => Ext h161_ h164_ ∧ (AppW 25 3 48 #[(Value.int .i64 (0 : Int)), (Value.string (ByteArray.mk #[])), (Value.slice none 0 0)] A146_ n146_ c146_ (Value.slice (some ⟨Array.size h161_, 0, none⟩) 1 1) h164_ fun v165_ h166_ => ∃ A167_, ∃ n167_, ∃ c167_, v165_ = (Value.slice A167_ n167_ c167_) ∧ ∃ h168_, st1 h166_ a7 (Value.slice A162_ n162_ c162_) = some h168_ ∧ ∃ h169_, st1 h168_ (Addr.add a7 1) (Value.slice A167_ n167_ c167_) = some h169_ ∧ f19.l0 R A0 n0 c0 a7 A8 n8 c8 h169_))) ∧ (∃ l170_ : List Value, v159_ = Value.agg l170_.toArray ∧ l170_.length = 3 ∧ (newH h147_ (Obj.cells ((List.take 0 ([(Value.int .i64 (0 : Int)), (Value.string (ByteArray.mk #[])), (Value.slice none 0 0)]) ++ l170_ ++ List.drop 3 ([(Value.int .i64 (0 : Int)), (Value.string (ByteArray.mk #[])), (Value.slice none 0 0)])).toArray) 25) fun h171_ => Ext h147_ h171_ ∧ (AppW 9 1 16 #[(Value.string (ByteArray.mk #[]))] A9_ n9_ c9_ (Value.slice (some ⟨Array.size h6_, 0, none⟩) 1 1) h171_ fun v172_ h173_ => ∃ A174_, ∃ n174_, ∃ c174_, v172_ = (Value.slice A174_ n174_ c174_) ∧ AppW 25 3 48 #[(Value.int .i64 (0 : Int)), (Value.string (ByteArray.mk #[])), (Value.slice none 0 0)] A146_ n146_ c146_ (Value.slice (some ⟨Array.size h147_, 0, none⟩) 1 1) h173_ fun v175_ h176_ => ∃ A177_, ∃ n177_, ∃ c177_, v175_ = (Value.slice A177_ n177_ c177_) ∧ ∃ h178_, st1 h176_ a7 (Value.slice A174_ n174_ c174_) = some h178_ ∧ ∃ h179_, st1 h178_ (Addr.add a7 1) (Value.slice A177_ n177_ c177_) = some h179_ ∧ f19.l0 R A0 n0 c0 a7 A8 n8 c8 h179_))))))) ∧ (∃ v180_, ldv true 3 h6_ a10 = some v180_ ∧ Ext h6_ h6_ ∧ ((newH h6_ (Obj.cells #[(Value.string s11_)] 9) fun h181_ => Ext h6_ h181_ ∧ ((AppW 9 1 16 #[(Value.string (ByteArray.mk #[]))] A9_ n9_ c9_ (Value.slice (some ⟨Array.size h6_, 0, none⟩) 1 1) h181_ fun v182_ h183_ => ∃ A184_, ∃ n184_, ∃ c184_, v182_ = (Value.slice A184_ n184_ c184_) ∧ ∃ l185_ : List Value, v180_ = Value.agg l185_.toArray ∧ l185_.length = 3 ∧ (newH h183_ (Obj.cells ((List.take 0 ([(Value.int .i64 (0 : Int)), (Value.string (ByteArray.mk #[])), (Value.slice none 0 0)]) ++ l185_ ++ List.drop 3 ([(Value.int .i64 (0 : Int)), (Value.string (ByteArray.mk #[])), (Value.slice none 0 0)])).toArray) 25) fun h186_ => Ext h183_ h186_ ∧ (AppW 25 3 48 #[(Value.int .i64 (0 : Int)), (Value.string (ByteArray.mk #[])), (Value.slice none 0 0)] A146_ n146_ c146_ (Value.slice (some ⟨Array.size h183_, 0, none⟩) 1 1) h186_ fun v187_ h188_ => ∃ A189_, ∃ n189_, ∃ c189_, v187_ = (Value.slice A189_ n189_ c189_) ∧ ∃ h190_, st1 h188_ a7 (Value.slice A184_ n184_ c184_) = some h190_ ∧ ∃ h191_, st1 h190_ (Addr.add a7 1) (Value.slice A189_ n189_ c189_) = some h191_ ∧ f19.l0 R A0 n0 c0 a7 A8 n8 c8 h191_))) ∧ (∃ l192_ : List Value, v180_ = Value.agg l192_.toArray ∧ l192_.length = 3 ∧ (newH h181_ (Obj.cells ((List.take 0 ([(Value.int .i64 (0 : Int)), (Value.string (ByteArray.mk #[])), (Value.slice none 0 0)]) ++ l192_ ++ List.drop 3 ([(Value.int .i64 (0 : Int)), (Value.string (ByteArray.mk #[])), (Value.slice none 0 0)])).toArray) 25) fun h193_ => Ext h181_ h193_ ∧ (AppW 9 1 16 #[(Value.string (ByteArray.mk #[]))] A9_ n9_ c9_ (Value.slice (some ⟨Array.size h6_, 0, none⟩) 1 1) h193_ fun v194_ h195_ => ∃ A196_, ∃ n196_, ∃ c196_, v194_ = (Value.slice A196_ n196_ c196_) ∧ AppW 25 3 48 #[(Value.int .i64 (0 : Int)), (Value.string (ByteArray.mk #[])), (Value.slice none 0 0)] A146_ n146_ c146_ (Value.slice (some ⟨Array.size h181_, 0, none⟩) 1 1) h195_ fun v197_ h198_ => ∃ A199_, ∃ n199_, ∃ c199_, v197_ = (Value.slice A199_ n199_ c199_) ∧ ∃ h200_, st1 h198_ a7 (Value.slice A196_ n196_ c196_) = some h200_ ∧ ∃ h201_, st1 h200_ (Addr.add a7 1) (Value.slice A199_ n199_ c199_) = some h201_ ∧ f19.l0 R A0 n0 c0 a7 A8 n8 c8 h201_))))) ∧ (∃ l202_ : List Value, v180_ = Value.agg l202_.toArray ∧ l202_.length = 3 ∧ (newH h6_ (Obj.cells ((List.take 0 ([(Value.int .i64 (0 : Int)), (Value.string (ByteArray.mk #[])), (Value.slice none 0 0)]) ++ l202_ ++ List.drop 3 ([(Value.int .i64 (0 : Int)), (Value.string (ByteArray.mk #[])), (Value.slice none 0 0)])).toArray) 25) fun h203_ => Ext h6_ h203_ ∧ (newH h203_ (Obj.cells #[(Value.string s11_)] 9) fun h204_ => Ext h203_ h204_ ∧ (AppW 9 1 16 #[(Value.string (ByteArray.mk #[]))] A9_ n9_ c9_ (Value.slice (some ⟨Array.size h203_, 0, none⟩) 1 1) h204_ fun v205_ h206_ => ∃ A207_, ∃ n207_, ∃ c207_, v205_ = (Value.slice A207_ n207_ c207_) ∧ AppW 25 3 48 #[(Value.int .i64 (0 : Int)), (Value.string (ByteArray.mk #[])), (Value.slice none 0 0)] A146_ n146_ c146_ (Value.slice (some ⟨Array.size h6_, 0, none⟩) 1 1) h206_ fun v208_ h209_ => ∃ A210_, ∃ n210_, ∃ c210_, v208_ = (Value.slice A210_ n210_ c210_) ∧ ∃ h211_, st1 h209_ a7 (Value.slice A207_ n207_ c207_) = some h211_ ∧ ∃ h212_, st1 h211_ (Addr.add a7 1) (Value.slice A210_ n210_ c210_) = some h212_ ∧ f19.l0 R A0 n0 c0 a7 A8 n8 c8 h212_)))))))) ∧ (∃ v213_, ldv true 3 h6_ a10 = some v213_ ∧ Ext h6_ h6_ ∧ ((newH h6_ (Obj.cells #[(Value.string s11_)] 9) fun h214_ => Ext h6_ h214_ ∧ ((AppW 9 1 16 #[(Value.string (ByteArray.mk #[]))] A9_ n9_ c9_ (Value.slice (some ⟨Array.size h6_, 0, none⟩) 1 1) h214_ fun v215_ h216_ => ∃ A217_, ∃ n217_, ∃ c217_, v215_ = (Value.slice A217_ n217_ c217_) ∧ (∃ v218_, ldv false 1 h216_ (Addr.add a7 1) = some v218_ ∧ ∃ A219_, ∃ n219_, ∃ c219_, v218_ = (Value.slice A219_ n219_ c219_) ∧ Ext h216_ h216_ ∧ (∃ l220_ : List Value, v213_ = Value.agg l220_.toArray ∧ l220_.length = 3 ∧ (newH h216_ (Obj.cells ((List.take 0 ([(Value.int .i64 (0 : Int)), (Value.string (ByteArray.mk #[])), (Value.slice none 0 0)]) ++ l220_ ++ List.drop 3 ([(Value.int .i64 (0 : Int)), (Value.string (ByteArray.mk #[])), (Value.slice none 0 0)])).toArray) 25) fun h221_ => Ext h216_ h221_ ∧ (AppW 25 3 48 #[(Value.int .i64 (0 : Int)), (Value.string (ByteArray.mk #[])), (Value.slice none 0 0)] A219_ n219_ c219_ (Value.slice (some ⟨Array.size h216_, 0, none⟩) 1 1) h221_ fun v222_ h223_ => ∃ A224_, ∃ n224_, ∃ c224_, v222_ = (Value.slice A224_ n224_ c224_) ∧ ∃ h225_, st1 h223_ a7 (Value.slice A217_ n217_ c217_) = some h225_ ∧ ∃ h226_, st1 h225_ (Addr.add a7 1) (Value.slice A224_ n224_ c224_) = some h226_ ∧ f19.l0 R A0 n0 c0 a7 A8 n8 c8 h226_)))) ∧ (∃ l227_ : List Value, v213_ = Value.agg l227_.toArray ∧ l227_.length = 3 ∧ (newH h216_ (Obj.cells ((List.take 0 ([(Value.int .i64 (0 : Int)), (Value.string (ByteArray.mk #[])), (Value.slice none 0 0)]) ++ l227_ ++ List.drop 3 ([(Value.int .i64 (0 : Int)), (Value.string (ByteArray.mk #[])), (Value.slice none 0 0)])).toArray) 25) fun h228_ => Ext h216_ h228_ ∧ (∃ v229_, ldv false 1 h228_ (Addr.add a7 1) = some v229_ ∧ ∃ A230_, ∃ n230_, ∃ c230_, v229_ = (Value.slice A230_ n230_ c230_) ∧ Ext h228_ h228_ ∧ (AppW 25 3 48 #[(Value.int .i64 (0 : Int)), (Value.string (ByteArray.mk #[])), (Value.slice none 0 0)] A230_ n230_ c230_ (Value.slice (some ⟨Array.size h216_, 0, none⟩) 1 1) h228_ fun v231_ h232_ => ∃ A233_, ∃ n233_, ∃ c233_, v231_ = (Value.slice A233_ n233_ c233_) ∧ ∃ h234_, st1 h232_ a7 (Value.slice A217_ n217_ c217_) = some h234_ ∧ ∃ h235_, st1 h234_ (Addr.add a7 1) (Value.slice A233_ n233_ c233_) = some h235_ ∧ f19.l0 R A0 n0 c0 a7 A8 n8 c8 h235_))))) ∧ ((∃ v236_, ldv false 1 h214_ (Addr.add a7 1) = some v236_ ∧ ∃ A237_, ∃ n237_, ∃ c237_, v236_ = (Value.slice A237_ n237_ c237_) ∧ Ext h214_ h214_ ∧ ((AppW 9 1 16 #[(Value.string (ByteArray.mk #[]))] A9_ n9_ c9_ (Value.slice (some ⟨Array.size h6_, 0, none⟩) 1 1) h214_ fun v238_ h239_ => ∃ A240_, ∃ n240_, ∃ c240_, v238_ = (Value.slice A240_ n240_ c240_) ∧ ∃ l241_ : List Value, v213_ = Value.agg l241_.toArray ∧ l241_.length = 3 ∧ (newH h239_ (Obj.cells ((List.take 0 ([(Value.int .i64 (0 : Int)), (Value.string (ByteArray.mk #[])), (Value.slice none 0 0)]) ++ l241_ ++ List.drop 3 ([(Value.int .i64 (0 : Int)), (Value.string (ByteArray.mk #[])), (Value.slice none 0 0)])).toArray) 25) fun h242_ => Ext h239_ h242_ ∧ (AppW 25 3 48 #[(Value.int .i64 (0 : Int)), (Value.string (ByteArray.mk #[])), (Value.slice none 0 0)] A237_ n237_ c237_ (Value.slice (some ⟨Array.size h239_, 0, none⟩) 1 1) h242_ fun v243_ h244_ => ∃ A245_, ∃ n245_, ∃ c245_, v243_ = (Value.slice A245_ n245_ c245_) ∧ ∃ h246_, st1 h244_ a7 (Value.slice A240_ n240_ c240_) = some h246_ ∧ ∃ h247_, st1 h246_ (Addr.add a7 1) (Value.slice A245_ n245_ c245_) = some h247_ ∧ f19.l0 R A0 n0 c0 a7 A8 n8 c8 h247_))) ∧ (∃ l248_ : List Value, v213_ = Value.agg l248_.toArray ∧ l248_.length = 3 ∧ (newH h214_ (Obj.cells ((List.take 0 ([(Value.int .i64 (0 : Int)), (Value.string (ByteArray.mk #[])), (Value.slice none 0 0)]) ++ l248_ ++ List.drop 3 ([(Value.int .i64 (0 : Int)), (Value.string (ByteArray.mk #[])), (Value.slice none 0 0)])).toArray) 25) fun h249_ => Ext h214_ h249_ ∧ (AppW 9 1 16 #[(Value.string (ByteArray.mk #[]))] A9_ n9_ c9_ (Value.slice (some ⟨Array.size h6_, 0, none⟩) 1 1) h249_ fun v250_ h251_ => ∃ A252_, ∃ n252_, ∃ c252_, v250_ = (Value.slice A252_ n252_ c252_) ∧ AppW 25 3 48 #[(Value.int .i64 (0 : Int)), (Value.string (ByteArray.mk #[])), (Value.slice none 0 0)] A237_ n237_ c237_ (Value.slice (some ⟨Array.size h214_, 0, none⟩) 1 1) h251_ fun v253_ h254_ => ∃ A255_, ∃ n255_, ∃ c255_, v253_ = (Value.slice A255_ n255_ c255_) ∧ ∃ h256_, st1 h254_ a7 (Value.slice A252_ n252_ c252_) = some h256_ ∧ ∃ h257_, st1 h256_ (Addr.add a7 1) (Value.slice A255_ n255_ c255_) = some h257_ ∧ f19.l0 R A0 n0 c0 a7 A8 n8 c8 h257_))))) ∧ (∃ l258_ : List Value, v213_ = Value.agg l258_.toArray ∧ l258_.length = 3 ∧ (newH h214_ (Obj.cells ((List.take 0 ([(Value.int .i64 (0 : Int)), (Value.string (ByteArray.mk #[])), (Value.slice none 0 0)]) ++ l258_ ++ List.drop 3 ([(Value.int .i64 (0 : Int)), (Value.string (ByteArray.mk #[])), (Value.slice none 0 0)])).toArray) 25) fun h259_ => Ext h214_ h259_ ∧ ((AppW 9 1 16 #[(Value.string (ByteArray.mk #[]))] A9_ n9_ c9_ (Value.slice (some ⟨Array.size h6_, 0, none⟩) 1 1) h259_ fun v260_ h261_ => ∃ A262_, ∃ n262_, ∃ c262_, v260_ = (Value.slice A262_ n262_ c262_) ∧ ∃ v263_, ldv false 1 h261_ (Addr.add a7 1) = some v263_ ∧ ∃ A264_, ∃ n264_, ∃ c264_, v263_ = (Value.slice A264_ n264_ c264_) ∧ Ext h261_ h261_ ∧ (AppW 25 3 48 #[(Value.int .i64 (0 : Int)), (Value.string (ByteArray.mk #[])), (Value.slice none 0 0)] A264_ n264_ c264_ (Value.slice (some ⟨Array.size h214_, 0, none⟩) 1 1) h261_ fun v265_ h266_ => ∃ A267_, ∃ n267_, ∃ c267_, v265_ = (Value.slice A267_ n267_ c267_) ∧ ∃ h268_, st1 h266_ a7 (Value.slice A262_ n262_ c262_) = some h268_ ∧ ∃ h269_, st1 h268_ (Addr.add a7 1) (Value.slice A267_ n267_ c267_) = some h269_ ∧ f19.l0 R A0 n0 c0 a7 A8 n8 c8 h269_)) ∧ (∃ v270_, ldv false 1 h259_ (Addr.add a7 1) = some v270_ ∧ ∃ A271_, ∃ n271_, ∃ c271_, v270_ = (Value.slice A271_ n271_ c271_) ∧ Ext h259_ h259_ ∧ (AppW 9 1 16 #[(Value.string (ByteArray.mk #[]))] A9_ n9_ c9_ (Value.slice (some ⟨Array.size h6_, 0, none⟩) 1 1) h259_ fun v272_ h273_ => ∃ A274_, ∃ n274_, ∃ c274_, v272_ = (Value.slice A274_ n274_ c274_) ∧ AppW 25 3 48 #[(Value.int .i64 (0 : Int)), (Value.string (ByteArray.mk #[])), (Value.slice none 0 0)] A271_ n271_ c271_ (Value.slice (some ⟨Array.size h214_, 0, none⟩) 1 1) h273_ fun v275_ h276_ => ∃ A277_, ∃ n277_, ∃ c277_, v275_ = (Value.slice A277_ n277_ c277_) ∧ ∃ h278_, st1 h276_ a7 (Value.slice A274_ n274_ c274_) = some h278_ ∧ ∃ h279_, st1 h278_ (Addr.add a7 1) (Value.slice A277_ n277_ c277_) = some h279_ ∧ f19.l0 R A0 n0 c0 a7 A8 n8 c8 h279_)))))))) ∧ ((∃ v280_, ldv false 1 h6_ (Addr.add a7 1) = some v280_ ∧ ∃ A281_, ∃ n281_, ∃ c281_, v280_ = (Value.slice A281_ n281_ c281_) ∧ Ext h6_ h6_ ∧ ((newH h6_ (Obj.cells #[(Value.string s11_)] 9) fun h282_ => Ext h6_ h282_ ∧ ((AppW 9 1 16 #[(Value.string (ByteArray.mk #[]))] A9_ n9_ c9_ (Value.slice (some ⟨Array.size h6_, 0, none⟩) 1 1) h282_ fun v283_ h284_ => ∃ A285_, ∃ n285_, ∃ c285_, v283_ = (Value.slice A285_ n285_ c285_) ∧ ∃ l286_ : List Value, v213_ = Value.agg l286_.toArray ∧ l286_.length = 3 ∧ (newH h284_ (Obj.cells ((List.take 0 ([(Value.int .i64 (0 : Int)), (Value.string (ByteArray.mk #[])), (Value.slice none 0 0)]) ++ l286_ ++ List.drop 3 ([(Value.int .i64 (0 : Int)), (Value.string (ByteArray.mk #[])), (Value.slice none 0 0)])).toArray) 25) fun h287_ => Ext h284_ h287_ ∧ (AppW 25 3 48 #[(Value.int .i64 (0 : Int)), (Value.string (ByteArray.mk #[])), (Value.slice none 0 0)] A281_ n281_ c281_ (Value.slice (some ⟨Array.size h284_, 0, none⟩) 1 1) h287_ fun v288_ h289_ => ∃ A290_, ∃ n290_, ∃ c290_, v288_ = (Value.slice A290_ n290_ c290_) ∧ ∃ h291_, st1 h289_ a7 (Value.slice A285_ n285_ c285_) = some h291_ ∧ ∃ h292_, st1 h291_ (Addr.add a7 1) (Value.slice A290_ n290_ c290_) = some h292_ ∧ f19.l0 R A0 n0 c0 a7 A8 n8 c8 h292_))) ∧ (∃ l293_ : List Value, v213_ = Value.agg l293_.toArray ∧ l293_.length = 3 ∧ (newH h282_ (Obj.cells ((List.take 0 ([(Value.int .i64 (0 : Int)), (Value.string (ByteArray.mk #[])), (Value.slice none 0 0)]) ++ l293_ ++ List.drop 3 ([(Value.int .i64 (0 : Int)), (Value.string (ByteArray.mk #[])), (Value.slice none 0 0)])).toArray) 25) fun h294_ => Ext h282_ h294_ ∧ (AppW 9 1 16 #[(Value.string (ByteArray.mk #[]))] A9_ n9_ c9_ (Value.slice (some ⟨Array.size h6_, 0, none⟩) 1 1) h294_ fun v295_ h296_ => ∃ A297_, ∃ n297_, ∃ c297_, v295_ = (Value.slice A297_ n297_ c297_) ∧ AppW 25 3 48 #[(Value.int .i64 (0 : Int)), (Value.string (ByteArray.mk #[])), (Value.slice none 0 0)] A281_ n281_ c281_ (Value.slice (some ⟨Array.size h282_, 0, none⟩) 1 1) h296_ fun v298_ h299_ => ∃ A300_, ∃ n300_, ∃ c300_, v298_ = (Value.slice A300_ n300_ c300_) ∧ ∃ h301_, st1 h299_ a7 (Value.slice A297_ n297_ c297_) = some h301_ ∧ ∃ h302_, st1 h301_ (Addr.add a7 1) (Value.slice A300_ n300_ c300_) = some h302_ ∧ f19.l0 R A0 n0 c0 a7 A8 n8 c8 h302_))))) ∧ (∃ l303_ : List Value, v213_ = Value.agg l303_.toArray ∧ l303_.length = 3 ∧ (newH h6_ (Obj.cells ((List.take 0 ([(Value.int .i64 (0 : Int)), (Value.string (ByteArray.mk #[])), (Value.slice none 0 0)]) ++ l303_ ++ List.drop 3 ([(Value.int .i64 (0 : Int)), (Value.string (ByteArray.mk #[])), (Value.slice none 0 0)])).toArray) 25) fun h304_ => Ext h6_ h304_ ∧ (newH h304_ (Obj.cells #[(Value.string s11_)] 9) fun h305_ => Ext h304_ h305_ ∧ (AppW 9 1 16 #[(Value.string (ByteArray.mk #[]))] A9_ n9_ c9_ (Value.slice (some ⟨Array.size h304_, 0, none⟩) 1 1) h305_ fun v306_ h307_ => ∃ A308_, ∃ n308_, ∃ c308_, v306_ = (Value.slice A308_ n308_ c308_) ∧ AppW 25 3 48 #[(Value.int .i64 (0 : Int)), (Value.string (ByteArray.mk #[])), (Value.slice none 0 0)] A281_ n281_ c281_ (Value.slice (some ⟨Array.size h6_, 0, none⟩) 1 1) h307_ fun v309_ h310_ => ∃ A311_, ∃ n311_, ∃ c311_, v309_ = (Value.slice A311_ n311_ c311_) ∧ ∃ h312_, st1 h310_ a7 (Value.slice A308_ n308_ c308_) = some h312_ ∧ ∃ h313_, st1 h312_ (Addr.add a7 1) (Value.slice A311_ n311_ c311_) = some h313_ ∧ f19.l0 R A0 n0 c0 a7 A8 n8 c8 h313_)))))) ∧ (∃ l314_ : List Value, v213_ = Value.agg l314_.toArray ∧ l314_.length = 3 ∧ (newH h6_ (Obj.cells ((List.take 0 ([(Value.int .i64 (0 : Int)), (Value.string (ByteArray.mk #[])), (Value.slice none 0 0)]) ++ l314_ ++ List.drop 3 ([(Value.int .i64 (0 : Int)), (Value.string (ByteArray.mk #[])), (Value.slice none 0 0)])).toArray) 25) fun h315_ => Ext h6_ h315_ ∧ ((newH h315_ (Obj.cells #[(Value.string s11_)] 9) fun h316_ => Ext h315_ h316_ ∧ ((AppW 9 1 16 #[(Value.string (ByteArray.mk #[]))] A9_ n9_ c9_ (Value.slice (some ⟨Array.size h315_, 0, none⟩) 1 1) h316_ fun v317_ h318_ => ∃ A319_, ∃ n319_, ∃ c319_, v317_ = (Value.slice A319_ n319_ c319_) ∧ ∃ v320_, ldv false 1 h318_ (Addr.add a7 1) = some v320_ ∧ ∃ A321_, ∃ n321_, ∃ c321_, v320_ = (Value.slice A321_ n321_ c321_) ∧ Ext h318_ h318_ ∧ (AppW 25 3 48 #[(Value.int .i64 (0 : Int)), (Value.string (ByteArray.mk #[])), (Value.slice none 0 0)] A321_ n321_ c321_ (Value.slice (some ⟨Array.size h6_, 0, none⟩) 1 1) h318_ fun v322_ h323_ => ∃ A324_, ∃ n324_, ∃ c324_, v322_ = (Value.slice A324_ n324_ c324_) ∧ ∃ h325_, st1 h323_ a7 (Value.slice A319_ n319_ c319_) = some h325_ ∧ ∃ h326_, st1 h325_ (Addr.add a7 1) (Value.slice A324_ n324_ c324_) = some h326_ ∧ f19.l0 R A0 n0 c0 a7 A8 n8 c8 h326_)) ∧ (∃ v327_, ldv false 1 h316_ (Addr.add a7 1) = some v327_ ∧ ∃ A328_, ∃ n328_, ∃ c328_, v327_ = (Value.slice A328_ n328_ c328_) ∧ Ext h316_ h316_ ∧ (AppW 9 1 16 #[(Value.string (ByteArray.mk #[]))] A9_ n9_ c9_ (Value.slice (some ⟨Array.size h315_, 0, none⟩) 1 1) h316_ fun v329_ h330_ => ∃ A331_, ∃ n331_, ∃ c331_, v329_ = (Value.slice A331_ n331_ c331_) ∧ AppW 25 3 48 #[(Value.int .i64 (0 : Int)), (Value.string (ByteArray.mk #[])), (Value.slice none 0 0)] A328_ n328_ c328_ (Value.slice (some ⟨Array.size h6_, 0, none⟩) 1 1) h330_ fun v332_ h333_ => ∃ A334_, ∃ n334_, ∃ c334_, v332_ = (Value.slice A334_ n334_ c334_) ∧ ∃ h335_, st1 h333_ a7 (Value.slice A331_ n331_ c331_) = some h335_ ∧ ∃ h336_, st1 h335_ (Addr.add a7 1) (Value.slice A334_ n334_ c334_) = some h336_ ∧ f19.l0 R A0 n0 c0 a7 A8 n8 c8 h336_)))) ∧ (∃ v337_, ldv false 1 h315_ (Addr.add a7 1) = some v337_ ∧ ∃ A338_, ∃ n338_, ∃ c338_, v337_ = (Value.slice A338_ n338_ c338_) ∧ Ext h315_ h315_ ∧ (newH h315_ (Obj.cells #[(Value.string s11_)] 9) fun h339_ => Ext h315_ h339_ ∧ (AppW 9 1 16 #[(Value.string (ByteArray.mk #[]))] A9_ n9_ c9_ (Value.slice (some ⟨Array.size h315_, 0, none⟩) 1 1) h339_ fun v340_ h341_ => ∃ A342_, ∃ n342_, ∃ c342_, v340_ = (Value.slice A342_ n342_ c342_) ∧ AppW 25 3 48 #[(Value.int .i64 (0 : Int)), (Value.string (ByteArray.mk #[])), (Value.slice none 0 0)] A338_ n338_ c338_ (Value.slice (some ⟨Array.size h6_, 0, none⟩) 1 1) h341_ fun v343_ h344_ => ∃ A345_, ∃ n345_, ∃ c345_, v343_ = (Value.slice A345_ n345_ c345_) ∧ ∃ h346_, st1 h344_ a7 (Value.slice A342_ n342_ c342_) = some h346_ ∧ ∃ h347_, st1 h346_ (Addr.add a7 1) (Value.slice A345_ n345_ c345_) = some h347_ ∧ f19.l0 R A0 n0 c0 a7 A8 n8 c8 h347_))))))))))) (∃ v348_, ldv false 1 h6_ (Addr.add a7 1) = some v348_ ∧ ∃ A349_, ∃ n349_, ∃ c349_, v348_ = (Value.slice A349_ n349_ c349_) ∧ ptrOk A349_ fun a350_ => 0 ≤ x7_ ∧ x7_ < ((n349_ : Nat) : Int) ∧ (∃ v351_, ldv true 3 h6_ (Addr.add a350_ (Int.toNat x7_ * 3)) = some v351_ ∧ (Run Tryd.prog 10 #[v351_] h6_ fun v352_ h353_ => ∃ s354_, v352_ = (Value.string s354_) ∧ ∃ v355_, ldv true 3 h353_ a10 = some v355_ ∧ Ext h353_ h353_ ∧ (Run Tryd.prog 10 #[v355_] h353_ fun v356_ h357_ => ∃ s358_, v356_ = (Value.string s358_) ∧ splitB (!(ByteArray.toList s354_ == ByteArray.toList s358_)) (R (Value.bool false) h357_) (f19.l0 R A0 n0 c0 a7 A8 n8 c8 h357_))) ∧ (∃ v359_, ldv true 3 h6_ a10 = some v359_ ∧ Ext h6_ h6_ ∧ (Run Tryd.prog 10 #[v351_] h6_ fun v360_ h361_ => ∃ s362_, v360_ = (Value.string s362_) ∧ Run Tryd.prog 10 #[v359_] h361_ fun v363_ h364_ => ∃ s365_, v363_ = (Value.string s365_) ∧ splitB (!(ByteArray.toList s362_ == ByteArray.toList s365_)) (R (Value.bool false) h364_) (f19.l0 R A0 n0 c0 a7 A8 n8 c8 h364_)))))) (f19.j1 R A0 n0 c0 a7 A8 n8 c8 a9 a10 h)
set_option maxRecDepth 100000 in
theorem f19.j2_in {R : Value → Heap → Prop} {A0 : Option Addr} {n0 : Nat} {c0 : Nat} {a7 : Addr} {A8 : Option Addr} {n8 : Nat} {c8 : Nat} {a9 : Addr} {a10 : Addr} {b39 : Bool} {h : Heap} (H : f19.j2T R A0 n0 c0 a7 A8 n8 c8 a9 a10 b39 h) : f19.j2 R A0 n0 c0 a7 A8 n8 c8 a9 a10 b39 h :=
  pt_intro mixed f19.good (Eq.mpr (show (Fwd Tryd.prog f19.T f19.kp Tryd.f19 R [true, false, true, true, false, true, false, false, false, true, true, true] (mkFr [(0, (Value.slice A0 n0 c0)), (7, (Value.pointer (some a7))), (8, (Value.slice A8 n8 c8)), (9, (Value.pointer (some a9))), (10, (Value.pointer (some a10))), (39, (Value.bool b39))]) h) = (f19.j2T R A0 n0 c0 a7 A8 n8 c8 a9 a10 b39 h) by kernel_rfl) H)
set_option maxRecDepth 100000 in
def f19.j1T (R : Value → Heap → Prop) (A0 : Option Addr) (n0 : Nat) (c0 : Nat) (a7 : Addr) (A8 : Option Addr) (n8 : Nat) (c8 : Nat) (a9 : Addr) (a10 : Addr) (h : Heap) : Prop :=
  ∃ v1_, ldv false 1 h a9 = some v1_ ∧ ∃ x2_, v1_ = (Value.int .i64 x2_) ∧ ∃ v3_, ldv false 1 h a10 = some v3_ ∧ ∃ x4_, v3_ = (Value.int .i64 x4_) ∧ splitB (x2_ != x4_) (R (Value.bool false) h) (∃ v5_, ldv false 1 h (Addr.add a9 1) = some v5_ ∧ ∃ s6_, v5_ = (Value.string s6_) ∧ ∃ v7_, ldv false 1 h (Addr.add a10 1) = some v7_ ∧ ∃ s8_, v7_ = (Value.string s8_) ∧ splitB (!(ByteArray.toList s6_ == ByteArray.toList s8_)) (R (Value.bool false) h) (∃ v9_, ldv false 1 h (Addr.add a9 2) = some v9_ ∧ ∃ A10_, ∃ n10_, ∃ c10_, v9_ = (Value.slice A10_ n10_ c10_) ∧ ∃ v11_, ldv false 1 h (Addr.add a10 2) = some v11_ ∧ ∃ A12_, ∃ n12_, ∃ c12_, v11_ = (Value.slice A12_ n12_ c12_) ∧ splitB (((n10_ : Nat) : Int) != ((n12_ : Nat) : Int)) (R (Value.bool false) h) (f19.j3 R A0 n0 c0 a7 A8 n8 c8 a9 a10 h)))
set_option maxRecDepth 100000 in
theorem f19.j1_in {R : Value → Heap → Prop} {A0 : Option Addr} {n0 : Nat} {c0 : Nat} {a7 : Addr} {A8 : Option Addr} {n8 : Nat} {c8 : Nat} {a9 : Addr} {a10 : Addr} {h : Heap} (H : f19.j1T R A0 n0 c0 a7 A8 n8 c8 a9 a10 h) : f19.j1 R A0 n0 c0 a7 A8 n8 c8 a9 a10 h :=
  pt_intro mixed f19.good (Eq.mpr (show (Fwd Tryd.prog f19.T f19.kp Tryd.f19 R [true, true, true, false, true, false, false, false, true, true, true] (mkFr [(0, (Value.slice A0 n0 c0)), (7, (Value.pointer (some a7))), (8, (Value.slice A8 n8 c8)), (9, (Value.pointer (some a9))), (10, (Value.pointer (some a10)))]) h) = (f19.j1T R A0 n0 c0 a7 A8 n8 c8 a9 a10 h) by kernel_rfl) H)
set_option maxRecDepth 100000 in
def f19.j3T (R : Value → Heap → Prop) (A0 : Option Addr) (n0 : Nat) (c0 : Nat) (a7 : Addr) (A8 : Option Addr) (n8 : Nat) (c8 : Nat) (a9 : Addr) (a10 : Addr) (h : Heap) : Prop :=
  ∃ v1_, ldv false 1 h (Addr.add a9 2) = some v1_ ∧ ∃ A2_, ∃ n2_, ∃ c2_, v1_ = (Value.slice A2_ n2_ c2_) ∧ f19.l1 R A0 n0 c0 a7 A8 n8 c8 a9 a10 ((n2_ : Nat) : Int) (0 : Int) h
set_option maxRecDepth 100000 in
theorem f19.j3_in {R : Value → Heap → Prop} {A0 : Option Addr} {n0 : Nat} {c0 : Nat} {a7 : Addr} {A8 : Option Addr} {n8 : Nat} {c8 : Nat} {a9 : Addr} {a10 : Addr} {h : Heap} (H : f19.j3T R A0 n0 c0 a7 A8 n8 c8 a9 a10 h) : f19.j3 R A0 n0 c0 a7 A8 n8 c8 a9 a10 h :=
  pt_intro mixed f19.good (Eq.mpr (show (Fwd Tryd.prog f19.T f19.kp Tryd.f19 R [true, true, true, true, false, true, false, false, false, true, true, true] (mkFr [(0, (Value.slice A0 n0 c0)), (7, (Value.pointer (some a7))), (8, (Value.slice A8 n8 c8)), (9, (Value.pointer (some a9))), (10, (Value.pointer (some a10)))]) h) = (f19.j3T R A0 n0 c0 a7 A8 n8 c8 a9 a10 h) by kernel_rfl) H)
set_option maxRecDepth 100000 in
def f19.l1T (R : Value → Heap → Prop) (A0 : Option Addr) (n0 : Nat) (c0 : Nat) (a7 : Addr) (A8 : Option Addr) (n8 : Nat) (c8 : Nat) (a9 : Addr) (a10 : Addr) (x92 : Int) (x93 : Int) (h : Heap) : Prop :=
  splitB (decide (x93 < x92)) (∃ v1_, ldv false 1 h (Addr.add a9 2) = some v1_ ∧ ∃ A2_, ∃ n2_, ∃ c2_, v1_ = (Value.slice A2_ n2_ c2_) ∧ ptrOk A2_ fun a3_ => 0 ≤ x93 ∧ x93 < ((n2_ : Nat) : Int) ∧ (∃ v4_, ldv true 3 h (Addr.add a3_ (Int.toNat x93 * 3)) = some v4_ ∧ ∃ v5_, ldv false 1 h (Addr.add a10 2) = some v5_ ∧ ∃ A6_, ∃ n6_, ∃ c6_, v5_ = (Value.slice A6_ n6_ c6_) ∧ ptrOk A6_ fun a7_ => 0 ≤ x93 ∧ x93 < ((n6_ : Nat) : Int) ∧ (∃ v8_, ldv true 3 h (Addr.add a7_ (Int.toNat x93 * 3)) = some v8_ ∧ ∃ l9_ : List Value, v4_ = Value.agg l9_.toArray ∧ l9_.length = 3 ∧ (∃ l10_ : List Value, v8_ = Value.agg l10_.toArray ∧ l10_.length = 3 ∧ (∃ l11_ : List Value, (Value.agg (List.take 3 (List.take 0 ([(Value.int .i64 (0 : Int)), (Value.string (ByteArray.mk #[])), (Value.slice none 0 0), (Value.int .i64 (0 : Int)), (Value.string (ByteArray.mk #[])), (Value.slice none 0 0)]) ++ l9_ ++ List.drop 3 ([(Value.int .i64 (0 : Int)), (Value.string (ByteArray.mk #[])), (Value.slice none 0 0), (Value.int .i64 (0 : Int)), (Value.string (ByteArray.mk #[])), (Value.slice none 0 0)])) ++ l10_ ++ List.drop 6 (List.take 0 ([(Value.int .i64 (0 : Int)), (Value.string (ByteArray.mk #[])), (Value.slice none 0 0), (Value.int .i64 (0 : Int)), (Value.string (ByteArray.mk #[])), (Value.slice none 0 0)]) ++ l9_ ++ List.drop 3 ([(Value.int .i64 (0 : Int)), (Value.string (ByteArray.mk #[])), (Value.slice none 0 0), (Value.int .i64 (0 : Int)), (Value.string (ByteArray.mk #[])), (Value.slice none 0 0)]))).toArray) = Value.agg l11_.toArray ∧ l11_.length = 6 ∧ (newH h (Obj.cells ((List.take 0 ([(Value.int .i64 (0 : Int)), (Value.string (ByteArray.mk #[])), (Value.slice none 0 0), (Value.int .i64 (0 : Int)), (Value.string (ByteArray.mk #[])), (Value.slice none 0 0)]) ++ l11_ ++ List.drop 6 ([(Value.int .i64 (0 : Int)), (Value.string (ByteArray.mk #[])), (Value.slice none 0 0), (Value.int .i64 (0 : Int)), (Value.string (ByteArray.mk #[])), (Value.slice none 0 0)])).toArray) 81) fun h12_ => AppW 81 6 96 #[(Value.int .i64 (0 : Int)), (Value.string (ByteArray.mk #[])), (Value.slice none 0 0), (Value.int .i64 (0 : Int)), (Value.string (ByteArray.mk #[])), (Value.slice none 0 0)] A8 n8 c8 (Value.slice (some ⟨Array.size h, 0, none⟩) 1 1) h12_ fun v13_ h14_ => ∃ A15_, ∃ n15_, ∃ c15_, v13_ = (Value.slice A15_ n15_ c15_) ∧ f19.l1 R A0 n0 c0 a7 A15_ n15_ c15_ a9 a10 x92 (IntKind.wrap .i64 (x93 + (1 : Int))) h14_)))))) (f19.l0 R A0 n0 c0 a7 A8 n8 c8 h)
set_option maxRecDepth 100000 in
theorem f19.l1_in {R : Value → Heap → Prop} {A0 : Option Addr} {n0 : Nat} {c0 : Nat} {a7 : Addr} {A8 : Option Addr} {n8 : Nat} {c8 : Nat} {a9 : Addr} {a10 : Addr} {x92 : Int} {x93 : Int} {h : Heap} (H : f19.l1T R A0 n0 c0 a7 A8 n8 c8 a9 a10 x92 x93 h) : f19.l1 R A0 n0 c0 a7 A8 n8 c8 a9 a10 x92 x93 h :=
  pt_intro mixed f19.good (Eq.mpr (show (Fwd Tryd.prog f19.T f19.kp Tryd.f19 R [false, false, true, true, true, true, true, false, true, false, false, false, true, true, true] (mkFr [(0, (Value.slice A0 n0 c0)), (7, (Value.pointer (some a7))), (8, (Value.slice A8 n8 c8)), (9, (Value.pointer (some a9))), (10, (Value.pointer (some a10))), (92, (Value.int .i64 x92)), (93, (Value.int .i64 x93))]) h) = (f19.l1T R A0 n0 c0 a7 A8 n8 c8 a9 a10 x92 x93 h) by kernel_rfl) H)
set_option maxRecDepth 100000 in
def f19.runT (R : Value → Heap → Prop) (A0 : Option Addr) (n0 : Nat) (c0 : Nat) (v1 : Value) (v2 : Value) (h : Heap) : Prop :=
  newH h (Obj.cells ((v1).cells) 25) fun h1_ => newH h1_ (Obj.cells ((v2).cells) 25) fun h2_ => newH h2_ (Obj.cells #[(Value.slice none 0 0), (Value.slice none 0 0)] 80) fun h3_ => ∃ l5_ : List Value, (Value.agg #[(Value.slice none 0 0), (Value.slice none 0 0)]) = Value.agg l5_.toArray ∧ l5_.length = 2 ∧ ∃ h4_, stH h3_ (⟨Array.size h2_, 0, none⟩) l5_ 0 = some h4_ ∧ ∃ v6_, ldv true 3 h4_ (⟨Array.size h, 0, none⟩) = some v6_ ∧ ∃ v7_, ldv true 3 h4_ (⟨Array.size h1_, 0, none⟩) = some v7_ ∧ ∃ l8_ : List Value, v6_ = Value.agg l8_.toArray ∧ l8_.length = 3 ∧ (∃ l9_ : List Value, v7_ = Value.agg l9_.toArray ∧ l9_.length = 3 ∧ (∃ l10_ : List Value, (Value.agg (List.take 3 (List.take 0 ([(Value.int .i64 (0 : Int)), (Value.string (ByteArray.mk #[])), (Value.slice none 0 0), (Value.int .i64 (0 : Int)), (Value.string (ByteArray.mk #[])), (Value.slice none 0 0)]) ++ l8_ ++ List.drop 3 ([(Value.int .i64 (0 : Int)), (Value.string (ByteArray.mk #[])), (Value.slice none 0 0), (Value.int .i64 (0 : Int)), (Value.string (ByteArray.mk #[])), (Value.slice none 0 0)])) ++ l9_ ++ List.drop 6 (List.take 0 ([(Value.int .i64 (0 : Int)), (Value.string (ByteArray.mk #[])), (Value.slice none 0 0), (Value.int .i64 (0 : Int)), (Value.string (ByteArray.mk #[])), (Value.slice none 0 0)]) ++ l8_ ++ List.drop 3 ([(Value.int .i64 (0 : Int)), (Value.string (ByteArray.mk #[])), (Value.slice none 0 0), (Value.int .i64 (0 : Int)), (Value.string (ByteArray.mk #[])), (Value.slice none 0 0)]))).toArray) = Value.agg l10_.toArray ∧ l10_.length = 6 ∧ (newH h4_ (Obj.cells ((List.take 0 ([(Value.int .i64 (0 : Int)), (Value.string (ByteArray.mk #[])), (Value.slice none 0 0), (Value.int .i64 (0 : Int)), (Value.string (ByteArray.mk #[])), (Value.slice none 0 0)]) ++ l10_ ++ List.drop 6 ([(Value.int .i64 (0 : Int)), (Value.string (ByteArray.mk #[])), (Value.slice none 0 0), (Value.int .i64 (0 : Int)), (Value.string (ByteArray.mk #[])), (Value.slice none 0 0)])).toArray) 81) fun h11_ => f19.l0 R A0 n0 c0 (⟨Array.size h2_, 0, none⟩) (some ⟨Array.size h4_, 0, none⟩) 1 1 h11_)))
set_option maxRecDepth 100000 in
theorem f19.run {R : Value → Heap → Prop} {A0 : Option Addr} {n0 : Nat} {c0 : Nat} {v1 : Value} {v2 : Value} {h : Heap} (H : f19.runT R A0 n0 c0 v1 v2 h) : Run Tryd.prog 19 #[(Value.slice A0 n0 c0), v1, v2] h R :=
  run_of mixed Tryd.func19 (by kernel_rfl) (by kernel_rfl) f19.good (Eq.mpr (show (Fwd Tryd.prog f19.T f19.kp Tryd.f19 R [] (mkFr (argL [(Value.slice A0 n0 c0), v1, v2] 0)) h) = (f19.runT R A0 n0 c0 v1 v2 h) by kernel_rfl) H)
def f3.T : Tab := { sh := tSh, tup := tTup, keep := [], plan := [(24, (.take 0 (.take 2 (.take 1 (.eff false 3 (.take 4 (.take 5 (.split 5 (.take 6 (.take 7 (.take 9 (.eff true 8 (.eff false 10 (.take 11 (.take 12 (.take 13 (.split 13 (.take 14 (.take 18 (.eff true 15 (.take 16 (.eff true 17 (.eff false 19 (.take 20 (.take 21 (.take 22 (.split 22 (.take 23 (.eff false 24 (.take 25 (.take 26 (.take 27 (.take 28 .done))))))))))))))))))))))))))))))))), (30, (.take 0 (.take 1 (.take 2 (.split 2 (.take 5 (.take 7 (.take 9 (.take 3 (.alt false 4 (.alt true 6 (.eff true 8 (.eff false 10 (.eff false 11 (.take 12 (.take 13 .done))))) (.eff true 8 (.eff true 6 (.eff false 10 (.eff false 11 (.take 12 (.take 13 .done))))))) (.alt true 6 (.alt false 4 (.eff true 8 (.eff false 10 (.eff false 11 (.take 12 (.take 13 .done))))) (.eff true 8 (.eff false 4 (.eff false 10 (.eff false 11 (.take 12 (.take 13 .done))))))) (.eff true 8 (.alt false 4 (.eff true 6 (.eff false 10 (.eff false 11 (.take 12 (.take 13 .done))))) (.eff true 6 (.eff false 4 (.eff false 10 (.eff false 11 (.take 12 (.take 13 .done))))))))))))))))))), (40, (.take 0 (.take 1 (.take 2 (.take 3 (.take 4 (.take 5 (.take 6 (.take 7 (.split 7 (.take 10 (.take 12 (.take 14 (.take 8 (.take 11 (.take 13 (.eff true 9 (.eff false 15 (.eff false 16 (.take 17 (.take 18 (.take 19 (.split 19 (.eff false 20 (.take 21 (.take 22 (.take 23 (.split 23 (.take 27 (.take 29 (.take 24 (.take 25 (.take 28 (.take 30 (.take 31 (.eff true 26 (.eff false 32 (.take 33 (.take 34 (.take 35 .done))))))))))))))))))))))))))))))))))))))))] }
def f3.kp : Keep := [([false, false, true, false, true, true], [1, 3, 4, 5, 7, 11, 27, 28, 29]), ([false, false, true, false, true, true, false, false, true, true, false, false, true, false, true, true], [1, 3, 4, 5, 7, 11, 13, 14, 27, 28, 29, 35, 36, 37]), ([false, false, true, false, true, true, true, true, true], [3, 4, 5, 7, 11, 17, 18, 64, 65, 66]), ([true, true, true, true, true, true, true], [3, 4, 5, 7]), ([true, true, true, true, true, true, true, true, true], [4, 5, 7]), ([false, false, true, false, true, true, true, true, true, true, true, true, true, true, true, true], [4, 5, 7, 23, 24, 25, 153, 154])]
theorem f3.good : goodCode Tryd.prog f3.T (rootOf Tryd.f3) = true := by kernel_rfl
def f3.l0 (R : Value → Heap → Prop) (A1 : Option Addr) (n1 : Nat) (c1 : Nat) (A3 : Option Addr) (n3 : Nat) (c3 : Nat) (x4 : Int) (a5 : Addr) (a7 : Addr) (A11 : Option Addr) (n11 : Nat) (c11 : Nat) (A27 : Option Addr) (n27 : Nat) (c27 : Nat) (x28 : Int) (x29 : Int) (h : Heap) : Prop := Pt Tryd.prog Tryd.f3 R [false, false, true, false, true, true] (mkFr [(1, (Value.slice A1 n1 c1)), (3, (Value.slice A3 n3 c3)), (4, (Value.int .i64 x4)), (5, (Value.pointer (some a5))), (7, (Value.pointer (some a7))), (11, (Value.slice A11 n11 c11)), (27, (Value.slice A27 n27 c27)), (28, (Value.int .i64 x28)), (29, (Value.int .i64 x29))]) h
def f3.l2 (R : Value → Heap → Prop) (A1 : Option Addr) (n1 : Nat) (c1 : Nat) (A3 : Option Addr) (n3 : Nat) (c3 : Nat) (x4 : Int) (a5 : Addr) (a7 : Addr) (A11 : Option Addr) (n11 : Nat) (c11 : Nat) (a13 : Addr) (A14 : Option Addr) (n14 : Nat) (c14 : Nat) (A27 : Option Addr) (n27 : Nat) (c27 : Nat) (x28 : Int) (x29 : Int) (A35 : Option Addr) (n35 : Nat) (c35 : Nat) (x36 : Int) (x37 : Int) (h : Heap) : Prop := Pt Tryd.prog Tryd.f3 R [false, false, true, false, true, true, false, false, true, true, false, false, true, false, true, true] (mkFr [(1, (Value.slice A1 n1 c1)), (3, (Value.slice A3 n3 c3)), (4, (Value.int .i64 x4)), (5, (Value.pointer (some a5))), (7, (Value.pointer (some a7))), (11, (Value.slice A11 n11 c11)), (13, (Value.pointer (some a13))), (14, (Value.slice A14 n14 c14)), (27, (Value.slice A27 n27 c27)), (28, (Value.int .i64 x28)), (29, (Value.int .i64 x29)), (35, (Value.slice A35 n35 c35)), (36, (Value.int .i64 x36)), (37, (Value.int .i64 x37))]) h
def f3.l1 (R : Value → Heap → Prop) (A3 : Option Addr) (n3 : Nat) (c3 : Nat) (x4 : Int) (a5 : Addr) (a7 : Addr) (A11 : Option Addr) (n11 : Nat) (c11 : Nat) (a17 : Addr) (A18 : Option Addr) (n18 : Nat) (c18 : Nat) (A64 : Option Addr) (n64 : Nat) (c64 : Nat) (x65 : Int) (x66 : Int) (h : Heap) : Prop := Pt Tryd.prog Tryd.f3 R [false, false, true, false, true, true, true, true, true] (mkFr [(3, (Value.slice A3 n3 c3)), (4, (Value.int .i64 x4)), (5, (Value.pointer (some a5))), (7, (Value.pointer (some a7))), (11, (Value.slice A11 n11 c11)), (17, (Value.pointer (some a17))), (18, (Value.slice A18 n18 c18)), (64, (Value.slice A64 n64 c64)), (65, (Value.int .i64 x65)), (66, (Value.int .i64 x66))]) h
def f3.j0 (R : Value → Heap → Prop) (A3 : Option Addr) (n3 : Nat) (c3 : Nat) (x4 : Int) (a5 : Addr) (a7 : Addr) (h : Heap) : Prop := Pt Tryd.prog Tryd.f3 R [true, true, true, true, true, true, true] (mkFr [(3, (Value.slice A3 n3 c3)), (4, (Value.int .i64 x4)), (5, (Value.pointer (some a5))), (7, (Value.pointer (some a7)))]) h
def f3.j1 (R : Value → Heap → Prop) (x4 : Int) (a5 : Addr) (a7 : Addr) (h : Heap) : Prop := Pt Tryd.prog Tryd.f3 R [true, true, true, true, true, true, true, true, true] (mkFr [(4, (Value.int .i64 x4)), (5, (Value.pointer (some a5))), (7, (Value.pointer (some a7)))]) h
def f3.l3 (R : Value → Heap → Prop) (x4 : Int) (a5 : Addr) (a7 : Addr) (a23 : Addr) (x24 : Int) (A25 : Option Addr) (n25 : Nat) (c25 : Nat) (x153 : Int) (x154 : Int) (h : Heap) : Prop := Pt Tryd.prog Tryd.f3 R [false, false, true, false, true, true, true, true, true, true, true, true, true, true, true, true] (mkFr [(4, (Value.int .i64 x4)), (5, (Value.pointer (some a5))), (7, (Value.pointer (some a7))), (23, (Value.pointer (some a23))), (24, (Value.int .i64 x24)), (25, (Value.slice A25 n25 c25)), (153, (Value.int .i64 x153)), (154, (Value.int .i64 x154))]) h
set_option maxRecDepth 100000 in
def f3.l0T (R : Value → Heap → Prop) (A1 : Option Addr) (n1 : Nat) (c1 : Nat) (A3 : Option Addr) (n3 : Nat) (c3 : Nat) (x4 : Int) (a5 : Addr) (a7 : Addr) (A11 : Option Addr) (n11 : Nat) (c11 : Nat) (A27 : Option Addr) (n27 : Nat) (c27 : Nat) (x28 : Int) (x29 : Int) (h : Heap) : Prop :=
  splitB (decide (x29 < x28)) (ptrOk A27 fun a1_ => 0 ≤ x29 ∧ x29 < ((n27 : Nat) : Int) ∧ (∃ v2_, ldv true 4 h (Addr.add a1_ (Int.toNat x29 * 4)) = some v2_ ∧ newH h (Obj.cells #[(Value.slice none 0 0), (Value.int .i64 (0 : Int)), (Value.string (ByteArray.mk #[])), (Value.slice none 0 0)] 27) fun h3_ => ∃ l5_ : List Value, v2_ = Value.agg l5_.toArray ∧ l5_.length = 4 ∧ ∃ h4_, stH h3_ (⟨Array.size h, 0, none⟩) l5_ 0 = some h4_ ∧ ∃ v6_, ldv true 3 h4_ (Addr.add (⟨Array.size h, 0, none⟩) 1) = some v6_ ∧ Run Tryd.prog 5 #[v6_] h4_ fun v7_ h8_ => ∃ A9_, ∃ n9_, ∃ c9_, v7_ = (Value.slice A9_ n9_ c9_) ∧ f3.l2 R A1 n1 c1 A3 n3 c3 x4 a5 a7 A11 n11 c11 (⟨Array.size h, 0, none⟩) none 0 0 A27 n27 c27 x28 x29 A9_ n9_ c9_ ((n9_ : Nat) : Int) (0 : Int) h8_)) (∃ v10_, ldv true 3 h a7 = some v10_ ∧ Run Tryd.prog 9 #[(Value.slice A1 n1 c1), v10_] h fun v11_ h12_ => newH h12_ (Obj.cells #[(Value.slice none 0 0), (Value.int .i64 (0 : Int)), (Value.string (ByteArray.mk #[])), (Value.slice none 0 0)] 27) fun h13_ => ∃ l15_ : List Value, v11_ = Value.agg l15_.toArray ∧ l15_.length = 4 ∧ ∃ h14_, stH h13_ (⟨Array.size h12_, 0, none⟩) l15_ 0 = some h14_ ∧ ∃ v16_, ldv true 3 h14_ a7 = some v16_ ∧ Run Tryd.prog 5 #[v16_] h14_ fun v17_ h18_ => ∃ A19_, ∃ n19_, ∃ c19_, v17_ = (Value.slice A19_ n19_ c19_) ∧ f3.l1 R A3 n3 c3 x4 a5 a7 A11 n11 c11 (⟨Array.size h12_, 0, none⟩) none 0 0 A19_ n19_ c19_ ((n19_ : Nat) : Int) (0 : Int) h18_)
set_option maxRecDepth 100000 in
theorem f3.l0_in {R : Value → Heap → Prop} {A1 : Option Addr} {n1 : Nat} {c1 : Nat} {A3 : Option Addr} {n3 : Nat} {c3 : Nat} {x4 : Int} {a5 : Addr} {a7 : Addr} {A11 : Option Addr} {n11 : Nat} {c11 : Nat} {A27 : Option Addr} {n27 : Nat} {c27 : Nat} {x28 : Int} {x29 : Int} {h : Heap} (H : f3.l0T R A1 n1 c1 A3 n3 c3 x4 a5 a7 A11 n11 c11 A27 n27 c27 x28 x29 h) : f3.l0 R A1 n1 c1 A3 n3 c3 x4 a5 a7 A11 n11 c11 A27 n27 c27 x28 x29 h :=
  pt_intro mixed f3.good (Eq.mpr (show (Fwd Tryd.prog f3.T f3.kp Tryd.f3 R [false, false, true, false, true, true] (mkFr [(1, (Value.slice A1 n1 c1)), (3, (Value.slice A3 n3 c3)), (4, (Value.int .i64 x4)), (5, (Value.pointer (some a5))), (7, (Value.pointer (some a7))), (11, (Value.slice A11 n11 c11)), (27, (Value.slice A27 n27 c27)), (28, (Value.int .i64 x28)), (29, (Value.int .i64 x29))]) h) = (f3.l0T R A1 n1 c1 A3 n3 c3 x4 a5 a7 A11 n11 c11 A27 n27 c27 x28 x29 h) by kernel_rfl) H)
set_option maxRecDepth 100000 in
def f3.l2T (R : Value → Heap → Prop) (A1 : Option Addr) (n1 : Nat) (c1 : Nat) (A3 : Option Addr) (n3 : Nat) (c3 : Nat) (x4 : Int) (a5 : Addr) (a7 : Addr) (A11 : Option Addr) (n11 : Nat) (c11 : Nat) (a13 : Addr) (A14 : Option Addr) (n14 : Nat) (c14 : Nat) (A27 : Option Addr) (n27 : Nat) (c27 : Nat) (x28 : Int) (x29 : Int) (A35 : Option Addr) (n35 : Nat) (c35 : Nat) (x36 : Int) (x37 : Int) (h : Heap) : Prop :=
  splitB (decide (x37 < x36)) (ptrOk A35 fun a1_ => 0 ≤ x37 ∧ x37 < ((n35 : Nat) : Int) ∧ (∃ v2_, ldv false 1 h (Addr.add a1_ (Int.toNat x37 * 1)) = some v2_ ∧ ∃ s3_, v2_ = (Value.string s3_) ∧ ∃ v4_, ldv false 1 h a13 = some v4_ ∧ ∃ A5_, ∃ n5_, ∃ c5_, v4_ = (Value.slice A5_ n5_ c5_) ∧ Run Tryd.prog 6 #[(Value.slice A5_ n5_ c5_), (Value.string s3_)] h fun v6_ h7_ => ∃ b8_, v6_ = (Value.bool b8_) ∧ splitB (!b8_) (newH h7_ (Obj.cells #[(Value.string s3_)] 9) fun h9_ => AppW 9 1 16 #[(Value.string (ByteArray.mk #[]))] A14 n14 c14 (Value.slice (some ⟨Array.size h7_, 0, none⟩) 1 1) h9_ fun v10_ h11_ => ∃ A12_, ∃ n12_, ∃ c12_, v10_ = (Value.slice A12_ n12_ c12_) ∧ f3.l2 R A1 n1 c1 A3 n3 c3 x4 a5 a7 A11 n11 c11 a13 A12_ n12_ c12_ A27 n27 c27 x28 x29 A35 n35 c35 x36 (IntKind.wrap .i64 (x37 + (1 : Int))) h11_) (f3.l2 R A1 n1 c1 A3 n3 c3 x4 a5 a7 A11 n11 c11 a13 A14 n14 c14 A27 n27 c27 x28 x29 A35 n35 c35 x36 (IntKind.wrap .i64 (x37 + (1 : Int))) h7_))) (∃ v13_, ldv true 4 h a13 = some v13_ ∧ Run Tryd.prog 8 #[v13_] h fun v14_ h15_ => ∃ A16_, ∃ n16_, ∃ c16_, v14_ = (Value.slice A16_ n16_ c16_) ∧ Run Tryd.prog 7 #[(Value.slice A16_ n16_ c16_), (Value.slice A14 n14 c14)] h15_ fun v17_ h18_ => ∃ b19_, v17_ = (Value.bool b19_) ∧ splitB (!b19_) (R (Value.bool false) h18_) (AppW 9 1 16 #[(Value.string (ByteArray.mk #[]))] A11 n11 c11 (Value.slice A14 n14 c14) h18_ fun v20_ h21_ => ∃ A22_, ∃ n22_, ∃ c22_, v20_ = (Value.slice A22_ n22_ c22_) ∧ f3.l0 R A1 n1 c1 A3 n3 c3 x4 a5 a7 A22_ n22_ c22_ A27 n27 c27 x28 (IntKind.wrap .i64 (x29 + (1 : Int))) h21_))
set_option maxRecDepth 100000 in
theorem f3.l2_in {R : Value → Heap → Prop} {A1 : Option Addr} {n1 : Nat} {c1 : Nat} {A3 : Option Addr} {n3 : Nat} {c3 : Nat} {x4 : Int} {a5 : Addr} {a7 : Addr} {A11 : Option Addr} {n11 : Nat} {c11 : Nat} {a13 : Addr} {A14 : Option Addr} {n14 : Nat} {c14 : Nat} {A27 : Option Addr} {n27 : Nat} {c27 : Nat} {x28 : Int} {x29 : Int} {A35 : Option Addr} {n35 : Nat} {c35 : Nat} {x36 : Int} {x37 : Int} {h : Heap} (H : f3.l2T R A1 n1 c1 A3 n3 c3 x4 a5 a7 A11 n11 c11 a13 A14 n14 c14 A27 n27 c27 x28 x29 A35 n35 c35 x36 x37 h) : f3.l2 R A1 n1 c1 A3 n3 c3 x4 a5 a7 A11 n11 c11 a13 A14 n14 c14 A27 n27 c27 x28 x29 A35 n35 c35 x36 x37 h :=
  pt_intro mixed f3.good (Eq.mpr (show (Fwd Tryd.prog f3.T f3.kp Tryd.f3 R [false, false, true, false, true, true, false, false, true, true, false, false, true, false, true, true] (mkFr [(1, (Value.slice A1 n1 c1)), (3, (Value.slice A3 n3 c3)), (4, (Value.int .i64 x4)), (5, (Value.pointer (some a5))), (7, (Value.pointer (some a7))), (11, (Value.slice A11 n11 c11)), (13, (Value.pointer (some a13))), (14, (Value.slice A14 n14 c14)), (27, (Value.slice A27 n27 c27)), (28, (Value.int .i64 x28)), (29, (Value.int .i64 x29)), (35, (Value.slice A35 n35 c35)), (36, (Value.int .i64 x36)), (37, (Value.int .i64 x37))]) h) = (f3.l2T R A1 n1 c1 A3 n3 c3 x4 a5 a7 A11 n11 c11 a13 A14 n14 c14 A27 n27 c27 x28 x29 A35 n35 c35 x36 x37 h) by kernel_rfl) H)
set_option maxRecDepth 100000 in
def f3.l1T (R : Value → Heap → Prop) (A3 : Option Addr) (n3 : Nat) (c3 : Nat) (x4 : Int) (a5 : Addr) (a7 : Addr) (A11 : Option Addr) (n11 : Nat) (c11 : Nat) (a17 : Addr) (A18 : Option Addr) (n18 : Nat) (c18 : Nat) (A64 : Option Addr) (n64 : Nat) (c64 : Nat) (x65 : Int) (x66 : Int) (h : Heap) : Prop :=
  splitB (decide (x66 < x65)) (ptrOk A64 fun a1_ => 0 ≤ x66 ∧ x66 < ((n64 : Nat) : Int) ∧ (∃ v2_, ldv false 1 h (Addr.add a1_ (Int.toNat x66 * 1)) = some v2_ ∧ ∃ s3_, v2_ = (Value.string s3_) ∧ Run Tryd.prog 6 #[(Value.slice A11 n11 c11), (Value.string s3_)] h fun v4_ h5_ => ∃ b6_, v4_ = (Value.bool b6_) ∧ splitB (!b6_) (newH h5_ (Obj.cells #[(Value.string s3_)] 9) fun h7_ => AppW 9 1 16 #[(Value.string (ByteArray.mk #[]))] A18 n18 c18 (Value.slice (some ⟨Array.size h5_, 0, none⟩) 1 1) h7_ fun v8_ h9_ => ∃ A10_, ∃ n10_, ∃ c10_, v8_ = (Value.slice A10_ n10_ c10_) ∧ f3.l1 R A3 n3 c3 x4 a5 a7 A11 n11 c11 a17 A10_ n10_ c10_ A64 n64 c64 x65 (IntKind.wrap .i64 (x66 + (1 : Int))) h9_) (f3.l1 R A3 n3 c3 x4 a5 a7 A11 n11 c11 a17 A18 n18 c18 A64 n64 c64 x65 (IntKind.wrap .i64 (x66 + (1 : Int))) h5_))) (∃ v11_, ldv false 1 h a17 = some v11_ ∧ ∃ A12_, ∃ n12_, ∃ c12_, v11_ = (Value.slice A12_ n12_ c12_) ∧ Run Tryd.prog 7 #[(Value.slice A12_ n12_ c12_), (Value.slice A18 n18 c18)] h fun v13_ h14_ => ∃ b15_, v13_ = (Value.bool b15_) ∧ splitB (!b15_) (Ext h14_ h14_ ∧ (Ext h14_ h14_ ∧ (Ext h14_ h14_ ∧ (R (Value.bool false) h14_)))) (∃ v16_, ldv true 3 h14_ (Addr.add a17 1) = some v16_ ∧ ∃ v17_, ldv true 3 h14_ a7 = some v17_ ∧ Run Tryd.prog 10 #[v16_] h14_ fun v18_ h19_ => ∃ s20_, v18_ = (Value.string s20_) ∧ Ext h14_ h19_ ∧ (Run Tryd.prog 10 #[v17_] h19_ fun v21_ h22_ => ∃ s23_, v21_ = (Value.string s23_) ∧ splitB (!(ByteArray.toList s20_ == ByteArray.toList s23_)) (Ext h22_ h22_ ∧ (Ext h22_ h22_ ∧ (R (Value.bool false) h22_))) (∃ v24_, ldv true 3 h22_ a7 = some v24_ ∧ ∃ v25_, ldv true 3 h22_ a7 = some v25_ ∧ Run Tryd.prog 11 #[v24_] h22_ fun v26_ h27_ => Ext h22_ h27_ ∧ (∃ v28_, fldv true 3 1 v26_ = some v28_ ∧ Run Tryd.prog 10 #[v28_] h27_ fun v29_ h30_ => ∃ s31_, v29_ = (Value.string s31_) ∧ Ext h27_ h30_ ∧ (Run Tryd.prog 10 #[v25_] h30_ fun v32_ h33_ => ∃ s34_, v32_ = (Value.string s34_) ∧ splitB (!(ByteArray.toList s31_ == ByteArray.toList s34_)) (R (Value.bool false) h33_) (∃ v35_, ldv true 3 h33_ a7 = some v35_ ∧ Run Tryd.prog 11 #[v35_] h33_ fun v36_ h37_ => ∃ v38_, fldv false 1 0 v36_ = some v38_ ∧ ∃ A39_, ∃ n39_, ∃ c39_, v38_ = (Value.slice A39_ n39_ c39_) ∧ splitB (decide (((n39_ : Nat) : Int) > (0 : Int))) (R (Value.bool false) h37_) (f3.j0 R A3 n3 c3 x4 a5 a7 h37_))))))))
set_option maxRecDepth 100000 in
theorem f3.l1_in {R : Value → Heap → Prop} {A3 : Option Addr} {n3 : Nat} {c3 : Nat} {x4 : Int} {a5 : Addr} {a7 : Addr} {A11 : Option Addr} {n11 : Nat} {c11 : Nat} {a17 : Addr} {A18 : Option Addr} {n18 : Nat} {c18 : Nat} {A64 : Option Addr} {n64 : Nat} {c64 : Nat} {x65 : Int} {x66 : Int} {h : Heap} (H : f3.l1T R A3 n3 c3 x4 a5 a7 A11 n11 c11 a17 A18 n18 c18 A64 n64 c64 x65 x66 h) : f3.l1 R A3 n3 c3 x4 a5 a7 A11 n11 c11 a17 A18 n18 c18 A64 n64 c64 x65 x66 h :=
  pt_intro mixed f3.good (Eq.mpr (show (Fwd Tryd.prog f3.T f3.kp Tryd.f3 R [false, false, true, false, true, true, true, true, true] (mkFr [(3, (Value.slice A3 n3 c3)), (4, (Value.int .i64 x4)), (5, (Value.pointer (some a5))), (7, (Value.pointer (some a7))), (11, (Value.slice A11 n11 c11)), (17, (Value.pointer (some a17))), (18, (Value.slice A18 n18 c18)), (64, (Value.slice A64 n64 c64)), (65, (Value.int .i64 x65)), (66, (Value.int .i64 x66))]) h) = (f3.l1T R A3 n3 c3 x4 a5 a7 A11 n11 c11 a17 A18 n18 c18 A64 n64 c64 x65 x66 h) by kernel_rfl) H)
set_option maxRecDepth 100000 in
def f3.j0T (R : Value → Heap → Prop) (A3 : Option Addr) (n3 : Nat) (c3 : Nat) (x4 : Int) (a5 : Addr) (a7 : Addr) (h : Heap) : Prop :=
  ∃ v1_, ldv true 4 h a5 = some v1_ ∧ Run Tryd.prog 12 #[v1_, (Value.slice A3 n3 c3)] h fun v2_ h3_ => ∃ v4_, ∃ x5_, v2_ = (Value.tuple #[v4_, (Value.int .i64 x5_)]) ∧ newH h3_ (Obj.cells #[(Value.int .i64 (0 : Int)), (Value.string (ByteArray.mk #[])), (Value.slice none 0 0)] 25) fun h6_ => ∃ l8_ : List Value, v4_ = Value.agg l8_.toArray ∧ l8_.length = 3 ∧ ∃ h7_, stH h6_ (⟨Array.size h3_, 0, none⟩) l8_ 0 = some h7_ ∧ ∃ v9_, ldv false 1 h7_ a5 = some v9_ ∧ ∃ A10_, ∃ n10_, ∃ c10_, v9_ = (Value.slice A10_ n10_ c10_) ∧ splitB (((n3 : Nat) : Int) != ((n10_ : Nat) : Int)) (splitB (x5_ != (1 : Int)) (R (Value.bool false) h7_) (∃ v11_, ldv true 3 h7_ (⟨Array.size h3_, 0, none⟩) = some v11_ ∧ Run Tryd.prog 10 #[v11_] h7_ fun v12_ h13_ => ∃ s14_, v12_ = (Value.string s14_) ∧ Run Tryd.prog 10 #[(Value.agg #[(Value.int .i64 (0 : Int)), (Value.string (ByteArray.mk #[])), (Value.slice none 0 0)])] h13_ fun v15_ h16_ => ∃ s17_, v15_ = (Value.string s17_) ∧ splitB (!(ByteArray.toList s14_ == ByteArray.toList s17_)) (R (Value.bool false) h16_) (f3.j1 R x4 a5 a7 h16_))) (splitB (x5_ != (0 : Int)) (((Ext h7_ h7_ ∧ (Ext h7_ h7_ ∧ (R (Value.bool false) h7_))) ∧ (Ext h7_ h7_ ∧ (Ext h7_ h7_ ∧ (R (Value.bool false) h7_)))) ∧ ((Ext h7_ h7_ ∧ ((Ext h7_ h7_ ∧ (R (Value.bool false) h7_)) ∧ (Ext h7_ h7_ ∧ (R (Value.bool false) h7_)))) ∧ (Ext h7_ h7_ ∧ ((Ext h7_ h7_ ∧ (R (Value.bool false) h7_)) ∧ (Ext h7_ h7_ ∧ (R (Value.bool false) h7_)))))) (∃ v18_, ldv true 3 h7_ (⟨Array.size h3_, 0, none⟩) = some v18_ ∧ (Run Tryd.prog 10 #[v18_] h7_ fun v19_ h20_ => ∃ s21_, v19_ = (Value.string s21_) ∧ (∃ v22_, ldv true 3 h20_ (Addr.add a5 1) = some v22_ ∧ Ext h20_ h20_ ∧ (∃ v23_, ldv false 1 h20_ a5 = some v23_ ∧ ∃ A24_, ∃ n24_, ∃ c24_, v23_ = (Value.slice A24_ n24_ c24_) ∧ Ext h20_ h20_ ∧ (Run Tryd.prog 13 #[v22_, (Value.slice A24_ n24_ c24_), (Value.slice A3 n3 c3)] h20_ fun v25_ h26_ => Run Tryd.prog 10 #[v25_] h26_ fun v27_ h28_ => ∃ s29_, v27_ = (Value.string s29_) ∧ splitB (!(ByteArray.toList s21_ == ByteArray.toList s29_)) (R (Value.bool false) h28_) (f3.j1 R x4 a5 a7 h28_)))) ∧ (∃ v30_, ldv false 1 h20_ a5 = some v30_ ∧ ∃ A31_, ∃ n31_, ∃ c31_, v30_ = (Value.slice A31_ n31_ c31_) ∧ Ext h20_ h20_ ∧ (∃ v32_, ldv true 3 h20_ (Addr.add a5 1) = some v32_ ∧ Ext h20_ h20_ ∧ (Run Tryd.prog 13 #[v32_, (Value.slice A31_ n31_ c31_), (Value.slice A3 n3 c3)] h20_ fun v33_ h34_ => Run Tryd.prog 10 #[v33_] h34_ fun v35_ h36_ => ∃ s37_, v35_ = (Value.string s37_) ∧ splitB (!(ByteArray.toList s21_ == ByteArray.toList s37_)) (R (Value.bool false) h36_) (f3.j1 R x4 a5 a7 h36_))))) ∧ ((∃ v38_, ldv true 3 h7_ (Addr.add a5 1) = some v38_ ∧ Ext h7_ h7_ ∧ ((Run Tryd.prog 10 #[v18_] h7_ fun v39_ h40_ => ∃ s41_, v39_ = (Value.string s41_) ∧ ∃ v42_, ldv false 1 h40_ a5 = some v42_ ∧ ∃ A43_, ∃ n43_, ∃ c43_, v42_ = (Value.slice A43_ n43_ c43_) ∧ Ext h40_ h40_ ∧ (Run Tryd.prog 13 #[v38_, (Value.slice A43_ n43_ c43_), (Value.slice A3 n3 c3)] h40_ fun v44_ h45_ => Run Tryd.prog 10 #[v44_] h45_ fun v46_ h47_ => ∃ s48_, v46_ = (Value.string s48_) ∧ splitB (!(ByteArray.toList s41_ == ByteArray.toList s48_)) (R (Value.bool false) h47_) (f3.j1 R x4 a5 a7 h47_))) ∧ (∃ v49_, ldv false 1 h7_ a5 = some v49_ ∧ ∃ A50_, ∃ n50_, ∃ c50_, v49_ = (Value.slice A50_ n50_ c50_) ∧ Ext h7_ h7_ ∧ (Run Tryd.prog 10 #[v18_] h7_ fun v51_ h52_ => ∃ s53_, v51_ = (Value.string s53_) ∧ Run Tryd.prog 13 #[v38_, (Value.slice A50_ n50_ c50_), (Value.slice A3 n3 c3)] h52_ fun v54_ h55_ => Run Tryd.prog 10 #[v54_] h55_ fun v56_ h57_ => ∃ s58_, v56_ = (Value.string s58_) ∧ splitB (!(ByteArray.toList s53_ == ByteArray.toList s58_)) (R (Value.bool false) h57_) (f3.j1 R x4 a5 a7 h57_))))) ∧ (∃ v59_, ldv false 1 h7_ a5 = some v59_ ∧ ∃ A60_, ∃ n60_, ∃ c60_, v59_ = (Value.slice A60_ n60_ c60_) ∧ Ext h7_ h7_ ∧ ((Run Tryd.prog 10 #[v18_] h7_ fun v61_ h62_ => ∃ s63_, v61_ = (Value.string s63_) ∧ ∃ v64_, ldv true 3 h62_ (Addr.add a5 1) = some v64_ ∧ Ext h62_ h62_ ∧ (Run Tryd.prog 13 #[v64_, (Value.slice A60_ n60_ c60_), (Value.slice A3 n3 c3)] h62_ fun v65_ h66_ => Run Tryd.prog 10 #[v65_] h66_ fun v67_ h68_ => ∃ s69_, v67_ = (Value.string s69_) ∧ splitB (!(ByteArray.toList s63_ == ByteArray.toList s69_)) (R (Value.bool false) h68_) (f3.j1 R x4 a5 a7 h68_))) ∧ (∃ v70_, ldv true 3 h7_ (Addr.add a5 1) = some v70_ ∧ Ext h7_ h7_ ∧ (Run Tryd.prog 10 #[v18_] h7_ fun v71_ h72_ => ∃ s73_, v71_ = (Value.string s73_) ∧ Run Tryd.prog 13 #[v70_, (Value.slice A60_ n60_ c60_), (Value.slice A3 n3 c3)] h72_ fun v74_ h75_ => Run Tryd.prog 10 #[v74_] h75_ fun v76_ h77_ => ∃ s78_, v76_ = (Value.string s78_) ∧ splitB (!(ByteArray.toList s73_ == ByteArray.toList s78_)) (R (Value.bool false) h77_) (f3.j1 R x4 a5 a7 h77_))))))))
set_option maxRecDepth 100000 in
theorem f3.j0_in {R : Value → Heap → Prop} {A3 : Option Addr} {n3 : Nat} {c3 : Nat} {x4 : Int} {a5 : Addr} {a7 : Addr} {h : Heap} (H : f3.j0T R A3 n3 c3 x4 a5 a7 h) : f3.j0 R A3 n3 c3 x4 a5 a7 h :=
  pt_intro mixed f3.good (Eq.mpr (show (Fwd Tryd.prog f3.T f3.kp Tryd.f3 R [true, true, true, true, true, true, true] (mkFr [(3, (Value.slice A3 n3 c3)), (4, (Value.int .i64 x4)), (5, (Value.pointer (some a5))), (7, (Value.pointer (some a7)))]) h) = (f3.j0T R A3 n3 c3 x4 a5 a7 h) by kernel_rfl) H)
set_option maxRecDepth 100000 in
def f3.j1T (R : Value → Heap → Prop) (x4 : Int) (a5 : Addr) (a7 : Addr) (h : Heap) : Prop :=
  Run Tryd.prog 14 #[(Value.int .i64 x4), (Value.int .i64 (1000000 : Int))] h fun v1_ h2_ => ∃ x3_, v1_ = (Value.int .i64 x3_) ∧ ∃ v4_, ldv true 4 h2_ a5 = some v4_ ∧ Run Tryd.prog 15 #[v4_, (Value.int .i64 x3_)] h2_ fun v5_ h6_ => ∃ v7_, ∃ x8_, v5_ = (Value.tuple #[v7_, (Value.int .i64 x8_)]) ∧ newH h6_ (Obj.cells #[(Value.int .i64 (0 : Int)), (Value.string (ByteArray.mk #[])), (Value.slice none 0 0)] 25) fun h9_ => ∃ l11_ : List Value, v7_ = Value.agg l11_.toArray ∧ l11_.length = 3 ∧ ∃ h10_, stH h9_ (⟨Array.size h6_, 0, none⟩) l11_ 0 = some h10_ ∧ ∃ v12_, ldv false 1 h10_ a5 = some v12_ ∧ ∃ A13_, ∃ n13_, ∃ c13_, v12_ = (Value.slice A13_ n13_ c13_) ∧ f3.l3 R x3_ a5 a7 (⟨Array.size h6_, 0, none⟩) x8_ none 0 0 ((n13_ : Nat) : Int) (0 : Int) h10_
set_option maxRecDepth 100000 in
theorem f3.j1_in {R : Value → Heap → Prop} {x4 : Int} {a5 : Addr} {a7 : Addr} {h : Heap} (H : f3.j1T R x4 a5 a7 h) : f3.j1 R x4 a5 a7 h :=
  pt_intro mixed f3.good (Eq.mpr (show (Fwd Tryd.prog f3.T f3.kp Tryd.f3 R [true, true, true, true, true, true, true, true, true] (mkFr [(4, (Value.int .i64 x4)), (5, (Value.pointer (some a5))), (7, (Value.pointer (some a7)))]) h) = (f3.j1T R x4 a5 a7 h) by kernel_rfl) H)
set_option maxRecDepth 100000 in
def f3.l3T (R : Value → Heap → Prop) (x4 : Int) (a5 : Addr) (a7 : Addr) (a23 : Addr) (x24 : Int) (A25 : Option Addr) (n25 : Nat) (c25 : Nat) (x153 : Int) (x154 : Int) (h : Heap) : Prop :=
  splitB (decide (x154 < x153)) (Run Tryd.prog 16 #[(Value.int .i64 (IntKind.wrap .i64 (x4 + x154)))] h fun v1_ h2_ => ∃ s3_, v1_ = (Value.string s3_) ∧ ByteArray.size (ByteArray.mk #[63]) + ByteArray.size s3_ ≤ 9223372036854775807 ∧ (∃ l4_ : List Value, (Value.agg #[(Value.int .i64 (5 : Int)), (Value.string ((ByteArray.mk #[63]) ++ s3_)), (Value.slice none 0 0)]) = Value.agg l4_.toArray ∧ l4_.length = 3 ∧ (newH h2_ (Obj.cells ((List.take 0 ([(Value.int .i64 (0 : Int)), (Value.string (ByteArray.mk #[])), (Value.slice none 0 0)]) ++ l4_ ++ List.drop 3 ([(Value.int .i64 (0 : Int)), (Value.string (ByteArray.mk #[])), (Value.slice none 0 0)])).toArray) 25) fun h5_ => AppW 25 3 48 #[(Value.int .i64 (0 : Int)), (Value.string (ByteArray.mk #[])), (Value.slice none 0 0)] A25 n25 c25 (Value.slice (some ⟨Array.size h2_, 0, none⟩) 1 1) h5_ fun v6_ h7_ => ∃ A8_, ∃ n8_, ∃ c8_, v6_ = (Value.slice A8_ n8_ c8_) ∧ f3.l3 R x4 a5 a7 a23 x24 A8_ n8_ c8_ x153 (IntKind.wrap .i64 (x154 + (1 : Int))) h7_))) (∃ v9_, ldv false 1 h a5 = some v9_ ∧ ∃ A10_, ∃ n10_, ∃ c10_, v9_ = (Value.slice A10_ n10_ c10_) ∧ splitB (x24 == (IntKind.wrap .i64 (x4 + ((n10_ : Nat) : Int)))) (∃ v11_, ldv true 3 h a23 = some v11_ ∧ ∃ v12_, ldv true 3 h (Addr.add a5 1) = some v12_ ∧ ∃ v13_, ldv false 1 h a5 = some v13_ ∧ ∃ A14_, ∃ n14_, ∃ c14_, v13_ = (Value.slice A14_ n14_ c14_) ∧ Run Tryd.prog 10 #[v11_] h fun v15_ h16_ => ∃ s17_, v15_ = (Value.string s17_) ∧ Ext h h16_ ∧ (Run Tryd.prog 13 #[v12_, (Value.slice A14_ n14_ c14_), (Value.slice A25 n25 c25)] h16_ fun v18_ h19_ => Run Tryd.prog 10 #[v18_] h19_ fun v20_ h21_ => ∃ s22_, v20_ = (Value.string s22_) ∧ splitB (ByteArray.toList s17_ == ByteArray.toList s22_) (Run Tryd.prog 17 #[(Value.int .i64 (7 : Int))] h21_ fun v23_ h24_ => ∃ s25_, v23_ = (Value.string s25_) ∧ splitB (ByteArray.toList s25_ == ByteArray.toList (ByteArray.mk #[63, 55])) (∃ v26_, ldv true 4 h24_ a5 = some v26_ ∧ ∃ v27_, ldv true 3 h24_ a7 = some v27_ ∧ ∃ v28_, ldv false 1 h24_ a5 = some v28_ ∧ ∃ A29_, ∃ n29_, ∃ c29_, v28_ = (Value.slice A29_ n29_ c29_) ∧ ∃ v30_, ldv true 3 h24_ (Addr.add a5 1) = some v30_ ∧ ∃ v31_, ldv true 3 h24_ a7 = some v31_ ∧ Run Tryd.prog 18 #[v26_, v27_] h24_ fun v32_ h33_ => ∃ b34_, v32_ = (Value.bool b34_) ∧ Ext h24_ h33_ ∧ (Run Tryd.prog 19 #[(Value.slice A29_ n29_ c29_), v30_, v31_] h33_ fun v35_ h36_ => ∃ b37_, v35_ = (Value.bool b37_) ∧ R (Value.bool (b34_ == b37_)) h36_)) (Ext h24_ h24_ ∧ (R (Value.bool false) h24_))) (Ext h21_ h21_ ∧ (R (Value.bool false) h21_)))) (Ext h h ∧ (Ext h h ∧ (R (Value.bool false) h))))
set_option maxRecDepth 100000 in
theorem f3.l3_in {R : Value → Heap → Prop} {x4 : Int} {a5 : Addr} {a7 : Addr} {a23 : Addr} {x24 : Int} {A25 : Option Addr} {n25 : Nat} {c25 : Nat} {x153 : Int} {x154 : Int} {h : Heap} (H : f3.l3T R x4 a5 a7 a23 x24 A25 n25 c25 x153 x154 h) : f3.l3 R x4 a5 a7 a23 x24 A25 n25 c25 x153 x154 h :=
  pt_intro mixed f3.good (Eq.mpr (show (Fwd Tryd.prog f3.T f3.kp Tryd.f3 R [false, false, true, false, true, true, true, true, true, true, true, true, true, true, true, true] (mkFr [(4, (Value.int .i64 x4)), (5, (Value.pointer (some a5))), (7, (Value.pointer (some a7))), (23, (Value.pointer (some a23))), (24, (Value.int .i64 x24)), (25, (Value.slice A25 n25 c25)), (153, (Value.int .i64 x153)), (154, (Value.int .i64 x154))]) h) = (f3.l3T R x4 a5 a7 a23 x24 A25 n25 c25 x153 x154 h) by kernel_rfl) H)
set_option maxRecDepth 100000 in
def f3.runT (R : Value → Heap → Prop) (v0 : Value) (A1 : Option Addr) (n1 : Nat) (c1 : Nat) (v2 : Value) (A3 : Option Addr) (n3 : Nat) (c3 : Nat) (x4 : Int) (h : Heap) : Prop :=
  newH h (Obj.cells ((v0).cells) 27) fun h1_ => newH h1_ (Obj.cells ((v2).cells) 25) fun h2_ => f3.l0 R A1 n1 c1 A3 n3 c3 x4 (⟨Array.size h, 0, none⟩) (⟨Array.size h1_, 0, none⟩) none 0 0 A1 n1 c1 ((n1 : Nat) : Int) (0 : Int) h2_
set_option maxRecDepth 100000 in
theorem f3.run {R : Value → Heap → Prop} {v0 : Value} {A1 : Option Addr} {n1 : Nat} {c1 : Nat} {v2 : Value} {A3 : Option Addr} {n3 : Nat} {c3 : Nat} {x4 : Int} {h : Heap} (H : f3.runT R v0 A1 n1 c1 v2 A3 n3 c3 x4 h) : Run Tryd.prog 3 #[v0, (Value.slice A1 n1 c1), v2, (Value.slice A3 n3 c3), (Value.int .i64 x4)] h R :=
  run_of mixed Tryd.func3 (by kernel_rfl) (by kernel_rfl) f3.good (Eq.mpr (show (Fwd Tryd.prog f3.T f3.kp Tryd.f3 R [] (mkFr (argL [v0, (Value.slice A1 n1 c1), v2, (Value.slice A3 n3 c3), (Value.int .i64 x4)] 0)) h) = (f3.runT R v0 A1 n1 c1 v2 A3 n3 c3 x4 h) by kernel_rfl) H)
end Go.Proofs.YtdlihfedhojdgaaDoor.Fw

end
section
namespace Go.Hw
open Go
section tests
variable {A B : Prop}
theorem split_dec {p : Prop} [Decidable p] (hA : p → A) (hB : ¬ p → B) : splitB (decide p) A B := by
  by_cases h : p
  · rw [decide_eq_true h]; exact hA h
  · rw [decide_eq_false h]; exact hB h
theorem split_not {b : Bool} (h : splitB b B A) : splitB (!b) A B := by cases b <;> exact h
theorem split_t (h : A) : splitB true A B := h
theorem split_f (h : B) : splitB false A B := h
end tests
theorem wrap_in {n : Int} (h0 : -9223372036854775808 ≤ n) (h1 : n ≤ 9223372036854775807) : IntKind.wrap .i64 n = n := by
  rcases Int.le_total 0 n with h | h
  · exact wrap_nat h h1
  · rcases (show n = 0 ∨ n < 0 by omega) with h2 | h2
    · subst h2; rfl
    have e : n % (2 ^ 64 : Int) = n + 2 ^ 64 := by omega
    simp only [IntKind.wrap, IntKind.signed, IntKind.bits, e, Bool.true_and]
    rw [if_pos (by simp only [decide_eq_true_eq]; omega)]
    omega
theorem add_add (a : Addr) (m n : Nat) : (a.add m).add n = a.add (m + n) := by
  unfold Addr.add
  by_cases h1 : m = 0
  · subst h1; simp
  · by_cases h2 : n = 0
    · subst h2; simp
    · have h3 : m + n ≠ 0 := by omega
      simp only [if_neg h1, if_neg h2, if_neg h3]
      rw [Nat.add_assoc]
theorem add_block (a : Addr) (n : Nat) : (a.add n).block = a.block := by unfold Addr.add; split <;> rfl
theorem add_off (a : Addr) (n : Nat) : (a.add n).off = a.off + n := by
  unfold Addr.add
  split
  · rename_i h; subst h; rfl
  · rfl
theorem add_spot {a : Addr} (n : Nat) (h : a.spot = none) : (a.add n).spot = none := by unfold Addr.add; split; exact h; rfl
def Blk (h : Heap) (b : Nat) (c : List Value) (t : TypeId) : Prop := h[b]? = some (.cells c.toArray t (0, 0))
def Only (h h' : Heap) (b : Nat) : Prop := h'.size = h.size ∧ ∀ i, i ≠ b → h'[i]? = h[i]?
section
variable {h h' : Heap} {b : Nat} {c : List Value} {t : TypeId}
theorem Blk.lt (hb : Blk h b c t) : b < h.size := (Array.getElem?_eq_some_iff.1 hb).1
theorem Blk.cell (hb : Blk h b c t) {a : Addr} {v : Value} (h1 : a.block = b) (h2 : a.spot = none) (h3 : c[a.off]? = some v) : cellH h a = some v := by
  unfold cellH Blk at *
  rw [h1, hb, h2]
  simpa using h3
theorem Blk.cells (hb : Blk h b c t) {a : Addr} (h1 : a.block = b) (h2 : a.spot = none) : ∀ (n i : Nat), a.off + i + n ≤ c.length → cellsH h a i n = some ((c.drop (a.off + i)).take n) := by
  intro n
  induction n with
  | zero => intro i _; simp [cellsH]
  | succ n ih =>
    intro i hle
    have hlt : a.off + i < c.length := by omega
    have h3 : c[(a.add i).off]? = some c[a.off + i] := by rw [add_off]; exact List.getElem?_eq_getElem hlt
    simp only [cellsH, hb.cell (a := a.add i) (by rw [add_block]; exact h1) (add_spot i h2) h3, ih (i + 1) (by omega)]
    rw [List.drop_eq_getElem_cons hlt, List.take_succ_cons]
    rfl
theorem Blk.st (hb : Blk h b c t) {a : Addr} {v : Value} (h1 : a.block = b) (h2 : a.spot = none) (h3 : a.off < c.length) (h4 : oneCell v True) :
    ∃ h', st1 h a v = some h' ∧ Blk h' b (c.set a.off v) t ∧ Only h h' b := by
  have hc : cellH h a = some c[a.off] := hb.cell h1 h2 (List.getElem?_eq_getElem h3)
  have hf : frozenH h a = false := by
    unfold frozenH
    rw [h1, show h[b]? = some (.cells c.toArray t (0, 0)) from hb]
    simp
  refine ⟨setH h a v, ?_, ?_, ?_⟩
  · cases v <;> simp_all [st1, oneCell]
  · unfold Blk setH
    rw [Array.getElem?_modify, if_pos h1.symm.symm, show h[b]? = some (.cells c.toArray t (0, 0)) from hb]
    simp [h2]
  · refine ⟨by simp [setH], fun i hi => ?_⟩
    unfold setH
    rw [Array.getElem?_modify, if_neg (by rw [h1]; exact fun e => hi e.symm)]
theorem Blk.new (h : Heap) (c : Array Value) (t : TypeId) : Blk (h.push (.cells c t)) h.size c.toList t := by
  unfold Blk; simp
theorem Ext.push (h : Heap) (o : Obj) : Ext h (h.push o) := ⟨by simp, fun i hi => by rw [Array.getElem?_push, if_neg (by omega)]⟩
theorem Only.refl (h : Heap) (b : Nat) : Only h h b := ⟨rfl, fun _ _ => rfl⟩
theorem Only.trans {h'' : Heap} {b : Nat} (o : Only h h' b) (p : Only h' h'' b) : Only h h'' b := ⟨p.1.trans o.1, fun i hi => (p.2 i hi).trans (o.2 i hi)⟩
end
def Rd {α : Type} (sz : Nat) (E : Heap → α → List Value → Prop) (h : Heap) (A : Option Addr) (l : List α) : Prop :=
  ∀ i (hi : i < l.length), ∃ a cs, A = some a ∧ cellsH h (a.add (i * sz)) 0 sz = some cs ∧ E h l[i] cs
def eInt (k : IntKind) (_ : Heap) (x : Int) (cs : List Value) : Prop := cs = [.int k x]
def eStr (_ : Heap) (x : ByteArray) (cs : List Value) : Prop := cs = [.string x]
def eRow {α : Type} (sz : Nat) (E : Heap → α → List Value → Prop) (h : Heap) (l : List α) (cs : List Value) : Prop := ∃ A c, cs = [.slice A l.length c] ∧ l.length ≤ c ∧ Rd sz E h A l
section
variable {α : Type} {sz : Nat} {E : Heap → α → List Value → Prop} {h h' : Heap} {A : Option Addr} {l : List α}
theorem Rd.nil : Rd sz E h A ([] : List α) := fun i hi => by cases hi
end
theorem CallF.of {P : Program} {f : FuncId} {first captured : Array Value} {args : List Value} {h : Heap} {R : Value → Heap → Prop} (l : List Value) (hc : calleeOk P f = true) (hl : first.toList ++ args ++ captured.toList = l) (hr : Run P f l.toArray h R) :
    CallF P (.func (.func f) first captured) args h R := by
  unfold CallF
  simp only [hc, hl]
  exact hr
theorem newH_in {h : Heap} {c : Array Value} {t : TypeId} {K : Heap → Prop} (H : ∀ h', Blk h' h.size c.toList t → Ext h h' → h'.size = h.size + 1 → K h') : newH h (.cells c t) K :=
  H _ (Blk.new _ _ _) (Ext.push _ _) (by simp)
def idxOf {α : Type} (p : α → Bool) (l : List α) : Int := match l.findIdx? p with | some i => i | none => -1
theorem idxOf_ge {α : Type} (p : α → Bool) (l : List α) : decide (idxOf p l ≥ 0) = l.any p := by
  unfold idxOf
  cases h : l.findIdx? p with
  | none =>
    rw [List.findIdx?_eq_none_iff] at h
    have : l.any p = false := by simpa using h
    simp [this]
  | some i =>
    have hs : (l.findIdx? p).isSome = true := by rw [h]; rfl
    rw [List.findIdx?_isSome] at hs
    simp [hs]
end Go.Hw

end
section
namespace Go.Hw
open Go Go.RowKit
theorem below_of {W W' : World} (e : Ext W.heap W'.heap) (s : Same W W') : Below W.heap.size W W' := ⟨s.os, s.tape, s.output, e.1, e.2⟩
section
variable {H : Type} {enc : TypeId × Value → H} {P : Program} {W : World}
theorem cells_of {base : Nat} {a : Addr} {n : Nat} {cs : List Value} (hc : W.cells? base a n = some cs) : cellsH W.heap a 0 n = some cs := by
  obtain ⟨_, hlen, hget⟩ := World.cells?_some hc
  have key : ∀ (m i : Nat), i + m = n → cellsH W.heap a i m = some (cs.drop i) := by
    intro m
    induction m with
    | zero =>
      intro i hi
      rw [List.drop_eq_nil_of_le (by omega)]
      rfl
    | succ m ih =>
      intro i hi
      have hlt : i < cs.length := by omega
      have h1 : cellH W.heap (a.add i) = some cs[i] := (hget i (by omega)).trans (List.getElem?_eq_getElem hlt)
      simp only [cellsH, h1, ih (i + 1) (by omega)]
      rw [List.drop_eq_getElem_cons hlt]
  simpa using key n 0 (by omega)
def Tells {α : Type} (enc : TypeId × Value → H) (P : Program) (W : World) (t : TypeId) (E : Heap → α → List Value → Prop) (Q : α → Prop) : Prop :=
  ∀ (fuel : Nat) (cs : List Value) (x : DataW H × List MemPlace), DataW.trod enc P W 0 (fun _ => true) true fuel t cs = some x → (x.1.weights P t).all (· ≤ reachBytes) = true → ∃ a, E W.heap a cs ∧ Q a
theorem tells_int {t : TypeId} {k : IntKind} (hu : P.underlying t = some (.int k)) : Tells enc P W t (eInt k) (fun x => (Lit.int k x).wf = true) := by
  intro fuel cs x h _
  obtain ⟨n, h1, _, h3⟩ := DataW.trod_int hu h
  exact ⟨n, h1, h3⟩
theorem tells_str {t : TypeId} (hu : P.underlying t = some .string) : Tells enc P W t eStr (fun s => s.size ≤ reachBytes) := by
  intro fuel cs x h hw
  obtain ⟨s, h1, h2, _⟩ := DataW.trod_string hu h
  refine ⟨s, h1, ?_⟩
  rw [h2] at hw
  simp only [DataW.weights, List.all_cons, List.all_nil, Bool.and_true, decide_eq_true_eq] at hw
  simpa using hw
theorem weightsAll_all {e : TypeId} : ∀ (l : List (DataW H)), (DataW.weightsAll P e l).all (· ≤ reachBytes) = true → ∀ d ∈ l, (d.weights P e).all (· ≤ reachBytes) = true := by
  intro l
  induction l with
  | nil => intro _ d hd; cases hd
  | cons x l ih =>
    intro h d hd
    simp only [DataW.weightsAll, List.all_append, Bool.and_eq_true] at h
    rcases List.mem_cons.1 hd with rfl | hd
    · exact h.1
    · exact ih h.2 d hd
theorem list_choose {α : Type} {n : Nat} {p : Nat → α → Prop} (h : ∀ i, i < n → ∃ x, p i x) : ∃ l : List α, l.length = n ∧ ∀ i (hi : i < l.length), p i l[i] := by
  induction n with
  | zero => exact ⟨[], rfl, fun i hi => by cases hi⟩
  | succ n ih =>
    obtain ⟨l, h1, h2⟩ := ih fun i hi => h i (by omega)
    obtain ⟨x, hx⟩ := h n (by omega)
    refine ⟨l ++ [x], by simp [h1], fun i hi => ?_⟩
    rw [List.length_append, List.length_singleton] at hi
    by_cases hin : i < l.length
    · rw [List.getElem_append_left hin]; exact h2 i hin
    · have : i = l.length := by omega
      subst this
      rw [List.getElem_append_right (Nat.le_refl _)]
      simp only [Nat.sub_self, List.getElem_cons_zero]
      rw [h1]; exact hx
theorem tells_slice {α : Type} {t e : TypeId} {sz B : Nat} {E : Heap → α → List Value → Prop} {Q : α → Prop} (hu : P.underlying t = some (.slice e)) (hc : P.cellsOf e = sz) (hB : P.bytesOf e = B) (he : Tells enc P W e E Q) :
    Tells enc P W t (eRow sz E) (fun l => l.length * B ≤ reachBytes ∧ ∀ a ∈ l, Q a) := by
  intro fuel cs x h hw
  rcases DataW.trod_slice hu h with ⟨h1, h2⟩ | ⟨a, len, cap, elems, rest, n, _, h1, h2, _, hl, hm, hlen, hel, _, _⟩
  · exact ⟨[], ⟨none, 0, h1, Nat.le_refl _, Rd.nil⟩, by simp, fun a ha => by cases ha⟩
  · rw [h2] at hw
    simp only [DataW.weights, hu, List.all_cons, List.all_append, Bool.and_eq_true, decide_eq_true_eq] at hw
    obtain ⟨hw1, hw2, _⟩ := hw
    have hall := weightsAll_all _ hw2
    obtain ⟨l, h3, h4⟩ := list_choose (n := len) (p := fun i x => (∃ cs', cellsH W.heap (a.add (i * sz)) 0 sz = some cs' ∧ E W.heap x cs') ∧ Q x) (fun i hi => by
      have h5 := hel i hi
      have hlt : i < elems.length := by omega
      rw [List.getElem?_eq_getElem hlt] at h5
      obtain ⟨cs', h6, h7⟩ := Option.bind_eq_some_iff.1 h5
      obtain ⟨x, h8, h9⟩ := he _ _ _ h7 (hall _ (List.mem_map.2 ⟨_, List.getElem_mem hlt, rfl⟩))
      rw [hc] at h6
      exact ⟨x, ⟨cs', cells_of h6, h8⟩, h9⟩)
    refine ⟨l, ⟨some a, cap, by rw [h1, h3], by omega, fun i hi => ?_⟩, ?_, fun x hx => ?_⟩
    · obtain ⟨⟨cs', h5, h6⟩, _⟩ := h4 i hi
      exact ⟨a, cs', rfl, h5, h6⟩
    · rw [hB] at hw1
      have : l.length ≤ (List.map (·.1) elems).length + (List.map (·.1) rest).length := by simp; omega
      exact Nat.le_trans (Nat.mul_le_mul_right _ this) hw1
    · obtain ⟨i, hi, rfl⟩ := List.getElem_of_mem hx
      exact (h4 i hi).2
end
theorem wf_i64 {x : Int} (h : (Lit.int .i64 x).wf = true) : -9223372036854775808 ≤ x ∧ x ≤ 9223372036854775807 := by
  simpa [Lit.wf, IntKind.min, IntKind.max, IntKind.signed, IntKind.bits] using h
end Go.Hw

end
section
namespace Go.Hw
open Go
theorem cellsH_length {h : Heap} {a : Addr} : ∀ {n i : Nat} {cs : List Value}, cellsH h a i n = some cs → cs.length = n := by
  intro n
  induction n with
  | zero => intro i cs hc; simp only [cellsH, Option.some.injEq] at hc; subst hc; rfl
  | succ n ih =>
    intro i cs hc
    simp only [cellsH] at hc
    split at hc
    · split at hc
      · rename_i vs hv; cases hc; simp [ih hv]
      · cases hc
    · cases hc
def Flat (v : Value) : Prop := oneCell v True
theorem Blk.stH {b : Nat} {t : TypeId} : ∀ (xs : List Value) {h : Heap} {p q r : List Value} {a : Addr} {i : Nat}, Blk h b (p ++ q ++ r) t → a.block = b → a.spot = none → a.off + i = p.length → q.length = xs.length → (∀ v ∈ xs, Flat v) →
    ∃ h', stH h a xs i = some h' ∧ Blk h' b (p ++ xs ++ r) t ∧ Only h h' b := by
  intro xs
  induction xs with
  | nil =>
    intro h p q r a i hb h1 h2 h3 h4 h5
    rw [List.length_eq_zero_iff.1 h4] at hb
    exact ⟨h, rfl, hb, .refl _ _⟩
  | cons v xs ih =>
    intro h p q r a i hb h1 h2 h3 h4 h5
    obtain ⟨u, q', rfl⟩ : ∃ u q', q = u :: q' := by cases q with | nil => cases h4 | cons u q' => exact ⟨u, q', rfl⟩
    have hoff : (a.add i).off = p.length := by rw [add_off, h3]
    obtain ⟨h', s1, b1, o1⟩ := hb.st (a := a.add i) (v := v) (by rw [add_block, h1]) (add_spot _ h2) (by rw [hoff]; simp) (h5 v (List.mem_cons_self ..))
    rw [hoff] at b1
    have e : (p ++ u :: q' ++ r).set p.length v = (p ++ [v]) ++ q' ++ r := by
      rw [List.append_assoc, List.set_append_right _ _ (Nat.le_refl _)]; simp
    rw [e] at b1
    obtain ⟨h'', s2, b2, o2⟩ := ih (p := p ++ [v]) (q := q') (r := r) (a := a) (i := i + 1) b1 h1 h2 (by simp; omega) (by simpa using h4) (fun x hx => h5 x (List.mem_cons_of_mem _ hx))
    refine ⟨h'', ?_, by simpa using b2, o1.trans o2⟩
    simp only [Go.Hw.stH, s1, s2]
theorem zcells_size (z : Array Value) (n : Nat) : (zcells z n).size = n * z.size := by
  unfold zcells Builtin.zeroCells
  simp
end Go.Hw

end
section
namespace Go.Hw
open Go Go.RowKit
theorem cellsH_get {h : Heap} {a : Addr} : ∀ {n i : Nat} {cs : List Value} {k : Nat} {v : Value}, cellsH h a i n = some cs → cs[k]? = some v → cellH h (a.add (i + k)) = some v := by
  intro n
  induction n with
  | zero => intro i cs k v hc hv; simp only [cellsH, Option.some.injEq] at hc; subst hc; cases hv
  | succ n ih =>
    intro i cs k v hc hv
    simp only [cellsH] at hc
    split at hc
    · rename_i u hu
      split at hc
      · rename_i vs hvs
        cases hc
        cases k with
        | zero => cases hv; exact hu
        | succ k => rw [show i + (k + 1) = i + 1 + k by omega]; exact ih hvs (by simpa using hv)
      · cases hc
    · cases hc
section
variable {α : Type} {sz : Nat} {E : Heap → α → List Value → Prop} {h h' : Heap} {A : Option Addr} {l : List α}
theorem cellsH_append {h : Heap} {a : Addr} : ∀ {m i n : Nat} {cs ds : List Value}, cellsH h a i m = some cs → cellsH h a (i + m) n = some ds → cellsH h a i (m + n) = some (cs ++ ds) := by
  intro m
  induction m with
  | zero => intro i n cs ds h1 h2; simp only [cellsH, Option.some.injEq] at h1; subst h1; simpa using h2
  | succ m ih =>
    intro i n cs ds h1 h2
    simp only [cellsH] at h1
    split at h1
    · rename_i u hu
      split at h1
      · rename_i vs hvs
        cases h1
        rw [show m + 1 + n = (m + n) + 1 by omega]
        have h3 := ih hvs (n := n) (ds := ds) (by rw [show i + 1 + m = i + (m + 1) by omega]; exact h2)
        simp only [cellsH, hu, h3, List.cons_append]
      · cases h1
    · cases h1
theorem cellsH_shift {h : Heap} {a : Addr} {j : Nat} : ∀ {n i : Nat}, cellsH h (a.add j) i n = cellsH h a (j + i) n := by
  intro n
  induction n with
  | zero => intro i; rfl
  | succ n ih =>
    intro i
    simp only [cellsH, add_add]
    rw [ih, Nat.add_assoc]
end
theorem Blk.stAll {h : Heap} {b : Nat} {c : List Value} {t : TypeId} (hb : Blk h b c t) (l : List Value) (hn : l.length = c.length) (hf : ∀ v ∈ l, Flat v) :
    ∃ h', Go.Hw.stH h ⟨b, 0, none⟩ l 0 = some h' ∧ Blk h' b l t ∧ Only h h' b := by
  obtain ⟨h', s1, b1, o1⟩ := Blk.stH l (p := []) (q := c) (r := []) (a := ⟨b, 0, none⟩) (i := 0) (by simpa using hb) rfl rfl rfl hn.symm hf
  exact ⟨h', s1, by simpa using b1, o1⟩
section
variable {P : Program} {d : Nat} {t : TypeId}
def flatB (P : Program) (t : TypeId) (x y : Value) : Option Bool :=
  match P.underlying t, x, y with
  | some (.int _), .int k a, .int k' b => match kindB k k' with | true => some (a == b) | false => none
  | some .bool, .bool a, .bool b => some (a == b)
  | some .string, .string a, .string b => some (a == b)
  | _, _, _ => none
end
section
variable {H : Type} {enc : TypeId × Value → H} {P : Program} {W : World}
def TellsF {α : Type} (enc : TypeId × Value → H) (P : Program) (W : World) (T o : Nat) (fs : List (TypeId × Nat)) (F : Heap → α → List Value → Prop) (Q : α → Prop) : Prop :=
  ∀ (n : Nat) (cs : List Value) (xs : List (DataW H × List MemPlace)), cs.length = T → xs.length = fs.length → (∀ (i : Nat) (f : TypeId × Nat), fs[i]? = some f → DataW.trod enc P W 0 (fun _ => true) true n f.1 ((cs.drop f.2).take (P.cellsOf f.1)) = xs[i]?) →
    (DataW.weightsEach P (fs.map (·.1)) (xs.map (·.1))).all (· ≤ reachBytes) = true → ∃ b, F W.heap b (cs.drop o) ∧ Q b
def eNil (_ : Heap) (_ : Unit) (cs : List Value) : Prop := cs = []
def eCons {α β : Type} (E : Heap → α → List Value → Prop) (F : Heap → β → List Value → Prop) (h : Heap) (x : α × β) (cs : List Value) : Prop := ∃ c1 c2, cs = c1 ++ c2 ∧ E h x.1 c1 ∧ F h x.2 c2
theorem tf_nil {T : Nat} : TellsF enc P W T T [] eNil (fun _ => True) := fun n cs xs hl _ _ _ => ⟨(), by unfold eNil; rw [List.drop_eq_nil_of_le (by omega)], trivial⟩
theorem tf_cons {α β : Type} {E : Heap → α → List Value → Prop} {F : Heap → β → List Value → Prop} {Q : α → Prop} {Q' : β → Prop} {T o s : Nat} {f : TypeId} {fs : List (TypeId × Nat)} (hs : P.cellsOf f = s)
    (he : Tells enc P W f E Q) (hf : TellsF enc P W T (o + s) fs F Q') : TellsF enc P W T o ((f, o) :: fs) (eCons E F) (fun x => Q x.1 ∧ Q' x.2) := by
  intro n cs xs hl hx hi hw
  cases xs with
  | nil => cases hx
  | cons x xs =>
    have h0 := hi 0 (f, o) rfl
    simp only [hs] at h0
    simp only [List.map_cons, DataW.weightsEach, List.all_append, Bool.and_eq_true] at hw
    obtain ⟨a, ha, qa⟩ := he n _ _ h0 hw.1
    obtain ⟨b, hb, qb⟩ := hf n cs xs hl (by simpa using hx) (fun i g hg => by simpa using hi (i + 1) g hg) hw.2
    exact ⟨(a, b), ⟨_, _, by rw [← List.drop_drop, List.take_append_drop], ha, hb⟩, qa, qb⟩
def shapeOf (P : Program) (t : TypeId) : Option (List (TypeId × Nat)) := match P.underlying t with | some (.struct fs) => some (fs.toList.map fun f => (f.type, f.offset)) | _ => none
theorem tells_struct {α : Type} {F : Heap → α → List Value → Prop} {Q : α → Prop} {t : TypeId} {fs : List (TypeId × Nat)} {T : Nat} (hs : shapeOf P t = some fs) (hc : P.cellsOf t = T) (hf : TellsF enc P W T 0 fs F Q) : Tells enc P W t F Q := by
  intro fuel cs x h hw
  unfold shapeOf at hs
  split at hs
  · rename_i fa hu
    cases hs
    obtain ⟨xs, n, _, rfl, hl, hlen, hi⟩ := DataW.trod_struct hu h
    simp only [DataW.weights, hu] at hw
    obtain ⟨b, hb, qb⟩ := hf n cs xs (by rw [hl, hc]) (by simpa using hlen) (fun i f hif => by
      rw [List.getElem?_map, Option.map_eq_some_iff] at hif
      obtain ⟨g, hg, rfl⟩ := hif
      exact hi i g (by simpa using hg)) (by rw [List.map_map]; exact hw)
    exact ⟨b, by simpa using hb, qb⟩
  · cases hs
theorem tells_map {α β : Type} {E : Heap → α → List Value → Prop} {F : Heap → β → List Value → Prop} {Q : α → Prop} {Q' : β → Prop} {t : TypeId} (he : Tells enc P W t E Q) (hm : ∀ a cs, E W.heap a cs → Q a → ∃ b, F W.heap b cs ∧ Q' b) : Tells enc P W t F Q' :=
  fun fuel cs x h hw => let ⟨a, ha, qa⟩ := he fuel cs x h hw; hm a cs ha qa
theorem okWide_agg_of {t : TypeId} {fs : List (TypeId × Nat)} {v : Value} {r : Reach} {base : Nat} (hs : shapeOf P t = some fs) (h : Value.okWide P W r base t v) : ∃ cs : List Value, v = .agg cs.toArray := by
  unfold shapeOf at hs
  split at hs
  · rename_i fa hu
    simp only [Value.okWide, hu] at h
    cases v <;> simp_all
    rename_i xs
    exact ⟨xs.toList, by simp⟩
  · cases hs
end
end Go.Hw

end
section
namespace Go.Hw
open Go
def Brn (e : List MapEntry) (c : Nat) : Prop := (e.map (·.born)).Pairwise (· < ·) ∧ ∀ x ∈ e, x.born < c
def MapB {α : Type} (kv : α → Value) (h : Heap) (m : Nat) (es : List (α × Value)) : Prop :=
  ∃ (e : Array MapEntry) (clock : Nat), h[m]? = some (.map e clock) ∧ e.toList.map (fun x => (x.key, x.val)) = (es.map fun x => (kv x.1, x.2)) ∧ Brn e.toList clock
theorem Brn.push {e : List MapEntry} {c : Nat} (h : Brn e c) (k v : Value) : Brn (e ++ [{ key := k, val := v, born := c }]) (c + 1) := by
  refine ⟨?_, fun x hx => ?_⟩
  · rw [List.map_append, List.pairwise_append]
    refine ⟨h.1, List.pairwise_singleton .., fun a ha b hb => ?_⟩
    simp only [List.map_cons, List.map_nil, List.mem_singleton] at hb
    obtain ⟨x, hx, rfl⟩ := List.mem_map.1 ha
    rw [hb]; exact h.2 x hx
  · rcases List.mem_append.1 hx with hx | hx
    · have := h.2 x hx; omega
    · rw [List.mem_singleton.1 hx]; exact Nat.lt_succ_self c
theorem Brn.mod {e : List MapEntry} {c : Nat} (h : Brn e c) (i : Nat) (k v : Value) : Brn (e.modify i fun x => { x with key := k, val := v }) c := by
  have hm : (e.modify i fun x => { x with key := k, val := v }).map (·.born) = e.map (·.born) := by
    induction e generalizing i with
    | nil => simp
    | cons x e ih =>
      cases i with
      | zero => simp
      | succ i =>
        rw [List.modify_succ_cons, List.map_cons, List.map_cons, ih ⟨(List.pairwise_cons.1 h.1).2, fun x hx => h.2 x (List.mem_cons_of_mem _ hx)⟩]
  refine ⟨by rw [hm]; exact h.1, fun x hx => ?_⟩
  have : x.born ∈ (e.modify i fun x => { x with key := k, val := v }).map (·.born) := List.mem_map.2 ⟨x, hx, rfl⟩
  rw [hm] at this
  obtain ⟨y, hy, e1⟩ := List.mem_map.1 this
  rw [← e1]; exact h.2 y hy
section
variable {α : Type} {kv : α → Value} {h h' : Heap} {m : Nat} {es : List (α × Value)}
theorem MapB.lt (hb : MapB kv h m es) : m < h.size := by
  obtain ⟨e, c, h1, _⟩ := hb
  exact (Array.getElem?_eq_some_iff.1 h1).1
variable {P : Program} {t : TypeId}
theorem gen_makeMap {K : Value → Heap → Prop} (hk : ∀ h', MapB kv h' h.size [] → Ext h h' → h'.size = h.size + 1 → K (.map (some h.size)) h') : Gen P (Instr.makeMap t none) h K :=
  hk _ ⟨#[], 0, by simp, rfl, .nil, fun x hx => by cases hx⟩ (Ext.push _ _) (by simp)
theorem hwp_getObj {r : Nat} {o : Obj} {K : Obj → Heap → Prop} (h1 : h[r]? = some o) (h2 : ∀ c e f, o ≠ .cells c e f) (hk : K o h) : Hwp P (getObj r) h K := ⟨o, h1, h2, hk⟩
theorem hwp_setObj {r : Nat} {o o' : Obj} {K : Unit → Heap → Prop} (h1 : h[r]? = some o') (h2 : ∀ c e f, o' ≠ .cells c e f) (hk : K () (h.setIfInBounds r o)) : Hwp P (setObj r o) h K := ⟨o', h1, h2, hk⟩
def mget {α : Type} [DecidableEq α] (es : List (α × Value)) (k : α) : Option Value := (es.find? fun x => decide (k = x.1)).map (·.2)
structure KeyOk (P : Program) (t : TypeId) {α : Type} [DecidableEq α] (kv : α → Value) (elem : TypeId) : Prop where
  key : ∃ key kind, P.underlying t = some (.map key elem) ∧ P.underlying key = some kind ∧ (∀ b n v h K, K () h → Hwp P (Instr.checkKey b (n + 1) key (kv v)) h K) ∧ ∀ a b, Instr.sameNow kind (kv a) (kv b) = some (decide (a = b))
  same : ∀ a, Instr.sameBits 10000 (kv a) (kv a) = true
variable [DecidableEq α]
theorem findNow_spec {kind : TypeDesc} (hs : ∀ a b, Instr.sameNow kind (kv a) (kv b) = some (decide (a = b))) (k : α) : ∀ (l : List MapEntry) (es : List (α × Value)) (i : Nat), l.map (fun x => (x.key, x.val)) = es.map (fun x => (kv x.1, x.2)) →
    ∃ r, Instr.findNow kind (kv k) l i = some r ∧ r.map (·.2) = mget es k ∧ (∀ j v, r = some (j, v) → i ≤ j ∧ ∃ x, es[j - i]? = some (k, x) ∧ ∀ q, q < j - i → ∀ y, es[q]? = some y → y.1 ≠ k) := by
  intro l
  induction l with
  | nil =>
    intro es i he
    cases es with
    | nil => exact ⟨none, rfl, rfl, fun j v h => by cases h⟩
    | cons x es => cases he
  | cons e l ih =>
    intro es i he
    cases es with
    | nil => cases he
    | cons x es =>
      simp only [List.map_cons, List.cons.injEq, Prod.mk.injEq] at he
      obtain ⟨⟨hkey, hval⟩, he⟩ := he
      unfold Instr.findNow
      rw [hkey, hs]
      by_cases hkx : k = x.1
      · rw [decide_eq_true hkx]
        refine ⟨_, rfl, ?_, fun j v h => ?_⟩
        · unfold mget
          rw [List.find?_cons_of_pos (by simpa using hkx)]
          simp [hval]
        · cases h
          refine ⟨Nat.le_refl _, x.2, ?_, fun q hq => by omega⟩
          simp [hkx]
      · rw [decide_eq_false hkx]
        obtain ⟨r, h1, h2, h3⟩ := ih es (i + 1) he
        refine ⟨r, h1, ?_, fun j v h => ?_⟩
        · rw [h2]; unfold mget
          rw [List.find?_cons_of_neg (by simpa using hkx)]
        · obtain ⟨h4, y, h5, h6⟩ := h3 j v h
          refine ⟨by omega, y, ?_, fun q hq z hz => ?_⟩
          · rw [show j - i = (j - (i + 1)) + 1 by omega]; simpa using h5
          · cases q with
            | zero => simp at hz; subst hz; exact fun hh => hkx hh.symm
            | succ q => exact h6 q (by omega) z (by simpa using hz)
theorem gen_lookup2 {elem : TypeId} {z : Value} (ok : KeyOk P t kv elem) (hb : MapB kv h m es) (k : α) (hz : zeroOf P elem = some z) {K : Value → Heap → Prop} (hk : K (.tuple #[(mget es k).getD z, .bool (mget es k).isSome]) h) : Gen P (Instr.lookup t (.map (some m)) (kv k) true) h K := by
  obtain ⟨key, kind, hu, hkind, hck, hs⟩ := ok.key
  obtain ⟨e, clock, h1, h2, hB⟩ := hb
  unfold Gen Instr.lookup
  refine hwp_bind (hwp_underlying hu ?_)
  refine hwp_bind (hwp_getObj h1 (fun _ _ _ hh => by cases hh) ?_)
  refine hwp_bind (hwp_pure (P := P) ?_)
  refine hwp_bind (hck _ _ _ _ _ ?_)
  unfold Instr.findKey
  refine hwp_bind (hwp_bind (hwp_underlying hkind ?_))
  obtain ⟨r, h3, h4, _⟩ := findNow_spec hs k e.toList es 0 h2
  rw [h3]
  cases r with
  | none =>
    have : mget es k = none := by rw [← h4]; rfl
    rw [this] at hk
    exact hwp_pure (P := P) (hwp_bind (hwp_zero hz (hwp_pure (P := P) (hwp_pure (P := P) hk))))
  | some iv =>
    have : mget es k = some iv.2 := by rw [← h4]; rfl
    rw [this] at hk
    exact hwp_pure (P := P) (hwp_pure (P := P) (hwp_pure (P := P) hk))
def mset : List (α × Value) → α → Value → List (α × Value)
  | [], k, v => [(k, v)]
  | x :: es, k, v => if k = x.1 then (k, v) :: es else x :: mset es k v
theorem findNow_set {kind : TypeDesc} (hs : ∀ a b, Instr.sameNow kind (kv a) (kv b) = some (decide (a = b))) (k : α) (v : Value) : ∀ (l : List MapEntry) (es : List (α × Value)) (i : Nat), l.map (fun x => (x.key, x.val)) = es.map (fun x => (kv x.1, x.2)) →
    ∃ r, Instr.findNow kind (kv k) l i = some r ∧ match r with
      | none => mset es k v = es ++ [(k, v)]
      | some (j, _) => i ≤ j ∧ (∃ e, l[j - i]? = some e ∧ e.key = kv k) ∧ (l.modify (j - i) fun e => { e with key := kv k, val := v }).map (fun x => (x.key, x.val)) = (mset es k v).map (fun x => (kv x.1, x.2)) := by
  intro l
  induction l with
  | nil =>
    intro es i he
    cases es with
    | nil => exact ⟨none, rfl, rfl⟩
    | cons x es => cases he
  | cons e l ih =>
    intro es i he
    cases es with
    | nil => cases he
    | cons x es =>
      simp only [List.map_cons, List.cons.injEq, Prod.mk.injEq] at he
      obtain ⟨⟨hkey, hval⟩, he⟩ := he
      unfold Instr.findNow
      rw [hkey, hs]
      by_cases hkx : k = x.1
      · rw [decide_eq_true hkx]
        refine ⟨_, rfl, Nat.le_refl _, ⟨e, by simp, by rw [hkey, hkx]⟩, ?_⟩
        unfold mset
        rw [if_pos hkx, Nat.sub_self]
        simp [he]
      · rw [decide_eq_false hkx]
        obtain ⟨r, h1, h2⟩ := ih es (i + 1) he
        refine ⟨r, h1, ?_⟩
        unfold mset
        rw [if_neg hkx]
        cases r with
        | none => simp only at h2 ⊢; rw [h2]; rfl
        | some jv =>
          simp only at h2 ⊢
          obtain ⟨h3, ⟨e', h4, h5⟩, h6⟩ := h2
          have e1 : jv.1 - i = (jv.1 - (i + 1)) + 1 := by omega
          refine ⟨by omega, ⟨e', by rw [e1]; simpa using h4, h5⟩, ?_⟩
          rw [e1, List.modify_succ_cons, List.map_cons, List.map_cons, h6, hkey, hval]
theorem gen_mapUpdate {elem : TypeId} (ok : KeyOk P t kv elem) (hb : MapB kv h m es) (k : α) (v : Value) {K : Unit → Heap → Prop} (hk : ∀ h', MapB kv h' m (mset es k v) → Only h h' m → K () h') : Hwp P (Instr.mapUpdate t (.map (some m)) (kv k) v) h K := by
  have hlt := hb.lt
  obtain ⟨key, kind, hu, hkind, hck, hs⟩ := ok.key
  obtain ⟨e, clock, h1, h2, hB⟩ := hb
  have only : ∀ o, Only h (h.setIfInBounds m o) m := fun o => ⟨by simp, fun i hi => by rw [Array.getElem?_setIfInBounds, if_neg (fun hh => hi hh.symm)]⟩
  have at' : ∀ o, (h.setIfInBounds m o)[m]? = some o := fun o => by rw [Array.getElem?_setIfInBounds, if_pos rfl, if_pos hlt]
  unfold Instr.mapUpdate
  refine hwp_bind (hwp_underlying hu ?_)
  refine hwp_bind (hwp_getObj h1 (fun _ _ _ hh => by cases hh) ?_)
  refine hwp_bind (hck _ _ _ _ _ ?_)
  unfold Instr.findKey
  refine hwp_bind (hwp_bind (hwp_underlying hkind ?_))
  obtain ⟨r, h3, h4⟩ := findNow_set hs k v e.toList es 0 h2
  rw [h3]
  cases r with
  | none =>
    simp only at h4
    refine hwp_pure (P := P) (hwp_setObj h1 (fun _ _ _ hh => by cases hh) (hk _ ⟨_, _, at' _, ?_, ?_⟩ (only _)))
    · rw [h4, Array.toList_push, List.map_append, List.map_append, h2]; rfl
    · rw [Array.toList_push]; exact hB.push _ _
  | some jv =>
    obtain ⟨j, x⟩ := jv
    simp only at h4
    obtain ⟨_, ⟨e', h5, h6⟩, h7⟩ := h4
    refine hwp_pure (P := P) ?_
    have hkey : ((e[j]?).map (·.key)).getD (kv k) = kv k := by
      have : e[j]? = some e' := by simpa using h5
      rw [this]; exact h6
    show Hwp P (Instr.keyThatStays (((e[j]?).map (·.key)).getD (kv k)) (kv k) >>= _) h K
    rw [hkey]
    refine hwp_bind ?_
    unfold Instr.keyThatStays
    rw [ok.same, if_pos rfl]
    refine hwp_pure (P := P) (hwp_setObj h1 (fun _ _ _ hh => by cases hh) (hk _ ⟨_, _, at' _, ?_, ?_⟩ (only _)))
    · rw [Array.toList_modify]
      exact h7
    · rw [Array.toList_modify]; exact hB.mod _ _ _
end
theorem ba_toList {a b : ByteArray} (h : a.toList = b.toList) : a = b := by
  rw [ByteArray.toList_eq, ByteArray.toList_eq] at h
  obtain ⟨⟨x⟩⟩ := a
  obtain ⟨⟨y⟩⟩ := b
  have : x = y := h
  rw [this]
theorem ba_beq (a b : ByteArray) : (a == b) = decide (a = b) := by
  rw [beq_toListBytes]
  by_cases h : a = b
  · rw [decide_eq_true h, h]; simp
  · rw [decide_eq_false h, beq_eq_false_iff_ne]; exact fun hh => h (ba_toList hh)
section
variable {P : Program} {t : TypeId}
theorem keyOk_str {key elem : TypeId} (hu : P.underlying t = some (.map key elem)) (hk : P.underlying key = some .string) : KeyOk P t (fun s : ByteArray => Value.string s) elem where
  key := ⟨key, .string, hu, hk, fun b n v h K hh => by
      unfold Instr.checkKey
      exact hwp_bind (hwp_underlying hk hh), fun a b => by
      show some (a == b) = _
      rw [ba_beq]⟩
  same := fun a => by
    show (a == a) = true
    rw [ba_beq]; simp
end
end Go.Hw

end
section
namespace Go.Hw
open Go
end Go.Hw

end
section
namespace Go.Hw
open Go
end Go.Hw

end
section
namespace Go.Hw
open Go
def dead : Obj := .cells #[] 0 (0, 0)
def Live (m : Heap) (b : Nat) : Prop := ∃ o, m[b]? = some o ∧ o ≠ dead
def Sub (m h : Heap) : Prop := ∀ (b : Nat) (o : Obj), m[b]? = some o → o ≠ dead → h[b]? = some o
abbrev No : Nat → Prop := fun _ => False
section
variable {m m' h h' k h0 m0 : Heap} {b : Nat} {W W' : Nat → Prop}
theorem Sub.refl (h : Heap) : Sub h h := fun _ _ h _ => h
theorem Sub.trans (s : Sub m h) (t : Sub h k) : Sub m k := fun b o h1 h2 => t b o (s b o h1 h2) h2
theorem Sub.lt (s : Sub m h) (l : Live m b) : b < h.size := by
  obtain ⟨o, h1, h2⟩ := l
  exact (Array.getElem?_eq_some_iff.1 (s b o h1 h2)).1
theorem Sub.ext (s : Sub m h) (e : Ext h h') : Sub m h' := fun b o h1 h2 => by rw [e.2 b (s.lt ⟨o, h1, h2⟩)]; exact s b o h1 h2
theorem Sub.cell (s : Sub m h) {a : Addr} {v : Value} (hc : cellH m a = some v) : cellH h a = some v := by
  unfold cellH at hc
  split at hc
  · rename_i c e f hm
    have hne : (Obj.cells c e f) ≠ dead := by
      intro hd
      unfold dead at hd
      cases hd
      split at hc <;> simp at hc
    unfold cellH
    rw [s _ _ hm hne]; exact hc
  · cases hc
theorem Sub.cells (s : Sub m h) {a : Addr} : ∀ (n i : Nat) {vs : List Value}, cellsH m a i n = some vs → cellsH h a i n = some vs := by
  intro n
  induction n with
  | zero => intro i vs hc; exact hc
  | succ n ih =>
    intro i vs hc
    simp only [cellsH] at hc ⊢
    split at hc
    · rename_i v hv
      rw [s.cell hv]
      split at hc
      · rename_i us hu
        rw [ih _ hu]; exact hc
      · cases hc
    · cases hc
end
structure Tell {α : Type} (sz : Nat) (E : Heap → α → List Value → Prop) : Prop where
  mono : ∀ m h x cs, Sub m h → E m x cs → E h x cs
  len : ∀ h x cs, E h x cs → cs.length = sz
  flat : ∀ h x cs, E h x cs → ∀ v ∈ cs, Flat v
theorem Flats.nil : ∀ v ∈ ([] : List Value), Flat v := fun v hv => by cases hv
theorem Flats.cons {x : Value} {l : List Value} (h : Flat x) (t : ∀ v ∈ l, Flat v) : ∀ v ∈ x :: l, Flat v := fun v hv => by
  rcases List.mem_cons.1 hv with rfl | hv
  · exact h
  · exact t v hv
theorem tell_int (k : IntKind) : Tell 1 (eInt k) := ⟨fun _ _ _ _ _ h => h, fun _ _ _ h => by rw [h]; rfl, fun _ _ _ h => by rw [h]; exact Flats.cons trivial Flats.nil⟩
theorem tell_str : Tell 1 eStr := ⟨fun _ _ _ _ _ h => h, fun _ _ _ h => by rw [h]; rfl, fun _ _ _ h => by rw [h]; exact Flats.cons trivial Flats.nil⟩
section
variable {α : Type} {sz : Nat} {E : Heap → α → List Value → Prop} {m m' h h' : Heap} {A : Option Addr} {l : List α} {c : Nat}
theorem Rd.sub (r : Rd sz E m A l) (T : Tell sz E) (s : Sub m h) : Rd sz E h A l := fun i hi =>
  let ⟨a, cs, h1, h2, h3⟩ := r i hi
  ⟨a, cs, h1, s.cells _ _ h2, T.mono _ _ _ _ s h3⟩
theorem tell_row (T : Tell sz E) : Tell 1 (eRow sz E) := ⟨fun _ _ _ _ s ⟨A, c, h1, h2, h3⟩ => ⟨A, c, h1, h2, h3.sub T s⟩, fun _ _ _ ⟨A, c, h1, _, _⟩ => by rw [h1]; rfl, fun _ _ _ ⟨A, c, h1, _, _⟩ => by rw [h1]; exact Flats.cons trivial Flats.nil⟩
end
structure St (W : Nat → Prop) (h0 m0 h m : Heap) : Prop where
  up : Sub m0 m
  s : Sub m h
  size : h0.size ≤ h.size
  fr : ∀ b, b < h0.size → ¬ W b → h[b]? = h0[b]?
  lv : ∀ b, b < h0.size → Live m b → Live m0 b ∨ W b
def fb (b0 b : Nat) : Prop := b = b0
def fp (A : Option Addr) (c : Nat) (b : Nat) : Prop := c ≠ 0 ∧ ∃ a, A = some a ∧ a.block = b
def Dj (F G : Nat → Prop) : Prop := ∀ b, F b → G b → False
section
variable {m m' h h' h0 m0 : Heap} {b b' : Nat} {W W' F G G' : Nat → Prop}
theorem Dj.symm (d : Dj F G) : Dj G F := fun b h1 h2 => d b h2 h1
theorem Dj.no : Dj No F := fun _ h _ => h
theorem St.refl (s : Sub m h) : St W h m h m := ⟨.refl _, s, Nat.le_refl _, fun _ _ _ => rfl, fun _ _ h => .inl h⟩
theorem St.of_ext (s : Sub m h) (e : Ext h h') : St W h m h' m := ⟨.refl _, s.ext e, e.1, fun b hb _ => e.2 b hb, fun _ _ h => .inl h⟩
theorem St.ext (S : St No h m h' m') : Ext h h' := ⟨S.size, fun b hb => S.fr b hb (fun h => h)⟩
theorem St.then (S : St W h0 m0 h m) (T : St W' h m h' m') (hw : ∀ b, b < h.size → W' b → h0.size ≤ b ∨ W b) : St W h0 m0 h' m' where
  up := S.up.trans T.up
  s := T.s
  size := Nat.le_trans S.size T.size
  fr b hb hn := by
    rw [T.fr b (by have := S.size; omega) (fun hw' => (hw b (by have := S.size; omega) hw').elim (fun h => by omega) hn)]
    exact S.fr b hb hn
  lv b hb hl := by
    rcases T.lv b (by have := S.size; omega) hl with h1 | h1
    · exact S.lv b hb h1
    · exact .inr ((hw b (by have := S.size; omega) h1).elim (fun h => by omega) id)
theorem St.grow (S : St W h0 m0 h m) (T : St No h m h' m') : St W h0 m0 h' m' := S.then T fun _ _ h => h.elim
theorem St.notLive (s : Sub m h) : ¬ Live m h.size := fun l => by have := s.lt l; omega
theorem St.only (s : Sub m h) (hn : ¬ Live m b) (o : Only h h' b) : St (fb b) h m h' m where
  up := .refl _
  s i x h1 h2 := by
    rw [o.2 i (fun e => hn (e ▸ ⟨x, h1, h2⟩))]; exact s i x h1 h2
  size := by rw [o.1]; exact Nat.le_refl _
  fr i _ hw := o.2 i hw
  lv i _ hl := .inl hl
end
open Classical in
noncomputable def addV (m h : Heap) (F : Nat → Prop) : Heap := Array.ofFn (n := h.size) fun i => if Live m i.1 ∨ F i.1 then h[i.1] else dead
section
variable {m h : Heap} {b : Nat} {F : Nat → Prop}
theorem addV_get (hb : b < h.size) (hl : Live m b ∨ F b) : (addV m h F)[b]? = h[b]? := by
  unfold addV
  rw [Array.getElem?_ofFn, dif_pos hb, if_pos hl, Array.getElem?_eq_getElem hb]
theorem addV_live (hl : Live (addV m h F) b) : (Live m b ∨ F b) ∧ b < h.size := by
  obtain ⟨o, h1, h2⟩ := hl
  unfold addV at h1
  rw [Array.getElem?_ofFn] at h1
  split at h1
  · rename_i hb
    refine ⟨?_, hb⟩
    by_cases hc : Live m b ∨ F b
    · exact hc
    · rw [if_neg hc] at h1; cases h1; exact (h2 rfl).elim
  · cases h1
theorem addV_sub : Sub (addV m h F) h := fun b o h1 h2 => by
  have := addV_live ⟨o, h1, h2⟩
  rw [← addV_get this.2 this.1]; exact h1
theorem addV_up (s : Sub m h) : Sub m (addV m h F) := fun b o h1 h2 => by
  rw [addV_get (s.lt ⟨o, h1, h2⟩) (.inl ⟨o, h1, h2⟩)]; exact s b o h1 h2
theorem St.settle (s : Sub m h) (F : Nat → Prop) : St F h m h (addV m h F) := ⟨addV_up s, addV_sub, Nat.le_refl _, fun _ _ _ => rfl, fun _ _ hl => (addV_live hl).1⟩
theorem Blk.settle {c : List Value} {t : TypeId} (hb : Blk h b c t) (hF : F b) : Blk (addV m h F) b c t := by
  unfold Blk at *
  rw [addV_get (Blk.lt hb) (.inr hF)]; exact hb
end
section
variable {α : Type} {sz : Nat} {E : Heap → α → List Value → Prop} {m m' h h' h0 m0 : Heap} {A : Option Addr} {l l' : List α} {c : Nat} {cs ds : List Value} {x y : α} {W W' : Nat → Prop}
def CsE (sz : Nat) (E : Heap → α → List Value → Prop) (m : Heap) : List α → List Value → Prop
  | [], cs => cs = []
  | x :: l, cs => ∃ c1 c2, cs = c1 ++ c2 ∧ c1.length = sz ∧ E m x c1 ∧ CsE sz E m l c2
theorem CsE.nil : CsE sz E m ([] : List α) [] := rfl
theorem CsE.cons {c1 : List Value} (h1 : E m x c1) (h2 : c1.length = sz) (h : CsE sz E m l cs) : CsE sz E m (x :: l) (c1 ++ cs) := ⟨c1, cs, rfl, h2, h1, h⟩
theorem CsE.len : ∀ {l : List α} {cs : List Value}, CsE sz E m l cs → cs.length = l.length * sz := by
  intro l
  induction l with
  | nil => intro cs h; rw [show cs = [] from h]; simp
  | cons x l ih => rintro cs ⟨c1, c2, rfl, h1, h2, h3⟩; rw [List.length_append, ih h3, h1, List.length_cons, Nat.succ_mul, Nat.add_comm]
theorem CsE.sub (T : Tell sz E) (s : Sub m h) : ∀ {l : List α} {cs : List Value}, CsE sz E m l cs → CsE sz E h l cs := by
  intro l
  induction l with
  | nil => intro cs h; exact h
  | cons x l ih => rintro cs ⟨c1, c2, rfl, h1, h2, h3⟩; exact ⟨c1, c2, rfl, h1, T.mono _ _ _ _ s h2, ih h3⟩
theorem CsE.flat (T : Tell sz E) : ∀ {l : List α} {cs : List Value}, CsE sz E m l cs → ∀ v ∈ cs, Flat v := by
  intro l
  induction l with
  | nil => intro cs h; rw [show cs = [] from h]; exact Flats.nil
  | cons x l ih =>
    rintro cs ⟨c1, c2, rfl, h1, h2, h3⟩ v hv
    rcases List.mem_append.1 hv with hv | hv
    · exact T.flat _ _ _ h2 v hv
    · exact ih h3 v hv
theorem CsE.get : ∀ {l : List α} {cs : List Value} {i : Nat}, CsE sz E m l cs → l[i]? = some y → E m y ((cs.drop (i * sz)).take sz) ∧ i * sz + sz ≤ cs.length := by
  intro l
  induction l with
  | nil => intro cs i h h'; cases h'
  | cons x l ih =>
    rintro cs i ⟨c1, c2, rfl, h1, h2, h3⟩ hy
    cases i with
    | zero =>
      cases hy
      simp only [Nat.zero_mul, List.drop_zero]
      rw [← h1, List.take_left]
      exact ⟨h2, by simp⟩
    | succ i =>
      have := ih (i := i) h3 (by simpa using hy)
      rw [show (i + 1) * sz = c1.length + i * sz by rw [h1, Nat.succ_mul, Nat.add_comm], ← List.drop_drop, List.drop_left, List.length_append]
      exact ⟨this.1, by omega⟩
theorem CsE.set {c1 : List Value} (hx : E m x c1) (hz : c1.length = sz) : ∀ {l : List α} {cs : List Value} {i : Nat}, CsE sz E m l cs → i < l.length → CsE sz E m (l.set i x) (cs.take (i * sz) ++ c1 ++ cs.drop (i * sz + sz)) := by
  intro l
  induction l with
  | nil => intro cs i h h'; cases h'
  | cons y l ih =>
    rintro cs i ⟨d1, d2, rfl, h1, h2, h3⟩ hi
    cases i with
    | zero =>
      simp only [Nat.zero_mul, List.take_zero, List.nil_append, Nat.zero_add, List.set_cons_zero]
      rw [← h1, List.drop_left]
      exact ⟨c1, d2, rfl, by rw [hz, h1], hx, by rw [h1]; exact h3⟩
    | succ i =>
      have := ih (i := i) h3 (by simpa using hi)
      rw [show (i + 1) * sz = d1.length + i * sz by rw [h1, Nat.succ_mul, Nat.add_comm], List.take_length_add_append, show d1.length + i * sz + sz = d1.length + (i * sz + sz) by omega, List.drop_length_add_append, List.set_cons_succ]
      exact ⟨d1, _, by simp [List.append_assoc], h1, h2, this⟩
theorem Rd.tail (r : Rd sz E m A (x :: l)) : ∀ a, A = some a → Rd sz E m (some (a.add sz)) l := by
  intro a ha i hi
  obtain ⟨a', cs, h1, h2, h3⟩ := r (i + 1) (by simpa using hi)
  rw [ha] at h1; cases h1
  refine ⟨_, cs, rfl, ?_, h3⟩
  rw [add_add, show sz + i * sz = (i + 1) * sz by rw [Nat.succ_mul, Nat.add_comm]]; exact h2
theorem Rd.cse (T : Tell sz E) : ∀ {l : List α} {a : Addr}, Rd sz E m (some a) l → ∃ cs, cellsH m a 0 (l.length * sz) = some cs ∧ CsE sz E m l cs := by
  intro l
  induction l with
  | nil => intro a r; exact ⟨[], by simp [cellsH], rfl⟩
  | cons x l ih =>
    intro a r
    obtain ⟨cs, h1, h2⟩ := ih (r.tail a rfl)
    obtain ⟨a', c1, h3, h4, h5⟩ := r 0 (by simp)
    cases h3
    rw [Nat.zero_mul, show a.add 0 = a from rfl] at h4
    refine ⟨c1 ++ cs, ?_, c1, cs, rfl, T.len _ _ _ h5, h5, h2⟩
    rw [List.length_cons, Nat.succ_mul, Nat.add_comm]
    refine cellsH_append h4 ?_
    rw [cellsH_shift] at h1
    simpa using h1
theorem CsE.rd {b : Nat} {t : TypeId} {pre rest : List Value} (hb : Blk h b (pre ++ cs ++ rest) t) (hc : CsE sz E m l cs) (hm : ∀ x cs, E m x cs → E h x cs) : Rd sz E h (some ⟨b, pre.length, none⟩) l := by
  intro i hi
  have hg := hc.get (List.getElem?_eq_getElem hi)
  refine ⟨_, _, rfl, ?_, hm _ _ hg.1⟩
  have := hb.cells (a := (⟨b, pre.length, none⟩ : Addr).add (i * sz)) (by rw [add_block]) (add_spot _ rfl) sz 0 (by rw [add_off, List.length_append, List.length_append]; simp only [Nat.add_zero]; omega)
  rw [this, add_off]
  simp only [Nat.add_zero]
  rw [List.append_assoc, ← List.drop_drop, List.drop_left, List.drop_append_of_le_length (by omega), List.take_append_of_le_length (by rw [List.length_drop]; omega)]
def OS (W : Nat → Prop) (h0 : Heap) (sz : Nat) (E : Heap → α → List Value → Prop) (h m : Heap) (A : Option Addr) (l : List α) (c : Nat) : Prop :=
  (l = [] ∧ c = 0) ∨ ∃ b t pre cs rest, A = some ⟨b, pre.length, none⟩ ∧ Blk h b (pre ++ cs ++ rest) t ∧ CsE sz E m l cs ∧ l.length ≤ c ∧ (c - l.length) * sz ≤ rest.length ∧ (h0.size ≤ b ∨ W b) ∧ ¬ Live m b
theorem OS.cap (o : OS W h0 sz E h m A l c) : l.length ≤ c := by
  rcases o with ⟨rfl, rfl⟩ | ⟨b, t, pre, cs, rest, h1, h2, h3, h4, h5, h6, h7⟩
  · exact Nat.le_refl _
  · exact h4
theorem OS.wr (o : OS W h0 sz E h m A l c) : ∀ b, fp A c b → h0.size ≤ b ∨ W b := by
  rintro b ⟨hc, a, ha, rfl⟩
  rcases o with ⟨rfl, rfl⟩ | ⟨b, t, pre, cs, rest, h1, h2, h3, h4, h5, h6, h7⟩
  · exact (hc rfl).elim
  · rw [h1] at ha; cases ha; exact h6
def OB (W : Nat → Prop) (h0 h m : Heap) (b : Nat) (cs : List Value) (t : TypeId) : Prop := Blk h b cs t ∧ (h0.size ≤ b ∨ W b) ∧ ¬ Live m b
variable {b : Nat} {t : TypeId}
theorem OB.all (o : OB W h0 h m b cs t) : cellsH h ⟨b, 0, none⟩ 0 cs.length = some cs := by
  have := o.1.cells (a := ⟨b, 0, none⟩) rfl rfl cs.length 0 (by simp)
  simpa using this
end
end Go.Hw

end
section
namespace Go.Hw
def LeO {β : Type} (a b : Option β) : Prop := ∀ r, a = some r → b = some r
theorem LeO.refl {β : Type} (a : Option β) : LeO a a := fun _ h => h
theorem LeO.bind {β γ : Type} {a b : Option β} {f g : β → Option γ} (h : LeO a b) (k : ∀ x, LeO (f x) (g x)) : LeO (a.bind f) (b.bind g) := by
  intro r hr
  cases a with
  | none => cases hr
  | some x => rw [h x rfl]; exact k x r hr
theorem LeO.ite {β : Type} {p : Prop} [Decidable p] {a b a' b' : Option β} (h : LeO a a') (k : LeO b b') : LeO (if p then a else b) (if p then a' else b') := by
  by_cases c : p
  · rw [if_pos c, if_pos c]; exact h
  · rw [if_neg c, if_neg c]; exact k
section
variable {α : Type} {β : α → Type} {F : ((x : α) → Option (β x)) → (x : α) → Option (β x)}
def MonoF (F : ((x : α) → Option (β x)) → (x : α) → Option (β x)) : Prop := ∀ f g, (∀ x, LeO (f x) (g x)) → ∀ x, LeO (F f x) (F g x)
def FixR (F : ((x : α) → Option (β x)) → (x : α) → Option (β x)) (x : α) (r : β x) : Prop :=
  ∀ I : (x : α) → β x → Prop, (∀ f, (∀ x r, f x = some r → I x r) → ∀ x r, F f x = some r → I x r) → I x r
theorem FixR.close {f : (x : α) → Option (β x)} (hf : ∀ x r, f x = some r → FixR F x r) {x : α} {r : β x} (h : F f x = some r) : FixR F x r :=
  fun I hI => hI f (fun y s hs => hf y s hs I hI) x r h
theorem FixR.uniq (M : MonoF F) {x : α} {r r' : β x} (h : FixR F x r) (h' : FixR F x r') : r = r' := by
  refine (h (fun x r => FixR F x r ∧ ∀ r', FixR F x r' → r = r') ?_).2 r' h'
  intro f hf x r hr
  refine ⟨FixR.close (fun y s hs => (hf y s hs).1) hr, fun s hs => ?_⟩
  have key := hs (fun y s => FixR F y s ∧ ∀ e : x = y, (e ▸ r) = s) ?_
  · exact key.2 rfl
  intro f' hf' y t ht
  refine ⟨FixR.close (fun z s hs => (hf' z s hs).1) ht, ?_⟩
  rintro rfl
  let g : (x : α) → Option (β x) := fun z => match f z with | some u => some u | none => f' z
  have hfg : ∀ z, LeO (f z) (g z) := fun z u hu => by simp only [g, hu]
  have hfg' : ∀ z, LeO (f' z) (g z) := by
    intro z u hu
    simp only [g]
    cases hz : f z with
    | none => exact hu
    | some w => simp only; rw [(hf z w hz).2 u (hf' z u hu).1]
  have e1 := M f g hfg _ _ hr
  have e2 := M f' g hfg' _ _ ht
  rw [e1] at e2
  exact Option.some.inj e2
open Classical in
noncomputable def fixF (F : ((x : α) → Option (β x)) → (x : α) → Option (β x)) (x : α) : Option (β x) := if h : ∃ r, FixR F x r then some (Classical.choose h) else none
theorem fixF_iff (M : MonoF F) {x : α} {r : β x} : fixF F x = some r ↔ FixR F x r := by
  unfold fixF
  constructor
  · intro h
    split at h
    · rename_i hx; cases h; exact Classical.choose_spec hx
    · cases h
  · intro h
    rw [dif_pos ⟨r, h⟩, FixR.uniq M (Classical.choose_spec (⟨r, h⟩ : ∃ r, FixR F x r)) h]
theorem fixF_eq (M : MonoF F) (x : α) : fixF F x = F (fixF F) x := by
  have h1 : ∀ r, fixF F x = some r → F (fixF F) x = some r := by
    intro r hr
    refine ((fixF_iff M).1 hr (fun x r => FixR F x r ∧ F (fixF F) x = some r) ?_).2
    intro f hf y s hs
    refine ⟨FixR.close (fun z s hs => (hf z s hs).1) hs, ?_⟩
    exact M f (fixF F) (fun z u hu => (fixF_iff M).2 (hf z u hu).1) _ _ hs
  have h2 : ∀ r, F (fixF F) x = some r → fixF F x = some r := fun r hr => (fixF_iff M).2 (FixR.close (fun y s hs => (fixF_iff M).1 hs) hr)
  cases h : fixF F x with
  | some r => exact (h1 r h).symm
  | none =>
    cases k : F (fixF F) x with
    | none => rfl
    | some r => rw [h2 r k] at h; cases h
theorem fixF_ind (M : MonoF F) {I : (x : α) → β x → Prop} (hI : ∀ f, (∀ x r, f x = some r → I x r) → ∀ x r, F f x = some r → I x r) {x : α} {r : β x} (h : fixF F x = some r) : I x r := (fixF_iff M).1 h I hI
end
end Go.Hw

end
section
namespace Go.Hw
open Go
section tests
variable {A B : Prop} {β γ : Type} {a b : Option β} {r : β}
theorem bind_e {a : Option γ} {f : γ → Option β} (e : a.bind f = some r) : ∃ x, a = some x ∧ f x = some r := by
  cases a with
  | none => cases e
  | some x => exact ⟨x, rfl, e⟩
theorem guard_e {p : Prop} [Decidable p] (e : (if p then a else none) = some r) : p ∧ a = some r := by
  by_cases h : p
  · rw [if_pos h] at e; exact ⟨h, e⟩
  · rw [if_neg h] at e; cases e
theorem split_dec_e {p : Prop} [Decidable p] (e : (if p then a else b) = some r) (hA : p → a = some r → A) (hB : ¬ p → b = some r → B) : splitB (decide p) A B := by
  by_cases h : p
  · rw [if_pos h] at e; rw [decide_eq_true h]; exact hA h e
  · rw [if_neg h] at e; rw [decide_eq_false h]; exact hB h e
theorem split_eq_e {x y : Int} (e : (if x = y then a else b) = some r) (hA : x = y → a = some r → A) (hB : x ≠ y → b = some r → B) : splitB (x == y) A B := by
  by_cases h : x = y
  · rw [if_pos h] at e; rw [show (x == y) = true from beq_iff_eq.2 h]; exact hA h e
  · rw [if_neg h] at e; rw [show (x == y) = false from beq_eq_false_iff_ne.2 h]; exact hB h e
theorem split_ne_e {x y : Int} (e : (if x = y then b else a) = some r) (hA : x ≠ y → a = some r → A) (hB : x = y → b = some r → B) : splitB (x != y) A B := by
  by_cases h : x = y
  · rw [if_pos h] at e; rw [show (x != y) = false from bne_eq_false_iff_eq.2 h]; exact hB h e
  · rw [if_neg h] at e; rw [show (x != y) = true from bne_iff_ne.2 h]; exact hA h e
theorem split_any_e {t : Bool} (e : (if t = true then a else b) = some r) (hA : t = true → a = some r → A) (hB : t = false → b = some r → B) : splitB t A B := by
  cases t
  · exact hB rfl e
  · exact hA rfl e
theorem ba_list (s t : ByteArray) : (ByteArray.toList s == ByteArray.toList t) = decide (s = t) := by
  by_cases h : s = t
  · subst h; simp
  · rw [decide_eq_false h]
    exact beq_eq_false_iff_ne.2 fun e => h (ba_toList e)
end tests
section
variable {α : Type} {l : List α} {x : Int} {y : α}
def gi (l : List α) (x : Int) : Option α := if 0 ≤ x then l[x.toNat]? else none
theorem gi_nat (l : List α) (k : Nat) : gi l (k : Int) = l[k]? := by unfold gi; rw [if_pos (by omega)]; rfl
theorem gi_le (g : gi l x = some y) : 0 ≤ x := by unfold gi at g; split at g; assumption; cases g
theorem gi_get (g : gi l x = some y) : l[x.toNat]? = some y := by unfold gi at g; split at g; exact g; cases g
theorem gi_lt (g : gi l x = some y) : x < (l.length : Int) := by
  have h1 := gi_get g
  have h2 := gi_le g
  have := (List.getElem?_eq_some_iff.1 h1).1
  omega
theorem gi_ltN (g : gi l x = some y) : x.toNat < l.length := (List.getElem?_eq_some_iff.1 (gi_get g)).1
def sl (l : List α) (lo hi : Int) : List α := (l.take hi.toNat).drop lo.toNat
theorem sl_len {lo hi : Int} (h1 : 0 ≤ lo) (h2 : lo ≤ hi) (h3 : hi ≤ (l.length : Int)) : Int.toNat hi - Int.toNat lo = (sl l lo hi).length := by
  unfold sl; rw [List.length_drop, List.length_take]; omega
theorem sl_lo {lo : Int} : sl l lo (l.length : Int) = l.drop lo.toNat := by unfold sl; simp
end
section
variable {α : Type} {sz : Nat} {E : Heap → α → List Value → Prop} {m m' h h' h0 m0 : Heap} {A : Option Addr} {l : List α} {c n k : Nat} {cs : List Value} {x : Int} {y : α} {W : Nat → Prop} {a : Addr} {v : Value} {b : Nat} {t : TypeId}
theorem Rd.addr {K : Addr → Prop} (r : Rd sz E m A l) (hn : n = l.length) (g : gi l x = some y) (hk : ∀ a cs, A = some a → cellsH m (a.add (Int.toNat x * sz)) 0 sz = some cs → E m y cs → K a) : ptrOk A fun a => 0 ≤ x ∧ x < ((n : Nat) : Int) ∧ K a := by
  subst hn
  have h1 := gi_get g
  obtain ⟨hi, h2⟩ := List.getElem?_eq_some_iff.1 h1
  obtain ⟨a, cs, rfl, h3, h4⟩ := r _ hi
  rw [h2] at h4
  exact ⟨gi_le g, gi_lt g, hk a cs rfl h3 h4⟩
theorem OS.cellsAt (o : OS W h0 sz E h m A l c) (g : gi l x = some y) : ∃ a cs, A = some a ∧ cellsH h (a.add (Int.toNat x * sz)) 0 sz = some cs ∧ E m y cs := by
  have h1 := gi_get g
  rcases o with ⟨rfl, rfl⟩ | ⟨b, t, pre, cs, rest, rfl, h3, h4, h5, h6, h7⟩
  · cases h1
  have h8 := h4.get h1
  refine ⟨_, _, rfl, ?_, h8.1⟩
  have := h3.cells (a := (⟨b, pre.length, none⟩ : Addr).add (x.toNat * sz)) (by rw [add_block]) (add_spot _ rfl) sz 0 (by rw [add_off, List.length_append, List.length_append]; simp only [Nat.add_zero]; omega)
  rw [this, add_off]
  simp only [Nat.add_zero]
  rw [List.append_assoc, ← List.drop_drop, List.drop_left, List.drop_append_of_le_length (by omega), List.take_append_of_le_length (by rw [List.length_drop]; omega)]
theorem OS.addr {K : Addr → Prop} (o : OS W h0 sz E h m A l c) (hn : n = l.length) (g : gi l x = some y) (hk : ∀ a cs, A = some a → cellsH h (a.add (Int.toNat x * sz)) 0 sz = some cs → E m y cs → K a) : ptrOk A fun a => 0 ≤ x ∧ x < ((n : Nat) : Int) ∧ K a := by
  subst hn
  obtain ⟨a, cs, rfl, h1, h2⟩ := o.cellsAt g
  exact ⟨gi_le g, gi_lt g, hk a cs rfl h1 h2⟩
theorem ld0 (s : Sub m h) (hc : cellsH m a 0 n = some cs) (hv : cs[0]? = some v) : ldv false 1 h a = some v := by
  have h1 : cellH h (a.add 0) = some v := cellsH_get (s.cells _ _ hc) hv
  exact h1
theorem ldk (s : Sub m h) (hc : cellsH m a 0 n = some cs) (hv : cs[k]? = some v) : ldv false 1 h (Addr.add a k) = some v := by
  have := cellsH_get (s.cells _ _ hc) hv
  simpa [ldv] using this
theorem ldA (s : Sub m h) (hc : cellsH m a 0 n = some cs) : ldv true n h a = some (.agg cs.toArray) := by
  simp only [ldv, s.cells _ _ hc, Option.map_some]
theorem cellsH_part : ∀ {n i : Nat} {cs : List Value} (k j : Nat), cellsH h a i n = some cs → k + j ≤ n → cellsH h a (i + k) j = some ((cs.drop k).take j) := by
  intro n
  induction n with
  | zero =>
    intro i cs k j hc hk
    obtain ⟨rfl, rfl⟩ : k = 0 ∧ j = 0 := by omega
    simp [cellsH]
  | succ n ih =>
    intro i cs k j hc hk
    cases k with
    | succ k =>
      simp only [cellsH] at hc
      split at hc
      · split at hc
        · rename_i vs hvs
          cases hc
          have := ih k j hvs (by omega)
          rw [show i + (k + 1) = i + 1 + k by omega, this]; simp
        · cases hc
      · cases hc
    | zero =>
      cases j with
      | zero => simp [cellsH]
      | succ j =>
        simp only [cellsH] at hc
        split at hc
        · rename_i u hu
          split at hc
          · rename_i vs hvs
            cases hc
            have := ih 0 j hvs (by omega)
            simp only [Nat.add_zero, List.drop_zero] at this
            simp only [Nat.add_zero, cellsH, hu, this, List.drop_zero, List.take_succ_cons]
          · cases hc
        · cases hc
theorem ldAk {j : Nat} (s : Sub m h) (hc : cellsH m a 0 n = some cs) (hk : k + j ≤ n) : ldv true j h (Addr.add a k) = some (.agg ((cs.drop k).take j).toArray) := by
  have := cellsH_part k j (s.cells _ _ hc) hk
  simp only [ldv, cellsH_shift]
  simp only [Nat.zero_add] at this
  simp only [Nat.add_zero, this, Option.map_some]
theorem OB.st (o : OB W h0 h m b cs t) (s : Sub m h) (hk : k < cs.length) (hf : Flat v) : ∃ h', st1 h (Addr.add ⟨b, 0, none⟩ k) v = some h' ∧ OB W h0 h' m b (cs.set k v) t ∧ St (fb b) h m h' m := by
  obtain ⟨h', h1, h2, h3⟩ := o.1.st (a := Addr.add ⟨b, 0, none⟩ k) (v := v) (add_block _ _) (add_spot _ rfl) (by rw [add_off]; simpa using hk) hf
  rw [add_off, Nat.zero_add] at h2
  exact ⟨h', h1, ⟨h2, o.2⟩, .only s o.2.2 h3⟩
theorem OB.stA (o : OB W h0 h m b cs t) (s : Sub m h) (l : List Value) (hn : l.length = cs.length) (hf : ∀ v ∈ l, Flat v) : ∃ h', stH h ⟨b, 0, none⟩ l 0 = some h' ∧ OB W h0 h' m b l t ∧ St (fb b) h m h' m := by
  obtain ⟨h', h1, h2, h3⟩ := o.1.stAll l hn hf
  exact ⟨h', h1, ⟨h2, o.2⟩, .only s o.2.2 h3⟩
theorem OS.stP (o : OS W h0 sz E h m A l c) (T : Tell sz E) (s : Sub m h) (g : gi l x = some y) (ha : A = some a) (hc : cellsH h (Addr.add a (Int.toNat x * sz)) 0 sz = some cs) {ds : List Value} {y' : α} (k : Nat) (hk : k + ds.length ≤ sz) (hy : E m y' (cs.take k ++ ds ++ cs.drop (k + ds.length))) (hf : ∀ v ∈ ds, Flat v) :
    ∃ h', stH h (Addr.add (Addr.add a (Int.toNat x * sz)) k) ds 0 = some h' ∧ OS W h0 sz E h' m A (l.set (Int.toNat x) y') c ∧ St (fp A c) h m h' m := by
  have h1 := gi_get g
  have hlt := gi_ltN g
  rcases o with ⟨rfl, rfl⟩ | ⟨b, t, pre, es, rest, rfl, h3, h4, h5, h6, h7, h8⟩
  · cases h1
  cases ha
  have h9 := h4.get h1
  have hcs : cs = (es.drop (x.toNat * sz)).take sz := by
    have := h3.cells (a := (⟨b, pre.length, none⟩ : Addr).add (x.toNat * sz)) (by rw [add_block]) (add_spot _ rfl) sz 0 (by rw [add_off, List.length_append, List.length_append]; simp only [Nat.add_zero]; omega)
    rw [hc, add_off] at this
    simp only [Nat.add_zero, Option.some.injEq] at this
    rw [this, List.append_assoc, ← List.drop_drop, List.drop_left, List.drop_append_of_le_length (by omega), List.take_append_of_le_length (by rw [List.length_drop]; omega)]
  have hlen : cs.length = sz := cellsH_length hc
  have hes : es = es.take (x.toNat * sz) ++ cs ++ es.drop (x.toNat * sz + sz) := by
    rw [hcs, List.append_assoc, ← List.drop_drop, List.take_append_drop, List.take_append_drop]
  have hcs2 : cs = cs.take k ++ (cs.drop k).take ds.length ++ cs.drop (k + ds.length) := by
    rw [List.append_assoc, ← List.drop_drop, List.take_append_drop, List.take_append_drop]
  have hb : Blk h b ((pre ++ es.take (x.toNat * sz) ++ cs.take k) ++ (cs.drop k).take ds.length ++ (cs.drop (k + ds.length) ++ (es.drop (x.toNat * sz + sz) ++ rest))) t := by
    have : (pre ++ es.take (x.toNat * sz) ++ cs.take k) ++ (cs.drop k).take ds.length ++ (cs.drop (k + ds.length) ++ (es.drop (x.toNat * sz + sz) ++ rest)) = pre ++ es ++ rest := by
      conv => rhs; rw [hes]; rw [hcs2]
      simp only [List.append_assoc]
    rw [this]; exact h3
  obtain ⟨h', s1, b1, o1⟩ := Blk.stH ds (a := Addr.add (Addr.add ⟨b, pre.length, none⟩ (x.toNat * sz)) k) (i := 0) hb (by rw [add_block, add_block]) (add_spot _ (add_spot _ rfl))
    (by rw [add_off, add_off, List.length_append, List.length_append, List.length_take, List.length_take]; simp only [Nat.add_zero]; omega) (by rw [List.length_take, List.length_drop]; omega) hf
  refine ⟨h', s1, .inr ⟨b, t, pre, es.take (x.toNat * sz) ++ (cs.take k ++ ds ++ cs.drop (k + ds.length)) ++ es.drop (x.toNat * sz + sz), rest, rfl, ?_, ?_, ?_, ?_, h7, h8⟩, ?_⟩
  · have : pre ++ (es.take (x.toNat * sz) ++ (cs.take k ++ ds ++ cs.drop (k + ds.length)) ++ es.drop (x.toNat * sz + sz)) ++ rest = (pre ++ es.take (x.toNat * sz) ++ cs.take k) ++ ds ++ (cs.drop (k + ds.length) ++ (es.drop (x.toNat * sz + sz) ++ rest)) := by simp only [List.append_assoc]
    rw [this]; exact b1
  · exact h4.set hy (T.len _ _ _ hy) hlt
  · rwa [List.length_set]
  · rwa [List.length_set]
  · refine ⟨.refl _, fun i o1' k1 k2 => ?_, by rw [o1.1]; exact Nat.le_refl _, fun i hi hw => ?_, fun i _ hl => .inl hl⟩
    · rw [o1.2 i (fun e => h8 (e ▸ ⟨o1', k1, k2⟩))]; exact s i o1' k1 k2
    · refine o1.2 i fun e => hw ⟨?_, _, rfl, e.symm⟩
      omega
theorem OS.stA (o : OS W h0 sz E h m A l c) (T : Tell sz E) (s : Sub m h) (g : gi l x = some y) (ha : A = some a) (hc : cellsH h (Addr.add a (Int.toNat x * sz)) 0 sz = some cs) {ds : List Value} {y' : α} (hy : E m y' ds) (hf : ∀ v ∈ ds, Flat v) :
    ∃ h', stH h (Addr.add a (Int.toNat x * sz)) ds 0 = some h' ∧ OS W h0 sz E h' m A (l.set (Int.toNat x) y') c ∧ St (fp A c) h m h' m := by
  have hlen : cs.length = sz := cellsH_length hc
  have hd := T.len _ _ _ hy
  refine o.stP T s g ha hc (ds := ds) (y' := y') 0 (by omega) ?_ hf
  rw [List.take_zero, List.nil_append, List.drop_eq_nil_of_le (by omega), List.append_nil]; exact hy
theorem cap_in {hi : Int} (h1 : hi ≤ (l.length : Int)) (h2 : l.length ≤ c) : hi ≤ ((c : Nat) : Int) := by omega
theorem Rd.sl {lo hi : Int} {mx : Nat} (r : Rd sz E m A l) (h1 : 0 ≤ lo) (h2 : lo ≤ hi) (h3 : hi ≤ (l.length : Int)) (h4 : hi.toNat ≤ mx) : Rd sz E m (sliceA A (Int.toNat lo) mx sz) (sl l lo hi) := by
  intro i hi'
  rw [← sl_len h1 h2 h3] at hi'
  obtain ⟨a, cs, e1, e2, e3⟩ := r (lo.toNat + i) (by omega)
  refine ⟨a.add (lo.toNat * sz), cs, ?_, ?_, ?_⟩
  · unfold sliceA; rw [if_neg (by omega), e1]; rfl
  · rw [add_add, ← Nat.add_mul]; exact e2
  · simpa [Hw.sl] using e3
theorem sl_cap {lo hi : Int} {mx : Nat} (h1 : 0 ≤ lo) (h2 : lo ≤ hi) (h3 : hi ≤ (l.length : Int)) (h4 : hi.toNat ≤ mx) : (sl l lo hi).length ≤ mx - Int.toNat lo := by rw [← sl_len h1 h2 h3]; omega
theorem zc_len {z : Array Value} {n : Nat} : (zcells z n).toList.length = n * z.size := by rw [Array.length_toList, zcells_size]
def Src (sz : Nat) (E : Heap → α → List Value → Prop) (h m : Heap) (x : Value) (xs : List α) : Prop := ∃ es, srcCells sz x h = some (xs.length, es) ∧ CsE sz E m xs es
theorem Rd.srcE (r : Rd sz E m A l) (T : Tell sz E) (s : Sub m h) (hn : n = l.length) : Src sz E h m (.slice A n c) l := by
  subst hn
  cases A with
  | none =>
    have : l = [] := by
      cases l with
      | nil => rfl
      | cons x l => obtain ⟨a, _, h1, _⟩ := r 0 (by simp); cases h1
    subst this
    exact ⟨[], rfl, rfl⟩
  | some a =>
    obtain ⟨es, h1, h2⟩ := Rd.cse T r
    exact ⟨es, by simp only [srcCells, s.cells _ _ h1, Option.map_some], h2⟩
theorem OS.srcE {c' : Nat} (o : OS W h0 sz E h m A l c) (hn : n = l.length) : Src sz E h m (.slice A n c') l := by
  subst hn
  rcases o with ⟨rfl, rfl⟩ | ⟨b, t, pre, cs, rest, rfl, k1, k2, k3, k4, k5⟩
  · refine ⟨[], ?_, rfl⟩
    cases A with
    | none => rfl
    | some a => simp [srcCells, cellsH]
  · refine ⟨cs, ?_, k2⟩
    have hl := k2.len
    have := k1.cells (a := ⟨b, pre.length, none⟩) rfl rfl (l.length * sz) 0 (by simp [hl])
    simp only [srcCells, this, Nat.add_zero]
    rw [List.append_assoc, List.drop_left, List.take_append_of_le_length (by omega), List.take_of_length_le (by omega)]; rfl
def ap (B : Nat) (l xs : List α) : Option (List α) := if (l.length + xs.length) * B ≤ 140737488355328 then some (l ++ xs) else none
theorem ap_e {B : Nat} {l xs l' : List α} (g : ap B l xs = some l') : (l.length + xs.length) * B ≤ 140737488355328 ∧ l ++ xs = l' := by
  unfold ap at g
  obtain ⟨h, k⟩ := guard_e g
  exact ⟨h, Option.some.inj k⟩
def sls (l : List α) (lo hi : Int) : Option (List α) := if 0 ≤ lo ∧ lo ≤ hi ∧ hi ≤ (l.length : Int) then some (sl l lo hi) else none
theorem sls_e {lo hi : Int} {l' : List α} (g : sls l lo hi = some l') : 0 ≤ lo ∧ lo ≤ hi ∧ hi ≤ (l.length : Int) ∧ Int.toNat hi - Int.toNat lo = l'.length ∧ l' = Hw.sl l lo hi := by
  unfold sls at g
  obtain ⟨h, k⟩ := guard_e g
  cases k
  exact ⟨h.1, h.2.1, h.2.2, sl_len h.1 h.2.1 h.2.2, rfl⟩
theorem Rd.sls {lo hi : Int} {mx : Nat} {l' : List α} (r : Rd sz E m A l) (g : sls l lo hi = some l') (h4 : hi.toNat ≤ mx) : Rd sz E m (sliceA A (Int.toNat lo) mx sz) l' := by
  obtain ⟨h1, h2, h3, _, rfl⟩ := sls_e g
  exact r.sl h1 h2 h3 h4
theorem le_mx {hi : Int} (h1 : hi ≤ (l.length : Int)) (h2 : l.length ≤ c) : hi.toNat ≤ c := by omega
theorem sls_cap {lo hi : Int} {l' : List α} (g : Hw.sls l lo hi = some l') (h2 : l.length ≤ c) : l'.length ≤ c - Int.toNat lo := by
  obtain ⟨h1, h3, h4, h5, _⟩ := sls_e g
  omega
theorem OS.newNo {h' : Heap} (o : OS No h sz E h' m' A l c) : ∀ b, fp A c b → h.size ≤ b := fun b hb => (o.wr b hb).elim id (fun h => h.elim)
end
end Go.Hw

end
section
namespace Go.Hw
open Go
section
variable {α : Type} {sz : Nat} {E : Heap → α → List Value → Prop} {m m' h h' h0 m0 : Heap} {A : Option Addr} {l : List α} {c n k : Nat} {x : Int} {W : Nat → Prop}
theorem Rd.void (r : Rd sz E m none l) : l = [] := by
  cases l with
  | nil => rfl
  | cons x l => obtain ⟨a, _, h1, _⟩ := r 0 (by simp); cases h1
def gro (B : Nat) (x : Int) : Bool := decide (0 ≤ x ∧ x * (B : Int) ≤ 140737488355328)
theorem grow_nil {e : TypeId} {bytes : Nat} {z : Array Value} {R : Value → Heap → Prop} (S : St W h0 m0 h m) (hz : z.size = sz) (hb0 : 0 < bytes) (g : gro bytes x = true)
    (hk : ∀ A' c' h', OS W h0 sz E h' m A' ([] : List α) c' → Ext h h' → R (.slice A' 0 c') h') :
    splitB (decide ((IntKind.wrap .i64 (x - (IntKind.wrap .i64 (((0 : Nat) : Int) - ((0 : Nat) : Int))))) > (0 : Int))) (0 ≤ (0 : Int) ∧ (0 : Int) ≤ ((0 : Nat) : Int) ∧ ((0 : Nat) : Int) ≤ ((0 : Nat) : Int) ∧
      (AppZ e sz bytes z (sliceA none (Int.toNat (0 : Int)) 0 sz) (Int.toNat ((0 : Nat) : Int) - Int.toNat (0 : Int)) (0 - Int.toNat (0 : Int)) (Value.int .i64 (IntKind.wrap .i64 (x - (IntKind.wrap .i64 (((0 : Nat) : Int) - ((0 : Nat) : Int)))))) h fun v1 h2 =>
        ∃ A3, ∃ n3, ∃ c3, v1 = (Value.slice A3 n3 c3) ∧ 0 ≤ (0 : Int) ∧ (0 : Int) ≤ ((0 : Nat) : Int) ∧ ((0 : Nat) : Int) ≤ ((c3 : Nat) : Int) ∧ (R (Value.slice (sliceA A3 (Int.toNat (0 : Int)) c3 sz) (Int.toNat ((0 : Nat) : Int) - Int.toNat (0 : Int)) (c3 - Int.toNat (0 : Int))) h2)))
      (R (Value.slice none 0 0) h) := by
  unfold gro at g
  obtain ⟨g1, g2⟩ := of_decide_eq_true g
  obtain ⟨k, rfl⟩ : ∃ k : Nat, x = k := ⟨x.toNat, by omega⟩
  have gN : k * bytes ≤ 140737488355328 := by
    have : ((k * bytes : Nat) : Int) = (k : Int) * (bytes : Int) := by push_cast; rfl
    omega
  have hk1 : k ≤ 140737488355328 := Nat.le_trans (Nat.le_mul_of_pos_right _ hb0) gN
  have hw : (IntKind.wrap .i64 ((k : Int) - (IntKind.wrap .i64 (((0 : Nat) : Int) - ((0 : Nat) : Int))))) = (k : Int) := by
    rw [show (IntKind.wrap .i64 (((0 : Nat) : Int) - ((0 : Nat) : Int))) = 0 from rfl]
    rw [wrap_in (by omega) (by omega)]; omega
  rw [hw]
  have nul : ∀ (A' : Option Addr) (c' : Nat), sliceA A' (Int.toNat (0 : Int)) c' sz = A' := by
    intro A' c'
    unfold sliceA
    split
    · rfl
    · cases A' with
      | none => rfl
      | some a => simp [Addr.add]
  refine split_dec (fun hp => ⟨by decide, by decide, by decide, ?_⟩) (fun _ => hk _ _ _ (.inl ⟨rfl, rfl⟩) (.refl _))
  refine ⟨.i64, k, rfl, gN, by omega, .inr ⟨?_, ?_, hb0, ?_, [], ?_, fun c' hc' => ?_⟩⟩
  · show 0 < 0 + k; omega
  · show (0 + k) * bytes ≤ _; rw [Nat.zero_add]; exact gN
  · show 0 + k ≤ _; omega
  · show oldCells sz (sliceA none (Int.toNat (0 : Int)) 0 sz) 0 h = some []
    rw [nul]; rfl
  · refine ⟨_, _, _, rfl, by decide, by decide, Int.natCast_nonneg _, ?_⟩
    rw [nul]
    have e1 := Ext.push h (Obj.cells (([] : List Value).toArray ++ (if k * sz = 0 then [] else (zcells z k).toList).toArray ++ zcells z (c' - (0 + k))) e)
    refine hk _ c' _ (.inr ⟨h.size, e, [], [], (if k * sz = 0 then [] else (zcells z k).toList) ++ (zcells z (c' - (0 + k))).toList, rfl, ?_, rfl, Nat.zero_le _, ?_, .inl S.size, St.notLive S.s⟩) e1
    · have := Blk.new h (([] : List Value).toArray ++ (if k * sz = 0 then [] else (zcells z k).toList).toArray ++ zcells z (c' - (0 + k))) e
      simpa using this
    · rw [List.length_append, zc_len, hz]
      have hc2 : k ≤ c' := by
        have : (Int.toNat ((0 : Nat) : Int) - Int.toNat (0 : Int)) + k ≤ c' := hc'
        simpa using this
      have e2 : (if k * sz = 0 then ([] : List Value) else (zcells z k).toList).length = k * sz := by
        by_cases hz0 : k * sz = 0
        · rw [if_pos hz0, hz0]; rfl
        · rw [if_neg hz0, zc_len, hz]
      rw [e2, ← Nat.add_mul]
      exact Nat.mul_le_mul_right _ (by simp; omega)
end
section
variable {α : Type} {sz : Nat} {E : Heap → α → List Value → Prop} {m m' mL h h' h0 m0 : Heap} {A : Option Addr} {l : List α} {c b : Nat} {cs : List Value} {t : TypeId} {W W' : Nat → Prop}
theorem St.unlend (T : St W' h mL h' m') (s : Sub m h) (hd : ∀ b, W' b → ¬ Live m b) : St W' h m h' m where
  up := .refl _
  s b o h1 h2 := by
    rw [T.fr b (s.lt ⟨o, h1, h2⟩) (fun hw => hd b hw ⟨o, h1, h2⟩)]; exact s b o h1 h2
  size := T.size
  fr := T.fr
  lv b _ hl := .inl hl
end
section
variable {κ ν : Type} [DecidableEq κ] {h h' m m' h0 m0 : Heap} {b : Nat} {W W' : Nat → Prop} {kv : κ → Value} {es : List (κ × ν)} {vs : List (κ × Value)} {k : κ} {x zv : ν} {v z : Value} {P : Program} {t elem : TypeId} {sz : Nat}
def pget (es : List (κ × ν)) (k : κ) : Option ν := (es.find? fun x => decide (k = x.1)).map (·.2)
def pgd (es : List (κ × ν)) (k : κ) (z : ν) : ν := (pget es k).getD z
def pset : List (κ × ν) → κ → ν → List (κ × ν)
  | [], k, v => [(k, v)]
  | x :: es, k, v => if k = x.1 then (k, v) :: es else x :: pset es k v
theorem pget_nil (k : κ) : pget ([] : List (κ × ν)) k = none := rfl
theorem pget_cons (p : κ × ν) (es : List (κ × ν)) (k : κ) : pget (p :: es) k = if k = p.1 then some p.2 else pget es k := by
  unfold pget
  by_cases h : k = p.1
  · rw [if_pos h, List.find?_cons_of_pos (by simpa using h)]; rfl
  · rw [if_neg h, List.find?_cons_of_neg (by simpa using h)]
theorem pget_pset (es : List (κ × ν)) (k q : κ) (v : ν) : pget (pset es k v) q = if q = k then some v else pget es q := by
  induction es with
  | nil => unfold pset; rw [pget_cons, pget_nil]
  | cons x es ih =>
    unfold pset
    by_cases hk : k = x.1
    · rw [if_pos hk, pget_cons, pget_cons]
      by_cases h : q = k
      · rw [if_pos h, if_pos h]
      · rw [if_neg h, if_neg h, if_neg (by rw [← hk]; exact h)]
    · rw [if_neg hk, pget_cons, pget_cons, ih]
      by_cases h : q = x.1
      · rw [if_pos h, if_pos h, if_neg (fun hh => hk (by rw [← hh, h]))]
      · rw [if_neg h, if_neg h]
theorem mget_cons (p : κ × Value) (es : List (κ × Value)) (k : κ) : mget (p :: es) k = if k = p.1 then some p.2 else mget es k := pget_cons p es k
def eV1 (E : Heap → ν → List Value → Prop) (m : Heap) (x : ν) (v : Value) : Prop := ∃ cs : List Value, v = .agg cs.toArray ∧ E m x cs
def MonoV (EV : Heap → ν → Value → Prop) : Prop := ∀ m h x v, Sub m h → EV m x v → EV h x v
omit [DecidableEq κ] in
theorem monoV1 {E : Heap → ν → List Value → Prop} (T : Tell sz E) : MonoV (eV1 E) := fun _ _ _ _ s ⟨cs, h1, h2⟩ => ⟨cs, h1, T.mono _ _ _ _ s h2⟩
def MR (EV : ν → Value → Prop) : List (κ × ν) → List (κ × Value) → Prop
  | [], vs => vs = []
  | p :: es, vs => ∃ v vs', vs = (p.1, v) :: vs' ∧ EV p.2 v ∧ MR EV es vs'
variable {EV : Heap → ν → Value → Prop}
omit [DecidableEq κ] in
theorem MR.sub (M : MonoV EV) (s : Sub m h) : ∀ {es : List (κ × ν)} {vs : List (κ × Value)}, MR (EV m) es vs → MR (EV h) es vs := by
  intro es
  induction es with
  | nil => intro vs hh; exact hh
  | cons p es ih => rintro vs ⟨v, vs', rfl, h1, h2⟩; exact ⟨v, vs', rfl, M _ _ _ _ s h1, ih h2⟩
theorem MR.get {EV : ν → Value → Prop} (k : κ) : ∀ {es : List (κ × ν)} {vs : List (κ × Value)}, MR EV es vs → (mget vs k).isSome = (pget es k).isSome ∧ ∀ zv z, EV zv z → EV (pgd es k zv) ((mget vs k).getD z) := by
  intro es
  induction es with
  | nil => intro vs hh; rw [show vs = [] from hh]; exact ⟨rfl, fun _ _ h => h⟩
  | cons p es ih =>
    rintro vs ⟨v, vs', rfl, h1, h2⟩
    unfold pgd
    rw [mget_cons, pget_cons]
    by_cases hk : k = p.1
    · rw [if_pos hk, if_pos hk]; exact ⟨rfl, fun _ _ _ => h1⟩
    · rw [if_neg hk, if_neg hk]; exact ih h2
theorem MR.set {EV : ν → Value → Prop} (k : κ) (hx : EV x v) : ∀ {es : List (κ × ν)} {vs : List (κ × Value)}, MR EV es vs → MR EV (pset es k x) (mset vs k v) := by
  intro es
  induction es with
  | nil => intro vs hh; rw [show vs = [] from hh]; exact ⟨v, [], rfl, hx, rfl⟩
  | cons p es ih =>
    rintro vs ⟨w, vs', rfl, h1, h2⟩
    unfold pset mset
    by_cases hk : k = p.1
    · rw [if_pos hk, if_pos hk]; exact ⟨v, vs', rfl, hx, h2⟩
    · rw [if_neg hk, if_neg hk]; exact ⟨w, _, rfl, h1, ih h2⟩
def OM (W : Nat → Prop) (h0 : Heap) (EV : Heap → ν → Value → Prop) (kv : κ → Value) (h m : Heap) (b : Nat) (es : List (κ × ν)) : Prop :=
  ∃ vs, MapB kv h b vs ∧ MR (EV m) es vs ∧ (h0.size ≤ b ∨ W b) ∧ ¬ Live m b
theorem OM.look2 {K : Value → Heap → Prop} (o : OM W h0 EV kv h m b es) (ok : KeyOk P t kv elem) (k : κ) (hz : zeroOf P elem = some z) (hE : EV m zv z) (hk : ∀ v, EV m (pgd es k zv) v → K (.tuple #[v, .bool (pget es k).isSome]) h) : Gen P (Instr.lookup t (.map (some b)) (kv k) true) h K := by
  obtain ⟨vs, h1, h2, _⟩ := o
  refine gen_lookup2 ok h1 k hz ?_
  rw [(h2.get k).1]
  exact hk _ ((h2.get k).2 _ _ hE)
theorem OM.upd {K : Unit → Heap → Prop} (o : OM W h0 EV kv h m b es) (s : Sub m h) (ok : KeyOk P t kv elem) (k : κ) (he : EV m x v) (hk : ∀ h', OM W h0 EV kv h' m b (pset es k x) → St (fb b) h m h' m → K () h') : Hwp P (Instr.mapUpdate t (.map (some b)) (kv k) v) h K := by
  obtain ⟨vs, h1, h2, h3, h4⟩ := o
  exact gen_mapUpdate ok h1 k v fun h' b' o' => hk h' ⟨_, b', h2.set k he, h3, h4⟩ (.only s h4 o')
end
section
variable {H : Type} {enc : TypeId × Value → H} {P : Program} {W : World}
theorem tells_i64 {t : TypeId} (hu : P.underlying t = some (.int .i64)) : Tells enc P W t (eInt .i64) (fun x => -9223372036854775808 ≤ x ∧ x ≤ 9223372036854775807) := tells_map (tells_int hu) fun a _ h q => ⟨a, h, wf_i64 q⟩
theorem tells_strL {t : TypeId} (hu : P.underlying t = some .string) : Tells enc P W t eStr (fun s => s.size ≤ 140737488351232) := tells_map (tells_str hu) fun a _ h q => ⟨a, h, q⟩
theorem tells_sliceL {α : Type} {t e : TypeId} {sz B : Nat} {E : Heap → α → List Value → Prop} {Q : α → Prop} (hu : P.underlying t = some (.slice e)) (hc : P.cellsOf e = sz) (hB : P.bytesOf e = B) (he : Tells enc P W e E Q) :
    Tells enc P W t (eRow sz E) (fun l => l.length * B ≤ 140737488351232 ∧ ∀ a ∈ l, Q a) := tells_map (tells_slice hu hc hB he) fun a _ h q => ⟨a, h, q⟩
end
end Go.Hw

end
section
namespace Go.Hw
open Go
section
variable {α β : Type}
theorem ap_of {B : Nat} {l xs : List α} (h : (l.length + xs.length) * B ≤ 140737488355328) : ap B l xs = some (l ++ xs) := by unfold ap; rw [if_pos h]
theorem ap_nil {B : Nat} {xs : List α} (h : xs.length * B ≤ 140737488355328) : ap B ([] : List α) xs = some xs := by rw [ap_of (by simpa using h)]; rfl
theorem ap_one {B : Nat} {l : List α} {x : α} (h : (l.length + 1) * B ≤ 140737488355328) : ap B l [x] = some (l ++ [x]) := ap_of (by simpa using h)
theorem gi_some {l : List α} {k : Nat} {x : Int} {y : α} (hx : x = k) (h : l[k]? = some y) : gi l x = some y := by subst hx; rw [gi_nat]; exact h
theorem gi_at {l : List α} {k : Nat} (h : k < l.length) : gi l (k : Int) = some l[k] := by rw [gi_nat]; exact List.getElem?_eq_getElem h
theorem gi_cons {x : α} {l : List α} : gi (x :: l) 0 = some x := rfl
theorem sls_of {l : List α} {lo hi : Int} (h1 : 0 ≤ lo) (h2 : lo ≤ hi) (h3 : hi ≤ (l.length : Int)) : sls l lo hi = some (sl l lo hi) := by unfold sls; rw [if_pos ⟨h1, h2, h3⟩]
theorem sls_drop {l : List α} {k : Nat} {x : Int} (hx : x = k) (h : k ≤ l.length) : sls l x (l.length : Int) = some (l.drop k) := by subst hx; rw [sls_of (by omega) (by omega) (by omega), sl_lo]; rfl
theorem w_succ {k : Nat} (h : k < 9223372036854775807) : IntKind.wrap .i64 ((k : Int) + 1) = ((k + 1 : Nat) : Int) := by rw [wrap_in (by omega) (by omega)]; rfl
theorem index_val [DecidableEq α] {f : List α → α → Int → Int → Option Int}
    (hf : ∀ a v n i, f a v n i = if i < n then (Option.bind (gi a i) fun y => if v = y then some i else f a v n (IntKind.wrap .i64 (i + 1))) else some (-1))
    {l : List α} (v : α) (hl : l.length ≤ 4611686018427387904) : f l v (l.length : Int) 0 = some (idxOf (fun y => decide (v = y)) l) := by
  have key : ∀ (d k : Nat), k + d = l.length → (∀ x ∈ l.take k, decide (v = x) = false) → f l v (l.length : Int) (k : Int) = some (idxOf (fun y => decide (v = y)) l) := by
    intro d
    induction d with
    | zero =>
      intro k hk hn
      rw [hf, if_neg (by omega)]
      have : l.findIdx? (fun y => decide (v = y)) = none := by
        rw [List.findIdx?_eq_none_iff]
        rw [List.take_of_length_le (by omega)] at hn
        exact hn
      simp [idxOf, this]
    | succ d ih =>
      intro k hk hn
      have hlt : k < l.length := by omega
      rw [hf, if_pos (by omega), gi_at hlt, Option.bind_some]
      by_cases hq : v = l[k]
      · rw [if_pos hq]
        have : l.findIdx? (fun y => decide (v = y)) = some k := by
          rw [List.findIdx?_eq_some_iff_getElem]
          refine ⟨hlt, decide_eq_true hq, fun j hj => ?_⟩
          have := hn l[j] (by rw [List.mem_take_iff_getElem]; exact ⟨j, by omega, rfl⟩)
          rw [this]; simp
        simp [idxOf, this]
      · rw [if_neg hq, w_succ (by omega)]
        refine ih (k + 1) (by omega) (fun x hx => ?_)
        rw [List.take_succ_eq_append_getElem hlt] at hx
        rcases List.mem_append.1 hx with hx | hx
        · exact hn x hx
        · simp at hx; subst hx; exact decide_eq_false hq
  exact key l.length 0 (by omega) (fun x hx => by simp at hx)
theorem contains_any [DecidableEq α] {f : List α → α → Int → Int → Option Int} {g : List α → α → Option Int} {c : List α → α → Option Bool}
    (hf : ∀ a v n i, f a v n i = if i < n then (Option.bind (gi a i) fun y => if v = y then some i else f a v n (IntKind.wrap .i64 (i + 1))) else some (-1))
    (hg : ∀ a v, g a v = f a v (a.length : Int) 0) (hc : ∀ a v, c a v = Option.bind (g a v) fun y => some (decide (y ≥ 0)))
    {l : List α} (v : α) (hl : l.length ≤ 4611686018427387904) : c l v = some (l.any fun y => decide (v = y)) := by
  rw [hc, hg, index_val hf v hl, Option.bind_some, idxOf_ge]
theorem concat_val {B : Nat} (hB : 0 < B) {f1 : List α → List (List α) → Int → Int → Option (List α)} {f0 : List (List α) → Int → List (List α) → Int → Int → Option (List α)} {gr : Int → Option (List α)} {g : List (List α) → Option (List α)}
    (h1 : ∀ r a n i, f1 r a n i = if i < n then (Option.bind (gi a i) fun y => Option.bind (ap B r y) fun l => f1 l a n (IntKind.wrap .i64 (i + 1))) else some r)
    (h0 : ∀ a s b n i, f0 a s b n i = if i < n then (Option.bind (gi b i) fun y => if IntKind.wrap .i64 (s + ((y.length : Nat) : Int)) < 0 then none else f0 a (IntKind.wrap .i64 (s + ((y.length : Nat) : Int))) b n (IntKind.wrap .i64 (i + 1))) else Option.bind (gr s) fun y => f1 y a (a.length : Int) 0)
    (hgr : ∀ x, gr x = if gro B x = true then some [] else none) (hg : ∀ a, g a = f0 a 0 a (a.length : Int) 0)
    (ls : List (List α)) (hl : ls.length ≤ 4611686018427387904) (hs : ls.flatten.length * B ≤ 140737488355328) : g ls = some ls.flatten := by
  have hs' : ls.flatten.length ≤ 140737488355328 := Nat.le_trans (Nat.le_mul_of_pos_right _ hB) hs
  have pre : ∀ k, (ls.take k).flatten.length ≤ ls.flatten.length := by
    intro k
    conv => rhs; rw [← List.take_append_drop k ls, List.flatten_append, List.length_append]
    omega
  have key1 : ∀ (d k : Nat), k + d = ls.length → f1 (ls.take k).flatten ls (ls.length : Int) (k : Int) = some ls.flatten := by
    intro d
    induction d with
    | zero => intro k hk; rw [h1, if_neg (by omega), List.take_of_length_le (by omega)]
    | succ d ih =>
      intro k hk
      have hlt : k < ls.length := by omega
      have e : (ls.take (k + 1)).flatten = (ls.take k).flatten ++ ls[k] := by rw [List.take_succ_eq_append_getElem hlt, List.flatten_append]; simp
      have hle := pre (k + 1)
      rw [e, List.length_append] at hle
      rw [h1, if_pos (by omega), gi_at hlt, Option.bind_some, ap_of (Nat.le_trans (Nat.mul_le_mul_right _ hle) hs), Option.bind_some, w_succ (by omega), ← e]
      exact ih (k + 1) (by omega)
  have key0 : ∀ (d k : Nat), k + d = ls.length → f0 ls (((ls.take k).flatten.length : Nat) : Int) ls (ls.length : Int) (k : Int) = some ls.flatten := by
    intro d
    induction d with
    | zero =>
      intro k hk
      rw [h0, if_neg (by omega), List.take_of_length_le (by omega), hgr, if_pos, Option.bind_some]
      · exact key1 ls.length 0 (by omega)
      · unfold gro
        rw [decide_eq_true_eq]
        refine ⟨by omega, ?_⟩
        have : ((ls.flatten.length * B : Nat) : Int) = (ls.flatten.length : Int) * (B : Int) := by push_cast; rfl
        omega
    | succ d ih =>
      intro k hk
      have hlt : k < ls.length := by omega
      have e : (ls.take (k + 1)).flatten = (ls.take k).flatten ++ ls[k] := by rw [List.take_succ_eq_append_getElem hlt, List.flatten_append]; simp
      have hle := pre (k + 1)
      have e2 : (ls.take (k + 1)).flatten.length = (ls.take k).flatten.length + ls[k].length := by rw [e, List.length_append]
      have e3 : IntKind.wrap .i64 ((((ls.take k).flatten.length : Nat) : Int) + ((ls[k].length : Nat) : Int)) = (((ls.take (k + 1)).flatten.length : Nat) : Int) := by
        rw [wrap_in (by omega) (by omega), e2]; push_cast; rfl
      rw [h0, if_pos (by omega), gi_at hlt, Option.bind_some, e3, if_neg (by omega), w_succ (by omega)]
      exact ih (k + 1) (by omega)
  rw [hg]
  exact key0 ls.length 0 (by omega)
end
section
theorem forall_get {α : Type} {l : List α} {p : α → Prop} : (∀ i (hi : i < l.length), p l[i]) ↔ ∀ a ∈ l, p a :=
  ⟨fun h a ha => by obtain ⟨i, hi, rfl⟩ := List.getElem_of_mem ha; exact h i hi, fun h i hi => h _ (List.getElem_mem hi)⟩
open Go.RowKit
variable {H : Type} {enc : TypeId × Value → H} {P : Program} {W : World} {N : Nat}
def TellsU (N : Nat) {α : Type} (enc : TypeId × Value → H) (P : Program) (W : World) (t : TypeId) (E : Heap → α → List Value → Prop) (Q : α → Prop) : Prop :=
  ∀ (fuel : Nat), fuel < N → ∀ (cs : List Value) (x : DataW H × List MemPlace), DataW.trod enc P W 0 (fun _ => true) true fuel t cs = some x → (x.1.weights P t).all (· ≤ reachBytes) = true → ∃ a, E W.heap a cs ∧ Q a
theorem Tells.up {α : Type} {t : TypeId} {E : Heap → α → List Value → Prop} {Q : α → Prop} (he : Tells enc P W t E Q) : TellsU N enc P W t E Q := fun fuel _ => he fuel
theorem tells_rec {α : Type} {t : TypeId} {E : Heap → α → List Value → Prop} {Q : α → Prop} (step : ∀ N, TellsU N enc P W t E Q → TellsU (N + 1) enc P W t E Q) : Tells enc P W t E Q := by
  have key : ∀ N, TellsU N enc P W t E Q := by
    intro N
    induction N with
    | zero => intro fuel hf; omega
    | succ N ih => exact step N ih
  exact fun fuel => key (fuel + 1) fuel (Nat.lt_succ_self _)
theorem tellsU_map {α β : Type} {E : Heap → α → List Value → Prop} {F : Heap → β → List Value → Prop} {Q : α → Prop} {Q' : β → Prop} {t : TypeId} (he : TellsU N enc P W t E Q) (hm : ∀ a cs, E W.heap a cs → Q a → ∃ b, F W.heap b cs ∧ Q' b) : TellsU N enc P W t F Q' :=
  fun fuel hf cs x h hw => let ⟨a, ha, qa⟩ := he fuel hf cs x h hw; hm a cs ha qa
theorem tellsU_slice {α : Type} {t e : TypeId} {sz B : Nat} {E : Heap → α → List Value → Prop} {Q : α → Prop} (hu : P.underlying t = some (.slice e)) (hc : P.cellsOf e = sz) (hB : P.bytesOf e = B) (he : TellsU N enc P W e E Q) :
    TellsU N enc P W t (eRow sz E) (fun l => l.length * B ≤ 140737488351232 ∧ ∀ a ∈ l, Q a) := by
  intro fuel hf cs x h hw
  rcases DataW.trod_slice hu h with ⟨h1, h2⟩ | ⟨a, len, cap, elems, rest, n, hfn, h1, h2, _, hl, hm, hlen, hel, _, _⟩
  · exact ⟨[], ⟨none, 0, h1, Nat.le_refl _, Rd.nil⟩, by simp, fun a ha => by cases ha⟩
  · rw [h2] at hw
    simp only [DataW.weights, hu, List.all_cons, List.all_append, Bool.and_eq_true, decide_eq_true_eq] at hw
    obtain ⟨hw1, hw2, _⟩ := hw
    have hall := weightsAll_all _ hw2
    obtain ⟨l, h3, h4⟩ := list_choose (n := len) (p := fun i x => (∃ cs', cellsH W.heap (a.add (i * sz)) 0 sz = some cs' ∧ E W.heap x cs') ∧ Q x) (fun i hi => by
      have h5 := hel i hi
      have hlt : i < elems.length := by omega
      rw [List.getElem?_eq_getElem hlt] at h5
      obtain ⟨cs', h6, h7⟩ := Option.bind_eq_some_iff.1 h5
      obtain ⟨x, h8, h9⟩ := he _ (by omega) _ _ h7 (hall _ (List.mem_map.2 ⟨_, List.getElem_mem hlt, rfl⟩))
      rw [hc] at h6
      exact ⟨x, ⟨cs', cells_of h6, h8⟩, h9⟩)
    refine ⟨l, ⟨some a, cap, by rw [h1, h3], by omega, fun i hi => ?_⟩, ?_, fun x hx => ?_⟩
    · obtain ⟨⟨cs', h5, h6⟩, _⟩ := h4 i hi
      exact ⟨a, cs', rfl, h5, h6⟩
    · rw [hB] at hw1
      have h9 : l.length ≤ (List.map (·.1) elems).length + (List.map (·.1) rest).length := by simp; omega
      exact Nat.le_trans (Nat.mul_le_mul_right _ h9) hw1
    · obtain ⟨i, hi, rfl⟩ := List.getElem_of_mem hx
      exact (h4 i hi).2
def TellsFU (N : Nat) {α : Type} (enc : TypeId × Value → H) (P : Program) (W : World) (T o : Nat) (fs : List (TypeId × Nat)) (F : Heap → α → List Value → Prop) (Q : α → Prop) : Prop :=
  ∀ (n : Nat), n < N → ∀ (cs : List Value) (xs : List (DataW H × List MemPlace)), cs.length = T → xs.length = fs.length → (∀ (i : Nat) (f : TypeId × Nat), fs[i]? = some f → DataW.trod enc P W 0 (fun _ => true) true n f.1 ((cs.drop f.2).take (P.cellsOf f.1)) = xs[i]?) →
    (DataW.weightsEach P (fs.map (·.1)) (xs.map (·.1))).all (· ≤ reachBytes) = true → ∃ b, F W.heap b (cs.drop o) ∧ Q b
theorem tfU_nil {T : Nat} : TellsFU N enc P W T T [] eNil (fun _ => True) := fun n _ cs xs hl _ _ _ => ⟨(), by unfold eNil; rw [List.drop_eq_nil_of_le (by omega)], trivial⟩
theorem tfU_cons {α β : Type} {E : Heap → α → List Value → Prop} {F : Heap → β → List Value → Prop} {Q : α → Prop} {Q' : β → Prop} {T o s : Nat} {f : TypeId} {fs : List (TypeId × Nat)} (hs : P.cellsOf f = s)
    (he : TellsU N enc P W f E Q) (hf : TellsFU N enc P W T (o + s) fs F Q') : TellsFU N enc P W T o ((f, o) :: fs) (eCons E F) (fun x => Q x.1 ∧ Q' x.2) := by
  intro n hn cs xs hl hx hi hw
  cases xs with
  | nil => cases hx
  | cons x xs =>
    have h0 := hi 0 (f, o) rfl
    simp only [hs] at h0
    simp only [List.map_cons, DataW.weightsEach, List.all_append, Bool.and_eq_true] at hw
    obtain ⟨a, ha, qa⟩ := he n hn _ _ h0 hw.1
    obtain ⟨b, hb, qb⟩ := hf n hn cs xs hl (by simpa using hx) (fun i g hg => by simpa using hi (i + 1) g hg) hw.2
    exact ⟨(a, b), ⟨_, _, by rw [← List.drop_drop, List.take_append_drop], ha, hb⟩, qa, qb⟩
theorem tellsU_struct {α : Type} {F : Heap → α → List Value → Prop} {Q : α → Prop} {t : TypeId} {fs : List (TypeId × Nat)} {T : Nat} (hs : shapeOf P t = some fs) (hc : P.cellsOf t = T) (hf : TellsFU N enc P W T 0 fs F Q) : TellsU (N + 1) enc P W t F Q := by
  intro fuel hfl cs x h hw
  unfold shapeOf at hs
  split at hs
  · rename_i fa hu
    cases hs
    obtain ⟨xs, n, hn, rfl, hl, hlen, hi⟩ := DataW.trod_struct hu h
    simp only [DataW.weights, hu] at hw
    obtain ⟨b, hb, qb⟩ := hf n (by omega) cs xs (by rw [hl, hc]) (by simpa using hlen) (fun i f hif => by
      rw [List.getElem?_map, Option.map_eq_some_iff] at hif
      obtain ⟨g, hg, rfl⟩ := hif
      exact hi i g (by simpa using hg)) (by rw [List.map_map]; exact hw)
    exact ⟨b, by simpa using hb, qb⟩
  · cases hs
end
end Go.Hw

end
