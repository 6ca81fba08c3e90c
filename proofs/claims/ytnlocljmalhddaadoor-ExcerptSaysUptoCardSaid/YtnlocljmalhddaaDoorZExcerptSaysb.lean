/- Part 2: what the law ExcerptSays needs, put together out of texts of this session. -/
import Derived.ProofKit
import Derived.OpenShut
import Derived.ShutString
import Derived.ChangeOld
import Derived.Below
import Derived.SizedLaws
import Derived.ChangeArms
import Derived.Laws.StructEq
import Derived.Test.YtnlocljmalhddaaDoorZExcerptSaysa
section
namespace Go.Proofs.YtnlocljmalhddaaDoor.Fw
open Go Go.Hw Go.Proofs
set_option linter.unusedVariables false
def f5.T : Tab := { sh := tSh, tup := tTup, keep := [], plan := [] }
def f5.kp : Keep := []
theorem f5.good : goodCode Tryd.prog f5.T (rootOf Tryd.f5) = true := by kernel_rfl
set_option maxRecDepth 100000 in
def f5.runT (R : Value → Heap → Prop) (v0 : Value) (h : Heap) : Prop :=
  newH h (Obj.cells ((v0).cells) 29) fun h1_ => ∃ v2_, ldv false 1 h1_ (Addr.add (⟨Array.size h, 0, none⟩) 2) = some v2_ ∧ ∃ A3_, ∃ n3_, ∃ c3_, v2_ = (Value.slice A3_ n3_ c3_) ∧ ∃ v4_, ldv false 1 h1_ (Addr.add (⟨Array.size h, 0, none⟩) 3) = some v4_ ∧ ∃ A5_, ∃ n5_, ∃ c5_, v4_ = (Value.slice A5_ n5_ c5_) ∧ ∃ v6_, ldv false 1 h1_ (Addr.add (⟨Array.size h, 0, none⟩) 4) = some v6_ ∧ ∃ A7_, ∃ n7_, ∃ c7_, v6_ = (Value.slice A7_ n7_ c7_) ∧ ∃ v8_, ldv false 1 h1_ (Addr.add (⟨Array.size h, 0, none⟩) 5) = some v8_ ∧ ∃ A9_, ∃ n9_, ∃ c9_, v8_ = (Value.slice A9_ n9_ c9_) ∧ ∃ v10_, ldv false 1 h1_ (Addr.add (⟨Array.size h, 0, none⟩) 6) = some v10_ ∧ ∃ A11_, ∃ n11_, ∃ c11_, v10_ = (Value.slice A11_ n11_ c11_) ∧ ∃ v12_, ldv false 1 h1_ (Addr.add (⟨Array.size h, 0, none⟩) 7) = some v12_ ∧ ∃ A13_, ∃ n13_, ∃ c13_, v12_ = (Value.slice A13_ n13_ c13_) ∧ R (Value.int .i64 (IntKind.wrap .i64 ((IntKind.wrap .i64 ((IntKind.wrap .i64 ((IntKind.wrap .i64 ((IntKind.wrap .i64 (((n3_ : Nat) : Int) + ((n5_ : Nat) : Int))) + ((n7_ : Nat) : Int))) + ((n9_ : Nat) : Int))) + ((n11_ : Nat) : Int))) + ((n13_ : Nat) : Int)))) h1_
set_option maxRecDepth 100000 in
theorem f5.run {R : Value → Heap → Prop} {v0 : Value} {h : Heap} (H : f5.runT R v0 h) : Run Tryd.prog 5 #[v0] h R :=
  run_of mixed Tryd.func5 (by kernel_rfl) (by kernel_rfl) f5.good (Eq.mpr (show (Fwd Tryd.prog f5.T f5.kp Tryd.f5 R [] (mkFr (argL [v0] 0)) h) = (f5.runT R v0 h) by kernel_rfl) H)
def f27.T : Tab := { sh := tSh, tup := tTup, keep := [], plan := [(5, (.take 0 (.take 1 (.take 2 (.take 3 (.take 4 (.take 5 (.eff false 6 (.take 7 .done)))))))))] }
def f27.kp : Keep := []
theorem f27.good : goodCode Tryd.prog f27.T (rootOf Tryd.f27) = true := by kernel_rfl
set_option maxRecDepth 100000 in
def f27.runT (R : Value → Heap → Prop) (A0 : Option Addr) (n0 : Nat) (c0 : Nat) (x1 : Int) (x2 : Int) (h : Heap) : Prop :=
  0 ≤ x1 ∧ x1 ≤ x2 ∧ x2 ≤ ((n0 : Nat) : Int) ∧ ((n0 : Nat) : Int) ≤ ((c0 : Nat) : Int) ∧ (splitB (x1 == x2) (R (Value.slice A0 n0 c0) h) (0 ≤ (0 : Int) ∧ (0 : Int) ≤ x1 ∧ x1 ≤ ((c0 : Nat) : Int) ∧ (0 ≤ x2 ∧ x2 ≤ ((n0 : Nat) : Int) ∧ ((n0 : Nat) : Int) ≤ ((c0 : Nat) : Int) ∧ (AppW 36 3 32 #[(Value.string (ByteArray.mk #[])), (Value.int .i64 (0 : Int)), (Value.int .i64 (0 : Int))] (sliceA A0 (Int.toNat (0 : Int)) c0 3) (Int.toNat x1 - Int.toNat (0 : Int)) (c0 - Int.toNat (0 : Int)) (Value.slice (sliceA A0 (Int.toNat x2) c0 3) (Int.toNat ((n0 : Nat) : Int) - Int.toNat x2) (c0 - Int.toNat x2)) h fun v1_ h2_ => ∃ A3_, ∃ n3_, ∃ c3_, v1_ = (Value.slice A3_ n3_ c3_) ∧ 0 ≤ ((n3_ : Nat) : Int) ∧ ((n3_ : Nat) : Int) ≤ ((n0 : Nat) : Int) ∧ ((n0 : Nat) : Int) ≤ ((c3_ : Nat) : Int) ∧ (Gen Tryd.prog (Builtin.clear_ #[22] 0 #[(Value.slice (sliceA A3_ (Int.toNat ((n3_ : Nat) : Int)) c3_ 3) (Int.toNat ((n0 : Nat) : Int) - Int.toNat ((n3_ : Nat) : Int)) (c3_ - Int.toNat ((n3_ : Nat) : Int)))]) h2_ fun v4_ h5_ => v4_ = (Value.tuple #[]) ∧ R (Value.slice A3_ n3_ c3_) h5_)))))
set_option maxRecDepth 100000 in
theorem f27.run {R : Value → Heap → Prop} {A0 : Option Addr} {n0 : Nat} {c0 : Nat} {x1 : Int} {x2 : Int} {h : Heap} (H : f27.runT R A0 n0 c0 x1 x2 h) : Run Tryd.prog 27 #[(Value.slice A0 n0 c0), (Value.int .i64 x1), (Value.int .i64 x2)] h R :=
  run_of mixed Tryd.func27 (by kernel_rfl) (by kernel_rfl) f27.good (Eq.mpr (show (Fwd Tryd.prog f27.T f27.kp Tryd.f27 R [] (mkFr (argL [(Value.slice A0 n0 c0), (Value.int .i64 x1), (Value.int .i64 x2)] 0)) h) = (f27.runT R A0 n0 c0 x1 x2 h) by kernel_rfl) H)
def f28.T : Tab := { sh := tSh, tup := tTup, keep := [], plan := [] }
def f28.kp : Keep := []
theorem f28.good : goodCode Tryd.prog f28.T (rootOf Tryd.f28) = true := by kernel_rfl
set_option maxRecDepth 100000 in
def f28.runT (R : Value → Heap → Prop) (A0 : Option Addr) (n0 : Nat) (c0 : Nat) (h : Heap) : Prop :=
  splitB (Option.isNone A0) (R (Value.slice none 0 0) h) (newH h (Obj.cells #[] 36) fun h1_ => AppW 36 3 32 #[(Value.string (ByteArray.mk #[])), (Value.int .i64 (0 : Int)), (Value.int .i64 (0 : Int))] (some ⟨Array.size h, 0, none⟩) 0 0 (Value.slice A0 n0 c0) h1_ fun v2_ h3_ => ∃ A4_, ∃ n4_, ∃ c4_, v2_ = (Value.slice A4_ n4_ c4_) ∧ R (Value.slice A4_ n4_ c4_) h3_)
set_option maxRecDepth 100000 in
theorem f28.run {R : Value → Heap → Prop} {A0 : Option Addr} {n0 : Nat} {c0 : Nat} {h : Heap} (H : f28.runT R A0 n0 c0 h) : Run Tryd.prog 28 #[(Value.slice A0 n0 c0)] h R :=
  run_of mixed Tryd.func28 (by kernel_rfl) (by kernel_rfl) f28.good (Eq.mpr (show (Fwd Tryd.prog f28.T f28.kp Tryd.f28 R [] (mkFr (argL [(Value.slice A0 n0 c0)] 0)) h) = (f28.runT R A0 n0 c0 h) by kernel_rfl) H)
def f14.T : Tab := { sh := tSh, tup := tTup, keep := [], plan := [] }
def f14.kp : Keep := [([true, false, true], [0, 1, 13]), ([true, true], [0, 1])]
theorem f14.good : goodCode Tryd.prog f14.T (rootOf Tryd.f14) = true := by kernel_rfl
def f14.j1 (R : Value → Heap → Prop) (A0 : Option Addr) (n0 : Nat) (c0 : Nat) (x1 : Int) (b13 : Bool) (h : Heap) : Prop := Pt Tryd.prog Tryd.f14 R [true, false, true] (mkFr [(0, (Value.slice A0 n0 c0)), (1, (Value.int .i64 x1)), (13, (Value.bool b13))]) h
def f14.j0 (R : Value → Heap → Prop) (A0 : Option Addr) (n0 : Nat) (c0 : Nat) (x1 : Int) (h : Heap) : Prop := Pt Tryd.prog Tryd.f14 R [true, true] (mkFr [(0, (Value.slice A0 n0 c0)), (1, (Value.int .i64 x1))]) h
set_option maxRecDepth 100000 in
def f14.j1T (R : Value → Heap → Prop) (A0 : Option Addr) (n0 : Nat) (c0 : Nat) (x1 : Int) (b13 : Bool) (h : Heap) : Prop :=
  splitB b13 (Run Tryd.prog 28 #[(Value.slice A0 n0 c0)] h fun v1_ h2_ => ∃ A3_, ∃ n3_, ∃ c3_, v1_ = (Value.slice A3_ n3_ c3_) ∧ Run Tryd.prog 27 #[(Value.slice A3_ n3_ c3_), (Value.int .i64 x1), (Value.int .i64 (IntKind.wrap .i64 (x1 + (1 : Int))))] h2_ fun v4_ h5_ => ∃ A6_, ∃ n6_, ∃ c6_, v4_ = (Value.slice A6_ n6_ c6_) ∧ R (Value.tuple #[(Value.slice A6_ n6_ c6_), (Value.int .i64 (-1 : Int))]) h5_) (f14.j0 R A0 n0 c0 x1 h)
set_option maxRecDepth 100000 in
theorem f14.j1_in {R : Value → Heap → Prop} {A0 : Option Addr} {n0 : Nat} {c0 : Nat} {x1 : Int} {b13 : Bool} {h : Heap} (H : f14.j1T R A0 n0 c0 x1 b13 h) : f14.j1 R A0 n0 c0 x1 b13 h :=
  pt_intro mixed f14.good (Eq.mpr (show (Fwd Tryd.prog f14.T f14.kp Tryd.f14 R [true, false, true] (mkFr [(0, (Value.slice A0 n0 c0)), (1, (Value.int .i64 x1)), (13, (Value.bool b13))]) h) = (f14.j1T R A0 n0 c0 x1 b13 h) by kernel_rfl) H)
set_option maxRecDepth 100000 in
def f14.j0T (R : Value → Heap → Prop) (A0 : Option Addr) (n0 : Nat) (c0 : Nat) (x1 : Int) (h : Heap) : Prop :=
  splitB (decide (x1 < (0 : Int))) (R (Value.tuple #[(Value.slice A0 n0 c0), (Value.int .i64 x1)]) h) (R (Value.tuple #[(Value.slice A0 n0 c0), (Value.int .i64 (IntKind.wrap .i64 (x1 - ((n0 : Nat) : Int))))]) h)
set_option maxRecDepth 100000 in
theorem f14.j0_in {R : Value → Heap → Prop} {A0 : Option Addr} {n0 : Nat} {c0 : Nat} {x1 : Int} {h : Heap} (H : f14.j0T R A0 n0 c0 x1 h) : f14.j0 R A0 n0 c0 x1 h :=
  pt_intro mixed f14.good (Eq.mpr (show (Fwd Tryd.prog f14.T f14.kp Tryd.f14 R [true, true] (mkFr [(0, (Value.slice A0 n0 c0)), (1, (Value.int .i64 x1))]) h) = (f14.j0T R A0 n0 c0 x1 h) by kernel_rfl) H)
set_option maxRecDepth 100000 in
def f14.runT (R : Value → Heap → Prop) (A0 : Option Addr) (n0 : Nat) (c0 : Nat) (x1 : Int) (h : Heap) : Prop :=
  splitB (decide (x1 ≥ (0 : Int))) (f14.j1 R A0 n0 c0 x1 (decide (x1 < ((n0 : Nat) : Int))) h) (f14.j1 R A0 n0 c0 x1 false h)
set_option maxRecDepth 100000 in
theorem f14.run {R : Value → Heap → Prop} {A0 : Option Addr} {n0 : Nat} {c0 : Nat} {x1 : Int} {h : Heap} (H : f14.runT R A0 n0 c0 x1 h) : Run Tryd.prog 14 #[(Value.slice A0 n0 c0), (Value.int .i64 x1)] h R :=
  run_of mixed Tryd.func14 (by kernel_rfl) (by kernel_rfl) f14.good (Eq.mpr (show (Fwd Tryd.prog f14.T f14.kp Tryd.f14 R [] (mkFr (argL [(Value.slice A0 n0 c0), (Value.int .i64 x1)] 0)) h) = (f14.runT R A0 n0 c0 x1 h) by kernel_rfl) H)
def f29.T : Tab := { sh := tSh, tup := tTup, keep := [], plan := [(5, (.take 0 (.take 1 (.take 2 (.take 3 (.take 4 (.take 5 (.eff false 6 (.take 7 .done)))))))))] }
def f29.kp : Keep := []
theorem f29.good : goodCode Tryd.prog f29.T (rootOf Tryd.f29) = true := by kernel_rfl
set_option maxRecDepth 100000 in
def f29.runT (R : Value → Heap → Prop) (A0 : Option Addr) (n0 : Nat) (c0 : Nat) (x1 : Int) (x2 : Int) (h : Heap) : Prop :=
  0 ≤ x1 ∧ x1 ≤ x2 ∧ x2 ≤ ((n0 : Nat) : Int) ∧ ((n0 : Nat) : Int) ≤ ((c0 : Nat) : Int) ∧ (splitB (x1 == x2) (R (Value.slice A0 n0 c0) h) (0 ≤ (0 : Int) ∧ (0 : Int) ≤ x1 ∧ x1 ≤ ((c0 : Nat) : Int) ∧ (0 ≤ x2 ∧ x2 ≤ ((n0 : Nat) : Int) ∧ ((n0 : Nat) : Int) ≤ ((c0 : Nat) : Int) ∧ (AppW 45 3 64 #[(Value.string (ByteArray.mk #[])), (Value.slice none 0 0), (Value.slice none 0 0)] (sliceA A0 (Int.toNat (0 : Int)) c0 3) (Int.toNat x1 - Int.toNat (0 : Int)) (c0 - Int.toNat (0 : Int)) (Value.slice (sliceA A0 (Int.toNat x2) c0 3) (Int.toNat ((n0 : Nat) : Int) - Int.toNat x2) (c0 - Int.toNat x2)) h fun v1_ h2_ => ∃ A3_, ∃ n3_, ∃ c3_, v1_ = (Value.slice A3_ n3_ c3_) ∧ 0 ≤ ((n3_ : Nat) : Int) ∧ ((n3_ : Nat) : Int) ≤ ((n0 : Nat) : Int) ∧ ((n0 : Nat) : Int) ≤ ((c3_ : Nat) : Int) ∧ (Gen Tryd.prog (Builtin.clear_ #[23] 0 #[(Value.slice (sliceA A3_ (Int.toNat ((n3_ : Nat) : Int)) c3_ 3) (Int.toNat ((n0 : Nat) : Int) - Int.toNat ((n3_ : Nat) : Int)) (c3_ - Int.toNat ((n3_ : Nat) : Int)))]) h2_ fun v4_ h5_ => v4_ = (Value.tuple #[]) ∧ R (Value.slice A3_ n3_ c3_) h5_)))))
set_option maxRecDepth 100000 in
theorem f29.run {R : Value → Heap → Prop} {A0 : Option Addr} {n0 : Nat} {c0 : Nat} {x1 : Int} {x2 : Int} {h : Heap} (H : f29.runT R A0 n0 c0 x1 x2 h) : Run Tryd.prog 29 #[(Value.slice A0 n0 c0), (Value.int .i64 x1), (Value.int .i64 x2)] h R :=
  run_of mixed Tryd.func29 (by kernel_rfl) (by kernel_rfl) f29.good (Eq.mpr (show (Fwd Tryd.prog f29.T f29.kp Tryd.f29 R [] (mkFr (argL [(Value.slice A0 n0 c0), (Value.int .i64 x1), (Value.int .i64 x2)] 0)) h) = (f29.runT R A0 n0 c0 x1 x2 h) by kernel_rfl) H)
def f30.T : Tab := { sh := tSh, tup := tTup, keep := [], plan := [] }
def f30.kp : Keep := []
theorem f30.good : goodCode Tryd.prog f30.T (rootOf Tryd.f30) = true := by kernel_rfl
set_option maxRecDepth 100000 in
def f30.runT (R : Value → Heap → Prop) (A0 : Option Addr) (n0 : Nat) (c0 : Nat) (h : Heap) : Prop :=
  splitB (Option.isNone A0) (R (Value.slice none 0 0) h) (newH h (Obj.cells #[] 45) fun h1_ => AppW 45 3 64 #[(Value.string (ByteArray.mk #[])), (Value.slice none 0 0), (Value.slice none 0 0)] (some ⟨Array.size h, 0, none⟩) 0 0 (Value.slice A0 n0 c0) h1_ fun v2_ h3_ => ∃ A4_, ∃ n4_, ∃ c4_, v2_ = (Value.slice A4_ n4_ c4_) ∧ R (Value.slice A4_ n4_ c4_) h3_)
set_option maxRecDepth 100000 in
theorem f30.run {R : Value → Heap → Prop} {A0 : Option Addr} {n0 : Nat} {c0 : Nat} {h : Heap} (H : f30.runT R A0 n0 c0 h) : Run Tryd.prog 30 #[(Value.slice A0 n0 c0)] h R :=
  run_of mixed Tryd.func30 (by kernel_rfl) (by kernel_rfl) f30.good (Eq.mpr (show (Fwd Tryd.prog f30.T f30.kp Tryd.f30 R [] (mkFr (argL [(Value.slice A0 n0 c0)] 0)) h) = (f30.runT R A0 n0 c0 h) by kernel_rfl) H)
def f15.T : Tab := { sh := tSh, tup := tTup, keep := [], plan := [] }
def f15.kp : Keep := [([true, false, true], [0, 1, 13]), ([true, true], [0, 1])]
theorem f15.good : goodCode Tryd.prog f15.T (rootOf Tryd.f15) = true := by kernel_rfl
def f15.j1 (R : Value → Heap → Prop) (A0 : Option Addr) (n0 : Nat) (c0 : Nat) (x1 : Int) (b13 : Bool) (h : Heap) : Prop := Pt Tryd.prog Tryd.f15 R [true, false, true] (mkFr [(0, (Value.slice A0 n0 c0)), (1, (Value.int .i64 x1)), (13, (Value.bool b13))]) h
def f15.j0 (R : Value → Heap → Prop) (A0 : Option Addr) (n0 : Nat) (c0 : Nat) (x1 : Int) (h : Heap) : Prop := Pt Tryd.prog Tryd.f15 R [true, true] (mkFr [(0, (Value.slice A0 n0 c0)), (1, (Value.int .i64 x1))]) h
set_option maxRecDepth 100000 in
def f15.j1T (R : Value → Heap → Prop) (A0 : Option Addr) (n0 : Nat) (c0 : Nat) (x1 : Int) (b13 : Bool) (h : Heap) : Prop :=
  splitB b13 (Run Tryd.prog 30 #[(Value.slice A0 n0 c0)] h fun v1_ h2_ => ∃ A3_, ∃ n3_, ∃ c3_, v1_ = (Value.slice A3_ n3_ c3_) ∧ Run Tryd.prog 29 #[(Value.slice A3_ n3_ c3_), (Value.int .i64 x1), (Value.int .i64 (IntKind.wrap .i64 (x1 + (1 : Int))))] h2_ fun v4_ h5_ => ∃ A6_, ∃ n6_, ∃ c6_, v4_ = (Value.slice A6_ n6_ c6_) ∧ R (Value.tuple #[(Value.slice A6_ n6_ c6_), (Value.int .i64 (-1 : Int))]) h5_) (f15.j0 R A0 n0 c0 x1 h)
set_option maxRecDepth 100000 in
theorem f15.j1_in {R : Value → Heap → Prop} {A0 : Option Addr} {n0 : Nat} {c0 : Nat} {x1 : Int} {b13 : Bool} {h : Heap} (H : f15.j1T R A0 n0 c0 x1 b13 h) : f15.j1 R A0 n0 c0 x1 b13 h :=
  pt_intro mixed f15.good (Eq.mpr (show (Fwd Tryd.prog f15.T f15.kp Tryd.f15 R [true, false, true] (mkFr [(0, (Value.slice A0 n0 c0)), (1, (Value.int .i64 x1)), (13, (Value.bool b13))]) h) = (f15.j1T R A0 n0 c0 x1 b13 h) by kernel_rfl) H)
set_option maxRecDepth 100000 in
def f15.j0T (R : Value → Heap → Prop) (A0 : Option Addr) (n0 : Nat) (c0 : Nat) (x1 : Int) (h : Heap) : Prop :=
  splitB (decide (x1 < (0 : Int))) (R (Value.tuple #[(Value.slice A0 n0 c0), (Value.int .i64 x1)]) h) (R (Value.tuple #[(Value.slice A0 n0 c0), (Value.int .i64 (IntKind.wrap .i64 (x1 - ((n0 : Nat) : Int))))]) h)
set_option maxRecDepth 100000 in
theorem f15.j0_in {R : Value → Heap → Prop} {A0 : Option Addr} {n0 : Nat} {c0 : Nat} {x1 : Int} {h : Heap} (H : f15.j0T R A0 n0 c0 x1 h) : f15.j0 R A0 n0 c0 x1 h :=
  pt_intro mixed f15.good (Eq.mpr (show (Fwd Tryd.prog f15.T f15.kp Tryd.f15 R [true, true] (mkFr [(0, (Value.slice A0 n0 c0)), (1, (Value.int .i64 x1))]) h) = (f15.j0T R A0 n0 c0 x1 h) by kernel_rfl) H)
set_option maxRecDepth 100000 in
def f15.runT (R : Value → Heap → Prop) (A0 : Option Addr) (n0 : Nat) (c0 : Nat) (x1 : Int) (h : Heap) : Prop :=
  splitB (decide (x1 ≥ (0 : Int))) (f15.j1 R A0 n0 c0 x1 (decide (x1 < ((n0 : Nat) : Int))) h) (f15.j1 R A0 n0 c0 x1 false h)
set_option maxRecDepth 100000 in
theorem f15.run {R : Value → Heap → Prop} {A0 : Option Addr} {n0 : Nat} {c0 : Nat} {x1 : Int} {h : Heap} (H : f15.runT R A0 n0 c0 x1 h) : Run Tryd.prog 15 #[(Value.slice A0 n0 c0), (Value.int .i64 x1)] h R :=
  run_of mixed Tryd.func15 (by kernel_rfl) (by kernel_rfl) f15.good (Eq.mpr (show (Fwd Tryd.prog f15.T f15.kp Tryd.f15 R [] (mkFr (argL [(Value.slice A0 n0 c0), (Value.int .i64 x1)] 0)) h) = (f15.runT R A0 n0 c0 x1 h) by kernel_rfl) H)
def f31.T : Tab := { sh := tSh, tup := tTup, keep := [], plan := [(5, (.take 0 (.take 1 (.take 2 (.take 3 (.take 4 (.take 5 (.eff false 6 (.take 7 .done)))))))))] }
def f31.kp : Keep := []
theorem f31.good : goodCode Tryd.prog f31.T (rootOf Tryd.f31) = true := by kernel_rfl
set_option maxRecDepth 100000 in
def f31.runT (R : Value → Heap → Prop) (A0 : Option Addr) (n0 : Nat) (c0 : Nat) (x1 : Int) (x2 : Int) (h : Heap) : Prop :=
  0 ≤ x1 ∧ x1 ≤ x2 ∧ x2 ≤ ((n0 : Nat) : Int) ∧ ((n0 : Nat) : Int) ≤ ((c0 : Nat) : Int) ∧ (splitB (x1 == x2) (R (Value.slice A0 n0 c0) h) (0 ≤ (0 : Int) ∧ (0 : Int) ≤ x1 ∧ x1 ≤ ((c0 : Nat) : Int) ∧ (0 ≤ x2 ∧ x2 ≤ ((n0 : Nat) : Int) ∧ ((n0 : Nat) : Int) ≤ ((c0 : Nat) : Int) ∧ (AppW 48 2 40 #[(Value.string (ByteArray.mk #[])), (Value.slice none 0 0)] (sliceA A0 (Int.toNat (0 : Int)) c0 2) (Int.toNat x1 - Int.toNat (0 : Int)) (c0 - Int.toNat (0 : Int)) (Value.slice (sliceA A0 (Int.toNat x2) c0 2) (Int.toNat ((n0 : Nat) : Int) - Int.toNat x2) (c0 - Int.toNat x2)) h fun v1_ h2_ => ∃ A3_, ∃ n3_, ∃ c3_, v1_ = (Value.slice A3_ n3_ c3_) ∧ 0 ≤ ((n3_ : Nat) : Int) ∧ ((n3_ : Nat) : Int) ≤ ((n0 : Nat) : Int) ∧ ((n0 : Nat) : Int) ≤ ((c3_ : Nat) : Int) ∧ (Gen Tryd.prog (Builtin.clear_ #[24] 0 #[(Value.slice (sliceA A3_ (Int.toNat ((n3_ : Nat) : Int)) c3_ 2) (Int.toNat ((n0 : Nat) : Int) - Int.toNat ((n3_ : Nat) : Int)) (c3_ - Int.toNat ((n3_ : Nat) : Int)))]) h2_ fun v4_ h5_ => v4_ = (Value.tuple #[]) ∧ R (Value.slice A3_ n3_ c3_) h5_)))))
set_option maxRecDepth 100000 in
theorem f31.run {R : Value → Heap → Prop} {A0 : Option Addr} {n0 : Nat} {c0 : Nat} {x1 : Int} {x2 : Int} {h : Heap} (H : f31.runT R A0 n0 c0 x1 x2 h) : Run Tryd.prog 31 #[(Value.slice A0 n0 c0), (Value.int .i64 x1), (Value.int .i64 x2)] h R :=
  run_of mixed Tryd.func31 (by kernel_rfl) (by kernel_rfl) f31.good (Eq.mpr (show (Fwd Tryd.prog f31.T f31.kp Tryd.f31 R [] (mkFr (argL [(Value.slice A0 n0 c0), (Value.int .i64 x1), (Value.int .i64 x2)] 0)) h) = (f31.runT R A0 n0 c0 x1 x2 h) by kernel_rfl) H)
def f32.T : Tab := { sh := tSh, tup := tTup, keep := [], plan := [] }
def f32.kp : Keep := []
theorem f32.good : goodCode Tryd.prog f32.T (rootOf Tryd.f32) = true := by kernel_rfl
set_option maxRecDepth 100000 in
def f32.runT (R : Value → Heap → Prop) (A0 : Option Addr) (n0 : Nat) (c0 : Nat) (h : Heap) : Prop :=
  splitB (Option.isNone A0) (R (Value.slice none 0 0) h) (newH h (Obj.cells #[] 48) fun h1_ => AppW 48 2 40 #[(Value.string (ByteArray.mk #[])), (Value.slice none 0 0)] (some ⟨Array.size h, 0, none⟩) 0 0 (Value.slice A0 n0 c0) h1_ fun v2_ h3_ => ∃ A4_, ∃ n4_, ∃ c4_, v2_ = (Value.slice A4_ n4_ c4_) ∧ R (Value.slice A4_ n4_ c4_) h3_)
set_option maxRecDepth 100000 in
theorem f32.run {R : Value → Heap → Prop} {A0 : Option Addr} {n0 : Nat} {c0 : Nat} {h : Heap} (H : f32.runT R A0 n0 c0 h) : Run Tryd.prog 32 #[(Value.slice A0 n0 c0)] h R :=
  run_of mixed Tryd.func32 (by kernel_rfl) (by kernel_rfl) f32.good (Eq.mpr (show (Fwd Tryd.prog f32.T f32.kp Tryd.f32 R [] (mkFr (argL [(Value.slice A0 n0 c0)] 0)) h) = (f32.runT R A0 n0 c0 h) by kernel_rfl) H)
def f16.T : Tab := { sh := tSh, tup := tTup, keep := [], plan := [] }
def f16.kp : Keep := [([true, false, true], [0, 1, 13]), ([true, true], [0, 1])]
theorem f16.good : goodCode Tryd.prog f16.T (rootOf Tryd.f16) = true := by kernel_rfl
def f16.j1 (R : Value → Heap → Prop) (A0 : Option Addr) (n0 : Nat) (c0 : Nat) (x1 : Int) (b13 : Bool) (h : Heap) : Prop := Pt Tryd.prog Tryd.f16 R [true, false, true] (mkFr [(0, (Value.slice A0 n0 c0)), (1, (Value.int .i64 x1)), (13, (Value.bool b13))]) h
def f16.j0 (R : Value → Heap → Prop) (A0 : Option Addr) (n0 : Nat) (c0 : Nat) (x1 : Int) (h : Heap) : Prop := Pt Tryd.prog Tryd.f16 R [true, true] (mkFr [(0, (Value.slice A0 n0 c0)), (1, (Value.int .i64 x1))]) h
set_option maxRecDepth 100000 in
def f16.j1T (R : Value → Heap → Prop) (A0 : Option Addr) (n0 : Nat) (c0 : Nat) (x1 : Int) (b13 : Bool) (h : Heap) : Prop :=
  splitB b13 (Run Tryd.prog 32 #[(Value.slice A0 n0 c0)] h fun v1_ h2_ => ∃ A3_, ∃ n3_, ∃ c3_, v1_ = (Value.slice A3_ n3_ c3_) ∧ Run Tryd.prog 31 #[(Value.slice A3_ n3_ c3_), (Value.int .i64 x1), (Value.int .i64 (IntKind.wrap .i64 (x1 + (1 : Int))))] h2_ fun v4_ h5_ => ∃ A6_, ∃ n6_, ∃ c6_, v4_ = (Value.slice A6_ n6_ c6_) ∧ R (Value.tuple #[(Value.slice A6_ n6_ c6_), (Value.int .i64 (-1 : Int))]) h5_) (f16.j0 R A0 n0 c0 x1 h)
set_option maxRecDepth 100000 in
theorem f16.j1_in {R : Value → Heap → Prop} {A0 : Option Addr} {n0 : Nat} {c0 : Nat} {x1 : Int} {b13 : Bool} {h : Heap} (H : f16.j1T R A0 n0 c0 x1 b13 h) : f16.j1 R A0 n0 c0 x1 b13 h :=
  pt_intro mixed f16.good (Eq.mpr (show (Fwd Tryd.prog f16.T f16.kp Tryd.f16 R [true, false, true] (mkFr [(0, (Value.slice A0 n0 c0)), (1, (Value.int .i64 x1)), (13, (Value.bool b13))]) h) = (f16.j1T R A0 n0 c0 x1 b13 h) by kernel_rfl) H)
set_option maxRecDepth 100000 in
def f16.j0T (R : Value → Heap → Prop) (A0 : Option Addr) (n0 : Nat) (c0 : Nat) (x1 : Int) (h : Heap) : Prop :=
  splitB (decide (x1 < (0 : Int))) (R (Value.tuple #[(Value.slice A0 n0 c0), (Value.int .i64 x1)]) h) (R (Value.tuple #[(Value.slice A0 n0 c0), (Value.int .i64 (IntKind.wrap .i64 (x1 - ((n0 : Nat) : Int))))]) h)
set_option maxRecDepth 100000 in
theorem f16.j0_in {R : Value → Heap → Prop} {A0 : Option Addr} {n0 : Nat} {c0 : Nat} {x1 : Int} {h : Heap} (H : f16.j0T R A0 n0 c0 x1 h) : f16.j0 R A0 n0 c0 x1 h :=
  pt_intro mixed f16.good (Eq.mpr (show (Fwd Tryd.prog f16.T f16.kp Tryd.f16 R [true, true] (mkFr [(0, (Value.slice A0 n0 c0)), (1, (Value.int .i64 x1))]) h) = (f16.j0T R A0 n0 c0 x1 h) by kernel_rfl) H)
set_option maxRecDepth 100000 in
def f16.runT (R : Value → Heap → Prop) (A0 : Option Addr) (n0 : Nat) (c0 : Nat) (x1 : Int) (h : Heap) : Prop :=
  splitB (decide (x1 ≥ (0 : Int))) (f16.j1 R A0 n0 c0 x1 (decide (x1 < ((n0 : Nat) : Int))) h) (f16.j1 R A0 n0 c0 x1 false h)
set_option maxRecDepth 100000 in
theorem f16.run {R : Value → Heap → Prop} {A0 : Option Addr} {n0 : Nat} {c0 : Nat} {x1 : Int} {h : Heap} (H : f16.runT R A0 n0 c0 x1 h) : Run Tryd.prog 16 #[(Value.slice A0 n0 c0), (Value.int .i64 x1)] h R :=
  run_of mixed Tryd.func16 (by kernel_rfl) (by kernel_rfl) f16.good (Eq.mpr (show (Fwd Tryd.prog f16.T f16.kp Tryd.f16 R [] (mkFr (argL [(Value.slice A0 n0 c0), (Value.int .i64 x1)] 0)) h) = (f16.runT R A0 n0 c0 x1 h) by kernel_rfl) H)
def f33.T : Tab := { sh := tSh, tup := tTup, keep := [], plan := [(5, (.take 0 (.take 1 (.take 2 (.take 3 (.take 4 (.take 5 (.eff false 6 (.take 7 .done)))))))))] }
def f33.kp : Keep := []
theorem f33.good : goodCode Tryd.prog f33.T (rootOf Tryd.f33) = true := by kernel_rfl
set_option maxRecDepth 100000 in
def f33.runT (R : Value → Heap → Prop) (A0 : Option Addr) (n0 : Nat) (c0 : Nat) (x1 : Int) (x2 : Int) (h : Heap) : Prop :=
  0 ≤ x1 ∧ x1 ≤ x2 ∧ x2 ≤ ((n0 : Nat) : Int) ∧ ((n0 : Nat) : Int) ≤ ((c0 : Nat) : Int) ∧ (splitB (x1 == x2) (R (Value.slice A0 n0 c0) h) (0 ≤ (0 : Int) ∧ (0 : Int) ≤ x1 ∧ x1 ≤ ((c0 : Nat) : Int) ∧ (0 ≤ x2 ∧ x2 ≤ ((n0 : Nat) : Int) ∧ ((n0 : Nat) : Int) ≤ ((c0 : Nat) : Int) ∧ (AppW 51 3 56 #[(Value.string (ByteArray.mk #[])), (Value.string (ByteArray.mk #[])), (Value.slice none 0 0)] (sliceA A0 (Int.toNat (0 : Int)) c0 3) (Int.toNat x1 - Int.toNat (0 : Int)) (c0 - Int.toNat (0 : Int)) (Value.slice (sliceA A0 (Int.toNat x2) c0 3) (Int.toNat ((n0 : Nat) : Int) - Int.toNat x2) (c0 - Int.toNat x2)) h fun v1_ h2_ => ∃ A3_, ∃ n3_, ∃ c3_, v1_ = (Value.slice A3_ n3_ c3_) ∧ 0 ≤ ((n3_ : Nat) : Int) ∧ ((n3_ : Nat) : Int) ≤ ((n0 : Nat) : Int) ∧ ((n0 : Nat) : Int) ≤ ((c3_ : Nat) : Int) ∧ (Gen Tryd.prog (Builtin.clear_ #[25] 0 #[(Value.slice (sliceA A3_ (Int.toNat ((n3_ : Nat) : Int)) c3_ 3) (Int.toNat ((n0 : Nat) : Int) - Int.toNat ((n3_ : Nat) : Int)) (c3_ - Int.toNat ((n3_ : Nat) : Int)))]) h2_ fun v4_ h5_ => v4_ = (Value.tuple #[]) ∧ R (Value.slice A3_ n3_ c3_) h5_)))))
set_option maxRecDepth 100000 in
theorem f33.run {R : Value → Heap → Prop} {A0 : Option Addr} {n0 : Nat} {c0 : Nat} {x1 : Int} {x2 : Int} {h : Heap} (H : f33.runT R A0 n0 c0 x1 x2 h) : Run Tryd.prog 33 #[(Value.slice A0 n0 c0), (Value.int .i64 x1), (Value.int .i64 x2)] h R :=
  run_of mixed Tryd.func33 (by kernel_rfl) (by kernel_rfl) f33.good (Eq.mpr (show (Fwd Tryd.prog f33.T f33.kp Tryd.f33 R [] (mkFr (argL [(Value.slice A0 n0 c0), (Value.int .i64 x1), (Value.int .i64 x2)] 0)) h) = (f33.runT R A0 n0 c0 x1 x2 h) by kernel_rfl) H)
def f34.T : Tab := { sh := tSh, tup := tTup, keep := [], plan := [] }
def f34.kp : Keep := []
theorem f34.good : goodCode Tryd.prog f34.T (rootOf Tryd.f34) = true := by kernel_rfl
set_option maxRecDepth 100000 in
def f34.runT (R : Value → Heap → Prop) (A0 : Option Addr) (n0 : Nat) (c0 : Nat) (h : Heap) : Prop :=
  splitB (Option.isNone A0) (R (Value.slice none 0 0) h) (newH h (Obj.cells #[] 51) fun h1_ => AppW 51 3 56 #[(Value.string (ByteArray.mk #[])), (Value.string (ByteArray.mk #[])), (Value.slice none 0 0)] (some ⟨Array.size h, 0, none⟩) 0 0 (Value.slice A0 n0 c0) h1_ fun v2_ h3_ => ∃ A4_, ∃ n4_, ∃ c4_, v2_ = (Value.slice A4_ n4_ c4_) ∧ R (Value.slice A4_ n4_ c4_) h3_)
set_option maxRecDepth 100000 in
theorem f34.run {R : Value → Heap → Prop} {A0 : Option Addr} {n0 : Nat} {c0 : Nat} {h : Heap} (H : f34.runT R A0 n0 c0 h) : Run Tryd.prog 34 #[(Value.slice A0 n0 c0)] h R :=
  run_of mixed Tryd.func34 (by kernel_rfl) (by kernel_rfl) f34.good (Eq.mpr (show (Fwd Tryd.prog f34.T f34.kp Tryd.f34 R [] (mkFr (argL [(Value.slice A0 n0 c0)] 0)) h) = (f34.runT R A0 n0 c0 h) by kernel_rfl) H)
def f17.T : Tab := { sh := tSh, tup := tTup, keep := [], plan := [] }
def f17.kp : Keep := [([true, false, true], [0, 1, 13]), ([true, true], [0, 1])]
theorem f17.good : goodCode Tryd.prog f17.T (rootOf Tryd.f17) = true := by kernel_rfl
def f17.j1 (R : Value → Heap → Prop) (A0 : Option Addr) (n0 : Nat) (c0 : Nat) (x1 : Int) (b13 : Bool) (h : Heap) : Prop := Pt Tryd.prog Tryd.f17 R [true, false, true] (mkFr [(0, (Value.slice A0 n0 c0)), (1, (Value.int .i64 x1)), (13, (Value.bool b13))]) h
def f17.j0 (R : Value → Heap → Prop) (A0 : Option Addr) (n0 : Nat) (c0 : Nat) (x1 : Int) (h : Heap) : Prop := Pt Tryd.prog Tryd.f17 R [true, true] (mkFr [(0, (Value.slice A0 n0 c0)), (1, (Value.int .i64 x1))]) h
set_option maxRecDepth 100000 in
def f17.j1T (R : Value → Heap → Prop) (A0 : Option Addr) (n0 : Nat) (c0 : Nat) (x1 : Int) (b13 : Bool) (h : Heap) : Prop :=
  splitB b13 (Run Tryd.prog 34 #[(Value.slice A0 n0 c0)] h fun v1_ h2_ => ∃ A3_, ∃ n3_, ∃ c3_, v1_ = (Value.slice A3_ n3_ c3_) ∧ Run Tryd.prog 33 #[(Value.slice A3_ n3_ c3_), (Value.int .i64 x1), (Value.int .i64 (IntKind.wrap .i64 (x1 + (1 : Int))))] h2_ fun v4_ h5_ => ∃ A6_, ∃ n6_, ∃ c6_, v4_ = (Value.slice A6_ n6_ c6_) ∧ R (Value.tuple #[(Value.slice A6_ n6_ c6_), (Value.int .i64 (-1 : Int))]) h5_) (f17.j0 R A0 n0 c0 x1 h)
set_option maxRecDepth 100000 in
theorem f17.j1_in {R : Value → Heap → Prop} {A0 : Option Addr} {n0 : Nat} {c0 : Nat} {x1 : Int} {b13 : Bool} {h : Heap} (H : f17.j1T R A0 n0 c0 x1 b13 h) : f17.j1 R A0 n0 c0 x1 b13 h :=
  pt_intro mixed f17.good (Eq.mpr (show (Fwd Tryd.prog f17.T f17.kp Tryd.f17 R [true, false, true] (mkFr [(0, (Value.slice A0 n0 c0)), (1, (Value.int .i64 x1)), (13, (Value.bool b13))]) h) = (f17.j1T R A0 n0 c0 x1 b13 h) by kernel_rfl) H)
set_option maxRecDepth 100000 in
def f17.j0T (R : Value → Heap → Prop) (A0 : Option Addr) (n0 : Nat) (c0 : Nat) (x1 : Int) (h : Heap) : Prop :=
  splitB (decide (x1 < (0 : Int))) (R (Value.tuple #[(Value.slice A0 n0 c0), (Value.int .i64 x1)]) h) (R (Value.tuple #[(Value.slice A0 n0 c0), (Value.int .i64 (IntKind.wrap .i64 (x1 - ((n0 : Nat) : Int))))]) h)
set_option maxRecDepth 100000 in
theorem f17.j0_in {R : Value → Heap → Prop} {A0 : Option Addr} {n0 : Nat} {c0 : Nat} {x1 : Int} {h : Heap} (H : f17.j0T R A0 n0 c0 x1 h) : f17.j0 R A0 n0 c0 x1 h :=
  pt_intro mixed f17.good (Eq.mpr (show (Fwd Tryd.prog f17.T f17.kp Tryd.f17 R [true, true] (mkFr [(0, (Value.slice A0 n0 c0)), (1, (Value.int .i64 x1))]) h) = (f17.j0T R A0 n0 c0 x1 h) by kernel_rfl) H)
set_option maxRecDepth 100000 in
def f17.runT (R : Value → Heap → Prop) (A0 : Option Addr) (n0 : Nat) (c0 : Nat) (x1 : Int) (h : Heap) : Prop :=
  splitB (decide (x1 ≥ (0 : Int))) (f17.j1 R A0 n0 c0 x1 (decide (x1 < ((n0 : Nat) : Int))) h) (f17.j1 R A0 n0 c0 x1 false h)
set_option maxRecDepth 100000 in
theorem f17.run {R : Value → Heap → Prop} {A0 : Option Addr} {n0 : Nat} {c0 : Nat} {x1 : Int} {h : Heap} (H : f17.runT R A0 n0 c0 x1 h) : Run Tryd.prog 17 #[(Value.slice A0 n0 c0), (Value.int .i64 x1)] h R :=
  run_of mixed Tryd.func17 (by kernel_rfl) (by kernel_rfl) f17.good (Eq.mpr (show (Fwd Tryd.prog f17.T f17.kp Tryd.f17 R [] (mkFr (argL [(Value.slice A0 n0 c0), (Value.int .i64 x1)] 0)) h) = (f17.runT R A0 n0 c0 x1 h) by kernel_rfl) H)
def f35.T : Tab := { sh := tSh, tup := tTup, keep := [], plan := [(5, (.take 0 (.take 1 (.take 2 (.take 3 (.take 4 (.take 5 (.eff false 6 (.take 7 .done)))))))))] }
def f35.kp : Keep := []
theorem f35.good : goodCode Tryd.prog f35.T (rootOf Tryd.f35) = true := by kernel_rfl
set_option maxRecDepth 100000 in
def f35.runT (R : Value → Heap → Prop) (A0 : Option Addr) (n0 : Nat) (c0 : Nat) (x1 : Int) (x2 : Int) (h : Heap) : Prop :=
  0 ≤ x1 ∧ x1 ≤ x2 ∧ x2 ≤ ((n0 : Nat) : Int) ∧ ((n0 : Nat) : Int) ≤ ((c0 : Nat) : Int) ∧ (splitB (x1 == x2) (R (Value.slice A0 n0 c0) h) (0 ≤ (0 : Int) ∧ (0 : Int) ≤ x1 ∧ x1 ≤ ((c0 : Nat) : Int) ∧ (0 ≤ x2 ∧ x2 ≤ ((n0 : Nat) : Int) ∧ ((n0 : Nat) : Int) ≤ ((c0 : Nat) : Int) ∧ (AppW 61 15 272 #[(Value.string (ByteArray.mk #[])), (Value.slice none 0 0), (Value.slice none 0 0), (Value.slice none 0 0), (Value.int .i64 (0 : Int)), (Value.string (ByteArray.mk #[])), (Value.slice none 0 0), (Value.int .i64 (0 : Int)), (Value.int .i64 (0 : Int)), (Value.string (ByteArray.mk #[])), (Value.slice none 0 0), (Value.slice none 0 0), (Value.slice none 0 0), (Value.slice none 0 0), (Value.int .i64 (0 : Int))] (sliceA A0 (Int.toNat (0 : Int)) c0 15) (Int.toNat x1 - Int.toNat (0 : Int)) (c0 - Int.toNat (0 : Int)) (Value.slice (sliceA A0 (Int.toNat x2) c0 15) (Int.toNat ((n0 : Nat) : Int) - Int.toNat x2) (c0 - Int.toNat x2)) h fun v1_ h2_ => ∃ A3_, ∃ n3_, ∃ c3_, v1_ = (Value.slice A3_ n3_ c3_) ∧ 0 ≤ ((n3_ : Nat) : Int) ∧ ((n3_ : Nat) : Int) ≤ ((n0 : Nat) : Int) ∧ ((n0 : Nat) : Int) ≤ ((c3_ : Nat) : Int) ∧ (Gen Tryd.prog (Builtin.clear_ #[26] 0 #[(Value.slice (sliceA A3_ (Int.toNat ((n3_ : Nat) : Int)) c3_ 15) (Int.toNat ((n0 : Nat) : Int) - Int.toNat ((n3_ : Nat) : Int)) (c3_ - Int.toNat ((n3_ : Nat) : Int)))]) h2_ fun v4_ h5_ => v4_ = (Value.tuple #[]) ∧ R (Value.slice A3_ n3_ c3_) h5_)))))
set_option maxRecDepth 100000 in
theorem f35.run {R : Value → Heap → Prop} {A0 : Option Addr} {n0 : Nat} {c0 : Nat} {x1 : Int} {x2 : Int} {h : Heap} (H : f35.runT R A0 n0 c0 x1 x2 h) : Run Tryd.prog 35 #[(Value.slice A0 n0 c0), (Value.int .i64 x1), (Value.int .i64 x2)] h R :=
  run_of mixed Tryd.func35 (by kernel_rfl) (by kernel_rfl) f35.good (Eq.mpr (show (Fwd Tryd.prog f35.T f35.kp Tryd.f35 R [] (mkFr (argL [(Value.slice A0 n0 c0), (Value.int .i64 x1), (Value.int .i64 x2)] 0)) h) = (f35.runT R A0 n0 c0 x1 x2 h) by kernel_rfl) H)
def f36.T : Tab := { sh := tSh, tup := tTup, keep := [], plan := [] }
def f36.kp : Keep := []
theorem f36.good : goodCode Tryd.prog f36.T (rootOf Tryd.f36) = true := by kernel_rfl
set_option maxRecDepth 100000 in
def f36.runT (R : Value → Heap → Prop) (A0 : Option Addr) (n0 : Nat) (c0 : Nat) (h : Heap) : Prop :=
  splitB (Option.isNone A0) (R (Value.slice none 0 0) h) (newH h (Obj.cells #[] 61) fun h1_ => AppW 61 15 272 #[(Value.string (ByteArray.mk #[])), (Value.slice none 0 0), (Value.slice none 0 0), (Value.slice none 0 0), (Value.int .i64 (0 : Int)), (Value.string (ByteArray.mk #[])), (Value.slice none 0 0), (Value.int .i64 (0 : Int)), (Value.int .i64 (0 : Int)), (Value.string (ByteArray.mk #[])), (Value.slice none 0 0), (Value.slice none 0 0), (Value.slice none 0 0), (Value.slice none 0 0), (Value.int .i64 (0 : Int))] (some ⟨Array.size h, 0, none⟩) 0 0 (Value.slice A0 n0 c0) h1_ fun v2_ h3_ => ∃ A4_, ∃ n4_, ∃ c4_, v2_ = (Value.slice A4_ n4_ c4_) ∧ R (Value.slice A4_ n4_ c4_) h3_)
set_option maxRecDepth 100000 in
theorem f36.run {R : Value → Heap → Prop} {A0 : Option Addr} {n0 : Nat} {c0 : Nat} {h : Heap} (H : f36.runT R A0 n0 c0 h) : Run Tryd.prog 36 #[(Value.slice A0 n0 c0)] h R :=
  run_of mixed Tryd.func36 (by kernel_rfl) (by kernel_rfl) f36.good (Eq.mpr (show (Fwd Tryd.prog f36.T f36.kp Tryd.f36 R [] (mkFr (argL [(Value.slice A0 n0 c0)] 0)) h) = (f36.runT R A0 n0 c0 h) by kernel_rfl) H)
def f18.T : Tab := { sh := tSh, tup := tTup, keep := [], plan := [] }
def f18.kp : Keep := [([true, false, true], [0, 1, 13]), ([true, true], [0, 1])]
theorem f18.good : goodCode Tryd.prog f18.T (rootOf Tryd.f18) = true := by kernel_rfl
def f18.j1 (R : Value → Heap → Prop) (A0 : Option Addr) (n0 : Nat) (c0 : Nat) (x1 : Int) (b13 : Bool) (h : Heap) : Prop := Pt Tryd.prog Tryd.f18 R [true, false, true] (mkFr [(0, (Value.slice A0 n0 c0)), (1, (Value.int .i64 x1)), (13, (Value.bool b13))]) h
def f18.j0 (R : Value → Heap → Prop) (A0 : Option Addr) (n0 : Nat) (c0 : Nat) (x1 : Int) (h : Heap) : Prop := Pt Tryd.prog Tryd.f18 R [true, true] (mkFr [(0, (Value.slice A0 n0 c0)), (1, (Value.int .i64 x1))]) h
set_option maxRecDepth 100000 in
def f18.j1T (R : Value → Heap → Prop) (A0 : Option Addr) (n0 : Nat) (c0 : Nat) (x1 : Int) (b13 : Bool) (h : Heap) : Prop :=
  splitB b13 (Run Tryd.prog 36 #[(Value.slice A0 n0 c0)] h fun v1_ h2_ => ∃ A3_, ∃ n3_, ∃ c3_, v1_ = (Value.slice A3_ n3_ c3_) ∧ Run Tryd.prog 35 #[(Value.slice A3_ n3_ c3_), (Value.int .i64 x1), (Value.int .i64 (IntKind.wrap .i64 (x1 + (1 : Int))))] h2_ fun v4_ h5_ => ∃ A6_, ∃ n6_, ∃ c6_, v4_ = (Value.slice A6_ n6_ c6_) ∧ R (Value.tuple #[(Value.slice A6_ n6_ c6_), (Value.int .i64 (-1 : Int))]) h5_) (f18.j0 R A0 n0 c0 x1 h)
set_option maxRecDepth 100000 in
theorem f18.j1_in {R : Value → Heap → Prop} {A0 : Option Addr} {n0 : Nat} {c0 : Nat} {x1 : Int} {b13 : Bool} {h : Heap} (H : f18.j1T R A0 n0 c0 x1 b13 h) : f18.j1 R A0 n0 c0 x1 b13 h :=
  pt_intro mixed f18.good (Eq.mpr (show (Fwd Tryd.prog f18.T f18.kp Tryd.f18 R [true, false, true] (mkFr [(0, (Value.slice A0 n0 c0)), (1, (Value.int .i64 x1)), (13, (Value.bool b13))]) h) = (f18.j1T R A0 n0 c0 x1 b13 h) by kernel_rfl) H)
set_option maxRecDepth 100000 in
def f18.j0T (R : Value → Heap → Prop) (A0 : Option Addr) (n0 : Nat) (c0 : Nat) (x1 : Int) (h : Heap) : Prop :=
  splitB (decide (x1 < (0 : Int))) (R (Value.tuple #[(Value.slice A0 n0 c0), (Value.int .i64 x1)]) h) (R (Value.tuple #[(Value.slice A0 n0 c0), (Value.int .i64 (IntKind.wrap .i64 (x1 - ((n0 : Nat) : Int))))]) h)
set_option maxRecDepth 100000 in
theorem f18.j0_in {R : Value → Heap → Prop} {A0 : Option Addr} {n0 : Nat} {c0 : Nat} {x1 : Int} {h : Heap} (H : f18.j0T R A0 n0 c0 x1 h) : f18.j0 R A0 n0 c0 x1 h :=
  pt_intro mixed f18.good (Eq.mpr (show (Fwd Tryd.prog f18.T f18.kp Tryd.f18 R [true, true] (mkFr [(0, (Value.slice A0 n0 c0)), (1, (Value.int .i64 x1))]) h) = (f18.j0T R A0 n0 c0 x1 h) by kernel_rfl) H)
set_option maxRecDepth 100000 in
def f18.runT (R : Value → Heap → Prop) (A0 : Option Addr) (n0 : Nat) (c0 : Nat) (x1 : Int) (h : Heap) : Prop :=
  splitB (decide (x1 ≥ (0 : Int))) (f18.j1 R A0 n0 c0 x1 (decide (x1 < ((n0 : Nat) : Int))) h) (f18.j1 R A0 n0 c0 x1 false h)
set_option maxRecDepth 100000 in
theorem f18.run {R : Value → Heap → Prop} {A0 : Option Addr} {n0 : Nat} {c0 : Nat} {x1 : Int} {h : Heap} (H : f18.runT R A0 n0 c0 x1 h) : Run Tryd.prog 18 #[(Value.slice A0 n0 c0), (Value.int .i64 x1)] h R :=
  run_of mixed Tryd.func18 (by kernel_rfl) (by kernel_rfl) f18.good (Eq.mpr (show (Fwd Tryd.prog f18.T f18.kp Tryd.f18 R [] (mkFr (argL [(Value.slice A0 n0 c0), (Value.int .i64 x1)] 0)) h) = (f18.runT R A0 n0 c0 x1 h) by kernel_rfl) H)
def f37.T : Tab := { sh := tSh, tup := tTup, keep := [], plan := [(5, (.take 0 (.take 1 (.take 2 (.take 3 (.take 4 (.take 5 (.eff false 6 (.take 7 .done)))))))))] }
def f37.kp : Keep := []
theorem f37.good : goodCode Tryd.prog f37.T (rootOf Tryd.f37) = true := by kernel_rfl
set_option maxRecDepth 100000 in
def f37.runT (R : Value → Heap → Prop) (A0 : Option Addr) (n0 : Nat) (c0 : Nat) (x1 : Int) (x2 : Int) (h : Heap) : Prop :=
  0 ≤ x1 ∧ x1 ≤ x2 ∧ x2 ≤ ((n0 : Nat) : Int) ∧ ((n0 : Nat) : Int) ≤ ((c0 : Nat) : Int) ∧ (splitB (x1 == x2) (R (Value.slice A0 n0 c0) h) (0 ≤ (0 : Int) ∧ (0 : Int) ≤ x1 ∧ x1 ≤ ((c0 : Nat) : Int) ∧ (0 ≤ x2 ∧ x2 ≤ ((n0 : Nat) : Int) ∧ ((n0 : Nat) : Int) ≤ ((c0 : Nat) : Int) ∧ (AppW 64 14 248 #[(Value.string (ByteArray.mk #[])), (Value.slice none 0 0), (Value.slice none 0 0), (Value.int .i64 (0 : Int)), (Value.string (ByteArray.mk #[])), (Value.slice none 0 0), (Value.int .i64 (0 : Int)), (Value.int .i64 (0 : Int)), (Value.string (ByteArray.mk #[])), (Value.slice none 0 0), (Value.slice none 0 0), (Value.slice none 0 0), (Value.slice none 0 0), (Value.int .i64 (0 : Int))] (sliceA A0 (Int.toNat (0 : Int)) c0 14) (Int.toNat x1 - Int.toNat (0 : Int)) (c0 - Int.toNat (0 : Int)) (Value.slice (sliceA A0 (Int.toNat x2) c0 14) (Int.toNat ((n0 : Nat) : Int) - Int.toNat x2) (c0 - Int.toNat x2)) h fun v1_ h2_ => ∃ A3_, ∃ n3_, ∃ c3_, v1_ = (Value.slice A3_ n3_ c3_) ∧ 0 ≤ ((n3_ : Nat) : Int) ∧ ((n3_ : Nat) : Int) ≤ ((n0 : Nat) : Int) ∧ ((n0 : Nat) : Int) ≤ ((c3_ : Nat) : Int) ∧ (Gen Tryd.prog (Builtin.clear_ #[27] 0 #[(Value.slice (sliceA A3_ (Int.toNat ((n3_ : Nat) : Int)) c3_ 14) (Int.toNat ((n0 : Nat) : Int) - Int.toNat ((n3_ : Nat) : Int)) (c3_ - Int.toNat ((n3_ : Nat) : Int)))]) h2_ fun v4_ h5_ => v4_ = (Value.tuple #[]) ∧ R (Value.slice A3_ n3_ c3_) h5_)))))
set_option maxRecDepth 100000 in
theorem f37.run {R : Value → Heap → Prop} {A0 : Option Addr} {n0 : Nat} {c0 : Nat} {x1 : Int} {x2 : Int} {h : Heap} (H : f37.runT R A0 n0 c0 x1 x2 h) : Run Tryd.prog 37 #[(Value.slice A0 n0 c0), (Value.int .i64 x1), (Value.int .i64 x2)] h R :=
  run_of mixed Tryd.func37 (by kernel_rfl) (by kernel_rfl) f37.good (Eq.mpr (show (Fwd Tryd.prog f37.T f37.kp Tryd.f37 R [] (mkFr (argL [(Value.slice A0 n0 c0), (Value.int .i64 x1), (Value.int .i64 x2)] 0)) h) = (f37.runT R A0 n0 c0 x1 x2 h) by kernel_rfl) H)
def f38.T : Tab := { sh := tSh, tup := tTup, keep := [], plan := [] }
def f38.kp : Keep := []
theorem f38.good : goodCode Tryd.prog f38.T (rootOf Tryd.f38) = true := by kernel_rfl
set_option maxRecDepth 100000 in
def f38.runT (R : Value → Heap → Prop) (A0 : Option Addr) (n0 : Nat) (c0 : Nat) (h : Heap) : Prop :=
  splitB (Option.isNone A0) (R (Value.slice none 0 0) h) (newH h (Obj.cells #[] 64) fun h1_ => AppW 64 14 248 #[(Value.string (ByteArray.mk #[])), (Value.slice none 0 0), (Value.slice none 0 0), (Value.int .i64 (0 : Int)), (Value.string (ByteArray.mk #[])), (Value.slice none 0 0), (Value.int .i64 (0 : Int)), (Value.int .i64 (0 : Int)), (Value.string (ByteArray.mk #[])), (Value.slice none 0 0), (Value.slice none 0 0), (Value.slice none 0 0), (Value.slice none 0 0), (Value.int .i64 (0 : Int))] (some ⟨Array.size h, 0, none⟩) 0 0 (Value.slice A0 n0 c0) h1_ fun v2_ h3_ => ∃ A4_, ∃ n4_, ∃ c4_, v2_ = (Value.slice A4_ n4_ c4_) ∧ R (Value.slice A4_ n4_ c4_) h3_)
set_option maxRecDepth 100000 in
theorem f38.run {R : Value → Heap → Prop} {A0 : Option Addr} {n0 : Nat} {c0 : Nat} {h : Heap} (H : f38.runT R A0 n0 c0 h) : Run Tryd.prog 38 #[(Value.slice A0 n0 c0)] h R :=
  run_of mixed Tryd.func38 (by kernel_rfl) (by kernel_rfl) f38.good (Eq.mpr (show (Fwd Tryd.prog f38.T f38.kp Tryd.f38 R [] (mkFr (argL [(Value.slice A0 n0 c0)] 0)) h) = (f38.runT R A0 n0 c0 h) by kernel_rfl) H)
def f19.T : Tab := { sh := tSh, tup := tTup, keep := [], plan := [] }
def f19.kp : Keep := [([true, false, true], [0, 1, 13]), ([true, true], [0, 1])]
theorem f19.good : goodCode Tryd.prog f19.T (rootOf Tryd.f19) = true := by kernel_rfl
def f19.j1 (R : Value → Heap → Prop) (A0 : Option Addr) (n0 : Nat) (c0 : Nat) (x1 : Int) (b13 : Bool) (h : Heap) : Prop := Pt Tryd.prog Tryd.f19 R [true, false, true] (mkFr [(0, (Value.slice A0 n0 c0)), (1, (Value.int .i64 x1)), (13, (Value.bool b13))]) h
def f19.j0 (R : Value → Heap → Prop) (A0 : Option Addr) (n0 : Nat) (c0 : Nat) (x1 : Int) (h : Heap) : Prop := Pt Tryd.prog Tryd.f19 R [true, true] (mkFr [(0, (Value.slice A0 n0 c0)), (1, (Value.int .i64 x1))]) h
set_option maxRecDepth 100000 in
def f19.j1T (R : Value → Heap → Prop) (A0 : Option Addr) (n0 : Nat) (c0 : Nat) (x1 : Int) (b13 : Bool) (h : Heap) : Prop :=
  splitB b13 (Run Tryd.prog 38 #[(Value.slice A0 n0 c0)] h fun v1_ h2_ => ∃ A3_, ∃ n3_, ∃ c3_, v1_ = (Value.slice A3_ n3_ c3_) ∧ Run Tryd.prog 37 #[(Value.slice A3_ n3_ c3_), (Value.int .i64 x1), (Value.int .i64 (IntKind.wrap .i64 (x1 + (1 : Int))))] h2_ fun v4_ h5_ => ∃ A6_, ∃ n6_, ∃ c6_, v4_ = (Value.slice A6_ n6_ c6_) ∧ R (Value.tuple #[(Value.slice A6_ n6_ c6_), (Value.int .i64 (-1 : Int))]) h5_) (f19.j0 R A0 n0 c0 x1 h)
set_option maxRecDepth 100000 in
theorem f19.j1_in {R : Value → Heap → Prop} {A0 : Option Addr} {n0 : Nat} {c0 : Nat} {x1 : Int} {b13 : Bool} {h : Heap} (H : f19.j1T R A0 n0 c0 x1 b13 h) : f19.j1 R A0 n0 c0 x1 b13 h :=
  pt_intro mixed f19.good (Eq.mpr (show (Fwd Tryd.prog f19.T f19.kp Tryd.f19 R [true, false, true] (mkFr [(0, (Value.slice A0 n0 c0)), (1, (Value.int .i64 x1)), (13, (Value.bool b13))]) h) = (f19.j1T R A0 n0 c0 x1 b13 h) by kernel_rfl) H)
set_option maxRecDepth 100000 in
def f19.j0T (R : Value → Heap → Prop) (A0 : Option Addr) (n0 : Nat) (c0 : Nat) (x1 : Int) (h : Heap) : Prop :=
  splitB (decide (x1 < (0 : Int))) (R (Value.tuple #[(Value.slice A0 n0 c0), (Value.int .i64 x1)]) h) (R (Value.tuple #[(Value.slice A0 n0 c0), (Value.int .i64 (IntKind.wrap .i64 (x1 - ((n0 : Nat) : Int))))]) h)
set_option maxRecDepth 100000 in
theorem f19.j0_in {R : Value → Heap → Prop} {A0 : Option Addr} {n0 : Nat} {c0 : Nat} {x1 : Int} {h : Heap} (H : f19.j0T R A0 n0 c0 x1 h) : f19.j0 R A0 n0 c0 x1 h :=
  pt_intro mixed f19.good (Eq.mpr (show (Fwd Tryd.prog f19.T f19.kp Tryd.f19 R [true, true] (mkFr [(0, (Value.slice A0 n0 c0)), (1, (Value.int .i64 x1))]) h) = (f19.j0T R A0 n0 c0 x1 h) by kernel_rfl) H)
set_option maxRecDepth 100000 in
def f19.runT (R : Value → Heap → Prop) (A0 : Option Addr) (n0 : Nat) (c0 : Nat) (x1 : Int) (h : Heap) : Prop :=
  splitB (decide (x1 ≥ (0 : Int))) (f19.j1 R A0 n0 c0 x1 (decide (x1 < ((n0 : Nat) : Int))) h) (f19.j1 R A0 n0 c0 x1 false h)
set_option maxRecDepth 100000 in
theorem f19.run {R : Value → Heap → Prop} {A0 : Option Addr} {n0 : Nat} {c0 : Nat} {x1 : Int} {h : Heap} (H : f19.runT R A0 n0 c0 x1 h) : Run Tryd.prog 19 #[(Value.slice A0 n0 c0), (Value.int .i64 x1)] h R :=
  run_of mixed Tryd.func19 (by kernel_rfl) (by kernel_rfl) f19.good (Eq.mpr (show (Fwd Tryd.prog f19.T f19.kp Tryd.f19 R [] (mkFr (argL [(Value.slice A0 n0 c0), (Value.int .i64 x1)] 0)) h) = (f19.runT R A0 n0 c0 x1 h) by kernel_rfl) H)
def f4.T : Tab := { sh := tSh, tup := tTup, keep := [], plan := [] }
def f4.kp : Keep := [([true, false, true], [1, 2, 4, 13]), ([true, true], [1, 2, 4])]
theorem f4.good : goodCode Tryd.prog f4.T (rootOf Tryd.f4) = true := by kernel_rfl
def f4.j1 (R : Value → Heap → Prop) (x1 : Int) (a2 : Addr) (a4 : Addr) (b13 : Bool) (h : Heap) : Prop := Pt Tryd.prog Tryd.f4 R [true, false, true] (mkFr [(1, (Value.int .i64 x1)), (2, (Value.pointer (some a2))), (4, (Value.pointer (some a4))), (13, (Value.bool b13))]) h
def f4.j0 (R : Value → Heap → Prop) (x1 : Int) (a2 : Addr) (a4 : Addr) (h : Heap) : Prop := Pt Tryd.prog Tryd.f4 R [true, true] (mkFr [(1, (Value.int .i64 x1)), (2, (Value.pointer (some a2))), (4, (Value.pointer (some a4)))]) h
set_option maxRecDepth 100000 in
def f4.j1T (R : Value → Heap → Prop) (x1 : Int) (a2 : Addr) (a4 : Addr) (b13 : Bool) (h : Heap) : Prop :=
  splitB b13 (∃ l2_ : List Value, (Value.agg #[(Value.string (ByteArray.mk #[])), (Value.int .i64 (0 : Int)), (Value.slice none 0 0), (Value.slice none 0 0), (Value.slice none 0 0), (Value.slice none 0 0), (Value.slice none 0 0), (Value.slice none 0 0)]) = Value.agg l2_.toArray ∧ l2_.length = 8 ∧ ∃ h1_, stH h a4 l2_ 0 = some h1_ ∧ ∃ v3_, ldv true 8 h1_ a4 = some v3_ ∧ R (Value.tuple #[v3_, (Value.int .i64 (4 : Int))]) h1_) (f4.j0 R x1 a2 a4 h)
set_option maxRecDepth 100000 in
theorem f4.j1_in {R : Value → Heap → Prop} {x1 : Int} {a2 : Addr} {a4 : Addr} {b13 : Bool} {h : Heap} (H : f4.j1T R x1 a2 a4 b13 h) : f4.j1 R x1 a2 a4 b13 h :=
  pt_intro mixed f4.good (Eq.mpr (show (Fwd Tryd.prog f4.T f4.kp Tryd.f4 R [true, false, true] (mkFr [(1, (Value.int .i64 x1)), (2, (Value.pointer (some a2))), (4, (Value.pointer (some a4))), (13, (Value.bool b13))]) h) = (f4.j1T R x1 a2 a4 b13 h) by kernel_rfl) H)
set_option maxRecDepth 100000 in
def f4.j0T (R : Value → Heap → Prop) (x1 : Int) (a2 : Addr) (a4 : Addr) (h : Heap) : Prop :=
  ∃ v1_, ldv false 1 h (Addr.add a2 2) = some v1_ ∧ ∃ A2_, ∃ n2_, ∃ c2_, v1_ = (Value.slice A2_ n2_ c2_) ∧ Run Tryd.prog 14 #[(Value.slice A2_ n2_ c2_), (Value.int .i64 x1)] h fun v3_ h4_ => ∃ A5_, ∃ n5_, ∃ c5_, ∃ x6_, v3_ = (Value.tuple #[(Value.slice A5_ n5_ c5_), (Value.int .i64 x6_)]) ∧ ∃ h7_, st1 h4_ (Addr.add a2 2) (Value.slice A5_ n5_ c5_) = some h7_ ∧ ∃ v8_, ldv false 1 h7_ (Addr.add a2 3) = some v8_ ∧ ∃ A9_, ∃ n9_, ∃ c9_, v8_ = (Value.slice A9_ n9_ c9_) ∧ Run Tryd.prog 15 #[(Value.slice A9_ n9_ c9_), (Value.int .i64 x6_)] h7_ fun v10_ h11_ => ∃ A12_, ∃ n12_, ∃ c12_, ∃ x13_, v10_ = (Value.tuple #[(Value.slice A12_ n12_ c12_), (Value.int .i64 x13_)]) ∧ ∃ h14_, st1 h11_ (Addr.add a2 3) (Value.slice A12_ n12_ c12_) = some h14_ ∧ ∃ v15_, ldv false 1 h14_ (Addr.add a2 4) = some v15_ ∧ ∃ A16_, ∃ n16_, ∃ c16_, v15_ = (Value.slice A16_ n16_ c16_) ∧ Run Tryd.prog 16 #[(Value.slice A16_ n16_ c16_), (Value.int .i64 x13_)] h14_ fun v17_ h18_ => ∃ A19_, ∃ n19_, ∃ c19_, ∃ x20_, v17_ = (Value.tuple #[(Value.slice A19_ n19_ c19_), (Value.int .i64 x20_)]) ∧ ∃ h21_, st1 h18_ (Addr.add a2 4) (Value.slice A19_ n19_ c19_) = some h21_ ∧ ∃ v22_, ldv false 1 h21_ (Addr.add a2 5) = some v22_ ∧ ∃ A23_, ∃ n23_, ∃ c23_, v22_ = (Value.slice A23_ n23_ c23_) ∧ Run Tryd.prog 17 #[(Value.slice A23_ n23_ c23_), (Value.int .i64 x20_)] h21_ fun v24_ h25_ => ∃ A26_, ∃ n26_, ∃ c26_, ∃ x27_, v24_ = (Value.tuple #[(Value.slice A26_ n26_ c26_), (Value.int .i64 x27_)]) ∧ ∃ h28_, st1 h25_ (Addr.add a2 5) (Value.slice A26_ n26_ c26_) = some h28_ ∧ ∃ v29_, ldv false 1 h28_ (Addr.add a2 6) = some v29_ ∧ ∃ A30_, ∃ n30_, ∃ c30_, v29_ = (Value.slice A30_ n30_ c30_) ∧ Run Tryd.prog 18 #[(Value.slice A30_ n30_ c30_), (Value.int .i64 x27_)] h28_ fun v31_ h32_ => ∃ A33_, ∃ n33_, ∃ c33_, ∃ x34_, v31_ = (Value.tuple #[(Value.slice A33_ n33_ c33_), (Value.int .i64 x34_)]) ∧ ∃ h35_, st1 h32_ (Addr.add a2 6) (Value.slice A33_ n33_ c33_) = some h35_ ∧ ∃ v36_, ldv false 1 h35_ (Addr.add a2 7) = some v36_ ∧ ∃ A37_, ∃ n37_, ∃ c37_, v36_ = (Value.slice A37_ n37_ c37_) ∧ Run Tryd.prog 19 #[(Value.slice A37_ n37_ c37_), (Value.int .i64 x34_)] h35_ fun v38_ h39_ => ∃ A40_, ∃ n40_, ∃ c40_, ∃ x41_, v38_ = (Value.tuple #[(Value.slice A40_ n40_ c40_), (Value.int .i64 x41_)]) ∧ ∃ h42_, st1 h39_ (Addr.add a2 7) (Value.slice A40_ n40_ c40_) = some h42_ ∧ ∃ v43_, ldv true 8 h42_ a2 = some v43_ ∧ ∃ l45_ : List Value, v43_ = Value.agg l45_.toArray ∧ l45_.length = 8 ∧ ∃ h44_, stH h42_ a4 l45_ 0 = some h44_ ∧ ∃ v46_, ldv true 8 h44_ a4 = some v46_ ∧ R (Value.tuple #[v46_, (Value.int .i64 (0 : Int))]) h44_
set_option maxRecDepth 100000 in
theorem f4.j0_in {R : Value → Heap → Prop} {x1 : Int} {a2 : Addr} {a4 : Addr} {h : Heap} (H : f4.j0T R x1 a2 a4 h) : f4.j0 R x1 a2 a4 h :=
  pt_intro mixed f4.good (Eq.mpr (show (Fwd Tryd.prog f4.T f4.kp Tryd.f4 R [true, true] (mkFr [(1, (Value.int .i64 x1)), (2, (Value.pointer (some a2))), (4, (Value.pointer (some a4)))]) h) = (f4.j0T R x1 a2 a4 h) by kernel_rfl) H)
set_option maxRecDepth 100000 in
def f4.runT (R : Value → Heap → Prop) (v0 : Value) (x1 : Int) (h : Heap) : Prop :=
  newH h (Obj.cells ((v0).cells) 29) fun h1_ => newH h1_ (Obj.cells #[(Value.string (ByteArray.mk #[])), (Value.int .i64 (0 : Int)), (Value.slice none 0 0), (Value.slice none 0 0), (Value.slice none 0 0), (Value.slice none 0 0), (Value.slice none 0 0), (Value.slice none 0 0)] 29) fun h2_ => splitB (decide (x1 < (0 : Int))) (f4.j1 R x1 (⟨Array.size h, 0, none⟩) (⟨Array.size h1_, 0, none⟩) true h2_) (∃ v3_, ldv true 8 h2_ (⟨Array.size h, 0, none⟩) = some v3_ ∧ Run Tryd.prog 5 #[v3_] h2_ fun v4_ h5_ => ∃ x6_, v4_ = (Value.int .i64 x6_) ∧ f4.j1 R x1 (⟨Array.size h, 0, none⟩) (⟨Array.size h1_, 0, none⟩) (decide (x1 ≥ x6_)) h5_)
set_option maxRecDepth 100000 in
theorem f4.run {R : Value → Heap → Prop} {v0 : Value} {x1 : Int} {h : Heap} (H : f4.runT R v0 x1 h) : Run Tryd.prog 4 #[v0, (Value.int .i64 x1)] h R :=
  run_of mixed Tryd.func4 (by kernel_rfl) (by kernel_rfl) f4.good (Eq.mpr (show (Fwd Tryd.prog f4.T f4.kp Tryd.f4 R [] (mkFr (argL [v0, (Value.int .i64 x1)] 0)) h) = (f4.runT R v0 x1 h) by kernel_rfl) H)
def f21.T : Tab := { sh := tSh, tup := tTup, keep := [], plan := [] }
def f21.kp : Keep := [([false, false, true, false, true, true], [3, 6, 7, 8])]
theorem f21.good : goodCode Tryd.prog f21.T (rootOf Tryd.f21) = true := by kernel_rfl
def f21.l0 (R : Value → Heap → Prop) (s3 : ByteArray) (A6 : Option Addr) (n6 : Nat) (c6 : Nat) (x7 : Int) (x8 : Int) (h : Heap) : Prop := Pt Tryd.prog Tryd.f21 R [false, false, true, false, true, true] (mkFr [(3, (Value.string s3)), (6, (Value.slice A6 n6 c6)), (7, (Value.int .i64 x7)), (8, (Value.int .i64 x8))]) h
set_option maxRecDepth 100000 in
def f21.l0T (R : Value → Heap → Prop) (s3 : ByteArray) (A6 : Option Addr) (n6 : Nat) (c6 : Nat) (x7 : Int) (x8 : Int) (h : Heap) : Prop :=
  splitB (decide (x8 < x7)) (ptrOk A6 fun a1_ => 0 ≤ x8 ∧ x8 < ((n6 : Nat) : Int) ∧ (∃ v2_, ldv false 1 h (Addr.add a1_ (Int.toNat x8 * 1)) = some v2_ ∧ ∃ x3_, v2_ = (Value.int .i64 x3_) ∧ Run Tryd.prog 39 #[(Value.int .i64 x3_)] h fun v4_ h5_ => ∃ s6_, v4_ = (Value.string s6_) ∧ ByteArray.size s6_ + ByteArray.size (ByteArray.mk #[44]) ≤ 9223372036854775807 ∧ (ByteArray.size s3 + ByteArray.size (s6_ ++ (ByteArray.mk #[44])) ≤ 9223372036854775807 ∧ (f21.l0 R (s3 ++ (s6_ ++ (ByteArray.mk #[44]))) A6 n6 c6 x7 (IntKind.wrap .i64 (x8 + (1 : Int))) h5_)))) (R (Value.string s3) h)
set_option maxRecDepth 100000 in
theorem f21.l0_in {R : Value → Heap → Prop} {s3 : ByteArray} {A6 : Option Addr} {n6 : Nat} {c6 : Nat} {x7 : Int} {x8 : Int} {h : Heap} (H : f21.l0T R s3 A6 n6 c6 x7 x8 h) : f21.l0 R s3 A6 n6 c6 x7 x8 h :=
  pt_intro mixed f21.good (Eq.mpr (show (Fwd Tryd.prog f21.T f21.kp Tryd.f21 R [false, false, true, false, true, true] (mkFr [(3, (Value.string s3)), (6, (Value.slice A6 n6 c6)), (7, (Value.int .i64 x7)), (8, (Value.int .i64 x8))]) h) = (f21.l0T R s3 A6 n6 c6 x7 x8 h) by kernel_rfl) H)
set_option maxRecDepth 100000 in
def f21.runT (R : Value → Heap → Prop) (A0 : Option Addr) (n0 : Nat) (c0 : Nat) (h : Heap) : Prop :=
  f21.l0 R (ByteArray.mk #[]) A0 n0 c0 ((n0 : Nat) : Int) (0 : Int) h
set_option maxRecDepth 100000 in
theorem f21.run {R : Value → Heap → Prop} {A0 : Option Addr} {n0 : Nat} {c0 : Nat} {h : Heap} (H : f21.runT R A0 n0 c0 h) : Run Tryd.prog 21 #[(Value.slice A0 n0 c0)] h R :=
  run_of mixed Tryd.func21 (by kernel_rfl) (by kernel_rfl) f21.good (Eq.mpr (show (Fwd Tryd.prog f21.T f21.kp Tryd.f21 R [] (mkFr (argL [(Value.slice A0 n0 c0)] 0)) h) = (f21.runT R A0 n0 c0 h) by kernel_rfl) H)
def f20.T : Tab := { sh := tSh, tup := tTup, keep := [], plan := [] }
def f20.kp : Keep := [([false, false, true, false, true, true], [3, 6, 7, 8])]
theorem f20.good : goodCode Tryd.prog f20.T (rootOf Tryd.f20) = true := by kernel_rfl
def f20.l0 (R : Value → Heap → Prop) (s3 : ByteArray) (A6 : Option Addr) (n6 : Nat) (c6 : Nat) (x7 : Int) (x8 : Int) (h : Heap) : Prop := Pt Tryd.prog Tryd.f20 R [false, false, true, false, true, true] (mkFr [(3, (Value.string s3)), (6, (Value.slice A6 n6 c6)), (7, (Value.int .i64 x7)), (8, (Value.int .i64 x8))]) h
set_option maxRecDepth 100000 in
def f20.l0T (R : Value → Heap → Prop) (s3 : ByteArray) (A6 : Option Addr) (n6 : Nat) (c6 : Nat) (x7 : Int) (x8 : Int) (h : Heap) : Prop :=
  splitB (decide (x8 < x7)) (ptrOk A6 fun a1_ => 0 ≤ x8 ∧ x8 < ((n6 : Nat) : Int) ∧ (∃ v2_, ldv false 1 h (Addr.add a1_ (Int.toNat x8 * 1)) = some v2_ ∧ ∃ s3_, v2_ = (Value.string s3_) ∧ newH h (Obj.cells #[(Value.int .i64 ((ByteArray.size s3_ : Nat) : Int))] 3) fun h4_ => Run Tryd.prog 21 #[(Value.slice (some ⟨Array.size h, 0, none⟩) 1 1)] h4_ fun v5_ h6_ => ∃ s7_, v5_ = (Value.string s7_) ∧ ByteArray.size s7_ + ByteArray.size s3_ ≤ 9223372036854775807 ∧ (ByteArray.size s3 + ByteArray.size (s7_ ++ s3_) ≤ 9223372036854775807 ∧ (f20.l0 R (s3 ++ (s7_ ++ s3_)) A6 n6 c6 x7 (IntKind.wrap .i64 (x8 + (1 : Int))) h6_)))) (R (Value.string s3) h)
set_option maxRecDepth 100000 in
theorem f20.l0_in {R : Value → Heap → Prop} {s3 : ByteArray} {A6 : Option Addr} {n6 : Nat} {c6 : Nat} {x7 : Int} {x8 : Int} {h : Heap} (H : f20.l0T R s3 A6 n6 c6 x7 x8 h) : f20.l0 R s3 A6 n6 c6 x7 x8 h :=
  pt_intro mixed f20.good (Eq.mpr (show (Fwd Tryd.prog f20.T f20.kp Tryd.f20 R [false, false, true, false, true, true] (mkFr [(3, (Value.string s3)), (6, (Value.slice A6 n6 c6)), (7, (Value.int .i64 x7)), (8, (Value.int .i64 x8))]) h) = (f20.l0T R s3 A6 n6 c6 x7 x8 h) by kernel_rfl) H)
set_option maxRecDepth 100000 in
def f20.runT (R : Value → Heap → Prop) (A0 : Option Addr) (n0 : Nat) (c0 : Nat) (h : Heap) : Prop :=
  f20.l0 R (ByteArray.mk #[]) A0 n0 c0 ((n0 : Nat) : Int) (0 : Int) h
set_option maxRecDepth 100000 in
theorem f20.run {R : Value → Heap → Prop} {A0 : Option Addr} {n0 : Nat} {c0 : Nat} {h : Heap} (H : f20.runT R A0 n0 c0 h) : Run Tryd.prog 20 #[(Value.slice A0 n0 c0)] h R :=
  run_of mixed Tryd.func20 (by kernel_rfl) (by kernel_rfl) f20.good (Eq.mpr (show (Fwd Tryd.prog f20.T f20.kp Tryd.f20 R [] (mkFr (argL [(Value.slice A0 n0 c0)] 0)) h) = (f20.runT R A0 n0 c0 h) by kernel_rfl) H)
def f22.T : Tab := { sh := tSh, tup := tTup, keep := [], plan := [] }
def f22.kp : Keep := []
theorem f22.good : goodCode Tryd.prog f22.T (rootOf Tryd.f22) = true := by kernel_rfl
set_option maxRecDepth 100000 in
def f22.runT (R : Value → Heap → Prop) (A0 : Option Addr) (n0 : Nat) (c0 : Nat) (h : Heap) : Prop :=
  newH h (Obj.cells #[(Value.int .i64 ((n0 : Nat) : Int))] 3) fun h1_ => Run Tryd.prog 21 #[(Value.slice (some ⟨Array.size h, 0, none⟩) 1 1)] h1_ fun v2_ h3_ => ∃ s4_, v2_ = (Value.string s4_) ∧ Run Tryd.prog 20 #[(Value.slice A0 n0 c0)] h3_ fun v5_ h6_ => ∃ s7_, v5_ = (Value.string s7_) ∧ ByteArray.size s4_ + ByteArray.size s7_ ≤ 9223372036854775807 ∧ (R (Value.string (s4_ ++ s7_)) h6_)
set_option maxRecDepth 100000 in
theorem f22.run {R : Value → Heap → Prop} {A0 : Option Addr} {n0 : Nat} {c0 : Nat} {h : Heap} (H : f22.runT R A0 n0 c0 h) : Run Tryd.prog 22 #[(Value.slice A0 n0 c0)] h R :=
  run_of mixed Tryd.func22 (by kernel_rfl) (by kernel_rfl) f22.good (Eq.mpr (show (Fwd Tryd.prog f22.T f22.kp Tryd.f22 R [] (mkFr (argL [(Value.slice A0 n0 c0)] 0)) h) = (f22.runT R A0 n0 c0 h) by kernel_rfl) H)
def f25.T : Tab := { sh := tSh, tup := tTup, keep := [], plan := [(1, (.take 0 (.take 2 (.take 7 (.take 1 (.take 3 (.take 4 (.alt false 5 (.alt false 6 (.eff true 8 (.eff true 9 (.eff false 10 (.take 11 (.take 12 .done))))) (.eff true 8 (.alt false 6 (.eff true 9 (.eff false 10 (.take 11 (.take 12 .done)))) (.eff true 9 (.eff false 6 (.eff false 10 (.take 11 (.take 12 .done)))))))) (.eff true 8 (.alt false 5 (.alt false 6 (.eff true 9 (.eff false 10 (.take 11 (.take 12 .done)))) (.eff true 9 (.eff false 6 (.eff false 10 (.take 11 (.take 12 .done)))))) (.eff true 9 (.eff false 5 (.eff false 6 (.eff false 10 (.take 11 (.take 12 .done))))))))))))))))] }
def f25.kp : Keep := [([true, true], [1, 3]), ([false, false, true, false, true, true], [3, 19, 20, 21])]
theorem f25.good : goodCode Tryd.prog f25.T (rootOf Tryd.f25) = true := by kernel_rfl
def f25.j0 (R : Value → Heap → Prop) (a1 : Addr) (s3 : ByteArray) (h : Heap) : Prop := Pt Tryd.prog Tryd.f25 R [true, true] (mkFr [(1, (Value.pointer (some a1))), (3, (Value.string s3))]) h
def f25.l0 (R : Value → Heap → Prop) (s3 : ByteArray) (A19 : Option Addr) (n19 : Nat) (c19 : Nat) (x20 : Int) (x21 : Int) (h : Heap) : Prop := Pt Tryd.prog Tryd.f25 R [false, false, true, false, true, true] (mkFr [(3, (Value.string s3)), (19, (Value.slice A19 n19 c19)), (20, (Value.int .i64 x20)), (21, (Value.int .i64 x21))]) h
set_option maxRecDepth 100000 in
def f25.j0T (R : Value → Heap → Prop) (a1 : Addr) (s3 : ByteArray) (h : Heap) : Prop :=
  ∃ v1_, ldv false 1 h (Addr.add a1 2) = some v1_ ∧ ∃ A2_, ∃ n2_, ∃ c2_, v1_ = (Value.slice A2_ n2_ c2_) ∧ f25.l0 R s3 A2_ n2_ c2_ ((n2_ : Nat) : Int) (0 : Int) h
set_option maxRecDepth 100000 in
theorem f25.j0_in {R : Value → Heap → Prop} {a1 : Addr} {s3 : ByteArray} {h : Heap} (H : f25.j0T R a1 s3 h) : f25.j0 R a1 s3 h :=
  pt_intro mixed f25.good (Eq.mpr (show (Fwd Tryd.prog f25.T f25.kp Tryd.f25 R [true, true] (mkFr [(1, (Value.pointer (some a1))), (3, (Value.string s3))]) h) = (f25.j0T R a1 s3 h) by kernel_rfl) H)
set_option maxRecDepth 100000 in
def f25.l0T (R : Value → Heap → Prop) (s3 : ByteArray) (A19 : Option Addr) (n19 : Nat) (c19 : Nat) (x20 : Int) (x21 : Int) (h : Heap) : Prop :=
  splitB (decide (x21 < x20)) (ptrOk A19 fun a1_ => 0 ≤ x21 ∧ x21 < ((n19 : Nat) : Int) ∧ (∃ v2_, ldv true 3 h (Addr.add a1_ (Int.toNat x21 * 3)) = some v2_ ∧ newH h (Obj.cells #[(Value.int .i64 (0 : Int)), (Value.string (ByteArray.mk #[])), (Value.slice none 0 0)] 55) fun h3_ => ∃ l5_ : List Value, v2_ = Value.agg l5_.toArray ∧ l5_.length = 3 ∧ ∃ h4_, stH h3_ (⟨Array.size h, 0, none⟩) l5_ 0 = some h4_ ∧ ∃ v6_, ldv true 3 h4_ (⟨Array.size h, 0, none⟩) = some v6_ ∧ Run Tryd.prog 25 #[v6_] h4_ fun v7_ h8_ => ∃ s9_, v7_ = (Value.string s9_) ∧ ByteArray.size s3 + ByteArray.size s9_ ≤ 9223372036854775807 ∧ (f25.l0 R (s3 ++ s9_) A19 n19 c19 x20 (IntKind.wrap .i64 (x21 + (1 : Int))) h8_))) (R (Value.string s3) h)
set_option maxRecDepth 100000 in
theorem f25.l0_in {R : Value → Heap → Prop} {s3 : ByteArray} {A19 : Option Addr} {n19 : Nat} {c19 : Nat} {x20 : Int} {x21 : Int} {h : Heap} (H : f25.l0T R s3 A19 n19 c19 x20 x21 h) : f25.l0 R s3 A19 n19 c19 x20 x21 h :=
  pt_intro mixed f25.good (Eq.mpr (show (Fwd Tryd.prog f25.T f25.kp Tryd.f25 R [false, false, true, false, true, true] (mkFr [(3, (Value.string s3)), (19, (Value.slice A19 n19 c19)), (20, (Value.int .i64 x20)), (21, (Value.int .i64 x21))]) h) = (f25.l0T R s3 A19 n19 c19 x20 x21 h) by kernel_rfl) H)
set_option maxRecDepth 100000 in
def f25.runT (R : Value → Heap → Prop) (v0 : Value) (h : Heap) : Prop :=
  newH h (Obj.cells ((v0).cells) 55) fun h1_ => ∃ v2_, ldv false 1 h1_ (⟨Array.size h, 0, none⟩) = some v2_ ∧ ∃ x3_, v2_ = (Value.int .i64 x3_) ∧ ∃ v4_, ldv false 1 h1_ (Addr.add (⟨Array.size h, 0, none⟩) 2) = some v4_ ∧ ∃ A5_, ∃ n5_, ∃ c5_, v4_ = (Value.slice A5_ n5_ c5_) ∧ (newH h1_ (Obj.cells #[(Value.int .i64 x3_), (Value.int .i64 ((n5_ : Nat) : Int))] 3) fun h6_ => (Run Tryd.prog 21 #[(Value.slice (some ⟨Array.size h1_, 0, none⟩) 2 2)] h6_ fun v7_ h8_ => ∃ s9_, v7_ = (Value.string s9_) ∧ ∃ v10_, ldv false 1 h8_ (Addr.add (⟨Array.size h, 0, none⟩) 1) = some v10_ ∧ ∃ s11_, v10_ = (Value.string s11_) ∧ Ext h8_ h8_ ∧ (newH h8_ (Obj.cells #[(Value.string s11_)] 9) fun h12_ => Ext h8_ h12_ ∧ (Run Tryd.prog 20 #[(Value.slice (some ⟨Array.size h8_, 0, none⟩) 1 1)] h12_ fun v13_ h14_ => ∃ s15_, v13_ = (Value.string s15_) ∧ ByteArray.size s9_ + ByteArray.size s15_ ≤ 9223372036854775807 ∧ (f25.j0 R (⟨Array.size h, 0, none⟩) (s9_ ++ s15_) h14_)))) ∧ (∃ v16_, ldv false 1 h6_ (Addr.add (⟨Array.size h, 0, none⟩) 1) = some v16_ ∧ ∃ s17_, v16_ = (Value.string s17_) ∧ Ext h6_ h6_ ∧ ((Run Tryd.prog 21 #[(Value.slice (some ⟨Array.size h1_, 0, none⟩) 2 2)] h6_ fun v18_ h19_ => ∃ s20_, v18_ = (Value.string s20_) ∧ newH h19_ (Obj.cells #[(Value.string s17_)] 9) fun h21_ => Ext h19_ h21_ ∧ (Run Tryd.prog 20 #[(Value.slice (some ⟨Array.size h19_, 0, none⟩) 1 1)] h21_ fun v22_ h23_ => ∃ s24_, v22_ = (Value.string s24_) ∧ ByteArray.size s20_ + ByteArray.size s24_ ≤ 9223372036854775807 ∧ (f25.j0 R (⟨Array.size h, 0, none⟩) (s20_ ++ s24_) h23_))) ∧ (newH h6_ (Obj.cells #[(Value.string s17_)] 9) fun h25_ => Ext h6_ h25_ ∧ (Run Tryd.prog 21 #[(Value.slice (some ⟨Array.size h1_, 0, none⟩) 2 2)] h25_ fun v26_ h27_ => ∃ s28_, v26_ = (Value.string s28_) ∧ Run Tryd.prog 20 #[(Value.slice (some ⟨Array.size h6_, 0, none⟩) 1 1)] h27_ fun v29_ h30_ => ∃ s31_, v29_ = (Value.string s31_) ∧ ByteArray.size s28_ + ByteArray.size s31_ ≤ 9223372036854775807 ∧ (f25.j0 R (⟨Array.size h, 0, none⟩) (s28_ ++ s31_) h30_)))))) ∧ (∃ v32_, ldv false 1 h1_ (Addr.add (⟨Array.size h, 0, none⟩) 1) = some v32_ ∧ ∃ s33_, v32_ = (Value.string s33_) ∧ Ext h1_ h1_ ∧ ((newH h1_ (Obj.cells #[(Value.int .i64 x3_), (Value.int .i64 ((n5_ : Nat) : Int))] 3) fun h34_ => (Run Tryd.prog 21 #[(Value.slice (some ⟨Array.size h1_, 0, none⟩) 2 2)] h34_ fun v35_ h36_ => ∃ s37_, v35_ = (Value.string s37_) ∧ newH h36_ (Obj.cells #[(Value.string s33_)] 9) fun h38_ => Ext h36_ h38_ ∧ (Run Tryd.prog 20 #[(Value.slice (some ⟨Array.size h36_, 0, none⟩) 1 1)] h38_ fun v39_ h40_ => ∃ s41_, v39_ = (Value.string s41_) ∧ ByteArray.size s37_ + ByteArray.size s41_ ≤ 9223372036854775807 ∧ (f25.j0 R (⟨Array.size h, 0, none⟩) (s37_ ++ s41_) h40_))) ∧ (newH h34_ (Obj.cells #[(Value.string s33_)] 9) fun h42_ => Ext h34_ h42_ ∧ (Run Tryd.prog 21 #[(Value.slice (some ⟨Array.size h1_, 0, none⟩) 2 2)] h42_ fun v43_ h44_ => ∃ s45_, v43_ = (Value.string s45_) ∧ Run Tryd.prog 20 #[(Value.slice (some ⟨Array.size h34_, 0, none⟩) 1 1)] h44_ fun v46_ h47_ => ∃ s48_, v46_ = (Value.string s48_) ∧ ByteArray.size s45_ + ByteArray.size s48_ ≤ 9223372036854775807 ∧ (f25.j0 R (⟨Array.size h, 0, none⟩) (s45_ ++ s48_) h47_)))) ∧ (newH h1_ (Obj.cells #[(Value.string s33_)] 9) fun h49_ => Ext h1_ h49_ ∧ (newH h49_ (Obj.cells #[(Value.int .i64 x3_), (Value.int .i64 ((n5_ : Nat) : Int))] 3) fun h50_ => Run Tryd.prog 21 #[(Value.slice (some ⟨Array.size h49_, 0, none⟩) 2 2)] h50_ fun v51_ h52_ => ∃ s53_, v51_ = (Value.string s53_) ∧ Run Tryd.prog 20 #[(Value.slice (some ⟨Array.size h1_, 0, none⟩) 1 1)] h52_ fun v54_ h55_ => ∃ s56_, v54_ = (Value.string s56_) ∧ ByteArray.size s53_ + ByteArray.size s56_ ≤ 9223372036854775807 ∧ (f25.j0 R (⟨Array.size h, 0, none⟩) (s53_ ++ s56_) h55_)))))
set_option maxRecDepth 100000 in
theorem f25.run {R : Value → Heap → Prop} {v0 : Value} {h : Heap} (H : f25.runT R v0 h) : Run Tryd.prog 25 #[v0] h R :=
  run_of mixed Tryd.func25 (by kernel_rfl) (by kernel_rfl) f25.good (Eq.mpr (show (Fwd Tryd.prog f25.T f25.kp Tryd.f25 R [] (mkFr (argL [v0] 0)) h) = (f25.runT R v0 h) by kernel_rfl) H)
def f23.T : Tab := { sh := tSh, tup := tTup, keep := [], plan := [] }
def f23.kp : Keep := [([false, false, true, false, true, true], [3, 10, 11, 12])]
theorem f23.good : goodCode Tryd.prog f23.T (rootOf Tryd.f23) = true := by kernel_rfl
def f23.l0 (R : Value → Heap → Prop) (s3 : ByteArray) (A10 : Option Addr) (n10 : Nat) (c10 : Nat) (x11 : Int) (x12 : Int) (h : Heap) : Prop := Pt Tryd.prog Tryd.f23 R [false, false, true, false, true, true] (mkFr [(3, (Value.string s3)), (10, (Value.slice A10 n10 c10)), (11, (Value.int .i64 x11)), (12, (Value.int .i64 x12))]) h
set_option maxRecDepth 100000 in
def f23.l0T (R : Value → Heap → Prop) (s3 : ByteArray) (A10 : Option Addr) (n10 : Nat) (c10 : Nat) (x11 : Int) (x12 : Int) (h : Heap) : Prop :=
  splitB (decide (x12 < x11)) (ptrOk A10 fun a1_ => 0 ≤ x12 ∧ x12 < ((n10 : Nat) : Int) ∧ (∃ v2_, ldv true 3 h (Addr.add a1_ (Int.toNat x12 * 3)) = some v2_ ∧ newH h (Obj.cells #[(Value.int .i64 (0 : Int)), (Value.string (ByteArray.mk #[])), (Value.slice none 0 0)] 55) fun h3_ => ∃ l5_ : List Value, v2_ = Value.agg l5_.toArray ∧ l5_.length = 3 ∧ ∃ h4_, stH h3_ (⟨Array.size h, 0, none⟩) l5_ 0 = some h4_ ∧ ∃ v6_, ldv true 3 h4_ (⟨Array.size h, 0, none⟩) = some v6_ ∧ Run Tryd.prog 25 #[v6_] h4_ fun v7_ h8_ => ∃ s9_, v7_ = (Value.string s9_) ∧ ByteArray.size s3 + ByteArray.size s9_ ≤ 9223372036854775807 ∧ (f23.l0 R (s3 ++ s9_) A10 n10 c10 x11 (IntKind.wrap .i64 (x12 + (1 : Int))) h8_))) (R (Value.string s3) h)
set_option maxRecDepth 100000 in
theorem f23.l0_in {R : Value → Heap → Prop} {s3 : ByteArray} {A10 : Option Addr} {n10 : Nat} {c10 : Nat} {x11 : Int} {x12 : Int} {h : Heap} (H : f23.l0T R s3 A10 n10 c10 x11 x12 h) : f23.l0 R s3 A10 n10 c10 x11 x12 h :=
  pt_intro mixed f23.good (Eq.mpr (show (Fwd Tryd.prog f23.T f23.kp Tryd.f23 R [false, false, true, false, true, true] (mkFr [(3, (Value.string s3)), (10, (Value.slice A10 n10 c10)), (11, (Value.int .i64 x11)), (12, (Value.int .i64 x12))]) h) = (f23.l0T R s3 A10 n10 c10 x11 x12 h) by kernel_rfl) H)
set_option maxRecDepth 100000 in
def f23.runT (R : Value → Heap → Prop) (A0 : Option Addr) (n0 : Nat) (c0 : Nat) (h : Heap) : Prop :=
  newH h (Obj.cells #[(Value.int .i64 ((n0 : Nat) : Int))] 3) fun h1_ => Run Tryd.prog 21 #[(Value.slice (some ⟨Array.size h, 0, none⟩) 1 1)] h1_ fun v2_ h3_ => ∃ s4_, v2_ = (Value.string s4_) ∧ f23.l0 R s4_ A0 n0 c0 ((n0 : Nat) : Int) (0 : Int) h3_
set_option maxRecDepth 100000 in
theorem f23.run {R : Value → Heap → Prop} {A0 : Option Addr} {n0 : Nat} {c0 : Nat} {h : Heap} (H : f23.runT R A0 n0 c0 h) : Run Tryd.prog 23 #[(Value.slice A0 n0 c0)] h R :=
  run_of mixed Tryd.func23 (by kernel_rfl) (by kernel_rfl) f23.good (Eq.mpr (show (Fwd Tryd.prog f23.T f23.kp Tryd.f23 R [] (mkFr (argL [(Value.slice A0 n0 c0)] 0)) h) = (f23.runT R A0 n0 c0 h) by kernel_rfl) H)
def f40.T : Tab := { sh := tSh, tup := tTup, keep := [], plan := [(1, (.take 0 (.take 2 (.take 4 (.take 9 (.take 1 (.take 3 (.take 5 (.take 6 (.alt false 7 (.alt false 8 (.eff true 10 (.eff true 11 (.eff false 12 (.take 13 (.take 14 .done))))) (.eff true 10 (.alt false 8 (.eff true 11 (.eff false 12 (.take 13 (.take 14 .done)))) (.eff true 11 (.eff false 8 (.eff false 12 (.take 13 (.take 14 .done)))))))) (.eff true 10 (.alt false 7 (.alt false 8 (.eff true 11 (.eff false 12 (.take 13 (.take 14 .done)))) (.eff true 11 (.eff false 8 (.eff false 12 (.take 13 (.take 14 .done)))))) (.eff true 11 (.eff false 7 (.eff false 8 (.eff false 12 (.take 13 (.take 14 .done))))))))))))))))))] }
def f40.kp : Keep := [([true, true], [1, 3]), ([false, false, true, false, true, true], [3, 21, 22, 23])]
theorem f40.good : goodCode Tryd.prog f40.T (rootOf Tryd.f40) = true := by kernel_rfl
def f40.j0 (R : Value → Heap → Prop) (a1 : Addr) (s3 : ByteArray) (h : Heap) : Prop := Pt Tryd.prog Tryd.f40 R [true, true] (mkFr [(1, (Value.pointer (some a1))), (3, (Value.string s3))]) h
def f40.l0 (R : Value → Heap → Prop) (s3 : ByteArray) (A21 : Option Addr) (n21 : Nat) (c21 : Nat) (x22 : Int) (x23 : Int) (h : Heap) : Prop := Pt Tryd.prog Tryd.f40 R [false, false, true, false, true, true] (mkFr [(3, (Value.string s3)), (21, (Value.slice A21 n21 c21)), (22, (Value.int .i64 x22)), (23, (Value.int .i64 x23))]) h
set_option maxRecDepth 100000 in
def f40.j0T (R : Value → Heap → Prop) (a1 : Addr) (s3 : ByteArray) (h : Heap) : Prop :=
  ∃ v1_, ldv false 1 h (Addr.add a1 3) = some v1_ ∧ ∃ A2_, ∃ n2_, ∃ c2_, v1_ = (Value.slice A2_ n2_ c2_) ∧ f40.l0 R s3 A2_ n2_ c2_ ((n2_ : Nat) : Int) (0 : Int) h
set_option maxRecDepth 100000 in
theorem f40.j0_in {R : Value → Heap → Prop} {a1 : Addr} {s3 : ByteArray} {h : Heap} (H : f40.j0T R a1 s3 h) : f40.j0 R a1 s3 h :=
  pt_intro mixed f40.good (Eq.mpr (show (Fwd Tryd.prog f40.T f40.kp Tryd.f40 R [true, true] (mkFr [(1, (Value.pointer (some a1))), (3, (Value.string s3))]) h) = (f40.j0T R a1 s3 h) by kernel_rfl) H)
set_option maxRecDepth 100000 in
def f40.l0T (R : Value → Heap → Prop) (s3 : ByteArray) (A21 : Option Addr) (n21 : Nat) (c21 : Nat) (x22 : Int) (x23 : Int) (h : Heap) : Prop :=
  splitB (decide (x23 < x22)) (ptrOk A21 fun a1_ => 0 ≤ x23 ∧ x23 < ((n21 : Nat) : Int) ∧ (∃ v2_, ldv true 4 h (Addr.add a1_ (Int.toNat x23 * 4)) = some v2_ ∧ newH h (Obj.cells #[(Value.int .i64 (0 : Int)), (Value.int .i64 (0 : Int)), (Value.string (ByteArray.mk #[])), (Value.slice none 0 0)] 102) fun h3_ => ∃ l5_ : List Value, v2_ = Value.agg l5_.toArray ∧ l5_.length = 4 ∧ ∃ h4_, stH h3_ (⟨Array.size h, 0, none⟩) l5_ 0 = some h4_ ∧ ∃ v6_, ldv true 4 h4_ (⟨Array.size h, 0, none⟩) = some v6_ ∧ Run Tryd.prog 40 #[v6_] h4_ fun v7_ h8_ => ∃ s9_, v7_ = (Value.string s9_) ∧ ByteArray.size s3 + ByteArray.size s9_ ≤ 9223372036854775807 ∧ (f40.l0 R (s3 ++ s9_) A21 n21 c21 x22 (IntKind.wrap .i64 (x23 + (1 : Int))) h8_))) (R (Value.string s3) h)
set_option maxRecDepth 100000 in
theorem f40.l0_in {R : Value → Heap → Prop} {s3 : ByteArray} {A21 : Option Addr} {n21 : Nat} {c21 : Nat} {x22 : Int} {x23 : Int} {h : Heap} (H : f40.l0T R s3 A21 n21 c21 x22 x23 h) : f40.l0 R s3 A21 n21 c21 x22 x23 h :=
  pt_intro mixed f40.good (Eq.mpr (show (Fwd Tryd.prog f40.T f40.kp Tryd.f40 R [false, false, true, false, true, true] (mkFr [(3, (Value.string s3)), (21, (Value.slice A21 n21 c21)), (22, (Value.int .i64 x22)), (23, (Value.int .i64 x23))]) h) = (f40.l0T R s3 A21 n21 c21 x22 x23 h) by kernel_rfl) H)
set_option maxRecDepth 100000 in
def f40.runT (R : Value → Heap → Prop) (v0 : Value) (h : Heap) : Prop :=
  newH h (Obj.cells ((v0).cells) 102) fun h1_ => ∃ v2_, ldv false 1 h1_ (⟨Array.size h, 0, none⟩) = some v2_ ∧ ∃ x3_, v2_ = (Value.int .i64 x3_) ∧ ∃ v4_, ldv false 1 h1_ (Addr.add (⟨Array.size h, 0, none⟩) 1) = some v4_ ∧ ∃ x5_, v4_ = (Value.int .i64 x5_) ∧ ∃ v6_, ldv false 1 h1_ (Addr.add (⟨Array.size h, 0, none⟩) 3) = some v6_ ∧ ∃ A7_, ∃ n7_, ∃ c7_, v6_ = (Value.slice A7_ n7_ c7_) ∧ (newH h1_ (Obj.cells #[(Value.int .i64 x3_), (Value.int .i64 x5_), (Value.int .i64 ((n7_ : Nat) : Int))] 3) fun h8_ => (Run Tryd.prog 21 #[(Value.slice (some ⟨Array.size h1_, 0, none⟩) 3 3)] h8_ fun v9_ h10_ => ∃ s11_, v9_ = (Value.string s11_) ∧ ∃ v12_, ldv false 1 h10_ (Addr.add (⟨Array.size h, 0, none⟩) 2) = some v12_ ∧ ∃ s13_, v12_ = (Value.string s13_) ∧ Ext h10_ h10_ ∧ (newH h10_ (Obj.cells #[(Value.string s13_)] 9) fun h14_ => Ext h10_ h14_ ∧ (Run Tryd.prog 20 #[(Value.slice (some ⟨Array.size h10_, 0, none⟩) 1 1)] h14_ fun v15_ h16_ => ∃ s17_, v15_ = (Value.string s17_) ∧ ByteArray.size s11_ + ByteArray.size s17_ ≤ 9223372036854775807 ∧ (f40.j0 R (⟨Array.size h, 0, none⟩) (s11_ ++ s17_) h16_)))) ∧ (∃ v18_, ldv false 1 h8_ (Addr.add (⟨Array.size h, 0, none⟩) 2) = some v18_ ∧ ∃ s19_, v18_ = (Value.string s19_) ∧ Ext h8_ h8_ ∧ ((Run Tryd.prog 21 #[(Value.slice (some ⟨Array.size h1_, 0, none⟩) 3 3)] h8_ fun v20_ h21_ => ∃ s22_, v20_ = (Value.string s22_) ∧ newH h21_ (Obj.cells #[(Value.string s19_)] 9) fun h23_ => Ext h21_ h23_ ∧ (Run Tryd.prog 20 #[(Value.slice (some ⟨Array.size h21_, 0, none⟩) 1 1)] h23_ fun v24_ h25_ => ∃ s26_, v24_ = (Value.string s26_) ∧ ByteArray.size s22_ + ByteArray.size s26_ ≤ 9223372036854775807 ∧ (f40.j0 R (⟨Array.size h, 0, none⟩) (s22_ ++ s26_) h25_))) ∧ (newH h8_ (Obj.cells #[(Value.string s19_)] 9) fun h27_ => Ext h8_ h27_ ∧ (Run Tryd.prog 21 #[(Value.slice (some ⟨Array.size h1_, 0, none⟩) 3 3)] h27_ fun v28_ h29_ => ∃ s30_, v28_ = (Value.string s30_) ∧ Run Tryd.prog 20 #[(Value.slice (some ⟨Array.size h8_, 0, none⟩) 1 1)] h29_ fun v31_ h32_ => ∃ s33_, v31_ = (Value.string s33_) ∧ ByteArray.size s30_ + ByteArray.size s33_ ≤ 9223372036854775807 ∧ (f40.j0 R (⟨Array.size h, 0, none⟩) (s30_ ++ s33_) h32_)))))) ∧ (∃ v34_, ldv false 1 h1_ (Addr.add (⟨Array.size h, 0, none⟩) 2) = some v34_ ∧ ∃ s35_, v34_ = (Value.string s35_) ∧ Ext h1_ h1_ ∧ ((newH h1_ (Obj.cells #[(Value.int .i64 x3_), (Value.int .i64 x5_), (Value.int .i64 ((n7_ : Nat) : Int))] 3) fun h36_ => (Run Tryd.prog 21 #[(Value.slice (some ⟨Array.size h1_, 0, none⟩) 3 3)] h36_ fun v37_ h38_ => ∃ s39_, v37_ = (Value.string s39_) ∧ newH h38_ (Obj.cells #[(Value.string s35_)] 9) fun h40_ => Ext h38_ h40_ ∧ (Run Tryd.prog 20 #[(Value.slice (some ⟨Array.size h38_, 0, none⟩) 1 1)] h40_ fun v41_ h42_ => ∃ s43_, v41_ = (Value.string s43_) ∧ ByteArray.size s39_ + ByteArray.size s43_ ≤ 9223372036854775807 ∧ (f40.j0 R (⟨Array.size h, 0, none⟩) (s39_ ++ s43_) h42_))) ∧ (newH h36_ (Obj.cells #[(Value.string s35_)] 9) fun h44_ => Ext h36_ h44_ ∧ (Run Tryd.prog 21 #[(Value.slice (some ⟨Array.size h1_, 0, none⟩) 3 3)] h44_ fun v45_ h46_ => ∃ s47_, v45_ = (Value.string s47_) ∧ Run Tryd.prog 20 #[(Value.slice (some ⟨Array.size h36_, 0, none⟩) 1 1)] h46_ fun v48_ h49_ => ∃ s50_, v48_ = (Value.string s50_) ∧ ByteArray.size s47_ + ByteArray.size s50_ ≤ 9223372036854775807 ∧ (f40.j0 R (⟨Array.size h, 0, none⟩) (s47_ ++ s50_) h49_)))) ∧ (newH h1_ (Obj.cells #[(Value.string s35_)] 9) fun h51_ => Ext h1_ h51_ ∧ (newH h51_ (Obj.cells #[(Value.int .i64 x3_), (Value.int .i64 x5_), (Value.int .i64 ((n7_ : Nat) : Int))] 3) fun h52_ => Run Tryd.prog 21 #[(Value.slice (some ⟨Array.size h51_, 0, none⟩) 3 3)] h52_ fun v53_ h54_ => ∃ s55_, v53_ = (Value.string s55_) ∧ Run Tryd.prog 20 #[(Value.slice (some ⟨Array.size h1_, 0, none⟩) 1 1)] h54_ fun v56_ h57_ => ∃ s58_, v56_ = (Value.string s58_) ∧ ByteArray.size s55_ + ByteArray.size s58_ ≤ 9223372036854775807 ∧ (f40.j0 R (⟨Array.size h, 0, none⟩) (s55_ ++ s58_) h57_)))))
set_option maxRecDepth 100000 in
theorem f40.run {R : Value → Heap → Prop} {v0 : Value} {h : Heap} (H : f40.runT R v0 h) : Run Tryd.prog 40 #[v0] h R :=
  run_of mixed Tryd.func40 (by kernel_rfl) (by kernel_rfl) f40.good (Eq.mpr (show (Fwd Tryd.prog f40.T f40.kp Tryd.f40 R [] (mkFr (argL [v0] 0)) h) = (f40.runT R v0 h) by kernel_rfl) H)
def f26.T : Tab := { sh := tSh, tup := tTup, keep := [], plan := [(1, (.take 0 (.take 2 (.take 4 (.take 7 (.take 10 (.take 13 (.take 18 (.take 23 (.take 1 (.take 3 (.take 5 (.take 6 (.take 8 (.take 9 (.take 11 (.take 12 (.take 14 (.take 15 (.take 19 (.take 24 (.alt true 16 (.alt true 17 (.eff true 20 (.eff true 21 (.take 22 (.eff false 25 (.take 26 (.take 27 .done)))))) (.eff true 20 (.eff true 17 (.eff true 21 (.take 22 (.eff false 25 (.take 26 (.take 27 .done)))))))) (.eff true 20 (.eff true 16 (.eff true 17 (.eff true 21 (.take 22 (.eff false 25 (.take 26 (.take 27 .done)))))))))))))))))))))))))))))), (15, (.take 0 (.take 1 (.take 4 (.take 2 (.alt false 3 (.eff true 5 (.eff false 6 (.take 7 (.take 8 (.take 9 .done))))) (.eff true 5 (.eff false 3 (.eff false 6 (.take 7 (.take 8 (.take 9 .done))))))))))))] }
def f26.kp : Keep := [([true, true], [1, 3]), ([false, false, true, false, true, true], [1, 3, 38, 39, 40]), ([false, false, true, false, true, true, true], [1, 3, 50, 51, 52]), ([false, false, true, false, true, true, true, true], [3, 62, 63, 64])]
theorem f26.good : goodCode Tryd.prog f26.T (rootOf Tryd.f26) = true := by kernel_rfl
def f26.j0 (R : Value → Heap → Prop) (a1 : Addr) (s3 : ByteArray) (h : Heap) : Prop := Pt Tryd.prog Tryd.f26 R [true, true] (mkFr [(1, (Value.pointer (some a1))), (3, (Value.string s3))]) h
def f26.l0 (R : Value → Heap → Prop) (a1 : Addr) (s3 : ByteArray) (A38 : Option Addr) (n38 : Nat) (c38 : Nat) (x39 : Int) (x40 : Int) (h : Heap) : Prop := Pt Tryd.prog Tryd.f26 R [false, false, true, false, true, true] (mkFr [(1, (Value.pointer (some a1))), (3, (Value.string s3)), (38, (Value.slice A38 n38 c38)), (39, (Value.int .i64 x39)), (40, (Value.int .i64 x40))]) h
def f26.l1 (R : Value → Heap → Prop) (a1 : Addr) (s3 : ByteArray) (A50 : Option Addr) (n50 : Nat) (c50 : Nat) (x51 : Int) (x52 : Int) (h : Heap) : Prop := Pt Tryd.prog Tryd.f26 R [false, false, true, false, true, true, true] (mkFr [(1, (Value.pointer (some a1))), (3, (Value.string s3)), (50, (Value.slice A50 n50 c50)), (51, (Value.int .i64 x51)), (52, (Value.int .i64 x52))]) h
def f26.l2 (R : Value → Heap → Prop) (s3 : ByteArray) (A62 : Option Addr) (n62 : Nat) (c62 : Nat) (x63 : Int) (x64 : Int) (h : Heap) : Prop := Pt Tryd.prog Tryd.f26 R [false, false, true, false, true, true, true, true] (mkFr [(3, (Value.string s3)), (62, (Value.slice A62 n62 c62)), (63, (Value.int .i64 x63)), (64, (Value.int .i64 x64))]) h
set_option maxRecDepth 100000 in
def f26.j0T (R : Value → Heap → Prop) (a1 : Addr) (s3 : ByteArray) (h : Heap) : Prop :=
  ∃ v1_, ldv false 1 h (Addr.add a1 4) = some v1_ ∧ ∃ A2_, ∃ n2_, ∃ c2_, v1_ = (Value.slice A2_ n2_ c2_) ∧ f26.l0 R a1 s3 A2_ n2_ c2_ ((n2_ : Nat) : Int) (0 : Int) h
set_option maxRecDepth 100000 in
theorem f26.j0_in {R : Value → Heap → Prop} {a1 : Addr} {s3 : ByteArray} {h : Heap} (H : f26.j0T R a1 s3 h) : f26.j0 R a1 s3 h :=
  pt_intro mixed f26.good (Eq.mpr (show (Fwd Tryd.prog f26.T f26.kp Tryd.f26 R [true, true] (mkFr [(1, (Value.pointer (some a1))), (3, (Value.string s3))]) h) = (f26.j0T R a1 s3 h) by kernel_rfl) H)
set_option maxRecDepth 100000 in
def f26.l0T (R : Value → Heap → Prop) (a1 : Addr) (s3 : ByteArray) (A38 : Option Addr) (n38 : Nat) (c38 : Nat) (x39 : Int) (x40 : Int) (h : Heap) : Prop :=
  splitB (decide (x40 < x39)) (ptrOk A38 fun a1_ => 0 ≤ x40 ∧ x40 < ((n38 : Nat) : Int) ∧ (∃ v2_, ldv true 3 h (Addr.add a1_ (Int.toNat x40 * 3)) = some v2_ ∧ newH h (Obj.cells #[(Value.int .i64 (0 : Int)), (Value.string (ByteArray.mk #[])), (Value.slice none 0 0)] 55) fun h3_ => ∃ l5_ : List Value, v2_ = Value.agg l5_.toArray ∧ l5_.length = 3 ∧ ∃ h4_, stH h3_ (⟨Array.size h, 0, none⟩) l5_ 0 = some h4_ ∧ ∃ v6_, ldv true 3 h4_ (⟨Array.size h, 0, none⟩) = some v6_ ∧ Run Tryd.prog 25 #[v6_] h4_ fun v7_ h8_ => ∃ s9_, v7_ = (Value.string s9_) ∧ ByteArray.size s3 + ByteArray.size s9_ ≤ 9223372036854775807 ∧ (f26.l0 R a1 (s3 ++ s9_) A38 n38 c38 x39 (IntKind.wrap .i64 (x40 + (1 : Int))) h8_))) (∃ v10_, ldv false 1 h (Addr.add a1 5) = some v10_ ∧ ∃ A11_, ∃ n11_, ∃ c11_, v10_ = (Value.slice A11_ n11_ c11_) ∧ f26.l1 R a1 s3 A11_ n11_ c11_ ((n11_ : Nat) : Int) (0 : Int) h)
set_option maxRecDepth 100000 in
theorem f26.l0_in {R : Value → Heap → Prop} {a1 : Addr} {s3 : ByteArray} {A38 : Option Addr} {n38 : Nat} {c38 : Nat} {x39 : Int} {x40 : Int} {h : Heap} (H : f26.l0T R a1 s3 A38 n38 c38 x39 x40 h) : f26.l0 R a1 s3 A38 n38 c38 x39 x40 h :=
  pt_intro mixed f26.good (Eq.mpr (show (Fwd Tryd.prog f26.T f26.kp Tryd.f26 R [false, false, true, false, true, true] (mkFr [(1, (Value.pointer (some a1))), (3, (Value.string s3)), (38, (Value.slice A38 n38 c38)), (39, (Value.int .i64 x39)), (40, (Value.int .i64 x40))]) h) = (f26.l0T R a1 s3 A38 n38 c38 x39 x40 h) by kernel_rfl) H)
set_option maxRecDepth 100000 in
def f26.l1T (R : Value → Heap → Prop) (a1 : Addr) (s3 : ByteArray) (A50 : Option Addr) (n50 : Nat) (c50 : Nat) (x51 : Int) (x52 : Int) (h : Heap) : Prop :=
  splitB (decide (x52 < x51)) (ptrOk A50 fun a1_ => 0 ≤ x52 ∧ x52 < ((n50 : Nat) : Int) ∧ (∃ v2_, ldv true 8 h (Addr.add a1_ (Int.toNat x52 * 8)) = some v2_ ∧ newH h (Obj.cells #[(Value.int .i64 (0 : Int)), (Value.int .i64 (0 : Int)), (Value.string (ByteArray.mk #[])), (Value.slice none 0 0), (Value.slice none 0 0), (Value.slice none 0 0), (Value.slice none 0 0), (Value.int .i64 (0 : Int))] 59) fun h3_ => ∃ l5_ : List Value, v2_ = Value.agg l5_.toArray ∧ l5_.length = 8 ∧ ∃ h4_, stH h3_ (⟨Array.size h, 0, none⟩) l5_ 0 = some h4_ ∧ ∃ v6_, ldv true 8 h4_ (⟨Array.size h, 0, none⟩) = some v6_ ∧ Run Tryd.prog 26 #[v6_] h4_ fun v7_ h8_ => ∃ s9_, v7_ = (Value.string s9_) ∧ ByteArray.size s3 + ByteArray.size s9_ ≤ 9223372036854775807 ∧ (f26.l1 R a1 (s3 ++ s9_) A50 n50 c50 x51 (IntKind.wrap .i64 (x52 + (1 : Int))) h8_))) (∃ v10_, ldv false 1 h (Addr.add a1 6) = some v10_ ∧ ∃ A11_, ∃ n11_, ∃ c11_, v10_ = (Value.slice A11_ n11_ c11_) ∧ f26.l2 R s3 A11_ n11_ c11_ ((n11_ : Nat) : Int) (0 : Int) h)
set_option maxRecDepth 100000 in
theorem f26.l1_in {R : Value → Heap → Prop} {a1 : Addr} {s3 : ByteArray} {A50 : Option Addr} {n50 : Nat} {c50 : Nat} {x51 : Int} {x52 : Int} {h : Heap} (H : f26.l1T R a1 s3 A50 n50 c50 x51 x52 h) : f26.l1 R a1 s3 A50 n50 c50 x51 x52 h :=
  pt_intro mixed f26.good (Eq.mpr (show (Fwd Tryd.prog f26.T f26.kp Tryd.f26 R [false, false, true, false, true, true, true] (mkFr [(1, (Value.pointer (some a1))), (3, (Value.string s3)), (50, (Value.slice A50 n50 c50)), (51, (Value.int .i64 x51)), (52, (Value.int .i64 x52))]) h) = (f26.l1T R a1 s3 A50 n50 c50 x51 x52 h) by kernel_rfl) H)
set_option maxRecDepth 100000 in
def f26.l2T (R : Value → Heap → Prop) (s3 : ByteArray) (A62 : Option Addr) (n62 : Nat) (c62 : Nat) (x63 : Int) (x64 : Int) (h : Heap) : Prop :=
  splitB (decide (x64 < x63)) (ptrOk A62 fun a1_ => 0 ≤ x64 ∧ x64 < ((n62 : Nat) : Int) ∧ (∃ v2_, ldv true 12 h (Addr.add a1_ (Int.toNat x64 * 12)) = some v2_ ∧ newH h (Obj.cells #[(Value.int .i64 (0 : Int)), (Value.int .i64 (0 : Int)), (Value.string (ByteArray.mk #[])), (Value.slice none 0 0), (Value.int .i64 (0 : Int)), (Value.int .i64 (0 : Int)), (Value.string (ByteArray.mk #[])), (Value.slice none 0 0), (Value.slice none 0 0), (Value.slice none 0 0), (Value.slice none 0 0), (Value.int .i64 (0 : Int))] 104) fun h3_ => ∃ l5_ : List Value, v2_ = Value.agg l5_.toArray ∧ l5_.length = 12 ∧ ∃ h4_, stH h3_ (⟨Array.size h, 0, none⟩) l5_ 0 = some h4_ ∧ ∃ v6_, ldv true 4 h4_ (⟨Array.size h, 0, none⟩) = some v6_ ∧ (Run Tryd.prog 40 #[v6_] h4_ fun v7_ h8_ => ∃ s9_, v7_ = (Value.string s9_) ∧ ∃ v10_, ldv true 8 h8_ (Addr.add (⟨Array.size h, 0, none⟩) 4) = some v10_ ∧ Ext h8_ h8_ ∧ (Run Tryd.prog 26 #[v10_] h8_ fun v11_ h12_ => ∃ s13_, v11_ = (Value.string s13_) ∧ ByteArray.size s9_ + ByteArray.size s13_ ≤ 9223372036854775807 ∧ (ByteArray.size s3 + ByteArray.size (s9_ ++ s13_) ≤ 9223372036854775807 ∧ (f26.l2 R (s3 ++ (s9_ ++ s13_)) A62 n62 c62 x63 (IntKind.wrap .i64 (x64 + (1 : Int))) h12_)))) ∧ (∃ v14_, ldv true 8 h4_ (Addr.add (⟨Array.size h, 0, none⟩) 4) = some v14_ ∧ Ext h4_ h4_ ∧ (Run Tryd.prog 40 #[v6_] h4_ fun v15_ h16_ => ∃ s17_, v15_ = (Value.string s17_) ∧ Run Tryd.prog 26 #[v14_] h16_ fun v18_ h19_ => ∃ s20_, v18_ = (Value.string s20_) ∧ ByteArray.size s17_ + ByteArray.size s20_ ≤ 9223372036854775807 ∧ (ByteArray.size s3 + ByteArray.size (s17_ ++ s20_) ≤ 9223372036854775807 ∧ (f26.l2 R (s3 ++ (s17_ ++ s20_)) A62 n62 c62 x63 (IntKind.wrap .i64 (x64 + (1 : Int))) h19_)))))) (R (Value.string s3) h)
set_option maxRecDepth 100000 in
theorem f26.l2_in {R : Value → Heap → Prop} {s3 : ByteArray} {A62 : Option Addr} {n62 : Nat} {c62 : Nat} {x63 : Int} {x64 : Int} {h : Heap} (H : f26.l2T R s3 A62 n62 c62 x63 x64 h) : f26.l2 R s3 A62 n62 c62 x63 x64 h :=
  pt_intro mixed f26.good (Eq.mpr (show (Fwd Tryd.prog f26.T f26.kp Tryd.f26 R [false, false, true, false, true, true, true, true] (mkFr [(3, (Value.string s3)), (62, (Value.slice A62 n62 c62)), (63, (Value.int .i64 x63)), (64, (Value.int .i64 x64))]) h) = (f26.l2T R s3 A62 n62 c62 x63 x64 h) by kernel_rfl) H)
set_option maxRecDepth 100000 in
def f26.runT (R : Value → Heap → Prop) (v0 : Value) (h : Heap) : Prop :=
  newH h (Obj.cells ((v0).cells) 59) fun h1_ => ∃ v2_, ldv false 1 h1_ (⟨Array.size h, 0, none⟩) = some v2_ ∧ ∃ x3_, v2_ = (Value.int .i64 x3_) ∧ ∃ v4_, ldv false 1 h1_ (Addr.add (⟨Array.size h, 0, none⟩) 1) = some v4_ ∧ ∃ x5_, v4_ = (Value.int .i64 x5_) ∧ ∃ v6_, ldv false 1 h1_ (Addr.add (⟨Array.size h, 0, none⟩) 3) = some v6_ ∧ ∃ A7_, ∃ n7_, ∃ c7_, v6_ = (Value.slice A7_ n7_ c7_) ∧ ∃ v8_, ldv false 1 h1_ (Addr.add (⟨Array.size h, 0, none⟩) 4) = some v8_ ∧ ∃ A9_, ∃ n9_, ∃ c9_, v8_ = (Value.slice A9_ n9_ c9_) ∧ ∃ v10_, ldv false 1 h1_ (Addr.add (⟨Array.size h, 0, none⟩) 5) = some v10_ ∧ ∃ A11_, ∃ n11_, ∃ c11_, v10_ = (Value.slice A11_ n11_ c11_) ∧ ∃ v12_, ldv false 1 h1_ (Addr.add (⟨Array.size h, 0, none⟩) 6) = some v12_ ∧ ∃ A13_, ∃ n13_, ∃ c13_, v12_ = (Value.slice A13_ n13_ c13_) ∧ ∃ v14_, ldv false 1 h1_ (Addr.add (⟨Array.size h, 0, none⟩) 2) = some v14_ ∧ ∃ s15_, v14_ = (Value.string s15_) ∧ ∃ v16_, ldv false 1 h1_ (Addr.add (⟨Array.size h, 0, none⟩) 3) = some v16_ ∧ ∃ A17_, ∃ n17_, ∃ c17_, v16_ = (Value.slice A17_ n17_ c17_) ∧ (newH h1_ (Obj.cells #[(Value.int .i64 x3_), (Value.int .i64 x5_), (Value.int .i64 ((n7_ : Nat) : Int)), (Value.int .i64 ((n9_ : Nat) : Int)), (Value.int .i64 ((n11_ : Nat) : Int)), (Value.int .i64 ((n13_ : Nat) : Int))] 3) fun h18_ => Ext h1_ h18_ ∧ ((Run Tryd.prog 21 #[(Value.slice (some ⟨Array.size h1_, 0, none⟩) 6 6)] h18_ fun v19_ h20_ => ∃ s21_, v19_ = (Value.string s21_) ∧ Ext h18_ h20_ ∧ (newH h20_ (Obj.cells #[(Value.string s15_)] 9) fun h22_ => Ext h20_ h22_ ∧ (Run Tryd.prog 20 #[(Value.slice (some ⟨Array.size h20_, 0, none⟩) 1 1)] h22_ fun v23_ h24_ => ∃ s25_, v23_ = (Value.string s25_) ∧ Ext h22_ h24_ ∧ (ByteArray.size s21_ + ByteArray.size s25_ ≤ 9223372036854775807 ∧ (Run Tryd.prog 20 #[(Value.slice A17_ n17_ c17_)] h24_ fun v26_ h27_ => ∃ s28_, v26_ = (Value.string s28_) ∧ ByteArray.size (s21_ ++ s25_) + ByteArray.size s28_ ≤ 9223372036854775807 ∧ (f26.j0 R (⟨Array.size h, 0, none⟩) ((s21_ ++ s25_) ++ s28_) h27_)))))) ∧ (newH h18_ (Obj.cells #[(Value.string s15_)] 9) fun h29_ => Ext h18_ h29_ ∧ (Run Tryd.prog 21 #[(Value.slice (some ⟨Array.size h1_, 0, none⟩) 6 6)] h29_ fun v30_ h31_ => ∃ s32_, v30_ = (Value.string s32_) ∧ Ext h29_ h31_ ∧ (Run Tryd.prog 20 #[(Value.slice (some ⟨Array.size h18_, 0, none⟩) 1 1)] h31_ fun v33_ h34_ => ∃ s35_, v33_ = (Value.string s35_) ∧ Ext h31_ h34_ ∧ (ByteArray.size s32_ + ByteArray.size s35_ ≤ 9223372036854775807 ∧ (Run Tryd.prog 20 #[(Value.slice A17_ n17_ c17_)] h34_ fun v36_ h37_ => ∃ s38_, v36_ = (Value.string s38_) ∧ ByteArray.size (s32_ ++ s35_) + ByteArray.size s38_ ≤ 9223372036854775807 ∧ (f26.j0 R (⟨Array.size h, 0, none⟩) ((s32_ ++ s35_) ++ s38_) h37_)))))))) ∧ (newH h1_ (Obj.cells #[(Value.string s15_)] 9) fun h39_ => Ext h1_ h39_ ∧ (newH h39_ (Obj.cells #[(Value.int .i64 x3_), (Value.int .i64 x5_), (Value.int .i64 ((n7_ : Nat) : Int)), (Value.int .i64 ((n9_ : Nat) : Int)), (Value.int .i64 ((n11_ : Nat) : Int)), (Value.int .i64 ((n13_ : Nat) : Int))] 3) fun h40_ => Ext h39_ h40_ ∧ (Run Tryd.prog 21 #[(Value.slice (some ⟨Array.size h39_, 0, none⟩) 6 6)] h40_ fun v41_ h42_ => ∃ s43_, v41_ = (Value.string s43_) ∧ Ext h40_ h42_ ∧ (Run Tryd.prog 20 #[(Value.slice (some ⟨Array.size h1_, 0, none⟩) 1 1)] h42_ fun v44_ h45_ => ∃ s46_, v44_ = (Value.string s46_) ∧ Ext h42_ h45_ ∧ (ByteArray.size s43_ + ByteArray.size s46_ ≤ 9223372036854775807 ∧ (Run Tryd.prog 20 #[(Value.slice A17_ n17_ c17_)] h45_ fun v47_ h48_ => ∃ s49_, v47_ = (Value.string s49_) ∧ ByteArray.size (s43_ ++ s46_) + ByteArray.size s49_ ≤ 9223372036854775807 ∧ (f26.j0 R (⟨Array.size h, 0, none⟩) ((s43_ ++ s46_) ++ s49_) h48_)))))))
set_option maxRecDepth 100000 in
theorem f26.run {R : Value → Heap → Prop} {v0 : Value} {h : Heap} (H : f26.runT R v0 h) : Run Tryd.prog 26 #[v0] h R :=
  run_of mixed Tryd.func26 (by kernel_rfl) (by kernel_rfl) f26.good (Eq.mpr (show (Fwd Tryd.prog f26.T f26.kp Tryd.f26 R [] (mkFr (argL [v0] 0)) h) = (f26.runT R v0 h) by kernel_rfl) H)
def f24.T : Tab := { sh := tSh, tup := tTup, keep := [], plan := [(5, (.take 0 (.take 1 (.take 5 (.take 9 (.take 13 (.take 17 (.take 21 (.take 2 (.take 6 (.take 10 (.take 14 (.take 18 (.take 22 (.eff true 3 (.eff true 4 (.eff true 7 (.take 8 (.eff true 11 (.take 12 (.eff true 15 (.take 16 (.eff true 19 (.take 20 (.eff false 23 (.take 24 (.take 25 (.take 26 .done))))))))))))))))))))))))))))] }
def f24.kp : Keep := [([false, false, true, false, true, true], [3, 10, 11, 12])]
theorem f24.good : goodCode Tryd.prog f24.T (rootOf Tryd.f24) = true := by kernel_rfl
def f24.l0 (R : Value → Heap → Prop) (s3 : ByteArray) (A10 : Option Addr) (n10 : Nat) (c10 : Nat) (x11 : Int) (x12 : Int) (h : Heap) : Prop := Pt Tryd.prog Tryd.f24 R [false, false, true, false, true, true] (mkFr [(3, (Value.string s3)), (10, (Value.slice A10 n10 c10)), (11, (Value.int .i64 x11)), (12, (Value.int .i64 x12))]) h
set_option maxRecDepth 100000 in
def f24.l0T (R : Value → Heap → Prop) (s3 : ByteArray) (A10 : Option Addr) (n10 : Nat) (c10 : Nat) (x11 : Int) (x12 : Int) (h : Heap) : Prop :=
  splitB (decide (x12 < x11)) (ptrOk A10 fun a1_ => 0 ≤ x12 ∧ x12 < ((n10 : Nat) : Int) ∧ (∃ v2_, ldv true 15 h (Addr.add a1_ (Int.toNat x12 * 15)) = some v2_ ∧ newH h (Obj.cells #[(Value.string (ByteArray.mk #[])), (Value.slice none 0 0), (Value.slice none 0 0), (Value.slice none 0 0), (Value.int .i64 (0 : Int)), (Value.string (ByteArray.mk #[])), (Value.slice none 0 0), (Value.int .i64 (0 : Int)), (Value.int .i64 (0 : Int)), (Value.string (ByteArray.mk #[])), (Value.slice none 0 0), (Value.slice none 0 0), (Value.slice none 0 0), (Value.slice none 0 0), (Value.int .i64 (0 : Int))] 61) fun h3_ => ∃ l5_ : List Value, v2_ = Value.agg l5_.toArray ∧ l5_.length = 15 ∧ ∃ h4_, stH h3_ (⟨Array.size h, 0, none⟩) l5_ 0 = some h4_ ∧ ∃ v6_, ldv false 1 h4_ (⟨Array.size h, 0, none⟩) = some v6_ ∧ ∃ s7_, v6_ = (Value.string s7_) ∧ ∃ v8_, ldv false 1 h4_ (Addr.add (⟨Array.size h, 0, none⟩) 1) = some v8_ ∧ ∃ A9_, ∃ n9_, ∃ c9_, v8_ = (Value.slice A9_ n9_ c9_) ∧ ∃ v10_, ldv false 1 h4_ (Addr.add (⟨Array.size h, 0, none⟩) 2) = some v10_ ∧ ∃ A11_, ∃ n11_, ∃ c11_, v10_ = (Value.slice A11_ n11_ c11_) ∧ ∃ v12_, ldv false 1 h4_ (Addr.add (⟨Array.size h, 0, none⟩) 3) = some v12_ ∧ ∃ A13_, ∃ n13_, ∃ c13_, v12_ = (Value.slice A13_ n13_ c13_) ∧ ∃ v14_, ldv true 3 h4_ (Addr.add (⟨Array.size h, 0, none⟩) 4) = some v14_ ∧ ∃ v15_, ldv true 8 h4_ (Addr.add (⟨Array.size h, 0, none⟩) 7) = some v15_ ∧ newH h4_ (Obj.cells #[(Value.string s7_)] 9) fun h16_ => Ext h4_ h16_ ∧ (Run Tryd.prog 20 #[(Value.slice (some ⟨Array.size h4_, 0, none⟩) 1 1)] h16_ fun v17_ h18_ => ∃ s19_, v17_ = (Value.string s19_) ∧ Ext h16_ h18_ ∧ (Run Tryd.prog 22 #[(Value.slice A9_ n9_ c9_)] h18_ fun v20_ h21_ => ∃ s22_, v20_ = (Value.string s22_) ∧ Ext h18_ h21_ ∧ (ByteArray.size s19_ + ByteArray.size s22_ ≤ 9223372036854775807 ∧ (Run Tryd.prog 22 #[(Value.slice A11_ n11_ c11_)] h21_ fun v23_ h24_ => ∃ s25_, v23_ = (Value.string s25_) ∧ Ext h21_ h24_ ∧ (ByteArray.size (s19_ ++ s22_) + ByteArray.size s25_ ≤ 9223372036854775807 ∧ (Run Tryd.prog 23 #[(Value.slice A13_ n13_ c13_)] h24_ fun v26_ h27_ => ∃ s28_, v26_ = (Value.string s28_) ∧ Ext h24_ h27_ ∧ (ByteArray.size ((s19_ ++ s22_) ++ s25_) + ByteArray.size s28_ ≤ 9223372036854775807 ∧ (Run Tryd.prog 25 #[v14_] h27_ fun v29_ h30_ => ∃ s31_, v29_ = (Value.string s31_) ∧ Ext h27_ h30_ ∧ (ByteArray.size (((s19_ ++ s22_) ++ s25_) ++ s28_) + ByteArray.size s31_ ≤ 9223372036854775807 ∧ (Run Tryd.prog 26 #[v15_] h30_ fun v32_ h33_ => ∃ s34_, v32_ = (Value.string s34_) ∧ ByteArray.size ((((s19_ ++ s22_) ++ s25_) ++ s28_) ++ s31_) + ByteArray.size s34_ ≤ 9223372036854775807 ∧ (ByteArray.size s3 + ByteArray.size (((((s19_ ++ s22_) ++ s25_) ++ s28_) ++ s31_) ++ s34_) ≤ 9223372036854775807 ∧ (f24.l0 R (s3 ++ (((((s19_ ++ s22_) ++ s25_) ++ s28_) ++ s31_) ++ s34_)) A10 n10 c10 x11 (IntKind.wrap .i64 (x12 + (1 : Int))) h33_)))))))))))))) (R (Value.string s3) h)
set_option maxRecDepth 100000 in
theorem f24.l0_in {R : Value → Heap → Prop} {s3 : ByteArray} {A10 : Option Addr} {n10 : Nat} {c10 : Nat} {x11 : Int} {x12 : Int} {h : Heap} (H : f24.l0T R s3 A10 n10 c10 x11 x12 h) : f24.l0 R s3 A10 n10 c10 x11 x12 h :=
  pt_intro mixed f24.good (Eq.mpr (show (Fwd Tryd.prog f24.T f24.kp Tryd.f24 R [false, false, true, false, true, true] (mkFr [(3, (Value.string s3)), (10, (Value.slice A10 n10 c10)), (11, (Value.int .i64 x11)), (12, (Value.int .i64 x12))]) h) = (f24.l0T R s3 A10 n10 c10 x11 x12 h) by kernel_rfl) H)
set_option maxRecDepth 100000 in
def f24.runT (R : Value → Heap → Prop) (A0 : Option Addr) (n0 : Nat) (c0 : Nat) (h : Heap) : Prop :=
  newH h (Obj.cells #[(Value.int .i64 ((n0 : Nat) : Int))] 3) fun h1_ => Run Tryd.prog 21 #[(Value.slice (some ⟨Array.size h, 0, none⟩) 1 1)] h1_ fun v2_ h3_ => ∃ s4_, v2_ = (Value.string s4_) ∧ f24.l0 R s4_ A0 n0 c0 ((n0 : Nat) : Int) (0 : Int) h3_
set_option maxRecDepth 100000 in
theorem f24.run {R : Value → Heap → Prop} {A0 : Option Addr} {n0 : Nat} {c0 : Nat} {h : Heap} (H : f24.runT R A0 n0 c0 h) : Run Tryd.prog 24 #[(Value.slice A0 n0 c0)] h R :=
  run_of mixed Tryd.func24 (by kernel_rfl) (by kernel_rfl) f24.good (Eq.mpr (show (Fwd Tryd.prog f24.T f24.kp Tryd.f24 R [] (mkFr (argL [(Value.slice A0 n0 c0)] 0)) h) = (f24.runT R A0 n0 c0 h) by kernel_rfl) H)
def f6.T : Tab := { sh := tSh, tup := tTup, keep := [], plan := [(1, (.take 0 (.take 4 (.take 6 (.take 9 (.take 12 (.take 15 (.take 18 (.take 1 (.take 5 (.take 7 (.take 8 (.take 10 (.take 11 (.take 13 (.take 14 (.take 16 (.take 17 (.take 19 (.take 20 (.alt true 2 (.alt true 3 (.eff true 21 (.eff false 22 (.take 23 (.take 24 .done)))) (.eff true 21 (.eff true 3 (.eff false 22 (.take 23 (.take 24 .done)))))) (.eff true 21 (.eff true 2 (.eff true 3 (.eff false 22 (.take 23 (.take 24 .done))))))))))))))))))))))))))), (5, (.take 0 (.take 1 (.take 5 (.take 7 (.take 2 (.take 6 (.take 8 (.alt true 3 (.alt true 4 (.eff true 9 (.eff false 10 (.take 11 (.take 12 (.take 13 .done))))) (.eff true 9 (.eff true 4 (.eff false 10 (.take 11 (.take 12 (.take 13 .done))))))) (.eff true 9 (.eff true 3 (.eff true 4 (.eff false 10 (.take 11 (.take 12 (.take 13 .done)))))))))))))))), (10, (.take 0 (.take 1 (.take 5 (.take 11 (.take 2 (.take 6 (.take 7 (.take 12 (.alt true 3 (.alt true 4 (.eff true 8 (.eff true 9 (.take 10 (.eff false 13 (.take 14 (.take 15 (.take 16 .done))))))) (.eff true 8 (.eff true 4 (.eff true 9 (.take 10 (.eff false 13 (.take 14 (.take 15 (.take 16 .done))))))))) (.eff true 8 (.eff true 3 (.eff true 4 (.eff true 9 (.take 10 (.eff false 13 (.take 14 (.take 15 (.take 16 .done))))))))))))))))))), (14, (.take 0 (.take 1 (.take 5 (.take 2 (.alt false 3 (.alt false 4 (.eff true 6 (.eff false 7 (.take 8 (.take 9 (.take 10 .done))))) (.eff true 6 (.eff false 4 (.eff false 7 (.take 8 (.take 9 (.take 10 .done))))))) (.eff true 6 (.eff false 3 (.eff false 4 (.eff false 7 (.take 8 (.take 9 (.take 10 .done))))))))))))), (20, (.take 0 (.take 1 (.take 5 (.take 2 (.alt false 3 (.alt false 4 (.eff true 6 (.eff false 7 (.take 8 (.take 9 (.take 10 .done))))) (.eff true 6 (.eff false 4 (.eff false 7 (.take 8 (.take 9 (.take 10 .done))))))) (.eff true 6 (.eff false 3 (.eff false 4 (.eff false 7 (.take 8 (.take 9 (.take 10 .done))))))))))))), (25, (.take 0 (.take 1 (.take 3 (.take 7 (.take 2 (.take 4 (.alt false 5 (.alt false 6 (.eff true 8 (.eff false 9 (.take 10 (.take 11 (.take 12 .done))))) (.eff true 8 (.eff false 6 (.eff false 9 (.take 10 (.take 11 (.take 12 .done))))))) (.eff true 8 (.eff false 5 (.eff false 6 (.eff false 9 (.take 10 (.take 11 (.take 12 .done))))))))))))))), (31, (.take 0 (.take 1 (.take 5 (.take 9 (.take 13 (.take 17 (.take 2 (.take 6 (.take 10 (.take 14 (.take 18 (.eff true 3 (.eff true 4 (.eff true 7 (.take 8 (.eff true 11 (.take 12 (.eff true 15 (.take 16 (.eff false 19 (.take 20 (.take 21 (.take 22 .done))))))))))))))))))))))))] }
def f6.kp : Keep := [([true, true], [1, 3]), ([false, false, true, false, true, true], [1, 3, 41, 42, 43]), ([false, false, true, false, true, true, true], [1, 3, 62, 63, 64]), ([true, true, false, false, true, true, false, false, true, false, true, true, true], [1, 3, 7, 62, 63, 64]), ([false, false, true, true, true, false, false, true, true, false, false, true, false, true, true, true], [1, 3, 62, 63, 64, 85, 86, 87]), ([false, false, true, false, true, true, true, true], [1, 3, 104, 105, 106]), ([false, false, true, false, true, true, true, true, true], [1, 3, 122, 123, 124]), ([false, false, true, false, true, true, true, true, true, true, true], [3, 147, 148, 149])]
theorem f6.good : goodCode Tryd.prog f6.T (rootOf Tryd.f6) = true := by kernel_rfl
def f6.j0 (R : Value → Heap → Prop) (a1 : Addr) (s3 : ByteArray) (h : Heap) : Prop := Pt Tryd.prog Tryd.f6 R [true, true] (mkFr [(1, (Value.pointer (some a1))), (3, (Value.string s3))]) h
def f6.l0 (R : Value → Heap → Prop) (a1 : Addr) (s3 : ByteArray) (A41 : Option Addr) (n41 : Nat) (c41 : Nat) (x42 : Int) (x43 : Int) (h : Heap) : Prop := Pt Tryd.prog Tryd.f6 R [false, false, true, false, true, true] (mkFr [(1, (Value.pointer (some a1))), (3, (Value.string s3)), (41, (Value.slice A41 n41 c41)), (42, (Value.int .i64 x42)), (43, (Value.int .i64 x43))]) h
def f6.l1 (R : Value → Heap → Prop) (a1 : Addr) (s3 : ByteArray) (A62 : Option Addr) (n62 : Nat) (c62 : Nat) (x63 : Int) (x64 : Int) (h : Heap) : Prop := Pt Tryd.prog Tryd.f6 R [false, false, true, false, true, true, true] (mkFr [(1, (Value.pointer (some a1))), (3, (Value.string s3)), (62, (Value.slice A62 n62 c62)), (63, (Value.int .i64 x63)), (64, (Value.int .i64 x64))]) h
def f6.j1 (R : Value → Heap → Prop) (a1 : Addr) (s3 : ByteArray) (a7 : Addr) (A62 : Option Addr) (n62 : Nat) (c62 : Nat) (x63 : Int) (x64 : Int) (h : Heap) : Prop := Pt Tryd.prog Tryd.f6 R [true, true, false, false, true, true, false, false, true, false, true, true, true] (mkFr [(1, (Value.pointer (some a1))), (3, (Value.string s3)), (7, (Value.pointer (some a7))), (62, (Value.slice A62 n62 c62)), (63, (Value.int .i64 x63)), (64, (Value.int .i64 x64))]) h
def f6.l2 (R : Value → Heap → Prop) (a1 : Addr) (s3 : ByteArray) (A104 : Option Addr) (n104 : Nat) (c104 : Nat) (x105 : Int) (x106 : Int) (h : Heap) : Prop := Pt Tryd.prog Tryd.f6 R [false, false, true, false, true, true, true, true] (mkFr [(1, (Value.pointer (some a1))), (3, (Value.string s3)), (104, (Value.slice A104 n104 c104)), (105, (Value.int .i64 x105)), (106, (Value.int .i64 x106))]) h
def f6.l5 (R : Value → Heap → Prop) (a1 : Addr) (s3 : ByteArray) (A62 : Option Addr) (n62 : Nat) (c62 : Nat) (x63 : Int) (x64 : Int) (A85 : Option Addr) (n85 : Nat) (c85 : Nat) (x86 : Int) (x87 : Int) (h : Heap) : Prop := Pt Tryd.prog Tryd.f6 R [false, false, true, true, true, false, false, true, true, false, false, true, false, true, true, true] (mkFr [(1, (Value.pointer (some a1))), (3, (Value.string s3)), (62, (Value.slice A62 n62 c62)), (63, (Value.int .i64 x63)), (64, (Value.int .i64 x64)), (85, (Value.slice A85 n85 c85)), (86, (Value.int .i64 x86)), (87, (Value.int .i64 x87))]) h
def f6.l3 (R : Value → Heap → Prop) (a1 : Addr) (s3 : ByteArray) (A122 : Option Addr) (n122 : Nat) (c122 : Nat) (x123 : Int) (x124 : Int) (h : Heap) : Prop := Pt Tryd.prog Tryd.f6 R [false, false, true, false, true, true, true, true, true] (mkFr [(1, (Value.pointer (some a1))), (3, (Value.string s3)), (122, (Value.slice A122 n122 c122)), (123, (Value.int .i64 x123)), (124, (Value.int .i64 x124))]) h
def f6.l4 (R : Value → Heap → Prop) (s3 : ByteArray) (A147 : Option Addr) (n147 : Nat) (c147 : Nat) (x148 : Int) (x149 : Int) (h : Heap) : Prop := Pt Tryd.prog Tryd.f6 R [false, false, true, false, true, true, true, true, true, true, true] (mkFr [(3, (Value.string s3)), (147, (Value.slice A147 n147 c147)), (148, (Value.int .i64 x148)), (149, (Value.int .i64 x149))]) h
set_option maxRecDepth 100000 in
def f6.j0T (R : Value → Heap → Prop) (a1 : Addr) (s3 : ByteArray) (h : Heap) : Prop :=
  ∃ v1_, ldv false 1 h (Addr.add a1 2) = some v1_ ∧ ∃ A2_, ∃ n2_, ∃ c2_, v1_ = (Value.slice A2_ n2_ c2_) ∧ f6.l0 R a1 s3 A2_ n2_ c2_ ((n2_ : Nat) : Int) (0 : Int) h
set_option maxRecDepth 100000 in
theorem f6.j0_in {R : Value → Heap → Prop} {a1 : Addr} {s3 : ByteArray} {h : Heap} (H : f6.j0T R a1 s3 h) : f6.j0 R a1 s3 h :=
  pt_intro mixed f6.good (Eq.mpr (show (Fwd Tryd.prog f6.T f6.kp Tryd.f6 R [true, true] (mkFr [(1, (Value.pointer (some a1))), (3, (Value.string s3))]) h) = (f6.j0T R a1 s3 h) by kernel_rfl) H)
set_option maxRecDepth 100000 in
def f6.l0T (R : Value → Heap → Prop) (a1 : Addr) (s3 : ByteArray) (A41 : Option Addr) (n41 : Nat) (c41 : Nat) (x42 : Int) (x43 : Int) (h : Heap) : Prop :=
  splitB (decide (x43 < x42)) (ptrOk A41 fun a1_ => 0 ≤ x43 ∧ x43 < ((n41 : Nat) : Int) ∧ (∃ v2_, ldv true 3 h (Addr.add a1_ (Int.toNat x43 * 3)) = some v2_ ∧ newH h (Obj.cells #[(Value.string (ByteArray.mk #[])), (Value.int .i64 (0 : Int)), (Value.int .i64 (0 : Int))] 36) fun h3_ => ∃ l5_ : List Value, v2_ = Value.agg l5_.toArray ∧ l5_.length = 3 ∧ ∃ h4_, stH h3_ (⟨Array.size h, 0, none⟩) l5_ 0 = some h4_ ∧ ∃ v6_, ldv false 1 h4_ (⟨Array.size h, 0, none⟩) = some v6_ ∧ ∃ s7_, v6_ = (Value.string s7_) ∧ ∃ v8_, ldv false 1 h4_ (Addr.add (⟨Array.size h, 0, none⟩) 1) = some v8_ ∧ ∃ x9_, v8_ = (Value.int .i64 x9_) ∧ ∃ v10_, ldv false 1 h4_ (Addr.add (⟨Array.size h, 0, none⟩) 2) = some v10_ ∧ ∃ x11_, v10_ = (Value.int .i64 x11_) ∧ (newH h4_ (Obj.cells #[(Value.string s7_)] 9) fun h12_ => Ext h4_ h12_ ∧ ((Run Tryd.prog 20 #[(Value.slice (some ⟨Array.size h4_, 0, none⟩) 1 1)] h12_ fun v13_ h14_ => ∃ s15_, v13_ = (Value.string s15_) ∧ Ext h12_ h14_ ∧ (newH h14_ (Obj.cells #[(Value.int .i64 x9_), (Value.int .i64 x11_)] 3) fun h16_ => Ext h14_ h16_ ∧ (Run Tryd.prog 21 #[(Value.slice (some ⟨Array.size h14_, 0, none⟩) 2 2)] h16_ fun v17_ h18_ => ∃ s19_, v17_ = (Value.string s19_) ∧ ByteArray.size s15_ + ByteArray.size s19_ ≤ 9223372036854775807 ∧ (ByteArray.size s3 + ByteArray.size (s15_ ++ s19_) ≤ 9223372036854775807 ∧ (f6.l0 R a1 (s3 ++ (s15_ ++ s19_)) A41 n41 c41 x42 (IntKind.wrap .i64 (x43 + (1 : Int))) h18_))))) ∧ (newH h12_ (Obj.cells #[(Value.int .i64 x9_), (Value.int .i64 x11_)] 3) fun h20_ => Ext h12_ h20_ ∧ (Run Tryd.prog 20 #[(Value.slice (some ⟨Array.size h4_, 0, none⟩) 1 1)] h20_ fun v21_ h22_ => ∃ s23_, v21_ = (Value.string s23_) ∧ Ext h20_ h22_ ∧ (Run Tryd.prog 21 #[(Value.slice (some ⟨Array.size h12_, 0, none⟩) 2 2)] h22_ fun v24_ h25_ => ∃ s26_, v24_ = (Value.string s26_) ∧ ByteArray.size s23_ + ByteArray.size s26_ ≤ 9223372036854775807 ∧ (ByteArray.size s3 + ByteArray.size (s23_ ++ s26_) ≤ 9223372036854775807 ∧ (f6.l0 R a1 (s3 ++ (s23_ ++ s26_)) A41 n41 c41 x42 (IntKind.wrap .i64 (x43 + (1 : Int))) h25_))))))) ∧ (newH h4_ (Obj.cells #[(Value.int .i64 x9_), (Value.int .i64 x11_)] 3) fun h27_ => Ext h4_ h27_ ∧ (newH h27_ (Obj.cells #[(Value.string s7_)] 9) fun h28_ => Ext h27_ h28_ ∧ (Run Tryd.prog 20 #[(Value.slice (some ⟨Array.size h27_, 0, none⟩) 1 1)] h28_ fun v29_ h30_ => ∃ s31_, v29_ = (Value.string s31_) ∧ Ext h28_ h30_ ∧ (Run Tryd.prog 21 #[(Value.slice (some ⟨Array.size h4_, 0, none⟩) 2 2)] h30_ fun v32_ h33_ => ∃ s34_, v32_ = (Value.string s34_) ∧ ByteArray.size s31_ + ByteArray.size s34_ ≤ 9223372036854775807 ∧ (ByteArray.size s3 + ByteArray.size (s31_ ++ s34_) ≤ 9223372036854775807 ∧ (f6.l0 R a1 (s3 ++ (s31_ ++ s34_)) A41 n41 c41 x42 (IntKind.wrap .i64 (x43 + (1 : Int))) h33_)))))))) (∃ v35_, ldv false 1 h (Addr.add a1 3) = some v35_ ∧ ∃ A36_, ∃ n36_, ∃ c36_, v35_ = (Value.slice A36_ n36_ c36_) ∧ f6.l1 R a1 s3 A36_ n36_ c36_ ((n36_ : Nat) : Int) (0 : Int) h)
set_option maxRecDepth 100000 in
theorem f6.l0_in {R : Value → Heap → Prop} {a1 : Addr} {s3 : ByteArray} {A41 : Option Addr} {n41 : Nat} {c41 : Nat} {x42 : Int} {x43 : Int} {h : Heap} (H : f6.l0T R a1 s3 A41 n41 c41 x42 x43 h) : f6.l0 R a1 s3 A41 n41 c41 x42 x43 h :=
  pt_intro mixed f6.good (Eq.mpr (show (Fwd Tryd.prog f6.T f6.kp Tryd.f6 R [false, false, true, false, true, true] (mkFr [(1, (Value.pointer (some a1))), (3, (Value.string s3)), (41, (Value.slice A41 n41 c41)), (42, (Value.int .i64 x42)), (43, (Value.int .i64 x43))]) h) = (f6.l0T R a1 s3 A41 n41 c41 x42 x43 h) by kernel_rfl) H)
set_option maxRecDepth 100000 in
def f6.l1T (R : Value → Heap → Prop) (a1 : Addr) (s3 : ByteArray) (A62 : Option Addr) (n62 : Nat) (c62 : Nat) (x63 : Int) (x64 : Int) (h : Heap) : Prop :=
  splitB (decide (x64 < x63)) (ptrOk A62 fun a1_ => 0 ≤ x64 ∧ x64 < ((n62 : Nat) : Int) ∧ (∃ v2_, ldv true 3 h (Addr.add a1_ (Int.toNat x64 * 3)) = some v2_ ∧ newH h (Obj.cells #[(Value.string (ByteArray.mk #[])), (Value.slice none 0 0), (Value.slice none 0 0)] 45) fun h3_ => ∃ l5_ : List Value, v2_ = Value.agg l5_.toArray ∧ l5_.length = 3 ∧ ∃ h4_, stH h3_ (⟨Array.size h, 0, none⟩) l5_ 0 = some h4_ ∧ ∃ v6_, ldv false 1 h4_ (⟨Array.size h, 0, none⟩) = some v6_ ∧ ∃ s7_, v6_ = (Value.string s7_) ∧ ∃ v8_, ldv false 1 h4_ (Addr.add (⟨Array.size h, 0, none⟩) 2) = some v8_ ∧ ∃ A9_, ∃ n9_, ∃ c9_, v8_ = (Value.slice A9_ n9_ c9_) ∧ ∃ v10_, ldv false 1 h4_ (Addr.add (⟨Array.size h, 0, none⟩) 1) = some v10_ ∧ ∃ A11_, ∃ n11_, ∃ c11_, v10_ = (Value.slice A11_ n11_ c11_) ∧ (newH h4_ (Obj.cells #[(Value.string s7_)] 9) fun h12_ => Ext h4_ h12_ ∧ ((Run Tryd.prog 20 #[(Value.slice (some ⟨Array.size h4_, 0, none⟩) 1 1)] h12_ fun v13_ h14_ => ∃ s15_, v13_ = (Value.string s15_) ∧ Ext h12_ h14_ ∧ (newH h14_ (Obj.cells #[(Value.int .i64 ((n9_ : Nat) : Int))] 3) fun h16_ => Ext h14_ h16_ ∧ (Run Tryd.prog 21 #[(Value.slice (some ⟨Array.size h14_, 0, none⟩) 1 1)] h16_ fun v17_ h18_ => ∃ s19_, v17_ = (Value.string s19_) ∧ Ext h16_ h18_ ∧ (ByteArray.size s15_ + ByteArray.size s19_ ≤ 9223372036854775807 ∧ (Run Tryd.prog 22 #[(Value.slice A11_ n11_ c11_)] h18_ fun v20_ h21_ => ∃ s22_, v20_ = (Value.string s22_) ∧ ByteArray.size (s15_ ++ s19_) + ByteArray.size s22_ ≤ 9223372036854775807 ∧ (ByteArray.size s3 + ByteArray.size ((s15_ ++ s19_) ++ s22_) ≤ 9223372036854775807 ∧ (f6.j1 R a1 (s3 ++ ((s15_ ++ s19_) ++ s22_)) (⟨Array.size h, 0, none⟩) A62 n62 c62 x63 x64 h21_))))))) ∧ (newH h12_ (Obj.cells #[(Value.int .i64 ((n9_ : Nat) : Int))] 3) fun h23_ => Ext h12_ h23_ ∧ (Run Tryd.prog 20 #[(Value.slice (some ⟨Array.size h4_, 0, none⟩) 1 1)] h23_ fun v24_ h25_ => ∃ s26_, v24_ = (Value.string s26_) ∧ Ext h23_ h25_ ∧ (Run Tryd.prog 21 #[(Value.slice (some ⟨Array.size h12_, 0, none⟩) 1 1)] h25_ fun v27_ h28_ => ∃ s29_, v27_ = (Value.string s29_) ∧ Ext h25_ h28_ ∧ (ByteArray.size s26_ + ByteArray.size s29_ ≤ 9223372036854775807 ∧ (Run Tryd.prog 22 #[(Value.slice A11_ n11_ c11_)] h28_ fun v30_ h31_ => ∃ s32_, v30_ = (Value.string s32_) ∧ ByteArray.size (s26_ ++ s29_) + ByteArray.size s32_ ≤ 9223372036854775807 ∧ (ByteArray.size s3 + ByteArray.size ((s26_ ++ s29_) ++ s32_) ≤ 9223372036854775807 ∧ (f6.j1 R a1 (s3 ++ ((s26_ ++ s29_) ++ s32_)) (⟨Array.size h, 0, none⟩) A62 n62 c62 x63 x64 h31_))))))))) ∧ (newH h4_ (Obj.cells #[(Value.int .i64 ((n9_ : Nat) : Int))] 3) fun h33_ => Ext h4_ h33_ ∧ (newH h33_ (Obj.cells #[(Value.string s7_)] 9) fun h34_ => Ext h33_ h34_ ∧ (Run Tryd.prog 20 #[(Value.slice (some ⟨Array.size h33_, 0, none⟩) 1 1)] h34_ fun v35_ h36_ => ∃ s37_, v35_ = (Value.string s37_) ∧ Ext h34_ h36_ ∧ (Run Tryd.prog 21 #[(Value.slice (some ⟨Array.size h4_, 0, none⟩) 1 1)] h36_ fun v38_ h39_ => ∃ s40_, v38_ = (Value.string s40_) ∧ Ext h36_ h39_ ∧ (ByteArray.size s37_ + ByteArray.size s40_ ≤ 9223372036854775807 ∧ (Run Tryd.prog 22 #[(Value.slice A11_ n11_ c11_)] h39_ fun v41_ h42_ => ∃ s43_, v41_ = (Value.string s43_) ∧ ByteArray.size (s37_ ++ s40_) + ByteArray.size s43_ ≤ 9223372036854775807 ∧ (ByteArray.size s3 + ByteArray.size ((s37_ ++ s40_) ++ s43_) ≤ 9223372036854775807 ∧ (f6.j1 R a1 (s3 ++ ((s37_ ++ s40_) ++ s43_)) (⟨Array.size h, 0, none⟩) A62 n62 c62 x63 x64 h42_)))))))))) (∃ v44_, ldv false 1 h (Addr.add a1 4) = some v44_ ∧ ∃ A45_, ∃ n45_, ∃ c45_, v44_ = (Value.slice A45_ n45_ c45_) ∧ f6.l2 R a1 s3 A45_ n45_ c45_ ((n45_ : Nat) : Int) (0 : Int) h)
set_option maxRecDepth 100000 in
theorem f6.l1_in {R : Value → Heap → Prop} {a1 : Addr} {s3 : ByteArray} {A62 : Option Addr} {n62 : Nat} {c62 : Nat} {x63 : Int} {x64 : Int} {h : Heap} (H : f6.l1T R a1 s3 A62 n62 c62 x63 x64 h) : f6.l1 R a1 s3 A62 n62 c62 x63 x64 h :=
  pt_intro mixed f6.good (Eq.mpr (show (Fwd Tryd.prog f6.T f6.kp Tryd.f6 R [false, false, true, false, true, true, true] (mkFr [(1, (Value.pointer (some a1))), (3, (Value.string s3)), (62, (Value.slice A62 n62 c62)), (63, (Value.int .i64 x63)), (64, (Value.int .i64 x64))]) h) = (f6.l1T R a1 s3 A62 n62 c62 x63 x64 h) by kernel_rfl) H)
set_option maxRecDepth 100000 in
def f6.j1T (R : Value → Heap → Prop) (a1 : Addr) (s3 : ByteArray) (a7 : Addr) (A62 : Option Addr) (n62 : Nat) (c62 : Nat) (x63 : Int) (x64 : Int) (h : Heap) : Prop :=
  ∃ v1_, ldv false 1 h (Addr.add a7 2) = some v1_ ∧ ∃ A2_, ∃ n2_, ∃ c2_, v1_ = (Value.slice A2_ n2_ c2_) ∧ f6.l5 R a1 s3 A62 n62 c62 x63 x64 A2_ n2_ c2_ ((n2_ : Nat) : Int) (0 : Int) h
set_option maxRecDepth 100000 in
theorem f6.j1_in {R : Value → Heap → Prop} {a1 : Addr} {s3 : ByteArray} {a7 : Addr} {A62 : Option Addr} {n62 : Nat} {c62 : Nat} {x63 : Int} {x64 : Int} {h : Heap} (H : f6.j1T R a1 s3 a7 A62 n62 c62 x63 x64 h) : f6.j1 R a1 s3 a7 A62 n62 c62 x63 x64 h :=
  pt_intro mixed f6.good (Eq.mpr (show (Fwd Tryd.prog f6.T f6.kp Tryd.f6 R [true, true, false, false, true, true, false, false, true, false, true, true, true] (mkFr [(1, (Value.pointer (some a1))), (3, (Value.string s3)), (7, (Value.pointer (some a7))), (62, (Value.slice A62 n62 c62)), (63, (Value.int .i64 x63)), (64, (Value.int .i64 x64))]) h) = (f6.j1T R a1 s3 a7 A62 n62 c62 x63 x64 h) by kernel_rfl) H)
set_option maxRecDepth 100000 in
def f6.l2T (R : Value → Heap → Prop) (a1 : Addr) (s3 : ByteArray) (A104 : Option Addr) (n104 : Nat) (c104 : Nat) (x105 : Int) (x106 : Int) (h : Heap) : Prop :=
  splitB (decide (x106 < x105)) (ptrOk A104 fun a1_ => 0 ≤ x106 ∧ x106 < ((n104 : Nat) : Int) ∧ (∃ v2_, ldv true 2 h (Addr.add a1_ (Int.toNat x106 * 2)) = some v2_ ∧ newH h (Obj.cells #[(Value.string (ByteArray.mk #[])), (Value.slice none 0 0)] 48) fun h3_ => ∃ l5_ : List Value, v2_ = Value.agg l5_.toArray ∧ l5_.length = 2 ∧ ∃ h4_, stH h3_ (⟨Array.size h, 0, none⟩) l5_ 0 = some h4_ ∧ ∃ v6_, ldv false 1 h4_ (⟨Array.size h, 0, none⟩) = some v6_ ∧ ∃ s7_, v6_ = (Value.string s7_) ∧ (newH h4_ (Obj.cells #[(Value.string s7_)] 9) fun h8_ => (Run Tryd.prog 20 #[(Value.slice (some ⟨Array.size h4_, 0, none⟩) 1 1)] h8_ fun v9_ h10_ => ∃ s11_, v9_ = (Value.string s11_) ∧ ∃ v12_, ldv false 1 h10_ (Addr.add (⟨Array.size h, 0, none⟩) 1) = some v12_ ∧ ∃ A13_, ∃ n13_, ∃ c13_, v12_ = (Value.slice A13_ n13_ c13_) ∧ Ext h10_ h10_ ∧ (Run Tryd.prog 24 #[(Value.slice A13_ n13_ c13_)] h10_ fun v14_ h15_ => ∃ s16_, v14_ = (Value.string s16_) ∧ ByteArray.size s11_ + ByteArray.size s16_ ≤ 9223372036854775807 ∧ (ByteArray.size s3 + ByteArray.size (s11_ ++ s16_) ≤ 9223372036854775807 ∧ (f6.l2 R a1 (s3 ++ (s11_ ++ s16_)) A104 n104 c104 x105 (IntKind.wrap .i64 (x106 + (1 : Int))) h15_)))) ∧ (∃ v17_, ldv false 1 h8_ (Addr.add (⟨Array.size h, 0, none⟩) 1) = some v17_ ∧ ∃ A18_, ∃ n18_, ∃ c18_, v17_ = (Value.slice A18_ n18_ c18_) ∧ Ext h8_ h8_ ∧ (Run Tryd.prog 20 #[(Value.slice (some ⟨Array.size h4_, 0, none⟩) 1 1)] h8_ fun v19_ h20_ => ∃ s21_, v19_ = (Value.string s21_) ∧ Run Tryd.prog 24 #[(Value.slice A18_ n18_ c18_)] h20_ fun v22_ h23_ => ∃ s24_, v22_ = (Value.string s24_) ∧ ByteArray.size s21_ + ByteArray.size s24_ ≤ 9223372036854775807 ∧ (ByteArray.size s3 + ByteArray.size (s21_ ++ s24_) ≤ 9223372036854775807 ∧ (f6.l2 R a1 (s3 ++ (s21_ ++ s24_)) A104 n104 c104 x105 (IntKind.wrap .i64 (x106 + (1 : Int))) h23_))))) ∧ (∃ v25_, ldv false 1 h4_ (Addr.add (⟨Array.size h, 0, none⟩) 1) = some v25_ ∧ ∃ A26_, ∃ n26_, ∃ c26_, v25_ = (Value.slice A26_ n26_ c26_) ∧ Ext h4_ h4_ ∧ (newH h4_ (Obj.cells #[(Value.string s7_)] 9) fun h27_ => Run Tryd.prog 20 #[(Value.slice (some ⟨Array.size h4_, 0, none⟩) 1 1)] h27_ fun v28_ h29_ => ∃ s30_, v28_ = (Value.string s30_) ∧ Run Tryd.prog 24 #[(Value.slice A26_ n26_ c26_)] h29_ fun v31_ h32_ => ∃ s33_, v31_ = (Value.string s33_) ∧ ByteArray.size s30_ + ByteArray.size s33_ ≤ 9223372036854775807 ∧ (ByteArray.size s3 + ByteArray.size (s30_ ++ s33_) ≤ 9223372036854775807 ∧ (f6.l2 R a1 (s3 ++ (s30_ ++ s33_)) A104 n104 c104 x105 (IntKind.wrap .i64 (x106 + (1 : Int))) h32_)))))) (∃ v34_, ldv false 1 h (Addr.add a1 5) = some v34_ ∧ ∃ A35_, ∃ n35_, ∃ c35_, v34_ = (Value.slice A35_ n35_ c35_) ∧ f6.l3 R a1 s3 A35_ n35_ c35_ ((n35_ : Nat) : Int) (0 : Int) h)
set_option maxRecDepth 100000 in
theorem f6.l2_in {R : Value → Heap → Prop} {a1 : Addr} {s3 : ByteArray} {A104 : Option Addr} {n104 : Nat} {c104 : Nat} {x105 : Int} {x106 : Int} {h : Heap} (H : f6.l2T R a1 s3 A104 n104 c104 x105 x106 h) : f6.l2 R a1 s3 A104 n104 c104 x105 x106 h :=
  pt_intro mixed f6.good (Eq.mpr (show (Fwd Tryd.prog f6.T f6.kp Tryd.f6 R [false, false, true, false, true, true, true, true] (mkFr [(1, (Value.pointer (some a1))), (3, (Value.string s3)), (104, (Value.slice A104 n104 c104)), (105, (Value.int .i64 x105)), (106, (Value.int .i64 x106))]) h) = (f6.l2T R a1 s3 A104 n104 c104 x105 x106 h) by kernel_rfl) H)
set_option maxRecDepth 100000 in
def f6.l5T (R : Value → Heap → Prop) (a1 : Addr) (s3 : ByteArray) (A62 : Option Addr) (n62 : Nat) (c62 : Nat) (x63 : Int) (x64 : Int) (A85 : Option Addr) (n85 : Nat) (c85 : Nat) (x86 : Int) (x87 : Int) (h : Heap) : Prop :=
  splitB (decide (x87 < x86)) (ptrOk A85 fun a1_ => 0 ≤ x87 ∧ x87 < ((n85 : Nat) : Int) ∧ (∃ v2_, ldv true 2 h (Addr.add a1_ (Int.toNat x87 * 2)) = some v2_ ∧ newH h (Obj.cells #[(Value.string (ByteArray.mk #[])), (Value.slice none 0 0)] 82) fun h3_ => ∃ l5_ : List Value, v2_ = Value.agg l5_.toArray ∧ l5_.length = 2 ∧ ∃ h4_, stH h3_ (⟨Array.size h, 0, none⟩) l5_ 0 = some h4_ ∧ ∃ v6_, ldv false 1 h4_ (⟨Array.size h, 0, none⟩) = some v6_ ∧ ∃ s7_, v6_ = (Value.string s7_) ∧ (newH h4_ (Obj.cells #[(Value.string s7_)] 9) fun h8_ => (Run Tryd.prog 20 #[(Value.slice (some ⟨Array.size h4_, 0, none⟩) 1 1)] h8_ fun v9_ h10_ => ∃ s11_, v9_ = (Value.string s11_) ∧ ∃ v12_, ldv false 1 h10_ (Addr.add (⟨Array.size h, 0, none⟩) 1) = some v12_ ∧ ∃ A13_, ∃ n13_, ∃ c13_, v12_ = (Value.slice A13_ n13_ c13_) ∧ Ext h10_ h10_ ∧ (Run Tryd.prog 23 #[(Value.slice A13_ n13_ c13_)] h10_ fun v14_ h15_ => ∃ s16_, v14_ = (Value.string s16_) ∧ ByteArray.size s11_ + ByteArray.size s16_ ≤ 9223372036854775807 ∧ (ByteArray.size s3 + ByteArray.size (s11_ ++ s16_) ≤ 9223372036854775807 ∧ (f6.l5 R a1 (s3 ++ (s11_ ++ s16_)) A62 n62 c62 x63 x64 A85 n85 c85 x86 (IntKind.wrap .i64 (x87 + (1 : Int))) h15_)))) ∧ (∃ v17_, ldv false 1 h8_ (Addr.add (⟨Array.size h, 0, none⟩) 1) = some v17_ ∧ ∃ A18_, ∃ n18_, ∃ c18_, v17_ = (Value.slice A18_ n18_ c18_) ∧ Ext h8_ h8_ ∧ (Run Tryd.prog 20 #[(Value.slice (some ⟨Array.size h4_, 0, none⟩) 1 1)] h8_ fun v19_ h20_ => ∃ s21_, v19_ = (Value.string s21_) ∧ Run Tryd.prog 23 #[(Value.slice A18_ n18_ c18_)] h20_ fun v22_ h23_ => ∃ s24_, v22_ = (Value.string s24_) ∧ ByteArray.size s21_ + ByteArray.size s24_ ≤ 9223372036854775807 ∧ (ByteArray.size s3 + ByteArray.size (s21_ ++ s24_) ≤ 9223372036854775807 ∧ (f6.l5 R a1 (s3 ++ (s21_ ++ s24_)) A62 n62 c62 x63 x64 A85 n85 c85 x86 (IntKind.wrap .i64 (x87 + (1 : Int))) h23_))))) ∧ (∃ v25_, ldv false 1 h4_ (Addr.add (⟨Array.size h, 0, none⟩) 1) = some v25_ ∧ ∃ A26_, ∃ n26_, ∃ c26_, v25_ = (Value.slice A26_ n26_ c26_) ∧ Ext h4_ h4_ ∧ (newH h4_ (Obj.cells #[(Value.string s7_)] 9) fun h27_ => Run Tryd.prog 20 #[(Value.slice (some ⟨Array.size h4_, 0, none⟩) 1 1)] h27_ fun v28_ h29_ => ∃ s30_, v28_ = (Value.string s30_) ∧ Run Tryd.prog 23 #[(Value.slice A26_ n26_ c26_)] h29_ fun v31_ h32_ => ∃ s33_, v31_ = (Value.string s33_) ∧ ByteArray.size s30_ + ByteArray.size s33_ ≤ 9223372036854775807 ∧ (ByteArray.size s3 + ByteArray.size (s30_ ++ s33_) ≤ 9223372036854775807 ∧ (f6.l5 R a1 (s3 ++ (s30_ ++ s33_)) A62 n62 c62 x63 x64 A85 n85 c85 x86 (IntKind.wrap .i64 (x87 + (1 : Int))) h32_)))))) (f6.l1 R a1 s3 A62 n62 c62 x63 (IntKind.wrap .i64 (x64 + (1 : Int))) h)
set_option maxRecDepth 100000 in
theorem f6.l5_in {R : Value → Heap → Prop} {a1 : Addr} {s3 : ByteArray} {A62 : Option Addr} {n62 : Nat} {c62 : Nat} {x63 : Int} {x64 : Int} {A85 : Option Addr} {n85 : Nat} {c85 : Nat} {x86 : Int} {x87 : Int} {h : Heap} (H : f6.l5T R a1 s3 A62 n62 c62 x63 x64 A85 n85 c85 x86 x87 h) : f6.l5 R a1 s3 A62 n62 c62 x63 x64 A85 n85 c85 x86 x87 h :=
  pt_intro mixed f6.good (Eq.mpr (show (Fwd Tryd.prog f6.T f6.kp Tryd.f6 R [false, false, true, true, true, false, false, true, true, false, false, true, false, true, true, true] (mkFr [(1, (Value.pointer (some a1))), (3, (Value.string s3)), (62, (Value.slice A62 n62 c62)), (63, (Value.int .i64 x63)), (64, (Value.int .i64 x64)), (85, (Value.slice A85 n85 c85)), (86, (Value.int .i64 x86)), (87, (Value.int .i64 x87))]) h) = (f6.l5T R a1 s3 A62 n62 c62 x63 x64 A85 n85 c85 x86 x87 h) by kernel_rfl) H)
set_option maxRecDepth 100000 in
def f6.l3T (R : Value → Heap → Prop) (a1 : Addr) (s3 : ByteArray) (A122 : Option Addr) (n122 : Nat) (c122 : Nat) (x123 : Int) (x124 : Int) (h : Heap) : Prop :=
  splitB (decide (x124 < x123)) (ptrOk A122 fun a1_ => 0 ≤ x124 ∧ x124 < ((n122 : Nat) : Int) ∧ (∃ v2_, ldv true 3 h (Addr.add a1_ (Int.toNat x124 * 3)) = some v2_ ∧ newH h (Obj.cells #[(Value.string (ByteArray.mk #[])), (Value.string (ByteArray.mk #[])), (Value.slice none 0 0)] 51) fun h3_ => ∃ l5_ : List Value, v2_ = Value.agg l5_.toArray ∧ l5_.length = 3 ∧ ∃ h4_, stH h3_ (⟨Array.size h, 0, none⟩) l5_ 0 = some h4_ ∧ ∃ v6_, ldv false 1 h4_ (⟨Array.size h, 0, none⟩) = some v6_ ∧ ∃ s7_, v6_ = (Value.string s7_) ∧ ∃ v8_, ldv false 1 h4_ (Addr.add (⟨Array.size h, 0, none⟩) 1) = some v8_ ∧ ∃ s9_, v8_ = (Value.string s9_) ∧ (newH h4_ (Obj.cells #[(Value.string s7_), (Value.string s9_)] 9) fun h10_ => (Run Tryd.prog 20 #[(Value.slice (some ⟨Array.size h4_, 0, none⟩) 2 2)] h10_ fun v11_ h12_ => ∃ s13_, v11_ = (Value.string s13_) ∧ ∃ v14_, ldv false 1 h12_ (Addr.add (⟨Array.size h, 0, none⟩) 2) = some v14_ ∧ ∃ A15_, ∃ n15_, ∃ c15_, v14_ = (Value.slice A15_ n15_ c15_) ∧ Ext h12_ h12_ ∧ (Run Tryd.prog 24 #[(Value.slice A15_ n15_ c15_)] h12_ fun v16_ h17_ => ∃ s18_, v16_ = (Value.string s18_) ∧ ByteArray.size s13_ + ByteArray.size s18_ ≤ 9223372036854775807 ∧ (ByteArray.size s3 + ByteArray.size (s13_ ++ s18_) ≤ 9223372036854775807 ∧ (f6.l3 R a1 (s3 ++ (s13_ ++ s18_)) A122 n122 c122 x123 (IntKind.wrap .i64 (x124 + (1 : Int))) h17_)))) ∧ (∃ v19_, ldv false 1 h10_ (Addr.add (⟨Array.size h, 0, none⟩) 2) = some v19_ ∧ ∃ A20_, ∃ n20_, ∃ c20_, v19_ = (Value.slice A20_ n20_ c20_) ∧ Ext h10_ h10_ ∧ (Run Tryd.prog 20 #[(Value.slice (some ⟨Array.size h4_, 0, none⟩) 2 2)] h10_ fun v21_ h22_ => ∃ s23_, v21_ = (Value.string s23_) ∧ Run Tryd.prog 24 #[(Value.slice A20_ n20_ c20_)] h22_ fun v24_ h25_ => ∃ s26_, v24_ = (Value.string s26_) ∧ ByteArray.size s23_ + ByteArray.size s26_ ≤ 9223372036854775807 ∧ (ByteArray.size s3 + ByteArray.size (s23_ ++ s26_) ≤ 9223372036854775807 ∧ (f6.l3 R a1 (s3 ++ (s23_ ++ s26_)) A122 n122 c122 x123 (IntKind.wrap .i64 (x124 + (1 : Int))) h25_))))) ∧ (∃ v27_, ldv false 1 h4_ (Addr.add (⟨Array.size h, 0, none⟩) 2) = some v27_ ∧ ∃ A28_, ∃ n28_, ∃ c28_, v27_ = (Value.slice A28_ n28_ c28_) ∧ Ext h4_ h4_ ∧ (newH h4_ (Obj.cells #[(Value.string s7_), (Value.string s9_)] 9) fun h29_ => Run Tryd.prog 20 #[(Value.slice (some ⟨Array.size h4_, 0, none⟩) 2 2)] h29_ fun v30_ h31_ => ∃ s32_, v30_ = (Value.string s32_) ∧ Run Tryd.prog 24 #[(Value.slice A28_ n28_ c28_)] h31_ fun v33_ h34_ => ∃ s35_, v33_ = (Value.string s35_) ∧ ByteArray.size s32_ + ByteArray.size s35_ ≤ 9223372036854775807 ∧ (ByteArray.size s3 + ByteArray.size (s32_ ++ s35_) ≤ 9223372036854775807 ∧ (f6.l3 R a1 (s3 ++ (s32_ ++ s35_)) A122 n122 c122 x123 (IntKind.wrap .i64 (x124 + (1 : Int))) h34_)))))) (∃ v36_, ldv false 1 h (Addr.add a1 6) = some v36_ ∧ ∃ A37_, ∃ n37_, ∃ c37_, v36_ = (Value.slice A37_ n37_ c37_) ∧ Run Tryd.prog 24 #[(Value.slice A37_ n37_ c37_)] h fun v38_ h39_ => ∃ s40_, v38_ = (Value.string s40_) ∧ ByteArray.size s3 + ByteArray.size s40_ ≤ 9223372036854775807 ∧ (∃ v41_, ldv false 1 h39_ (Addr.add a1 7) = some v41_ ∧ ∃ A42_, ∃ n42_, ∃ c42_, v41_ = (Value.slice A42_ n42_ c42_) ∧ f6.l4 R (s3 ++ s40_) A42_ n42_ c42_ ((n42_ : Nat) : Int) (0 : Int) h39_))
set_option maxRecDepth 100000 in
theorem f6.l3_in {R : Value → Heap → Prop} {a1 : Addr} {s3 : ByteArray} {A122 : Option Addr} {n122 : Nat} {c122 : Nat} {x123 : Int} {x124 : Int} {h : Heap} (H : f6.l3T R a1 s3 A122 n122 c122 x123 x124 h) : f6.l3 R a1 s3 A122 n122 c122 x123 x124 h :=
  pt_intro mixed f6.good (Eq.mpr (show (Fwd Tryd.prog f6.T f6.kp Tryd.f6 R [false, false, true, false, true, true, true, true, true] (mkFr [(1, (Value.pointer (some a1))), (3, (Value.string s3)), (122, (Value.slice A122 n122 c122)), (123, (Value.int .i64 x123)), (124, (Value.int .i64 x124))]) h) = (f6.l3T R a1 s3 A122 n122 c122 x123 x124 h) by kernel_rfl) H)
set_option maxRecDepth 100000 in
def f6.l4T (R : Value → Heap → Prop) (s3 : ByteArray) (A147 : Option Addr) (n147 : Nat) (c147 : Nat) (x148 : Int) (x149 : Int) (h : Heap) : Prop :=
  splitB (decide (x149 < x148)) (ptrOk A147 fun a1_ => 0 ≤ x149 ∧ x149 < ((n147 : Nat) : Int) ∧ (∃ v2_, ldv true 14 h (Addr.add a1_ (Int.toNat x149 * 14)) = some v2_ ∧ newH h (Obj.cells #[(Value.string (ByteArray.mk #[])), (Value.slice none 0 0), (Value.slice none 0 0), (Value.int .i64 (0 : Int)), (Value.string (ByteArray.mk #[])), (Value.slice none 0 0), (Value.int .i64 (0 : Int)), (Value.int .i64 (0 : Int)), (Value.string (ByteArray.mk #[])), (Value.slice none 0 0), (Value.slice none 0 0), (Value.slice none 0 0), (Value.slice none 0 0), (Value.int .i64 (0 : Int))] 64) fun h3_ => ∃ l5_ : List Value, v2_ = Value.agg l5_.toArray ∧ l5_.length = 14 ∧ ∃ h4_, stH h3_ (⟨Array.size h, 0, none⟩) l5_ 0 = some h4_ ∧ ∃ v6_, ldv false 1 h4_ (⟨Array.size h, 0, none⟩) = some v6_ ∧ ∃ s7_, v6_ = (Value.string s7_) ∧ ∃ v8_, ldv false 1 h4_ (Addr.add (⟨Array.size h, 0, none⟩) 1) = some v8_ ∧ ∃ A9_, ∃ n9_, ∃ c9_, v8_ = (Value.slice A9_ n9_ c9_) ∧ ∃ v10_, ldv false 1 h4_ (Addr.add (⟨Array.size h, 0, none⟩) 2) = some v10_ ∧ ∃ A11_, ∃ n11_, ∃ c11_, v10_ = (Value.slice A11_ n11_ c11_) ∧ ∃ v12_, ldv true 3 h4_ (Addr.add (⟨Array.size h, 0, none⟩) 3) = some v12_ ∧ ∃ v13_, ldv true 8 h4_ (Addr.add (⟨Array.size h, 0, none⟩) 6) = some v13_ ∧ newH h4_ (Obj.cells #[(Value.string s7_)] 9) fun h14_ => Ext h4_ h14_ ∧ (Run Tryd.prog 20 #[(Value.slice (some ⟨Array.size h4_, 0, none⟩) 1 1)] h14_ fun v15_ h16_ => ∃ s17_, v15_ = (Value.string s17_) ∧ Ext h14_ h16_ ∧ (Run Tryd.prog 22 #[(Value.slice A9_ n9_ c9_)] h16_ fun v18_ h19_ => ∃ s20_, v18_ = (Value.string s20_) ∧ Ext h16_ h19_ ∧ (ByteArray.size s17_ + ByteArray.size s20_ ≤ 9223372036854775807 ∧ (Run Tryd.prog 23 #[(Value.slice A11_ n11_ c11_)] h19_ fun v21_ h22_ => ∃ s23_, v21_ = (Value.string s23_) ∧ Ext h19_ h22_ ∧ (ByteArray.size (s17_ ++ s20_) + ByteArray.size s23_ ≤ 9223372036854775807 ∧ (Run Tryd.prog 25 #[v12_] h22_ fun v24_ h25_ => ∃ s26_, v24_ = (Value.string s26_) ∧ Ext h22_ h25_ ∧ (ByteArray.size ((s17_ ++ s20_) ++ s23_) + ByteArray.size s26_ ≤ 9223372036854775807 ∧ (Run Tryd.prog 26 #[v13_] h25_ fun v27_ h28_ => ∃ s29_, v27_ = (Value.string s29_) ∧ ByteArray.size (((s17_ ++ s20_) ++ s23_) ++ s26_) + ByteArray.size s29_ ≤ 9223372036854775807 ∧ (ByteArray.size s3 + ByteArray.size ((((s17_ ++ s20_) ++ s23_) ++ s26_) ++ s29_) ≤ 9223372036854775807 ∧ (f6.l4 R (s3 ++ ((((s17_ ++ s20_) ++ s23_) ++ s26_) ++ s29_)) A147 n147 c147 x148 (IntKind.wrap .i64 (x149 + (1 : Int))) h28_)))))))))))) (R (Value.string s3) h)
set_option maxRecDepth 100000 in
theorem f6.l4_in {R : Value → Heap → Prop} {s3 : ByteArray} {A147 : Option Addr} {n147 : Nat} {c147 : Nat} {x148 : Int} {x149 : Int} {h : Heap} (H : f6.l4T R s3 A147 n147 c147 x148 x149 h) : f6.l4 R s3 A147 n147 c147 x148 x149 h :=
  pt_intro mixed f6.good (Eq.mpr (show (Fwd Tryd.prog f6.T f6.kp Tryd.f6 R [false, false, true, false, true, true, true, true, true, true, true] (mkFr [(3, (Value.string s3)), (147, (Value.slice A147 n147 c147)), (148, (Value.int .i64 x148)), (149, (Value.int .i64 x149))]) h) = (f6.l4T R s3 A147 n147 c147 x148 x149 h) by kernel_rfl) H)
set_option maxRecDepth 100000 in
def f6.runT (R : Value → Heap → Prop) (v0 : Value) (h : Heap) : Prop :=
  newH h (Obj.cells ((v0).cells) 29) fun h1_ => ∃ v2_, ldv false 1 h1_ (⟨Array.size h, 0, none⟩) = some v2_ ∧ ∃ s3_, v2_ = (Value.string s3_) ∧ ∃ v4_, ldv false 1 h1_ (Addr.add (⟨Array.size h, 0, none⟩) 1) = some v4_ ∧ ∃ x5_, v4_ = (Value.int .i64 x5_) ∧ ∃ v6_, ldv false 1 h1_ (Addr.add (⟨Array.size h, 0, none⟩) 2) = some v6_ ∧ ∃ A7_, ∃ n7_, ∃ c7_, v6_ = (Value.slice A7_ n7_ c7_) ∧ ∃ v8_, ldv false 1 h1_ (Addr.add (⟨Array.size h, 0, none⟩) 3) = some v8_ ∧ ∃ A9_, ∃ n9_, ∃ c9_, v8_ = (Value.slice A9_ n9_ c9_) ∧ ∃ v10_, ldv false 1 h1_ (Addr.add (⟨Array.size h, 0, none⟩) 4) = some v10_ ∧ ∃ A11_, ∃ n11_, ∃ c11_, v10_ = (Value.slice A11_ n11_ c11_) ∧ ∃ v12_, ldv false 1 h1_ (Addr.add (⟨Array.size h, 0, none⟩) 5) = some v12_ ∧ ∃ A13_, ∃ n13_, ∃ c13_, v12_ = (Value.slice A13_ n13_ c13_) ∧ ∃ v14_, ldv false 1 h1_ (Addr.add (⟨Array.size h, 0, none⟩) 7) = some v14_ ∧ ∃ A15_, ∃ n15_, ∃ c15_, v14_ = (Value.slice A15_ n15_ c15_) ∧ (newH h1_ (Obj.cells #[(Value.string s3_)] 9) fun h16_ => Ext h1_ h16_ ∧ ((Run Tryd.prog 20 #[(Value.slice (some ⟨Array.size h1_, 0, none⟩) 1 1)] h16_ fun v17_ h18_ => ∃ s19_, v17_ = (Value.string s19_) ∧ Ext h16_ h18_ ∧ (newH h18_ (Obj.cells #[(Value.int .i64 x5_), (Value.int .i64 ((n7_ : Nat) : Int)), (Value.int .i64 ((n9_ : Nat) : Int)), (Value.int .i64 ((n11_ : Nat) : Int)), (Value.int .i64 ((n13_ : Nat) : Int)), (Value.int .i64 ((n15_ : Nat) : Int))] 3) fun h20_ => Ext h18_ h20_ ∧ (Run Tryd.prog 21 #[(Value.slice (some ⟨Array.size h18_, 0, none⟩) 6 6)] h20_ fun v21_ h22_ => ∃ s23_, v21_ = (Value.string s23_) ∧ ByteArray.size s19_ + ByteArray.size s23_ ≤ 9223372036854775807 ∧ (f6.j0 R (⟨Array.size h, 0, none⟩) (s19_ ++ s23_) h22_)))) ∧ (newH h16_ (Obj.cells #[(Value.int .i64 x5_), (Value.int .i64 ((n7_ : Nat) : Int)), (Value.int .i64 ((n9_ : Nat) : Int)), (Value.int .i64 ((n11_ : Nat) : Int)), (Value.int .i64 ((n13_ : Nat) : Int)), (Value.int .i64 ((n15_ : Nat) : Int))] 3) fun h24_ => Ext h16_ h24_ ∧ (Run Tryd.prog 20 #[(Value.slice (some ⟨Array.size h1_, 0, none⟩) 1 1)] h24_ fun v25_ h26_ => ∃ s27_, v25_ = (Value.string s27_) ∧ Ext h24_ h26_ ∧ (Run Tryd.prog 21 #[(Value.slice (some ⟨Array.size h16_, 0, none⟩) 6 6)] h26_ fun v28_ h29_ => ∃ s30_, v28_ = (Value.string s30_) ∧ ByteArray.size s27_ + ByteArray.size s30_ ≤ 9223372036854775807 ∧ (f6.j0 R (⟨Array.size h, 0, none⟩) (s27_ ++ s30_) h29_)))))) ∧ (newH h1_ (Obj.cells #[(Value.int .i64 x5_), (Value.int .i64 ((n7_ : Nat) : Int)), (Value.int .i64 ((n9_ : Nat) : Int)), (Value.int .i64 ((n11_ : Nat) : Int)), (Value.int .i64 ((n13_ : Nat) : Int)), (Value.int .i64 ((n15_ : Nat) : Int))] 3) fun h31_ => Ext h1_ h31_ ∧ (newH h31_ (Obj.cells #[(Value.string s3_)] 9) fun h32_ => Ext h31_ h32_ ∧ (Run Tryd.prog 20 #[(Value.slice (some ⟨Array.size h31_, 0, none⟩) 1 1)] h32_ fun v33_ h34_ => ∃ s35_, v33_ = (Value.string s35_) ∧ Ext h32_ h34_ ∧ (Run Tryd.prog 21 #[(Value.slice (some ⟨Array.size h1_, 0, none⟩) 6 6)] h34_ fun v36_ h37_ => ∃ s38_, v36_ = (Value.string s38_) ∧ ByteArray.size s35_ + ByteArray.size s38_ ≤ 9223372036854775807 ∧ (f6.j0 R (⟨Array.size h, 0, none⟩) (s35_ ++ s38_) h37_)))))
set_option maxRecDepth 100000 in
theorem f6.run {R : Value → Heap → Prop} {v0 : Value} {h : Heap} (H : f6.runT R v0 h) : Run Tryd.prog 6 #[v0] h R :=
  run_of mixed Tryd.func6 (by kernel_rfl) (by kernel_rfl) f6.good (Eq.mpr (show (Fwd Tryd.prog f6.T f6.kp Tryd.f6 R [] (mkFr (argL [v0] 0)) h) = (f6.runT R v0 h) by kernel_rfl) H)
def f7.T : Tab := { sh := tSh, tup := tTup, keep := [], plan := [] }
def f7.kp : Keep := [([false, false, true, false, true, true], [1, 5, 8, 9, 10])]
theorem f7.good : goodCode Tryd.prog f7.T (rootOf Tryd.f7) = true := by kernel_rfl
def f7.l0 (R : Value → Heap → Prop) (x1 : Int) (A5 : Option Addr) (n5 : Nat) (c5 : Nat) (A8 : Option Addr) (n8 : Nat) (c8 : Nat) (x9 : Int) (x10 : Int) (h : Heap) : Prop := Pt Tryd.prog Tryd.f7 R [false, false, true, false, true, true] (mkFr [(1, (Value.int .i64 x1)), (5, (Value.slice A5 n5 c5)), (8, (Value.slice A8 n8 c8)), (9, (Value.int .i64 x9)), (10, (Value.int .i64 x10))]) h
set_option maxRecDepth 100000 in
def f7.l0T (R : Value → Heap → Prop) (x1 : Int) (A5 : Option Addr) (n5 : Nat) (c5 : Nat) (A8 : Option Addr) (n8 : Nat) (c8 : Nat) (x9 : Int) (x10 : Int) (h : Heap) : Prop :=
  splitB (decide (x10 < x9)) (ptrOk A8 fun a1_ => 0 ≤ x10 ∧ x10 < ((n8 : Nat) : Int) ∧ (∃ v2_, ldv true 3 h (Addr.add a1_ (Int.toNat x10 * 3)) = some v2_ ∧ newH h (Obj.cells #[(Value.string (ByteArray.mk #[])), (Value.int .i64 (0 : Int)), (Value.int .i64 (0 : Int))] 36) fun h3_ => ∃ l5_ : List Value, v2_ = Value.agg l5_.toArray ∧ l5_.length = 3 ∧ ∃ h4_, stH h3_ (⟨Array.size h, 0, none⟩) l5_ 0 = some h4_ ∧ splitB (x10 != x1) (∃ v6_, ldv true 3 h4_ (⟨Array.size h, 0, none⟩) = some v6_ ∧ ∃ l7_ : List Value, v6_ = Value.agg l7_.toArray ∧ l7_.length = 3 ∧ (newH h4_ (Obj.cells ((List.take 0 ([(Value.string (ByteArray.mk #[])), (Value.int .i64 (0 : Int)), (Value.int .i64 (0 : Int))]) ++ l7_ ++ List.drop 3 ([(Value.string (ByteArray.mk #[])), (Value.int .i64 (0 : Int)), (Value.int .i64 (0 : Int))])).toArray) 36) fun h8_ => AppW 36 3 32 #[(Value.string (ByteArray.mk #[])), (Value.int .i64 (0 : Int)), (Value.int .i64 (0 : Int))] A5 n5 c5 (Value.slice (some ⟨Array.size h4_, 0, none⟩) 1 1) h8_ fun v9_ h10_ => ∃ A11_, ∃ n11_, ∃ c11_, v9_ = (Value.slice A11_ n11_ c11_) ∧ f7.l0 R x1 A11_ n11_ c11_ A8 n8 c8 x9 (IntKind.wrap .i64 (x10 + (1 : Int))) h10_)) (f7.l0 R x1 A5 n5 c5 A8 n8 c8 x9 (IntKind.wrap .i64 (x10 + (1 : Int))) h4_))) (R (Value.slice A5 n5 c5) h)
set_option maxRecDepth 100000 in
theorem f7.l0_in {R : Value → Heap → Prop} {x1 : Int} {A5 : Option Addr} {n5 : Nat} {c5 : Nat} {A8 : Option Addr} {n8 : Nat} {c8 : Nat} {x9 : Int} {x10 : Int} {h : Heap} (H : f7.l0T R x1 A5 n5 c5 A8 n8 c8 x9 x10 h) : f7.l0 R x1 A5 n5 c5 A8 n8 c8 x9 x10 h :=
  pt_intro mixed f7.good (Eq.mpr (show (Fwd Tryd.prog f7.T f7.kp Tryd.f7 R [false, false, true, false, true, true] (mkFr [(1, (Value.int .i64 x1)), (5, (Value.slice A5 n5 c5)), (8, (Value.slice A8 n8 c8)), (9, (Value.int .i64 x9)), (10, (Value.int .i64 x10))]) h) = (f7.l0T R x1 A5 n5 c5 A8 n8 c8 x9 x10 h) by kernel_rfl) H)
set_option maxRecDepth 100000 in
def f7.runT (R : Value → Heap → Prop) (A0 : Option Addr) (n0 : Nat) (c0 : Nat) (x1 : Int) (h : Heap) : Prop :=
  f7.l0 R x1 none 0 0 A0 n0 c0 ((n0 : Nat) : Int) (0 : Int) h
set_option maxRecDepth 100000 in
theorem f7.run {R : Value → Heap → Prop} {A0 : Option Addr} {n0 : Nat} {c0 : Nat} {x1 : Int} {h : Heap} (H : f7.runT R A0 n0 c0 x1 h) : Run Tryd.prog 7 #[(Value.slice A0 n0 c0), (Value.int .i64 x1)] h R :=
  run_of mixed Tryd.func7 (by kernel_rfl) (by kernel_rfl) f7.good (Eq.mpr (show (Fwd Tryd.prog f7.T f7.kp Tryd.f7 R [] (mkFr (argL [(Value.slice A0 n0 c0), (Value.int .i64 x1)] 0)) h) = (f7.runT R A0 n0 c0 x1 h) by kernel_rfl) H)
def f8.T : Tab := { sh := tSh, tup := tTup, keep := [], plan := [] }
def f8.kp : Keep := [([true, false, true, true, true], [5, 21])]
theorem f8.good : goodCode Tryd.prog f8.T (rootOf Tryd.f8) = true := by kernel_rfl
def f8.j0 (R : Value → Heap → Prop) (x5 : Int) (b21 : Bool) (h : Heap) : Prop := Pt Tryd.prog Tryd.f8 R [true, false, true, true, true] (mkFr [(5, (Value.int .i64 x5)), (21, (Value.bool b21))]) h
set_option maxRecDepth 100000 in
def f8.j0T (R : Value → Heap → Prop) (x5 : Int) (b21 : Bool) (h : Heap) : Prop :=
  splitB b21 (R (Value.int .i64 x5) h) (R (Value.int .i64 (-1 : Int)) h)
set_option maxRecDepth 100000 in
theorem f8.j0_in {R : Value → Heap → Prop} {x5 : Int} {b21 : Bool} {h : Heap} (H : f8.j0T R x5 b21 h) : f8.j0 R x5 b21 h :=
  pt_intro mixed f8.good (Eq.mpr (show (Fwd Tryd.prog f8.T f8.kp Tryd.f8 R [true, false, true, true, true] (mkFr [(5, (Value.int .i64 x5)), (21, (Value.bool b21))]) h) = (f8.j0T R x5 b21 h) by kernel_rfl) H)
set_option maxRecDepth 100000 in
def f8.runT (R : Value → Heap → Prop) (a0 : Addr) (x1 : Int) (h : Heap) : Prop :=
  ∃ v1_, ldv false 1 h a0 = some v1_ ∧ ∃ x2_, v1_ = (Value.int .i64 x2_) ∧ ∃ v3_, ldv false 1 h a0 = some v3_ ∧ ∃ x4_, v3_ = (Value.int .i64 x4_) ∧ ∃ h5_, st1 h a0 (Value.int .i64 (IntKind.wrap .i64 (x4_ - x1))) = some h5_ ∧ splitB (decide (x2_ ≥ (0 : Int))) (f8.j0 R x2_ (decide (x2_ < x1)) h5_) (f8.j0 R x2_ false h5_)
set_option maxRecDepth 100000 in
theorem f8.run {R : Value → Heap → Prop} {a0 : Addr} {x1 : Int} {h : Heap} (H : f8.runT R a0 x1 h) : Run Tryd.prog 8 #[(Value.pointer (some a0)), (Value.int .i64 x1)] h R :=
  run_of mixed Tryd.func8 (by kernel_rfl) (by kernel_rfl) f8.good (Eq.mpr (show (Fwd Tryd.prog f8.T f8.kp Tryd.f8 R [] (mkFr (argL [(Value.pointer (some a0)), (Value.int .i64 x1)] 0)) h) = (f8.runT R a0 x1 h) by kernel_rfl) H)
def f9.T : Tab := { sh := tSh, tup := tTup, keep := [], plan := [] }
def f9.kp : Keep := [([false, false, true, false, true, true], [1, 5, 8, 9, 10])]
theorem f9.good : goodCode Tryd.prog f9.T (rootOf Tryd.f9) = true := by kernel_rfl
def f9.l0 (R : Value → Heap → Prop) (x1 : Int) (A5 : Option Addr) (n5 : Nat) (c5 : Nat) (A8 : Option Addr) (n8 : Nat) (c8 : Nat) (x9 : Int) (x10 : Int) (h : Heap) : Prop := Pt Tryd.prog Tryd.f9 R [false, false, true, false, true, true] (mkFr [(1, (Value.int .i64 x1)), (5, (Value.slice A5 n5 c5)), (8, (Value.slice A8 n8 c8)), (9, (Value.int .i64 x9)), (10, (Value.int .i64 x10))]) h
set_option maxRecDepth 100000 in
def f9.l0T (R : Value → Heap → Prop) (x1 : Int) (A5 : Option Addr) (n5 : Nat) (c5 : Nat) (A8 : Option Addr) (n8 : Nat) (c8 : Nat) (x9 : Int) (x10 : Int) (h : Heap) : Prop :=
  splitB (decide (x10 < x9)) (ptrOk A8 fun a1_ => 0 ≤ x10 ∧ x10 < ((n8 : Nat) : Int) ∧ (∃ v2_, ldv true 3 h (Addr.add a1_ (Int.toNat x10 * 3)) = some v2_ ∧ newH h (Obj.cells #[(Value.string (ByteArray.mk #[])), (Value.slice none 0 0), (Value.slice none 0 0)] 45) fun h3_ => ∃ l5_ : List Value, v2_ = Value.agg l5_.toArray ∧ l5_.length = 3 ∧ ∃ h4_, stH h3_ (⟨Array.size h, 0, none⟩) l5_ 0 = some h4_ ∧ splitB (x10 != x1) (∃ v6_, ldv true 3 h4_ (⟨Array.size h, 0, none⟩) = some v6_ ∧ ∃ l7_ : List Value, v6_ = Value.agg l7_.toArray ∧ l7_.length = 3 ∧ (newH h4_ (Obj.cells ((List.take 0 ([(Value.string (ByteArray.mk #[])), (Value.slice none 0 0), (Value.slice none 0 0)]) ++ l7_ ++ List.drop 3 ([(Value.string (ByteArray.mk #[])), (Value.slice none 0 0), (Value.slice none 0 0)])).toArray) 45) fun h8_ => AppW 45 3 64 #[(Value.string (ByteArray.mk #[])), (Value.slice none 0 0), (Value.slice none 0 0)] A5 n5 c5 (Value.slice (some ⟨Array.size h4_, 0, none⟩) 1 1) h8_ fun v9_ h10_ => ∃ A11_, ∃ n11_, ∃ c11_, v9_ = (Value.slice A11_ n11_ c11_) ∧ f9.l0 R x1 A11_ n11_ c11_ A8 n8 c8 x9 (IntKind.wrap .i64 (x10 + (1 : Int))) h10_)) (f9.l0 R x1 A5 n5 c5 A8 n8 c8 x9 (IntKind.wrap .i64 (x10 + (1 : Int))) h4_))) (R (Value.slice A5 n5 c5) h)
set_option maxRecDepth 100000 in
theorem f9.l0_in {R : Value → Heap → Prop} {x1 : Int} {A5 : Option Addr} {n5 : Nat} {c5 : Nat} {A8 : Option Addr} {n8 : Nat} {c8 : Nat} {x9 : Int} {x10 : Int} {h : Heap} (H : f9.l0T R x1 A5 n5 c5 A8 n8 c8 x9 x10 h) : f9.l0 R x1 A5 n5 c5 A8 n8 c8 x9 x10 h :=
  pt_intro mixed f9.good (Eq.mpr (show (Fwd Tryd.prog f9.T f9.kp Tryd.f9 R [false, false, true, false, true, true] (mkFr [(1, (Value.int .i64 x1)), (5, (Value.slice A5 n5 c5)), (8, (Value.slice A8 n8 c8)), (9, (Value.int .i64 x9)), (10, (Value.int .i64 x10))]) h) = (f9.l0T R x1 A5 n5 c5 A8 n8 c8 x9 x10 h) by kernel_rfl) H)
set_option maxRecDepth 100000 in
def f9.runT (R : Value → Heap → Prop) (A0 : Option Addr) (n0 : Nat) (c0 : Nat) (x1 : Int) (h : Heap) : Prop :=
  f9.l0 R x1 none 0 0 A0 n0 c0 ((n0 : Nat) : Int) (0 : Int) h
set_option maxRecDepth 100000 in
theorem f9.run {R : Value → Heap → Prop} {A0 : Option Addr} {n0 : Nat} {c0 : Nat} {x1 : Int} {h : Heap} (H : f9.runT R A0 n0 c0 x1 h) : Run Tryd.prog 9 #[(Value.slice A0 n0 c0), (Value.int .i64 x1)] h R :=
  run_of mixed Tryd.func9 (by kernel_rfl) (by kernel_rfl) f9.good (Eq.mpr (show (Fwd Tryd.prog f9.T f9.kp Tryd.f9 R [] (mkFr (argL [(Value.slice A0 n0 c0), (Value.int .i64 x1)] 0)) h) = (f9.runT R A0 n0 c0 x1 h) by kernel_rfl) H)
def f10.T : Tab := { sh := tSh, tup := tTup, keep := [], plan := [] }
def f10.kp : Keep := [([false, false, true, false, true, true], [1, 5, 8, 9, 10])]
theorem f10.good : goodCode Tryd.prog f10.T (rootOf Tryd.f10) = true := by kernel_rfl
def f10.l0 (R : Value → Heap → Prop) (x1 : Int) (A5 : Option Addr) (n5 : Nat) (c5 : Nat) (A8 : Option Addr) (n8 : Nat) (c8 : Nat) (x9 : Int) (x10 : Int) (h : Heap) : Prop := Pt Tryd.prog Tryd.f10 R [false, false, true, false, true, true] (mkFr [(1, (Value.int .i64 x1)), (5, (Value.slice A5 n5 c5)), (8, (Value.slice A8 n8 c8)), (9, (Value.int .i64 x9)), (10, (Value.int .i64 x10))]) h
set_option maxRecDepth 100000 in
def f10.l0T (R : Value → Heap → Prop) (x1 : Int) (A5 : Option Addr) (n5 : Nat) (c5 : Nat) (A8 : Option Addr) (n8 : Nat) (c8 : Nat) (x9 : Int) (x10 : Int) (h : Heap) : Prop :=
  splitB (decide (x10 < x9)) (ptrOk A8 fun a1_ => 0 ≤ x10 ∧ x10 < ((n8 : Nat) : Int) ∧ (∃ v2_, ldv true 2 h (Addr.add a1_ (Int.toNat x10 * 2)) = some v2_ ∧ newH h (Obj.cells #[(Value.string (ByteArray.mk #[])), (Value.slice none 0 0)] 48) fun h3_ => ∃ l5_ : List Value, v2_ = Value.agg l5_.toArray ∧ l5_.length = 2 ∧ ∃ h4_, stH h3_ (⟨Array.size h, 0, none⟩) l5_ 0 = some h4_ ∧ splitB (x10 != x1) (∃ v6_, ldv true 2 h4_ (⟨Array.size h, 0, none⟩) = some v6_ ∧ ∃ l7_ : List Value, v6_ = Value.agg l7_.toArray ∧ l7_.length = 2 ∧ (newH h4_ (Obj.cells ((List.take 0 ([(Value.string (ByteArray.mk #[])), (Value.slice none 0 0)]) ++ l7_ ++ List.drop 2 ([(Value.string (ByteArray.mk #[])), (Value.slice none 0 0)])).toArray) 48) fun h8_ => AppW 48 2 40 #[(Value.string (ByteArray.mk #[])), (Value.slice none 0 0)] A5 n5 c5 (Value.slice (some ⟨Array.size h4_, 0, none⟩) 1 1) h8_ fun v9_ h10_ => ∃ A11_, ∃ n11_, ∃ c11_, v9_ = (Value.slice A11_ n11_ c11_) ∧ f10.l0 R x1 A11_ n11_ c11_ A8 n8 c8 x9 (IntKind.wrap .i64 (x10 + (1 : Int))) h10_)) (f10.l0 R x1 A5 n5 c5 A8 n8 c8 x9 (IntKind.wrap .i64 (x10 + (1 : Int))) h4_))) (R (Value.slice A5 n5 c5) h)
set_option maxRecDepth 100000 in
theorem f10.l0_in {R : Value → Heap → Prop} {x1 : Int} {A5 : Option Addr} {n5 : Nat} {c5 : Nat} {A8 : Option Addr} {n8 : Nat} {c8 : Nat} {x9 : Int} {x10 : Int} {h : Heap} (H : f10.l0T R x1 A5 n5 c5 A8 n8 c8 x9 x10 h) : f10.l0 R x1 A5 n5 c5 A8 n8 c8 x9 x10 h :=
  pt_intro mixed f10.good (Eq.mpr (show (Fwd Tryd.prog f10.T f10.kp Tryd.f10 R [false, false, true, false, true, true] (mkFr [(1, (Value.int .i64 x1)), (5, (Value.slice A5 n5 c5)), (8, (Value.slice A8 n8 c8)), (9, (Value.int .i64 x9)), (10, (Value.int .i64 x10))]) h) = (f10.l0T R x1 A5 n5 c5 A8 n8 c8 x9 x10 h) by kernel_rfl) H)
set_option maxRecDepth 100000 in
def f10.runT (R : Value → Heap → Prop) (A0 : Option Addr) (n0 : Nat) (c0 : Nat) (x1 : Int) (h : Heap) : Prop :=
  f10.l0 R x1 none 0 0 A0 n0 c0 ((n0 : Nat) : Int) (0 : Int) h
set_option maxRecDepth 100000 in
theorem f10.run {R : Value → Heap → Prop} {A0 : Option Addr} {n0 : Nat} {c0 : Nat} {x1 : Int} {h : Heap} (H : f10.runT R A0 n0 c0 x1 h) : Run Tryd.prog 10 #[(Value.slice A0 n0 c0), (Value.int .i64 x1)] h R :=
  run_of mixed Tryd.func10 (by kernel_rfl) (by kernel_rfl) f10.good (Eq.mpr (show (Fwd Tryd.prog f10.T f10.kp Tryd.f10 R [] (mkFr (argL [(Value.slice A0 n0 c0), (Value.int .i64 x1)] 0)) h) = (f10.runT R A0 n0 c0 x1 h) by kernel_rfl) H)
def f11.T : Tab := { sh := tSh, tup := tTup, keep := [], plan := [] }
def f11.kp : Keep := [([false, false, true, false, true, true], [1, 5, 8, 9, 10])]
theorem f11.good : goodCode Tryd.prog f11.T (rootOf Tryd.f11) = true := by kernel_rfl
def f11.l0 (R : Value → Heap → Prop) (x1 : Int) (A5 : Option Addr) (n5 : Nat) (c5 : Nat) (A8 : Option Addr) (n8 : Nat) (c8 : Nat) (x9 : Int) (x10 : Int) (h : Heap) : Prop := Pt Tryd.prog Tryd.f11 R [false, false, true, false, true, true] (mkFr [(1, (Value.int .i64 x1)), (5, (Value.slice A5 n5 c5)), (8, (Value.slice A8 n8 c8)), (9, (Value.int .i64 x9)), (10, (Value.int .i64 x10))]) h
set_option maxRecDepth 100000 in
def f11.l0T (R : Value → Heap → Prop) (x1 : Int) (A5 : Option Addr) (n5 : Nat) (c5 : Nat) (A8 : Option Addr) (n8 : Nat) (c8 : Nat) (x9 : Int) (x10 : Int) (h : Heap) : Prop :=
  splitB (decide (x10 < x9)) (ptrOk A8 fun a1_ => 0 ≤ x10 ∧ x10 < ((n8 : Nat) : Int) ∧ (∃ v2_, ldv true 3 h (Addr.add a1_ (Int.toNat x10 * 3)) = some v2_ ∧ newH h (Obj.cells #[(Value.string (ByteArray.mk #[])), (Value.string (ByteArray.mk #[])), (Value.slice none 0 0)] 51) fun h3_ => ∃ l5_ : List Value, v2_ = Value.agg l5_.toArray ∧ l5_.length = 3 ∧ ∃ h4_, stH h3_ (⟨Array.size h, 0, none⟩) l5_ 0 = some h4_ ∧ splitB (x10 != x1) (∃ v6_, ldv true 3 h4_ (⟨Array.size h, 0, none⟩) = some v6_ ∧ ∃ l7_ : List Value, v6_ = Value.agg l7_.toArray ∧ l7_.length = 3 ∧ (newH h4_ (Obj.cells ((List.take 0 ([(Value.string (ByteArray.mk #[])), (Value.string (ByteArray.mk #[])), (Value.slice none 0 0)]) ++ l7_ ++ List.drop 3 ([(Value.string (ByteArray.mk #[])), (Value.string (ByteArray.mk #[])), (Value.slice none 0 0)])).toArray) 51) fun h8_ => AppW 51 3 56 #[(Value.string (ByteArray.mk #[])), (Value.string (ByteArray.mk #[])), (Value.slice none 0 0)] A5 n5 c5 (Value.slice (some ⟨Array.size h4_, 0, none⟩) 1 1) h8_ fun v9_ h10_ => ∃ A11_, ∃ n11_, ∃ c11_, v9_ = (Value.slice A11_ n11_ c11_) ∧ f11.l0 R x1 A11_ n11_ c11_ A8 n8 c8 x9 (IntKind.wrap .i64 (x10 + (1 : Int))) h10_)) (f11.l0 R x1 A5 n5 c5 A8 n8 c8 x9 (IntKind.wrap .i64 (x10 + (1 : Int))) h4_))) (R (Value.slice A5 n5 c5) h)
set_option maxRecDepth 100000 in
theorem f11.l0_in {R : Value → Heap → Prop} {x1 : Int} {A5 : Option Addr} {n5 : Nat} {c5 : Nat} {A8 : Option Addr} {n8 : Nat} {c8 : Nat} {x9 : Int} {x10 : Int} {h : Heap} (H : f11.l0T R x1 A5 n5 c5 A8 n8 c8 x9 x10 h) : f11.l0 R x1 A5 n5 c5 A8 n8 c8 x9 x10 h :=
  pt_intro mixed f11.good (Eq.mpr (show (Fwd Tryd.prog f11.T f11.kp Tryd.f11 R [false, false, true, false, true, true] (mkFr [(1, (Value.int .i64 x1)), (5, (Value.slice A5 n5 c5)), (8, (Value.slice A8 n8 c8)), (9, (Value.int .i64 x9)), (10, (Value.int .i64 x10))]) h) = (f11.l0T R x1 A5 n5 c5 A8 n8 c8 x9 x10 h) by kernel_rfl) H)
set_option maxRecDepth 100000 in
def f11.runT (R : Value → Heap → Prop) (A0 : Option Addr) (n0 : Nat) (c0 : Nat) (x1 : Int) (h : Heap) : Prop :=
  f11.l0 R x1 none 0 0 A0 n0 c0 ((n0 : Nat) : Int) (0 : Int) h
set_option maxRecDepth 100000 in
theorem f11.run {R : Value → Heap → Prop} {A0 : Option Addr} {n0 : Nat} {c0 : Nat} {x1 : Int} {h : Heap} (H : f11.runT R A0 n0 c0 x1 h) : Run Tryd.prog 11 #[(Value.slice A0 n0 c0), (Value.int .i64 x1)] h R :=
  run_of mixed Tryd.func11 (by kernel_rfl) (by kernel_rfl) f11.good (Eq.mpr (show (Fwd Tryd.prog f11.T f11.kp Tryd.f11 R [] (mkFr (argL [(Value.slice A0 n0 c0), (Value.int .i64 x1)] 0)) h) = (f11.runT R A0 n0 c0 x1 h) by kernel_rfl) H)
def f12.T : Tab := { sh := tSh, tup := tTup, keep := [], plan := [] }
def f12.kp : Keep := [([false, false, true, false, true, true], [1, 5, 8, 9, 10])]
theorem f12.good : goodCode Tryd.prog f12.T (rootOf Tryd.f12) = true := by kernel_rfl
def f12.l0 (R : Value → Heap → Prop) (x1 : Int) (A5 : Option Addr) (n5 : Nat) (c5 : Nat) (A8 : Option Addr) (n8 : Nat) (c8 : Nat) (x9 : Int) (x10 : Int) (h : Heap) : Prop := Pt Tryd.prog Tryd.f12 R [false, false, true, false, true, true] (mkFr [(1, (Value.int .i64 x1)), (5, (Value.slice A5 n5 c5)), (8, (Value.slice A8 n8 c8)), (9, (Value.int .i64 x9)), (10, (Value.int .i64 x10))]) h
set_option maxRecDepth 100000 in
def f12.l0T (R : Value → Heap → Prop) (x1 : Int) (A5 : Option Addr) (n5 : Nat) (c5 : Nat) (A8 : Option Addr) (n8 : Nat) (c8 : Nat) (x9 : Int) (x10 : Int) (h : Heap) : Prop :=
  splitB (decide (x10 < x9)) (ptrOk A8 fun a1_ => 0 ≤ x10 ∧ x10 < ((n8 : Nat) : Int) ∧ (∃ v2_, ldv true 15 h (Addr.add a1_ (Int.toNat x10 * 15)) = some v2_ ∧ newH h (Obj.cells #[(Value.string (ByteArray.mk #[])), (Value.slice none 0 0), (Value.slice none 0 0), (Value.slice none 0 0), (Value.int .i64 (0 : Int)), (Value.string (ByteArray.mk #[])), (Value.slice none 0 0), (Value.int .i64 (0 : Int)), (Value.int .i64 (0 : Int)), (Value.string (ByteArray.mk #[])), (Value.slice none 0 0), (Value.slice none 0 0), (Value.slice none 0 0), (Value.slice none 0 0), (Value.int .i64 (0 : Int))] 61) fun h3_ => ∃ l5_ : List Value, v2_ = Value.agg l5_.toArray ∧ l5_.length = 15 ∧ ∃ h4_, stH h3_ (⟨Array.size h, 0, none⟩) l5_ 0 = some h4_ ∧ splitB (x10 != x1) (∃ v6_, ldv true 15 h4_ (⟨Array.size h, 0, none⟩) = some v6_ ∧ ∃ l7_ : List Value, v6_ = Value.agg l7_.toArray ∧ l7_.length = 15 ∧ (newH h4_ (Obj.cells ((List.take 0 ([(Value.string (ByteArray.mk #[])), (Value.slice none 0 0), (Value.slice none 0 0), (Value.slice none 0 0), (Value.int .i64 (0 : Int)), (Value.string (ByteArray.mk #[])), (Value.slice none 0 0), (Value.int .i64 (0 : Int)), (Value.int .i64 (0 : Int)), (Value.string (ByteArray.mk #[])), (Value.slice none 0 0), (Value.slice none 0 0), (Value.slice none 0 0), (Value.slice none 0 0), (Value.int .i64 (0 : Int))]) ++ l7_ ++ List.drop 15 ([(Value.string (ByteArray.mk #[])), (Value.slice none 0 0), (Value.slice none 0 0), (Value.slice none 0 0), (Value.int .i64 (0 : Int)), (Value.string (ByteArray.mk #[])), (Value.slice none 0 0), (Value.int .i64 (0 : Int)), (Value.int .i64 (0 : Int)), (Value.string (ByteArray.mk #[])), (Value.slice none 0 0), (Value.slice none 0 0), (Value.slice none 0 0), (Value.slice none 0 0), (Value.int .i64 (0 : Int))])).toArray) 61) fun h8_ => AppW 61 15 272 #[(Value.string (ByteArray.mk #[])), (Value.slice none 0 0), (Value.slice none 0 0), (Value.slice none 0 0), (Value.int .i64 (0 : Int)), (Value.string (ByteArray.mk #[])), (Value.slice none 0 0), (Value.int .i64 (0 : Int)), (Value.int .i64 (0 : Int)), (Value.string (ByteArray.mk #[])), (Value.slice none 0 0), (Value.slice none 0 0), (Value.slice none 0 0), (Value.slice none 0 0), (Value.int .i64 (0 : Int))] A5 n5 c5 (Value.slice (some ⟨Array.size h4_, 0, none⟩) 1 1) h8_ fun v9_ h10_ => ∃ A11_, ∃ n11_, ∃ c11_, v9_ = (Value.slice A11_ n11_ c11_) ∧ f12.l0 R x1 A11_ n11_ c11_ A8 n8 c8 x9 (IntKind.wrap .i64 (x10 + (1 : Int))) h10_)) (f12.l0 R x1 A5 n5 c5 A8 n8 c8 x9 (IntKind.wrap .i64 (x10 + (1 : Int))) h4_))) (R (Value.slice A5 n5 c5) h)
set_option maxRecDepth 100000 in
theorem f12.l0_in {R : Value → Heap → Prop} {x1 : Int} {A5 : Option Addr} {n5 : Nat} {c5 : Nat} {A8 : Option Addr} {n8 : Nat} {c8 : Nat} {x9 : Int} {x10 : Int} {h : Heap} (H : f12.l0T R x1 A5 n5 c5 A8 n8 c8 x9 x10 h) : f12.l0 R x1 A5 n5 c5 A8 n8 c8 x9 x10 h :=
  pt_intro mixed f12.good (Eq.mpr (show (Fwd Tryd.prog f12.T f12.kp Tryd.f12 R [false, false, true, false, true, true] (mkFr [(1, (Value.int .i64 x1)), (5, (Value.slice A5 n5 c5)), (8, (Value.slice A8 n8 c8)), (9, (Value.int .i64 x9)), (10, (Value.int .i64 x10))]) h) = (f12.l0T R x1 A5 n5 c5 A8 n8 c8 x9 x10 h) by kernel_rfl) H)
set_option maxRecDepth 100000 in
def f12.runT (R : Value → Heap → Prop) (A0 : Option Addr) (n0 : Nat) (c0 : Nat) (x1 : Int) (h : Heap) : Prop :=
  f12.l0 R x1 none 0 0 A0 n0 c0 ((n0 : Nat) : Int) (0 : Int) h
set_option maxRecDepth 100000 in
theorem f12.run {R : Value → Heap → Prop} {A0 : Option Addr} {n0 : Nat} {c0 : Nat} {x1 : Int} {h : Heap} (H : f12.runT R A0 n0 c0 x1 h) : Run Tryd.prog 12 #[(Value.slice A0 n0 c0), (Value.int .i64 x1)] h R :=
  run_of mixed Tryd.func12 (by kernel_rfl) (by kernel_rfl) f12.good (Eq.mpr (show (Fwd Tryd.prog f12.T f12.kp Tryd.f12 R [] (mkFr (argL [(Value.slice A0 n0 c0), (Value.int .i64 x1)] 0)) h) = (f12.runT R A0 n0 c0 x1 h) by kernel_rfl) H)
def f13.T : Tab := { sh := tSh, tup := tTup, keep := [], plan := [] }
def f13.kp : Keep := [([false, false, true, false, true, true], [1, 5, 8, 9, 10])]
theorem f13.good : goodCode Tryd.prog f13.T (rootOf Tryd.f13) = true := by kernel_rfl
def f13.l0 (R : Value → Heap → Prop) (x1 : Int) (A5 : Option Addr) (n5 : Nat) (c5 : Nat) (A8 : Option Addr) (n8 : Nat) (c8 : Nat) (x9 : Int) (x10 : Int) (h : Heap) : Prop := Pt Tryd.prog Tryd.f13 R [false, false, true, false, true, true] (mkFr [(1, (Value.int .i64 x1)), (5, (Value.slice A5 n5 c5)), (8, (Value.slice A8 n8 c8)), (9, (Value.int .i64 x9)), (10, (Value.int .i64 x10))]) h
set_option maxRecDepth 100000 in
def f13.l0T (R : Value → Heap → Prop) (x1 : Int) (A5 : Option Addr) (n5 : Nat) (c5 : Nat) (A8 : Option Addr) (n8 : Nat) (c8 : Nat) (x9 : Int) (x10 : Int) (h : Heap) : Prop :=
  splitB (decide (x10 < x9)) (ptrOk A8 fun a1_ => 0 ≤ x10 ∧ x10 < ((n8 : Nat) : Int) ∧ (∃ v2_, ldv true 14 h (Addr.add a1_ (Int.toNat x10 * 14)) = some v2_ ∧ newH h (Obj.cells #[(Value.string (ByteArray.mk #[])), (Value.slice none 0 0), (Value.slice none 0 0), (Value.int .i64 (0 : Int)), (Value.string (ByteArray.mk #[])), (Value.slice none 0 0), (Value.int .i64 (0 : Int)), (Value.int .i64 (0 : Int)), (Value.string (ByteArray.mk #[])), (Value.slice none 0 0), (Value.slice none 0 0), (Value.slice none 0 0), (Value.slice none 0 0), (Value.int .i64 (0 : Int))] 64) fun h3_ => ∃ l5_ : List Value, v2_ = Value.agg l5_.toArray ∧ l5_.length = 14 ∧ ∃ h4_, stH h3_ (⟨Array.size h, 0, none⟩) l5_ 0 = some h4_ ∧ splitB (x10 != x1) (∃ v6_, ldv true 14 h4_ (⟨Array.size h, 0, none⟩) = some v6_ ∧ ∃ l7_ : List Value, v6_ = Value.agg l7_.toArray ∧ l7_.length = 14 ∧ (newH h4_ (Obj.cells ((List.take 0 ([(Value.string (ByteArray.mk #[])), (Value.slice none 0 0), (Value.slice none 0 0), (Value.int .i64 (0 : Int)), (Value.string (ByteArray.mk #[])), (Value.slice none 0 0), (Value.int .i64 (0 : Int)), (Value.int .i64 (0 : Int)), (Value.string (ByteArray.mk #[])), (Value.slice none 0 0), (Value.slice none 0 0), (Value.slice none 0 0), (Value.slice none 0 0), (Value.int .i64 (0 : Int))]) ++ l7_ ++ List.drop 14 ([(Value.string (ByteArray.mk #[])), (Value.slice none 0 0), (Value.slice none 0 0), (Value.int .i64 (0 : Int)), (Value.string (ByteArray.mk #[])), (Value.slice none 0 0), (Value.int .i64 (0 : Int)), (Value.int .i64 (0 : Int)), (Value.string (ByteArray.mk #[])), (Value.slice none 0 0), (Value.slice none 0 0), (Value.slice none 0 0), (Value.slice none 0 0), (Value.int .i64 (0 : Int))])).toArray) 64) fun h8_ => AppW 64 14 248 #[(Value.string (ByteArray.mk #[])), (Value.slice none 0 0), (Value.slice none 0 0), (Value.int .i64 (0 : Int)), (Value.string (ByteArray.mk #[])), (Value.slice none 0 0), (Value.int .i64 (0 : Int)), (Value.int .i64 (0 : Int)), (Value.string (ByteArray.mk #[])), (Value.slice none 0 0), (Value.slice none 0 0), (Value.slice none 0 0), (Value.slice none 0 0), (Value.int .i64 (0 : Int))] A5 n5 c5 (Value.slice (some ⟨Array.size h4_, 0, none⟩) 1 1) h8_ fun v9_ h10_ => ∃ A11_, ∃ n11_, ∃ c11_, v9_ = (Value.slice A11_ n11_ c11_) ∧ f13.l0 R x1 A11_ n11_ c11_ A8 n8 c8 x9 (IntKind.wrap .i64 (x10 + (1 : Int))) h10_)) (f13.l0 R x1 A5 n5 c5 A8 n8 c8 x9 (IntKind.wrap .i64 (x10 + (1 : Int))) h4_))) (R (Value.slice A5 n5 c5) h)
set_option maxRecDepth 100000 in
theorem f13.l0_in {R : Value → Heap → Prop} {x1 : Int} {A5 : Option Addr} {n5 : Nat} {c5 : Nat} {A8 : Option Addr} {n8 : Nat} {c8 : Nat} {x9 : Int} {x10 : Int} {h : Heap} (H : f13.l0T R x1 A5 n5 c5 A8 n8 c8 x9 x10 h) : f13.l0 R x1 A5 n5 c5 A8 n8 c8 x9 x10 h :=
  pt_intro mixed f13.good (Eq.mpr (show (Fwd Tryd.prog f13.T f13.kp Tryd.f13 R [false, false, true, false, true, true] (mkFr [(1, (Value.int .i64 x1)), (5, (Value.slice A5 n5 c5)), (8, (Value.slice A8 n8 c8)), (9, (Value.int .i64 x9)), (10, (Value.int .i64 x10))]) h) = (f13.l0T R x1 A5 n5 c5 A8 n8 c8 x9 x10 h) by kernel_rfl) H)
set_option maxRecDepth 100000 in
def f13.runT (R : Value → Heap → Prop) (A0 : Option Addr) (n0 : Nat) (c0 : Nat) (x1 : Int) (h : Heap) : Prop :=
  f13.l0 R x1 none 0 0 A0 n0 c0 ((n0 : Nat) : Int) (0 : Int) h
set_option maxRecDepth 100000 in
theorem f13.run {R : Value → Heap → Prop} {A0 : Option Addr} {n0 : Nat} {c0 : Nat} {x1 : Int} {h : Heap} (H : f13.runT R A0 n0 c0 x1 h) : Run Tryd.prog 13 #[(Value.slice A0 n0 c0), (Value.int .i64 x1)] h R :=
  run_of mixed Tryd.func13 (by kernel_rfl) (by kernel_rfl) f13.good (Eq.mpr (show (Fwd Tryd.prog f13.T f13.kp Tryd.f13 R [] (mkFr (argL [(Value.slice A0 n0 c0), (Value.int .i64 x1)] 0)) h) = (f13.runT R A0 n0 c0 x1 h) by kernel_rfl) H)
def f3.T : Tab := { sh := tSh, tup := tTup, keep := [], plan := [(14, (.take 0 (.take 2 (.take 3 (.take 4 (.alt true 1 (.eff false 5 (.eff false 6 (.take 7 (.eff false 8 .done)))) (.eff false 5 (.eff true 1 (.eff false 6 (.take 7 (.eff false 8 .done))))))))))), (15, (.take 0 (.take 2 (.take 3 (.take 4 (.alt true 1 (.eff false 5 (.eff false 6 (.take 7 (.eff false 8 .done)))) (.eff false 5 (.eff true 1 (.eff false 6 (.take 7 (.eff false 8 .done))))))))))), (16, (.take 0 (.take 2 (.take 3 (.take 4 (.alt true 1 (.eff false 5 (.eff false 6 (.take 7 (.eff false 8 .done)))) (.eff false 5 (.eff true 1 (.eff false 6 (.take 7 (.eff false 8 .done))))))))))), (17, (.take 0 (.take 2 (.take 3 (.take 4 (.alt true 1 (.eff false 5 (.eff false 6 (.take 7 (.eff false 8 .done)))) (.eff false 5 (.eff true 1 (.eff false 6 (.take 7 (.eff false 8 .done))))))))))), (18, (.take 0 (.take 2 (.take 3 (.take 4 (.alt true 1 (.eff false 5 (.eff false 6 (.take 7 (.eff false 8 .done)))) (.eff false 5 (.eff true 1 (.eff false 6 (.take 7 (.eff false 8 .done))))))))))), (19, (.take 0 (.take 2 (.take 3 (.take 4 (.alt true 1 (.eff false 5 (.eff false 6 (.take 7 (.eff false 8 .done)))) (.eff false 5 (.eff true 1 (.eff false 6 (.take 7 (.eff false 8 .done))))))))))), (20, (.take 0 (.take 1 (.take 2 (.split 2 (.take 3 (.alt false 4 (.eff true 5 (.eff false 6 (.take 7 (.take 8 (.take 9 .done))))) (.eff true 5 (.eff false 4 (.eff false 6 (.take 7 (.take 8 (.take 9 .done)))))))))))))] }
def f3.kp : Keep := [([false, false, true, false, true, true, true], [2, 3, 5, 6, 31, 32, 33]), ([true, true, true, true, true, true], [2, 3, 5, 6, 9, 10]), ([true, false, true, true, true, true, true, true], [2, 3, 5, 9, 10, 64]), ([true, true, true, true, true, true, true], [2, 3, 5, 9, 10]), ([true, true, true, true, true, true, true, true, true], [2, 3, 5, 9, 10, 11]), ([true, true, true, true, true, true, true, true, true, true], [2, 3, 5, 9, 10, 11]), ([true, true, true, true, true, true, true, true, true, true, true], [2, 3, 5, 9, 10, 11]), ([true, true, true, true, true, true, true, true, true, true, true, true], [2, 3, 5, 9, 10, 11]), ([true, true, true, true, true, true, true, true, true, true, true, true, true], [2, 3, 5, 9, 10, 11]), ([true, true, true, true, true, true, true, true, true, true, true, true, true, true], [9, 10, 11])]
theorem f3.good : goodCode Tryd.prog f3.T (rootOf Tryd.f3) = true := by kernel_rfl
def f3.l0 (R : Value → Heap → Prop) (a2 : Addr) (a3 : Addr) (A5 : Option Addr) (n5 : Nat) (c5 : Nat) (x6 : Int) (A31 : Option Addr) (n31 : Nat) (c31 : Nat) (x32 : Int) (x33 : Int) (h : Heap) : Prop := Pt Tryd.prog Tryd.f3 R [false, false, true, false, true, true, true] (mkFr [(2, (Value.pointer (some a2))), (3, (Value.pointer (some a3))), (5, (Value.slice A5 n5 c5)), (6, (Value.int .i64 x6)), (31, (Value.slice A31 n31 c31)), (32, (Value.int .i64 x32)), (33, (Value.int .i64 x33))]) h
def f3.j0 (R : Value → Heap → Prop) (a2 : Addr) (a3 : Addr) (A5 : Option Addr) (n5 : Nat) (c5 : Nat) (x6 : Int) (a9 : Addr) (x10 : Int) (h : Heap) : Prop := Pt Tryd.prog Tryd.f3 R [true, true, true, true, true, true] (mkFr [(2, (Value.pointer (some a2))), (3, (Value.pointer (some a3))), (5, (Value.slice A5 n5 c5)), (6, (Value.int .i64 x6)), (9, (Value.pointer (some a9))), (10, (Value.int .i64 x10))]) h
def f3.j2 (R : Value → Heap → Prop) (a2 : Addr) (a3 : Addr) (A5 : Option Addr) (n5 : Nat) (c5 : Nat) (a9 : Addr) (x10 : Int) (b64 : Bool) (h : Heap) : Prop := Pt Tryd.prog Tryd.f3 R [true, false, true, true, true, true, true, true] (mkFr [(2, (Value.pointer (some a2))), (3, (Value.pointer (some a3))), (5, (Value.slice A5 n5 c5)), (9, (Value.pointer (some a9))), (10, (Value.int .i64 x10)), (64, (Value.bool b64))]) h
def f3.j1 (R : Value → Heap → Prop) (a2 : Addr) (a3 : Addr) (A5 : Option Addr) (n5 : Nat) (c5 : Nat) (a9 : Addr) (x10 : Int) (h : Heap) : Prop := Pt Tryd.prog Tryd.f3 R [true, true, true, true, true, true, true] (mkFr [(2, (Value.pointer (some a2))), (3, (Value.pointer (some a3))), (5, (Value.slice A5 n5 c5)), (9, (Value.pointer (some a9))), (10, (Value.int .i64 x10))]) h
def f3.j3 (R : Value → Heap → Prop) (a2 : Addr) (a3 : Addr) (A5 : Option Addr) (n5 : Nat) (c5 : Nat) (a9 : Addr) (x10 : Int) (a11 : Addr) (h : Heap) : Prop := Pt Tryd.prog Tryd.f3 R [true, true, true, true, true, true, true, true, true] (mkFr [(2, (Value.pointer (some a2))), (3, (Value.pointer (some a3))), (5, (Value.slice A5 n5 c5)), (9, (Value.pointer (some a9))), (10, (Value.int .i64 x10)), (11, (Value.pointer (some a11)))]) h
def f3.j4 (R : Value → Heap → Prop) (a2 : Addr) (a3 : Addr) (A5 : Option Addr) (n5 : Nat) (c5 : Nat) (a9 : Addr) (x10 : Int) (a11 : Addr) (h : Heap) : Prop := Pt Tryd.prog Tryd.f3 R [true, true, true, true, true, true, true, true, true, true] (mkFr [(2, (Value.pointer (some a2))), (3, (Value.pointer (some a3))), (5, (Value.slice A5 n5 c5)), (9, (Value.pointer (some a9))), (10, (Value.int .i64 x10)), (11, (Value.pointer (some a11)))]) h
def f3.j5 (R : Value → Heap → Prop) (a2 : Addr) (a3 : Addr) (A5 : Option Addr) (n5 : Nat) (c5 : Nat) (a9 : Addr) (x10 : Int) (a11 : Addr) (h : Heap) : Prop := Pt Tryd.prog Tryd.f3 R [true, true, true, true, true, true, true, true, true, true, true] (mkFr [(2, (Value.pointer (some a2))), (3, (Value.pointer (some a3))), (5, (Value.slice A5 n5 c5)), (9, (Value.pointer (some a9))), (10, (Value.int .i64 x10)), (11, (Value.pointer (some a11)))]) h
def f3.j6 (R : Value → Heap → Prop) (a2 : Addr) (a3 : Addr) (A5 : Option Addr) (n5 : Nat) (c5 : Nat) (a9 : Addr) (x10 : Int) (a11 : Addr) (h : Heap) : Prop := Pt Tryd.prog Tryd.f3 R [true, true, true, true, true, true, true, true, true, true, true, true] (mkFr [(2, (Value.pointer (some a2))), (3, (Value.pointer (some a3))), (5, (Value.slice A5 n5 c5)), (9, (Value.pointer (some a9))), (10, (Value.int .i64 x10)), (11, (Value.pointer (some a11)))]) h
def f3.j7 (R : Value → Heap → Prop) (a2 : Addr) (a3 : Addr) (A5 : Option Addr) (n5 : Nat) (c5 : Nat) (a9 : Addr) (x10 : Int) (a11 : Addr) (h : Heap) : Prop := Pt Tryd.prog Tryd.f3 R [true, true, true, true, true, true, true, true, true, true, true, true, true] (mkFr [(2, (Value.pointer (some a2))), (3, (Value.pointer (some a3))), (5, (Value.slice A5 n5 c5)), (9, (Value.pointer (some a9))), (10, (Value.int .i64 x10)), (11, (Value.pointer (some a11)))]) h
def f3.j8 (R : Value → Heap → Prop) (a9 : Addr) (x10 : Int) (a11 : Addr) (h : Heap) : Prop := Pt Tryd.prog Tryd.f3 R [true, true, true, true, true, true, true, true, true, true, true, true, true, true] (mkFr [(9, (Value.pointer (some a9))), (10, (Value.int .i64 x10)), (11, (Value.pointer (some a11)))]) h
set_option maxRecDepth 100000 in
def f3.l0T (R : Value → Heap → Prop) (a2 : Addr) (a3 : Addr) (A5 : Option Addr) (n5 : Nat) (c5 : Nat) (x6 : Int) (A31 : Option Addr) (n31 : Nat) (c31 : Nat) (x32 : Int) (x33 : Int) (h : Heap) : Prop :=
  splitB (decide (x33 < x32)) (ptrOk A31 fun a1_ => 0 ≤ x33 ∧ x33 < ((n31 : Nat) : Int) ∧ (∃ v2_, ldv false 1 h (Addr.add a1_ (Int.toNat x33 * 1)) = some v2_ ∧ ∃ x3_, v2_ = (Value.int .i64 x3_) ∧ f3.l0 R a2 a3 A5 n5 c5 (IntKind.wrap .i64 (x6 + x3_)) A31 n31 c31 x32 (IntKind.wrap .i64 (x33 + (1 : Int))) h)) (∃ v4_, ldv true 8 h a2 = some v4_ ∧ ∃ v5_, ldv false 1 h a3 = some v5_ ∧ ∃ x6_, v5_ = (Value.int .i64 x6_) ∧ Run Tryd.prog 4 #[v4_, (Value.int .i64 x6_)] h fun v7_ h8_ => ∃ v9_, ∃ x10_, v7_ = (Value.tuple #[v9_, (Value.int .i64 x10_)]) ∧ newH h8_ (Obj.cells #[(Value.string (ByteArray.mk #[])), (Value.int .i64 (0 : Int)), (Value.slice none 0 0), (Value.slice none 0 0), (Value.slice none 0 0), (Value.slice none 0 0), (Value.slice none 0 0), (Value.slice none 0 0)] 29) fun h11_ => ∃ l13_ : List Value, v9_ = Value.agg l13_.toArray ∧ l13_.length = 8 ∧ ∃ h12_, stH h11_ (⟨Array.size h8_, 0, none⟩) l13_ 0 = some h12_ ∧ ∃ v14_, ldv true 8 h12_ a2 = some v14_ ∧ Run Tryd.prog 5 #[v14_] h12_ fun v15_ h16_ => ∃ x17_, v15_ = (Value.int .i64 x17_) ∧ splitB (x17_ != x6) (R (Value.bool false) h16_) (∃ l18_ : List Value, (Value.agg #[(Value.string (ByteArray.mk #[])), (Value.int .i64 (0 : Int)), (Value.int .i64 (0 : Int))]) = Value.agg l18_.toArray ∧ l18_.length = 3 ∧ (newH h16_ (Obj.cells ((List.take 0 ([(Value.string (ByteArray.mk #[])), (Value.int .i64 (0 : Int)), (Value.int .i64 (0 : Int))]) ++ l18_ ++ List.drop 3 ([(Value.string (ByteArray.mk #[])), (Value.int .i64 (0 : Int)), (Value.int .i64 (0 : Int))])).toArray) 36) fun h19_ => Run Tryd.prog 5 #[(Value.agg #[(Value.string (ByteArray.mk #[])), (Value.int .i64 (0 : Int)), (Value.slice (some ⟨Array.size h16_, 0, none⟩) 1 1), (Value.slice none 0 0), (Value.slice none 0 0), (Value.slice none 0 0), (Value.slice none 0 0), (Value.slice none 0 0)])] h19_ fun v20_ h21_ => ∃ x22_, v20_ = (Value.int .i64 x22_) ∧ splitB (x22_ != (1 : Int)) (R (Value.bool false) h21_) (f3.j0 R a2 a3 A5 n5 c5 x6 (⟨Array.size h8_, 0, none⟩) x10_ h21_))))
set_option maxRecDepth 100000 in
theorem f3.l0_in {R : Value → Heap → Prop} {a2 : Addr} {a3 : Addr} {A5 : Option Addr} {n5 : Nat} {c5 : Nat} {x6 : Int} {A31 : Option Addr} {n31 : Nat} {c31 : Nat} {x32 : Int} {x33 : Int} {h : Heap} (H : f3.l0T R a2 a3 A5 n5 c5 x6 A31 n31 c31 x32 x33 h) : f3.l0 R a2 a3 A5 n5 c5 x6 A31 n31 c31 x32 x33 h :=
  pt_intro mixed f3.good (Eq.mpr (show (Fwd Tryd.prog f3.T f3.kp Tryd.f3 R [false, false, true, false, true, true, true] (mkFr [(2, (Value.pointer (some a2))), (3, (Value.pointer (some a3))), (5, (Value.slice A5 n5 c5)), (6, (Value.int .i64 x6)), (31, (Value.slice A31 n31 c31)), (32, (Value.int .i64 x32)), (33, (Value.int .i64 x33))]) h) = (f3.l0T R a2 a3 A5 n5 c5 x6 A31 n31 c31 x32 x33 h) by kernel_rfl) H)
set_option maxRecDepth 100000 in
def f3.j0T (R : Value → Heap → Prop) (a2 : Addr) (a3 : Addr) (A5 : Option Addr) (n5 : Nat) (c5 : Nat) (x6 : Int) (a9 : Addr) (x10 : Int) (h : Heap) : Prop :=
  ∃ v1_, ldv false 1 h a3 = some v1_ ∧ ∃ x2_, v1_ = (Value.int .i64 x2_) ∧ splitB (decide (x2_ < (0 : Int))) (f3.j2 R a2 a3 A5 n5 c5 a9 x10 true h) (∃ v3_, ldv false 1 h a3 = some v3_ ∧ ∃ x4_, v3_ = (Value.int .i64 x4_) ∧ f3.j2 R a2 a3 A5 n5 c5 a9 x10 (decide (x4_ ≥ x6)) h)
set_option maxRecDepth 100000 in
theorem f3.j0_in {R : Value → Heap → Prop} {a2 : Addr} {a3 : Addr} {A5 : Option Addr} {n5 : Nat} {c5 : Nat} {x6 : Int} {a9 : Addr} {x10 : Int} {h : Heap} (H : f3.j0T R a2 a3 A5 n5 c5 x6 a9 x10 h) : f3.j0 R a2 a3 A5 n5 c5 x6 a9 x10 h :=
  pt_intro mixed f3.good (Eq.mpr (show (Fwd Tryd.prog f3.T f3.kp Tryd.f3 R [true, true, true, true, true, true] (mkFr [(2, (Value.pointer (some a2))), (3, (Value.pointer (some a3))), (5, (Value.slice A5 n5 c5)), (6, (Value.int .i64 x6)), (9, (Value.pointer (some a9))), (10, (Value.int .i64 x10))]) h) = (f3.j0T R a2 a3 A5 n5 c5 x6 a9 x10 h) by kernel_rfl) H)
set_option maxRecDepth 100000 in
def f3.j2T (R : Value → Heap → Prop) (a2 : Addr) (a3 : Addr) (A5 : Option Addr) (n5 : Nat) (c5 : Nat) (a9 : Addr) (x10 : Int) (b64 : Bool) (h : Heap) : Prop :=
  splitB b64 (splitB (x10 == (4 : Int)) (∃ v1_, ldv true 8 h a9 = some v1_ ∧ Run Tryd.prog 6 #[v1_] h fun v2_ h3_ => ∃ s4_, v2_ = (Value.string s4_) ∧ Run Tryd.prog 6 #[(Value.agg #[(Value.string (ByteArray.mk #[])), (Value.int .i64 (0 : Int)), (Value.slice none 0 0), (Value.slice none 0 0), (Value.slice none 0 0), (Value.slice none 0 0), (Value.slice none 0 0), (Value.slice none 0 0)])] h3_ fun v5_ h6_ => ∃ s7_, v5_ = (Value.string s7_) ∧ R (Value.bool (ByteArray.toList s4_ == ByteArray.toList s7_)) h6_) (R (Value.bool false) h)) (f3.j1 R a2 a3 A5 n5 c5 a9 x10 h)
set_option maxRecDepth 100000 in
theorem f3.j2_in {R : Value → Heap → Prop} {a2 : Addr} {a3 : Addr} {A5 : Option Addr} {n5 : Nat} {c5 : Nat} {a9 : Addr} {x10 : Int} {b64 : Bool} {h : Heap} (H : f3.j2T R a2 a3 A5 n5 c5 a9 x10 b64 h) : f3.j2 R a2 a3 A5 n5 c5 a9 x10 b64 h :=
  pt_intro mixed f3.good (Eq.mpr (show (Fwd Tryd.prog f3.T f3.kp Tryd.f3 R [true, false, true, true, true, true, true, true] (mkFr [(2, (Value.pointer (some a2))), (3, (Value.pointer (some a3))), (5, (Value.slice A5 n5 c5)), (9, (Value.pointer (some a9))), (10, (Value.int .i64 x10)), (64, (Value.bool b64))]) h) = (f3.j2T R a2 a3 A5 n5 c5 a9 x10 b64 h) by kernel_rfl) H)
set_option maxRecDepth 100000 in
def f3.j1T (R : Value → Heap → Prop) (a2 : Addr) (a3 : Addr) (A5 : Option Addr) (n5 : Nat) (c5 : Nat) (a9 : Addr) (x10 : Int) (h : Heap) : Prop :=
  ∃ v1_, ldv true 8 h a2 = some v1_ ∧ newH h (Obj.cells #[(Value.string (ByteArray.mk #[])), (Value.int .i64 (0 : Int)), (Value.slice none 0 0), (Value.slice none 0 0), (Value.slice none 0 0), (Value.slice none 0 0), (Value.slice none 0 0), (Value.slice none 0 0)] 29) fun h2_ => ∃ l4_ : List Value, v1_ = Value.agg l4_.toArray ∧ l4_.length = 8 ∧ ∃ h3_, stH h2_ (⟨Array.size h, 0, none⟩) l4_ 0 = some h3_ ∧ ptrOk A5 fun a5_ => 0 ≤ (0 : Int) ∧ (0 : Int) < ((n5 : Nat) : Int) ∧ (∃ v6_, ldv false 1 h3_ (Addr.add a5_ (Int.toNat (0 : Int) * 1)) = some v6_ ∧ ∃ x7_, v6_ = (Value.int .i64 x7_) ∧ (∃ v8_, ldv false 1 h3_ (Addr.add a2 2) = some v8_ ∧ ∃ A9_, ∃ n9_, ∃ c9_, v8_ = (Value.slice A9_ n9_ c9_) ∧ Ext h3_ h3_ ∧ (Run Tryd.prog 8 #[(Value.pointer (some a3)), (Value.int .i64 x7_)] h3_ fun v10_ h11_ => ∃ x12_, v10_ = (Value.int .i64 x12_) ∧ Run Tryd.prog 7 #[(Value.slice A9_ n9_ c9_), (Value.int .i64 x12_)] h11_ fun v13_ h14_ => ∃ A15_, ∃ n15_, ∃ c15_, v13_ = (Value.slice A15_ n15_ c15_) ∧ ∃ h16_, st1 h14_ (Addr.add (⟨Array.size h, 0, none⟩) 2) (Value.slice A15_ n15_ c15_) = some h16_ ∧ f3.j3 R a2 a3 A5 n5 c5 a9 x10 (⟨Array.size h, 0, none⟩) h16_)) ∧ (Run Tryd.prog 8 #[(Value.pointer (some a3)), (Value.int .i64 x7_)] h3_ fun v17_ h18_ => ∃ x19_, v17_ = (Value.int .i64 x19_) ∧ ∃ v20_, ldv false 1 h18_ (Addr.add a2 2) = some v20_ ∧ ∃ A21_, ∃ n21_, ∃ c21_, v20_ = (Value.slice A21_ n21_ c21_) ∧ Ext h18_ h18_ ∧ (Run Tryd.prog 7 #[(Value.slice A21_ n21_ c21_), (Value.int .i64 x19_)] h18_ fun v22_ h23_ => ∃ A24_, ∃ n24_, ∃ c24_, v22_ = (Value.slice A24_ n24_ c24_) ∧ ∃ h25_, st1 h23_ (Addr.add (⟨Array.size h, 0, none⟩) 2) (Value.slice A24_ n24_ c24_) = some h25_ ∧ f3.j3 R a2 a3 A5 n5 c5 a9 x10 (⟨Array.size h, 0, none⟩) h25_)))
set_option maxRecDepth 100000 in
theorem f3.j1_in {R : Value → Heap → Prop} {a2 : Addr} {a3 : Addr} {A5 : Option Addr} {n5 : Nat} {c5 : Nat} {a9 : Addr} {x10 : Int} {h : Heap} (H : f3.j1T R a2 a3 A5 n5 c5 a9 x10 h) : f3.j1 R a2 a3 A5 n5 c5 a9 x10 h :=
  pt_intro mixed f3.good (Eq.mpr (show (Fwd Tryd.prog f3.T f3.kp Tryd.f3 R [true, true, true, true, true, true, true] (mkFr [(2, (Value.pointer (some a2))), (3, (Value.pointer (some a3))), (5, (Value.slice A5 n5 c5)), (9, (Value.pointer (some a9))), (10, (Value.int .i64 x10))]) h) = (f3.j1T R a2 a3 A5 n5 c5 a9 x10 h) by kernel_rfl) H)
set_option maxRecDepth 100000 in
def f3.j3T (R : Value → Heap → Prop) (a2 : Addr) (a3 : Addr) (A5 : Option Addr) (n5 : Nat) (c5 : Nat) (a9 : Addr) (x10 : Int) (a11 : Addr) (h : Heap) : Prop :=
  ptrOk A5 fun a1_ => 0 ≤ (1 : Int) ∧ (1 : Int) < ((n5 : Nat) : Int) ∧ (∃ v2_, ldv false 1 h (Addr.add a1_ (Int.toNat (1 : Int) * 1)) = some v2_ ∧ ∃ x3_, v2_ = (Value.int .i64 x3_) ∧ (∃ v4_, ldv false 1 h (Addr.add a2 3) = some v4_ ∧ ∃ A5_, ∃ n5_, ∃ c5_, v4_ = (Value.slice A5_ n5_ c5_) ∧ Ext h h ∧ (Run Tryd.prog 8 #[(Value.pointer (some a3)), (Value.int .i64 x3_)] h fun v6_ h7_ => ∃ x8_, v6_ = (Value.int .i64 x8_) ∧ Run Tryd.prog 9 #[(Value.slice A5_ n5_ c5_), (Value.int .i64 x8_)] h7_ fun v9_ h10_ => ∃ A11_, ∃ n11_, ∃ c11_, v9_ = (Value.slice A11_ n11_ c11_) ∧ ∃ h12_, st1 h10_ (Addr.add a11 3) (Value.slice A11_ n11_ c11_) = some h12_ ∧ f3.j4 R a2 a3 A5 n5 c5 a9 x10 a11 h12_)) ∧ (Run Tryd.prog 8 #[(Value.pointer (some a3)), (Value.int .i64 x3_)] h fun v13_ h14_ => ∃ x15_, v13_ = (Value.int .i64 x15_) ∧ ∃ v16_, ldv false 1 h14_ (Addr.add a2 3) = some v16_ ∧ ∃ A17_, ∃ n17_, ∃ c17_, v16_ = (Value.slice A17_ n17_ c17_) ∧ Ext h14_ h14_ ∧ (Run Tryd.prog 9 #[(Value.slice A17_ n17_ c17_), (Value.int .i64 x15_)] h14_ fun v18_ h19_ => ∃ A20_, ∃ n20_, ∃ c20_, v18_ = (Value.slice A20_ n20_ c20_) ∧ ∃ h21_, st1 h19_ (Addr.add a11 3) (Value.slice A20_ n20_ c20_) = some h21_ ∧ f3.j4 R a2 a3 A5 n5 c5 a9 x10 a11 h21_)))
set_option maxRecDepth 100000 in
theorem f3.j3_in {R : Value → Heap → Prop} {a2 : Addr} {a3 : Addr} {A5 : Option Addr} {n5 : Nat} {c5 : Nat} {a9 : Addr} {x10 : Int} {a11 : Addr} {h : Heap} (H : f3.j3T R a2 a3 A5 n5 c5 a9 x10 a11 h) : f3.j3 R a2 a3 A5 n5 c5 a9 x10 a11 h :=
  pt_intro mixed f3.good (Eq.mpr (show (Fwd Tryd.prog f3.T f3.kp Tryd.f3 R [true, true, true, true, true, true, true, true, true] (mkFr [(2, (Value.pointer (some a2))), (3, (Value.pointer (some a3))), (5, (Value.slice A5 n5 c5)), (9, (Value.pointer (some a9))), (10, (Value.int .i64 x10)), (11, (Value.pointer (some a11)))]) h) = (f3.j3T R a2 a3 A5 n5 c5 a9 x10 a11 h) by kernel_rfl) H)
set_option maxRecDepth 100000 in
def f3.j4T (R : Value → Heap → Prop) (a2 : Addr) (a3 : Addr) (A5 : Option Addr) (n5 : Nat) (c5 : Nat) (a9 : Addr) (x10 : Int) (a11 : Addr) (h : Heap) : Prop :=
  ptrOk A5 fun a1_ => 0 ≤ (2 : Int) ∧ (2 : Int) < ((n5 : Nat) : Int) ∧ (∃ v2_, ldv false 1 h (Addr.add a1_ (Int.toNat (2 : Int) * 1)) = some v2_ ∧ ∃ x3_, v2_ = (Value.int .i64 x3_) ∧ (∃ v4_, ldv false 1 h (Addr.add a2 4) = some v4_ ∧ ∃ A5_, ∃ n5_, ∃ c5_, v4_ = (Value.slice A5_ n5_ c5_) ∧ Ext h h ∧ (Run Tryd.prog 8 #[(Value.pointer (some a3)), (Value.int .i64 x3_)] h fun v6_ h7_ => ∃ x8_, v6_ = (Value.int .i64 x8_) ∧ Run Tryd.prog 10 #[(Value.slice A5_ n5_ c5_), (Value.int .i64 x8_)] h7_ fun v9_ h10_ => ∃ A11_, ∃ n11_, ∃ c11_, v9_ = (Value.slice A11_ n11_ c11_) ∧ ∃ h12_, st1 h10_ (Addr.add a11 4) (Value.slice A11_ n11_ c11_) = some h12_ ∧ f3.j5 R a2 a3 A5 n5 c5 a9 x10 a11 h12_)) ∧ (Run Tryd.prog 8 #[(Value.pointer (some a3)), (Value.int .i64 x3_)] h fun v13_ h14_ => ∃ x15_, v13_ = (Value.int .i64 x15_) ∧ ∃ v16_, ldv false 1 h14_ (Addr.add a2 4) = some v16_ ∧ ∃ A17_, ∃ n17_, ∃ c17_, v16_ = (Value.slice A17_ n17_ c17_) ∧ Ext h14_ h14_ ∧ (Run Tryd.prog 10 #[(Value.slice A17_ n17_ c17_), (Value.int .i64 x15_)] h14_ fun v18_ h19_ => ∃ A20_, ∃ n20_, ∃ c20_, v18_ = (Value.slice A20_ n20_ c20_) ∧ ∃ h21_, st1 h19_ (Addr.add a11 4) (Value.slice A20_ n20_ c20_) = some h21_ ∧ f3.j5 R a2 a3 A5 n5 c5 a9 x10 a11 h21_)))
set_option maxRecDepth 100000 in
theorem f3.j4_in {R : Value → Heap → Prop} {a2 : Addr} {a3 : Addr} {A5 : Option Addr} {n5 : Nat} {c5 : Nat} {a9 : Addr} {x10 : Int} {a11 : Addr} {h : Heap} (H : f3.j4T R a2 a3 A5 n5 c5 a9 x10 a11 h) : f3.j4 R a2 a3 A5 n5 c5 a9 x10 a11 h :=
  pt_intro mixed f3.good (Eq.mpr (show (Fwd Tryd.prog f3.T f3.kp Tryd.f3 R [true, true, true, true, true, true, true, true, true, true] (mkFr [(2, (Value.pointer (some a2))), (3, (Value.pointer (some a3))), (5, (Value.slice A5 n5 c5)), (9, (Value.pointer (some a9))), (10, (Value.int .i64 x10)), (11, (Value.pointer (some a11)))]) h) = (f3.j4T R a2 a3 A5 n5 c5 a9 x10 a11 h) by kernel_rfl) H)
set_option maxRecDepth 100000 in
def f3.j5T (R : Value → Heap → Prop) (a2 : Addr) (a3 : Addr) (A5 : Option Addr) (n5 : Nat) (c5 : Nat) (a9 : Addr) (x10 : Int) (a11 : Addr) (h : Heap) : Prop :=
  ptrOk A5 fun a1_ => 0 ≤ (3 : Int) ∧ (3 : Int) < ((n5 : Nat) : Int) ∧ (∃ v2_, ldv false 1 h (Addr.add a1_ (Int.toNat (3 : Int) * 1)) = some v2_ ∧ ∃ x3_, v2_ = (Value.int .i64 x3_) ∧ (∃ v4_, ldv false 1 h (Addr.add a2 5) = some v4_ ∧ ∃ A5_, ∃ n5_, ∃ c5_, v4_ = (Value.slice A5_ n5_ c5_) ∧ Ext h h ∧ (Run Tryd.prog 8 #[(Value.pointer (some a3)), (Value.int .i64 x3_)] h fun v6_ h7_ => ∃ x8_, v6_ = (Value.int .i64 x8_) ∧ Run Tryd.prog 11 #[(Value.slice A5_ n5_ c5_), (Value.int .i64 x8_)] h7_ fun v9_ h10_ => ∃ A11_, ∃ n11_, ∃ c11_, v9_ = (Value.slice A11_ n11_ c11_) ∧ ∃ h12_, st1 h10_ (Addr.add a11 5) (Value.slice A11_ n11_ c11_) = some h12_ ∧ f3.j6 R a2 a3 A5 n5 c5 a9 x10 a11 h12_)) ∧ (Run Tryd.prog 8 #[(Value.pointer (some a3)), (Value.int .i64 x3_)] h fun v13_ h14_ => ∃ x15_, v13_ = (Value.int .i64 x15_) ∧ ∃ v16_, ldv false 1 h14_ (Addr.add a2 5) = some v16_ ∧ ∃ A17_, ∃ n17_, ∃ c17_, v16_ = (Value.slice A17_ n17_ c17_) ∧ Ext h14_ h14_ ∧ (Run Tryd.prog 11 #[(Value.slice A17_ n17_ c17_), (Value.int .i64 x15_)] h14_ fun v18_ h19_ => ∃ A20_, ∃ n20_, ∃ c20_, v18_ = (Value.slice A20_ n20_ c20_) ∧ ∃ h21_, st1 h19_ (Addr.add a11 5) (Value.slice A20_ n20_ c20_) = some h21_ ∧ f3.j6 R a2 a3 A5 n5 c5 a9 x10 a11 h21_)))
set_option maxRecDepth 100000 in
theorem f3.j5_in {R : Value → Heap → Prop} {a2 : Addr} {a3 : Addr} {A5 : Option Addr} {n5 : Nat} {c5 : Nat} {a9 : Addr} {x10 : Int} {a11 : Addr} {h : Heap} (H : f3.j5T R a2 a3 A5 n5 c5 a9 x10 a11 h) : f3.j5 R a2 a3 A5 n5 c5 a9 x10 a11 h :=
  pt_intro mixed f3.good (Eq.mpr (show (Fwd Tryd.prog f3.T f3.kp Tryd.f3 R [true, true, true, true, true, true, true, true, true, true, true] (mkFr [(2, (Value.pointer (some a2))), (3, (Value.pointer (some a3))), (5, (Value.slice A5 n5 c5)), (9, (Value.pointer (some a9))), (10, (Value.int .i64 x10)), (11, (Value.pointer (some a11)))]) h) = (f3.j5T R a2 a3 A5 n5 c5 a9 x10 a11 h) by kernel_rfl) H)
set_option maxRecDepth 100000 in
def f3.j6T (R : Value → Heap → Prop) (a2 : Addr) (a3 : Addr) (A5 : Option Addr) (n5 : Nat) (c5 : Nat) (a9 : Addr) (x10 : Int) (a11 : Addr) (h : Heap) : Prop :=
  ptrOk A5 fun a1_ => 0 ≤ (4 : Int) ∧ (4 : Int) < ((n5 : Nat) : Int) ∧ (∃ v2_, ldv false 1 h (Addr.add a1_ (Int.toNat (4 : Int) * 1)) = some v2_ ∧ ∃ x3_, v2_ = (Value.int .i64 x3_) ∧ (∃ v4_, ldv false 1 h (Addr.add a2 6) = some v4_ ∧ ∃ A5_, ∃ n5_, ∃ c5_, v4_ = (Value.slice A5_ n5_ c5_) ∧ Ext h h ∧ (Run Tryd.prog 8 #[(Value.pointer (some a3)), (Value.int .i64 x3_)] h fun v6_ h7_ => ∃ x8_, v6_ = (Value.int .i64 x8_) ∧ Run Tryd.prog 12 #[(Value.slice A5_ n5_ c5_), (Value.int .i64 x8_)] h7_ fun v9_ h10_ => ∃ A11_, ∃ n11_, ∃ c11_, v9_ = (Value.slice A11_ n11_ c11_) ∧ ∃ h12_, st1 h10_ (Addr.add a11 6) (Value.slice A11_ n11_ c11_) = some h12_ ∧ f3.j7 R a2 a3 A5 n5 c5 a9 x10 a11 h12_)) ∧ (Run Tryd.prog 8 #[(Value.pointer (some a3)), (Value.int .i64 x3_)] h fun v13_ h14_ => ∃ x15_, v13_ = (Value.int .i64 x15_) ∧ ∃ v16_, ldv false 1 h14_ (Addr.add a2 6) = some v16_ ∧ ∃ A17_, ∃ n17_, ∃ c17_, v16_ = (Value.slice A17_ n17_ c17_) ∧ Ext h14_ h14_ ∧ (Run Tryd.prog 12 #[(Value.slice A17_ n17_ c17_), (Value.int .i64 x15_)] h14_ fun v18_ h19_ => ∃ A20_, ∃ n20_, ∃ c20_, v18_ = (Value.slice A20_ n20_ c20_) ∧ ∃ h21_, st1 h19_ (Addr.add a11 6) (Value.slice A20_ n20_ c20_) = some h21_ ∧ f3.j7 R a2 a3 A5 n5 c5 a9 x10 a11 h21_)))
set_option maxRecDepth 100000 in
theorem f3.j6_in {R : Value → Heap → Prop} {a2 : Addr} {a3 : Addr} {A5 : Option Addr} {n5 : Nat} {c5 : Nat} {a9 : Addr} {x10 : Int} {a11 : Addr} {h : Heap} (H : f3.j6T R a2 a3 A5 n5 c5 a9 x10 a11 h) : f3.j6 R a2 a3 A5 n5 c5 a9 x10 a11 h :=
  pt_intro mixed f3.good (Eq.mpr (show (Fwd Tryd.prog f3.T f3.kp Tryd.f3 R [true, true, true, true, true, true, true, true, true, true, true, true] (mkFr [(2, (Value.pointer (some a2))), (3, (Value.pointer (some a3))), (5, (Value.slice A5 n5 c5)), (9, (Value.pointer (some a9))), (10, (Value.int .i64 x10)), (11, (Value.pointer (some a11)))]) h) = (f3.j6T R a2 a3 A5 n5 c5 a9 x10 a11 h) by kernel_rfl) H)
set_option maxRecDepth 100000 in
def f3.j7T (R : Value → Heap → Prop) (a2 : Addr) (a3 : Addr) (A5 : Option Addr) (n5 : Nat) (c5 : Nat) (a9 : Addr) (x10 : Int) (a11 : Addr) (h : Heap) : Prop :=
  ptrOk A5 fun a1_ => 0 ≤ (5 : Int) ∧ (5 : Int) < ((n5 : Nat) : Int) ∧ (∃ v2_, ldv false 1 h (Addr.add a1_ (Int.toNat (5 : Int) * 1)) = some v2_ ∧ ∃ x3_, v2_ = (Value.int .i64 x3_) ∧ (∃ v4_, ldv false 1 h (Addr.add a2 7) = some v4_ ∧ ∃ A5_, ∃ n5_, ∃ c5_, v4_ = (Value.slice A5_ n5_ c5_) ∧ Ext h h ∧ (Run Tryd.prog 8 #[(Value.pointer (some a3)), (Value.int .i64 x3_)] h fun v6_ h7_ => ∃ x8_, v6_ = (Value.int .i64 x8_) ∧ Run Tryd.prog 13 #[(Value.slice A5_ n5_ c5_), (Value.int .i64 x8_)] h7_ fun v9_ h10_ => ∃ A11_, ∃ n11_, ∃ c11_, v9_ = (Value.slice A11_ n11_ c11_) ∧ ∃ h12_, st1 h10_ (Addr.add a11 7) (Value.slice A11_ n11_ c11_) = some h12_ ∧ f3.j8 R a9 x10 a11 h12_)) ∧ (Run Tryd.prog 8 #[(Value.pointer (some a3)), (Value.int .i64 x3_)] h fun v13_ h14_ => ∃ x15_, v13_ = (Value.int .i64 x15_) ∧ ∃ v16_, ldv false 1 h14_ (Addr.add a2 7) = some v16_ ∧ ∃ A17_, ∃ n17_, ∃ c17_, v16_ = (Value.slice A17_ n17_ c17_) ∧ Ext h14_ h14_ ∧ (Run Tryd.prog 13 #[(Value.slice A17_ n17_ c17_), (Value.int .i64 x15_)] h14_ fun v18_ h19_ => ∃ A20_, ∃ n20_, ∃ c20_, v18_ = (Value.slice A20_ n20_ c20_) ∧ ∃ h21_, st1 h19_ (Addr.add a11 7) (Value.slice A20_ n20_ c20_) = some h21_ ∧ f3.j8 R a9 x10 a11 h21_)))
set_option maxRecDepth 100000 in
theorem f3.j7_in {R : Value → Heap → Prop} {a2 : Addr} {a3 : Addr} {A5 : Option Addr} {n5 : Nat} {c5 : Nat} {a9 : Addr} {x10 : Int} {a11 : Addr} {h : Heap} (H : f3.j7T R a2 a3 A5 n5 c5 a9 x10 a11 h) : f3.j7 R a2 a3 A5 n5 c5 a9 x10 a11 h :=
  pt_intro mixed f3.good (Eq.mpr (show (Fwd Tryd.prog f3.T f3.kp Tryd.f3 R [true, true, true, true, true, true, true, true, true, true, true, true, true] (mkFr [(2, (Value.pointer (some a2))), (3, (Value.pointer (some a3))), (5, (Value.slice A5 n5 c5)), (9, (Value.pointer (some a9))), (10, (Value.int .i64 x10)), (11, (Value.pointer (some a11)))]) h) = (f3.j7T R a2 a3 A5 n5 c5 a9 x10 a11 h) by kernel_rfl) H)
set_option maxRecDepth 100000 in
def f3.j8T (R : Value → Heap → Prop) (a9 : Addr) (x10 : Int) (a11 : Addr) (h : Heap) : Prop :=
  splitB (x10 == (0 : Int)) (∃ v1_, ldv true 8 h a9 = some v1_ ∧ (Run Tryd.prog 6 #[v1_] h fun v2_ h3_ => ∃ s4_, v2_ = (Value.string s4_) ∧ ∃ v5_, ldv true 8 h3_ a11 = some v5_ ∧ Ext h3_ h3_ ∧ (Run Tryd.prog 6 #[v5_] h3_ fun v6_ h7_ => ∃ s8_, v6_ = (Value.string s8_) ∧ R (Value.bool (ByteArray.toList s4_ == ByteArray.toList s8_)) h7_)) ∧ (∃ v9_, ldv true 8 h a11 = some v9_ ∧ Ext h h ∧ (Run Tryd.prog 6 #[v1_] h fun v10_ h11_ => ∃ s12_, v10_ = (Value.string s12_) ∧ Run Tryd.prog 6 #[v9_] h11_ fun v13_ h14_ => ∃ s15_, v13_ = (Value.string s15_) ∧ R (Value.bool (ByteArray.toList s12_ == ByteArray.toList s15_)) h14_))) ((Ext h h ∧ (R (Value.bool false) h)) ∧ (Ext h h ∧ (R (Value.bool false) h)))
set_option maxRecDepth 100000 in
theorem f3.j8_in {R : Value → Heap → Prop} {a9 : Addr} {x10 : Int} {a11 : Addr} {h : Heap} (H : f3.j8T R a9 x10 a11 h) : f3.j8 R a9 x10 a11 h :=
  pt_intro mixed f3.good (Eq.mpr (show (Fwd Tryd.prog f3.T f3.kp Tryd.f3 R [true, true, true, true, true, true, true, true, true, true, true, true, true, true] (mkFr [(9, (Value.pointer (some a9))), (10, (Value.int .i64 x10)), (11, (Value.pointer (some a11)))]) h) = (f3.j8T R a9 x10 a11 h) by kernel_rfl) H)
set_option maxRecDepth 100000 in
def f3.runT (R : Value → Heap → Prop) (v0 : Value) (x1 : Int) (h : Heap) : Prop :=
  newH h (Obj.cells ((v0).cells) 29) fun h1_ => newH h1_ (Obj.cells #[(Value.int .i64 x1)] 3) fun h2_ => ∃ v3_, ldv false 1 h2_ (Addr.add (⟨Array.size h, 0, none⟩) 2) = some v3_ ∧ ∃ A4_, ∃ n4_, ∃ c4_, v3_ = (Value.slice A4_ n4_ c4_) ∧ ∃ v5_, ldv false 1 h2_ (Addr.add (⟨Array.size h, 0, none⟩) 3) = some v5_ ∧ ∃ A6_, ∃ n6_, ∃ c6_, v5_ = (Value.slice A6_ n6_ c6_) ∧ ∃ v7_, ldv false 1 h2_ (Addr.add (⟨Array.size h, 0, none⟩) 4) = some v7_ ∧ ∃ A8_, ∃ n8_, ∃ c8_, v7_ = (Value.slice A8_ n8_ c8_) ∧ ∃ v9_, ldv false 1 h2_ (Addr.add (⟨Array.size h, 0, none⟩) 5) = some v9_ ∧ ∃ A10_, ∃ n10_, ∃ c10_, v9_ = (Value.slice A10_ n10_ c10_) ∧ ∃ v11_, ldv false 1 h2_ (Addr.add (⟨Array.size h, 0, none⟩) 6) = some v11_ ∧ ∃ A12_, ∃ n12_, ∃ c12_, v11_ = (Value.slice A12_ n12_ c12_) ∧ ∃ v13_, ldv false 1 h2_ (Addr.add (⟨Array.size h, 0, none⟩) 7) = some v13_ ∧ ∃ A14_, ∃ n14_, ∃ c14_, v13_ = (Value.slice A14_ n14_ c14_) ∧ newH h2_ (Obj.cells #[(Value.int .i64 ((n4_ : Nat) : Int)), (Value.int .i64 ((n6_ : Nat) : Int)), (Value.int .i64 ((n8_ : Nat) : Int)), (Value.int .i64 ((n10_ : Nat) : Int)), (Value.int .i64 ((n12_ : Nat) : Int)), (Value.int .i64 ((n14_ : Nat) : Int))] 3) fun h15_ => f3.l0 R (⟨Array.size h, 0, none⟩) (⟨Array.size h1_, 0, none⟩) (some ⟨Array.size h2_, 0, none⟩) 6 6 (0 : Int) (some ⟨Array.size h2_, 0, none⟩) 6 6 ((6 : Nat) : Int) (0 : Int) h15_
set_option maxRecDepth 100000 in
theorem f3.run {R : Value → Heap → Prop} {v0 : Value} {x1 : Int} {h : Heap} (H : f3.runT R v0 x1 h) : Run Tryd.prog 3 #[v0, (Value.int .i64 x1)] h R :=
  run_of mixed Tryd.func3 (by kernel_rfl) (by kernel_rfl) f3.good (Eq.mpr (show (Fwd Tryd.prog f3.T f3.kp Tryd.f3 R [] (mkFr (argL [v0, (Value.int .i64 x1)] 0)) h) = (f3.runT R v0 x1 h) by kernel_rfl) H)
end Go.Proofs.YtnlocljmalhddaaDoor.Fw

end
section
namespace Go.Hw
open Go
section tests
variable {A B : Prop}
theorem split_eq {x y : Int} (hA : x = y → A) (hB : x ≠ y → B) : splitB (x == y) A B := by
  by_cases h : x = y
  · rw [show (x == y) = true from beq_iff_eq.2 h]; exact hA h
  · rw [show (x == y) = false from beq_eq_false_iff_ne.2 h]; exact hB h
theorem split_t (h : A) : splitB true A B := h
theorem split_f (h : B) : splitB false A B := h
end tests
theorem wrap_in {n : Int} (h0 : -9223372036854775808 ≤ n) (h1 : n ≤ 9223372036854775807) : IntKind.wrap .i64 n = n := by
  rcases Int.le_total 0 n with h | h
  · exact wrap_nat h h1
  · rcases (show n = 0 ∨ n < 0 by omega) with h2 | h2
    · subst h2; rfl
    have e : n % (2 ^ 64 : Int) = n + 2 ^ 64 := by omega
    simp only [IntKind.wrap, IntKind.signed, IntKind.bits, e, Bool.true_and]
    rw [if_pos (by simp only [decide_eq_true_eq]; omega)]
    omega
theorem add_add (a : Addr) (m n : Nat) : (a.add m).add n = a.add (m + n) := by
  unfold Addr.add
  by_cases h1 : m = 0
  · subst h1; simp
  · by_cases h2 : n = 0
    · subst h2; simp
    · have h3 : m + n ≠ 0 := by omega
      simp only [if_neg h1, if_neg h2, if_neg h3]
      rw [Nat.add_assoc]
theorem add_block (a : Addr) (n : Nat) : (a.add n).block = a.block := by unfold Addr.add; split <;> rfl
theorem add_off (a : Addr) (n : Nat) : (a.add n).off = a.off + n := by
  unfold Addr.add
  split
  · rename_i h; subst h; rfl
  · rfl
theorem add_spot {a : Addr} (n : Nat) (h : a.spot = none) : (a.add n).spot = none := by unfold Addr.add; split; exact h; rfl
def Blk (h : Heap) (b : Nat) (c : List Value) (t : TypeId) : Prop := h[b]? = some (.cells c.toArray t (0, 0))
def Only (h h' : Heap) (b : Nat) : Prop := h'.size = h.size ∧ ∀ i, i ≠ b → h'[i]? = h[i]?
section
variable {h h' : Heap} {b : Nat} {c : List Value} {t : TypeId}
theorem Blk.lt (hb : Blk h b c t) : b < h.size := (Array.getElem?_eq_some_iff.1 hb).1
theorem Blk.cell (hb : Blk h b c t) {a : Addr} {v : Value} (h1 : a.block = b) (h2 : a.spot = none) (h3 : c[a.off]? = some v) : cellH h a = some v := by
  unfold cellH Blk at *
  rw [h1, hb, h2]
  simpa using h3
theorem Blk.cells (hb : Blk h b c t) {a : Addr} (h1 : a.block = b) (h2 : a.spot = none) : ∀ (n i : Nat), a.off + i + n ≤ c.length → cellsH h a i n = some ((c.drop (a.off + i)).take n) := by
  intro n
  induction n with
  | zero => intro i _; simp [cellsH]
  | succ n ih =>
    intro i hle
    have hlt : a.off + i < c.length := by omega
    have h3 : c[(a.add i).off]? = some c[a.off + i] := by rw [add_off]; exact List.getElem?_eq_getElem hlt
    simp only [cellsH, hb.cell (a := a.add i) (by rw [add_block]; exact h1) (add_spot i h2) h3, ih (i + 1) (by omega)]
    rw [List.drop_eq_getElem_cons hlt, List.take_succ_cons]
    rfl
theorem Blk.st (hb : Blk h b c t) {a : Addr} {v : Value} (h1 : a.block = b) (h2 : a.spot = none) (h3 : a.off < c.length) (h4 : oneCell v True) :
    ∃ h', st1 h a v = some h' ∧ Blk h' b (c.set a.off v) t ∧ Only h h' b := by
  have hc : cellH h a = some c[a.off] := hb.cell h1 h2 (List.getElem?_eq_getElem h3)
  have hf : frozenH h a = false := by
    unfold frozenH
    rw [h1, show h[b]? = some (.cells c.toArray t (0, 0)) from hb]
    simp
  refine ⟨setH h a v, ?_, ?_, ?_⟩
  · cases v <;> simp_all [st1, oneCell]
  · unfold Blk setH
    rw [Array.getElem?_modify, if_pos h1.symm.symm, show h[b]? = some (.cells c.toArray t (0, 0)) from hb]
    simp [h2]
  · refine ⟨by simp [setH], fun i hi => ?_⟩
    unfold setH
    rw [Array.getElem?_modify, if_neg (by rw [h1]; exact fun e => hi e.symm)]
theorem Blk.new (h : Heap) (c : Array Value) (t : TypeId) : Blk (h.push (.cells c t)) h.size c.toList t := by
  unfold Blk; simp
theorem Ext.push (h : Heap) (o : Obj) : Ext h (h.push o) := ⟨by simp, fun i hi => by rw [Array.getElem?_push, if_neg (by omega)]⟩
theorem Only.refl (h : Heap) (b : Nat) : Only h h b := ⟨rfl, fun _ _ => rfl⟩
theorem Only.trans {h'' : Heap} {b : Nat} (o : Only h h' b) (p : Only h' h'' b) : Only h h'' b := ⟨p.1.trans o.1, fun i hi => (p.2 i hi).trans (o.2 i hi)⟩
end
def Rd {α : Type} (sz : Nat) (E : Heap → α → List Value → Prop) (h : Heap) (A : Option Addr) (l : List α) : Prop :=
  ∀ i (hi : i < l.length), ∃ a cs, A = some a ∧ cellsH h (a.add (i * sz)) 0 sz = some cs ∧ E h l[i] cs
def eInt (k : IntKind) (_ : Heap) (x : Int) (cs : List Value) : Prop := cs = [.int k x]
def eStr (_ : Heap) (x : ByteArray) (cs : List Value) : Prop := cs = [.string x]
def eRow {α : Type} (sz : Nat) (E : Heap → α → List Value → Prop) (h : Heap) (l : List α) (cs : List Value) : Prop := ∃ A c, cs = [.slice A l.length c] ∧ l.length ≤ c ∧ Rd sz E h A l
section
variable {α : Type} {sz : Nat} {E : Heap → α → List Value → Prop} {h h' : Heap} {A : Option Addr} {l : List α}
theorem Rd.nil : Rd sz E h A ([] : List α) := fun i hi => by cases hi
end
theorem newH_in {h : Heap} {c : Array Value} {t : TypeId} {K : Heap → Prop} (H : ∀ h', Blk h' h.size c.toList t → Ext h h' → h'.size = h.size + 1 → K h') : newH h (.cells c t) K :=
  H _ (Blk.new _ _ _) (Ext.push _ _) (by simp)
end Go.Hw

end
section
namespace Go.Hw
open Go Go.RowKit
theorem below_of {W W' : World} (e : Ext W.heap W'.heap) (s : Same W W') : Below W.heap.size W W' := ⟨s.os, s.tape, s.output, e.1, e.2⟩
section
variable {H : Type} {enc : TypeId × Value → H} {P : Program} {W : World}
theorem cells_of {base : Nat} {a : Addr} {n : Nat} {cs : List Value} (hc : W.cells? base a n = some cs) : cellsH W.heap a 0 n = some cs := by
  obtain ⟨_, hlen, hget⟩ := World.cells?_some hc
  have key : ∀ (m i : Nat), i + m = n → cellsH W.heap a i m = some (cs.drop i) := by
    intro m
    induction m with
    | zero =>
      intro i hi
      rw [List.drop_eq_nil_of_le (by omega)]
      rfl
    | succ m ih =>
      intro i hi
      have hlt : i < cs.length := by omega
      have h1 : cellH W.heap (a.add i) = some cs[i] := (hget i (by omega)).trans (List.getElem?_eq_getElem hlt)
      simp only [cellsH, h1, ih (i + 1) (by omega)]
      rw [List.drop_eq_getElem_cons hlt]
  simpa using key n 0 (by omega)
def Tells {α : Type} (enc : TypeId × Value → H) (P : Program) (W : World) (t : TypeId) (E : Heap → α → List Value → Prop) (Q : α → Prop) : Prop :=
  ∀ (fuel : Nat) (cs : List Value) (x : DataW H × List MemPlace), DataW.trod enc P W 0 (fun _ => true) true fuel t cs = some x → (x.1.weights P t).all (· ≤ reachBytes) = true → ∃ a, E W.heap a cs ∧ Q a
theorem tells_int {t : TypeId} {k : IntKind} (hu : P.underlying t = some (.int k)) : Tells enc P W t (eInt k) (fun x => (Lit.int k x).wf = true) := by
  intro fuel cs x h _
  obtain ⟨n, h1, _, h3⟩ := DataW.trod_int hu h
  exact ⟨n, h1, h3⟩
theorem tells_str {t : TypeId} (hu : P.underlying t = some .string) : Tells enc P W t eStr (fun s => s.size ≤ reachBytes) := by
  intro fuel cs x h hw
  obtain ⟨s, h1, h2, _⟩ := DataW.trod_string hu h
  refine ⟨s, h1, ?_⟩
  rw [h2] at hw
  simp only [DataW.weights, List.all_cons, List.all_nil, Bool.and_true, decide_eq_true_eq] at hw
  simpa using hw
theorem weightsAll_all {e : TypeId} : ∀ (l : List (DataW H)), (DataW.weightsAll P e l).all (· ≤ reachBytes) = true → ∀ d ∈ l, (d.weights P e).all (· ≤ reachBytes) = true := by
  intro l
  induction l with
  | nil => intro _ d hd; cases hd
  | cons x l ih =>
    intro h d hd
    simp only [DataW.weightsAll, List.all_append, Bool.and_eq_true] at h
    rcases List.mem_cons.1 hd with rfl | hd
    · exact h.1
    · exact ih h.2 d hd
theorem list_choose {α : Type} {n : Nat} {p : Nat → α → Prop} (h : ∀ i, i < n → ∃ x, p i x) : ∃ l : List α, l.length = n ∧ ∀ i (hi : i < l.length), p i l[i] := by
  induction n with
  | zero => exact ⟨[], rfl, fun i hi => by cases hi⟩
  | succ n ih =>
    obtain ⟨l, h1, h2⟩ := ih fun i hi => h i (by omega)
    obtain ⟨x, hx⟩ := h n (by omega)
    refine ⟨l ++ [x], by simp [h1], fun i hi => ?_⟩
    rw [List.length_append, List.length_singleton] at hi
    by_cases hin : i < l.length
    · rw [List.getElem_append_left hin]; exact h2 i hin
    · have : i = l.length := by omega
      subst this
      rw [List.getElem_append_right (Nat.le_refl _)]
      simp only [Nat.sub_self, List.getElem_cons_zero]
      rw [h1]; exact hx
theorem tells_slice {α : Type} {t e : TypeId} {sz B : Nat} {E : Heap → α → List Value → Prop} {Q : α → Prop} (hu : P.underlying t = some (.slice e)) (hc : P.cellsOf e = sz) (hB : P.bytesOf e = B) (he : Tells enc P W e E Q) :
    Tells enc P W t (eRow sz E) (fun l => l.length * B ≤ reachBytes ∧ ∀ a ∈ l, Q a) := by
  intro fuel cs x h hw
  rcases DataW.trod_slice hu h with ⟨h1, h2⟩ | ⟨a, len, cap, elems, rest, n, _, h1, h2, _, hl, hm, hlen, hel, _, _⟩
  · exact ⟨[], ⟨none, 0, h1, Nat.le_refl _, Rd.nil⟩, by simp, fun a ha => by cases ha⟩
  · rw [h2] at hw
    simp only [DataW.weights, hu, List.all_cons, List.all_append, Bool.and_eq_true, decide_eq_true_eq] at hw
    obtain ⟨hw1, hw2, _⟩ := hw
    have hall := weightsAll_all _ hw2
    obtain ⟨l, h3, h4⟩ := list_choose (n := len) (p := fun i x => (∃ cs', cellsH W.heap (a.add (i * sz)) 0 sz = some cs' ∧ E W.heap x cs') ∧ Q x) (fun i hi => by
      have h5 := hel i hi
      have hlt : i < elems.length := by omega
      rw [List.getElem?_eq_getElem hlt] at h5
      obtain ⟨cs', h6, h7⟩ := Option.bind_eq_some_iff.1 h5
      obtain ⟨x, h8, h9⟩ := he _ _ _ h7 (hall _ (List.mem_map.2 ⟨_, List.getElem_mem hlt, rfl⟩))
      rw [hc] at h6
      exact ⟨x, ⟨cs', cells_of h6, h8⟩, h9⟩)
    refine ⟨l, ⟨some a, cap, by rw [h1, h3], by omega, fun i hi => ?_⟩, ?_, fun x hx => ?_⟩
    · obtain ⟨⟨cs', h5, h6⟩, _⟩ := h4 i hi
      exact ⟨a, cs', rfl, h5, h6⟩
    · rw [hB] at hw1
      have : l.length ≤ (List.map (·.1) elems).length + (List.map (·.1) rest).length := by simp; omega
      exact Nat.le_trans (Nat.mul_le_mul_right _ this) hw1
    · obtain ⟨i, hi, rfl⟩ := List.getElem_of_mem hx
      exact (h4 i hi).2
end
theorem wf_i64 {x : Int} (h : (Lit.int .i64 x).wf = true) : -9223372036854775808 ≤ x ∧ x ≤ 9223372036854775807 := by
  simpa [Lit.wf, IntKind.min, IntKind.max, IntKind.signed, IntKind.bits] using h
end Go.Hw

end
section
namespace Go.Hw
open Go
def Flat (v : Value) : Prop := oneCell v True
theorem Blk.stH {b : Nat} {t : TypeId} : ∀ (xs : List Value) {h : Heap} {p q r : List Value} {a : Addr} {i : Nat}, Blk h b (p ++ q ++ r) t → a.block = b → a.spot = none → a.off + i = p.length → q.length = xs.length → (∀ v ∈ xs, Flat v) →
    ∃ h', stH h a xs i = some h' ∧ Blk h' b (p ++ xs ++ r) t ∧ Only h h' b := by
  intro xs
  induction xs with
  | nil =>
    intro h p q r a i hb h1 h2 h3 h4 h5
    rw [List.length_eq_zero_iff.1 h4] at hb
    exact ⟨h, rfl, hb, .refl _ _⟩
  | cons v xs ih =>
    intro h p q r a i hb h1 h2 h3 h4 h5
    obtain ⟨u, q', rfl⟩ : ∃ u q', q = u :: q' := by cases q with | nil => cases h4 | cons u q' => exact ⟨u, q', rfl⟩
    have hoff : (a.add i).off = p.length := by rw [add_off, h3]
    obtain ⟨h', s1, b1, o1⟩ := hb.st (a := a.add i) (v := v) (by rw [add_block, h1]) (add_spot _ h2) (by rw [hoff]; simp) (h5 v (List.mem_cons_self ..))
    rw [hoff] at b1
    have e : (p ++ u :: q' ++ r).set p.length v = (p ++ [v]) ++ q' ++ r := by
      rw [List.append_assoc, List.set_append_right _ _ (Nat.le_refl _)]; simp
    rw [e] at b1
    obtain ⟨h'', s2, b2, o2⟩ := ih (p := p ++ [v]) (q := q') (r := r) (a := a) (i := i + 1) b1 h1 h2 (by simp; omega) (by simpa using h4) (fun x hx => h5 x (List.mem_cons_of_mem _ hx))
    refine ⟨h'', ?_, by simpa using b2, o1.trans o2⟩
    simp only [Go.Hw.stH, s1, s2]
theorem zcells_size (z : Array Value) (n : Nat) : (zcells z n).size = n * z.size := by
  unfold zcells Builtin.zeroCells
  simp
end Go.Hw

end
section
namespace Go.Hw
open Go Go.RowKit
theorem cellsH_get {h : Heap} {a : Addr} : ∀ {n i : Nat} {cs : List Value} {k : Nat} {v : Value}, cellsH h a i n = some cs → cs[k]? = some v → cellH h (a.add (i + k)) = some v := by
  intro n
  induction n with
  | zero => intro i cs k v hc hv; simp only [cellsH, Option.some.injEq] at hc; subst hc; cases hv
  | succ n ih =>
    intro i cs k v hc hv
    simp only [cellsH] at hc
    split at hc
    · rename_i u hu
      split at hc
      · rename_i vs hvs
        cases hc
        cases k with
        | zero => cases hv; exact hu
        | succ k => rw [show i + (k + 1) = i + 1 + k by omega]; exact ih hvs (by simpa using hv)
      · cases hc
    · cases hc
section
variable {α : Type} {sz : Nat} {E : Heap → α → List Value → Prop} {h h' : Heap} {A : Option Addr} {l : List α}
theorem cellsH_append {h : Heap} {a : Addr} : ∀ {m i n : Nat} {cs ds : List Value}, cellsH h a i m = some cs → cellsH h a (i + m) n = some ds → cellsH h a i (m + n) = some (cs ++ ds) := by
  intro m
  induction m with
  | zero => intro i n cs ds h1 h2; simp only [cellsH, Option.some.injEq] at h1; subst h1; simpa using h2
  | succ m ih =>
    intro i n cs ds h1 h2
    simp only [cellsH] at h1
    split at h1
    · rename_i u hu
      split at h1
      · rename_i vs hvs
        cases h1
        rw [show m + 1 + n = (m + n) + 1 by omega]
        have h3 := ih hvs (n := n) (ds := ds) (by rw [show i + 1 + m = i + (m + 1) by omega]; exact h2)
        simp only [cellsH, hu, h3, List.cons_append]
      · cases h1
    · cases h1
theorem cellsH_shift {h : Heap} {a : Addr} {j : Nat} : ∀ {n i : Nat}, cellsH h (a.add j) i n = cellsH h a (j + i) n := by
  intro n
  induction n with
  | zero => intro i; rfl
  | succ n ih =>
    intro i
    simp only [cellsH, add_add]
    rw [ih, Nat.add_assoc]
end
theorem Blk.stAll {h : Heap} {b : Nat} {c : List Value} {t : TypeId} (hb : Blk h b c t) (l : List Value) (hn : l.length = c.length) (hf : ∀ v ∈ l, Flat v) :
    ∃ h', Go.Hw.stH h ⟨b, 0, none⟩ l 0 = some h' ∧ Blk h' b l t ∧ Only h h' b := by
  obtain ⟨h', s1, b1, o1⟩ := Blk.stH l (p := []) (q := c) (r := []) (a := ⟨b, 0, none⟩) (i := 0) (by simpa using hb) rfl rfl rfl hn.symm hf
  exact ⟨h', s1, by simpa using b1, o1⟩
section
variable {P : Program} {d : Nat} {t : TypeId}
def flatB (P : Program) (t : TypeId) (x y : Value) : Option Bool :=
  match P.underlying t, x, y with
  | some (.int _), .int k a, .int k' b => match kindB k k' with | true => some (a == b) | false => none
  | some .bool, .bool a, .bool b => some (a == b)
  | some .string, .string a, .string b => some (a == b)
  | _, _, _ => none
end
section
variable {H : Type} {enc : TypeId × Value → H} {P : Program} {W : World}
def TellsF {α : Type} (enc : TypeId × Value → H) (P : Program) (W : World) (T o : Nat) (fs : List (TypeId × Nat)) (F : Heap → α → List Value → Prop) (Q : α → Prop) : Prop :=
  ∀ (n : Nat) (cs : List Value) (xs : List (DataW H × List MemPlace)), cs.length = T → xs.length = fs.length → (∀ (i : Nat) (f : TypeId × Nat), fs[i]? = some f → DataW.trod enc P W 0 (fun _ => true) true n f.1 ((cs.drop f.2).take (P.cellsOf f.1)) = xs[i]?) →
    (DataW.weightsEach P (fs.map (·.1)) (xs.map (·.1))).all (· ≤ reachBytes) = true → ∃ b, F W.heap b (cs.drop o) ∧ Q b
def eNil (_ : Heap) (_ : Unit) (cs : List Value) : Prop := cs = []
def eCons {α β : Type} (E : Heap → α → List Value → Prop) (F : Heap → β → List Value → Prop) (h : Heap) (x : α × β) (cs : List Value) : Prop := ∃ c1 c2, cs = c1 ++ c2 ∧ E h x.1 c1 ∧ F h x.2 c2
theorem tf_nil {T : Nat} : TellsF enc P W T T [] eNil (fun _ => True) := fun n cs xs hl _ _ _ => ⟨(), by unfold eNil; rw [List.drop_eq_nil_of_le (by omega)], trivial⟩
theorem tf_cons {α β : Type} {E : Heap → α → List Value → Prop} {F : Heap → β → List Value → Prop} {Q : α → Prop} {Q' : β → Prop} {T o s : Nat} {f : TypeId} {fs : List (TypeId × Nat)} (hs : P.cellsOf f = s)
    (he : Tells enc P W f E Q) (hf : TellsF enc P W T (o + s) fs F Q') : TellsF enc P W T o ((f, o) :: fs) (eCons E F) (fun x => Q x.1 ∧ Q' x.2) := by
  intro n cs xs hl hx hi hw
  cases xs with
  | nil => cases hx
  | cons x xs =>
    have h0 := hi 0 (f, o) rfl
    simp only [hs] at h0
    simp only [List.map_cons, DataW.weightsEach, List.all_append, Bool.and_eq_true] at hw
    obtain ⟨a, ha, qa⟩ := he n _ _ h0 hw.1
    obtain ⟨b, hb, qb⟩ := hf n cs xs hl (by simpa using hx) (fun i g hg => by simpa using hi (i + 1) g hg) hw.2
    exact ⟨(a, b), ⟨_, _, by rw [← List.drop_drop, List.take_append_drop], ha, hb⟩, qa, qb⟩
def shapeOf (P : Program) (t : TypeId) : Option (List (TypeId × Nat)) := match P.underlying t with | some (.struct fs) => some (fs.toList.map fun f => (f.type, f.offset)) | _ => none
theorem tells_struct {α : Type} {F : Heap → α → List Value → Prop} {Q : α → Prop} {t : TypeId} {fs : List (TypeId × Nat)} {T : Nat} (hs : shapeOf P t = some fs) (hc : P.cellsOf t = T) (hf : TellsF enc P W T 0 fs F Q) : Tells enc P W t F Q := by
  intro fuel cs x h hw
  unfold shapeOf at hs
  split at hs
  · rename_i fa hu
    cases hs
    obtain ⟨xs, n, _, rfl, hl, hlen, hi⟩ := DataW.trod_struct hu h
    simp only [DataW.weights, hu] at hw
    obtain ⟨b, hb, qb⟩ := hf n cs xs (by rw [hl, hc]) (by simpa using hlen) (fun i f hif => by
      rw [List.getElem?_map, Option.map_eq_some_iff] at hif
      obtain ⟨g, hg, rfl⟩ := hif
      exact hi i g (by simpa using hg)) (by rw [List.map_map]; exact hw)
    exact ⟨b, by simpa using hb, qb⟩
  · cases hs
theorem tells_map {α β : Type} {E : Heap → α → List Value → Prop} {F : Heap → β → List Value → Prop} {Q : α → Prop} {Q' : β → Prop} {t : TypeId} (he : Tells enc P W t E Q) (hm : ∀ a cs, E W.heap a cs → Q a → ∃ b, F W.heap b cs ∧ Q' b) : Tells enc P W t F Q' :=
  fun fuel cs x h hw => let ⟨a, ha, qa⟩ := he fuel cs x h hw; hm a cs ha qa
theorem okWide_agg_of {t : TypeId} {fs : List (TypeId × Nat)} {v : Value} {r : Reach} {base : Nat} (hs : shapeOf P t = some fs) (h : Value.okWide P W r base t v) : ∃ cs : List Value, v = .agg cs.toArray := by
  unfold shapeOf at hs
  split at hs
  · rename_i fa hu
    simp only [Value.okWide, hu] at h
    cases v <;> simp_all
    rename_i xs
    exact ⟨xs.toList, by simp⟩
  · cases hs
end
end Go.Hw

end
section
namespace Go.Hw
open Go
def Brn (e : List MapEntry) (c : Nat) : Prop := (e.map (·.born)).Pairwise (· < ·) ∧ ∀ x ∈ e, x.born < c
def MapB {α : Type} (kv : α → Value) (h : Heap) (m : Nat) (es : List (α × Value)) : Prop :=
  ∃ (e : Array MapEntry) (clock : Nat), h[m]? = some (.map e clock) ∧ e.toList.map (fun x => (x.key, x.val)) = (es.map fun x => (kv x.1, x.2)) ∧ Brn e.toList clock
theorem ba_toList {a b : ByteArray} (h : a.toList = b.toList) : a = b := by
  rw [ByteArray.toList_eq, ByteArray.toList_eq] at h
  obtain ⟨⟨x⟩⟩ := a
  obtain ⟨⟨y⟩⟩ := b
  have : x = y := h
  rw [this]
end Go.Hw

end
section
namespace Go.Hw
open Go
end Go.Hw

end
section
namespace Go.Hw
open Go
end Go.Hw

end
section
namespace Go.Hw
open Go
def dead : Obj := .cells #[] 0 (0, 0)
def Live (m : Heap) (b : Nat) : Prop := ∃ o, m[b]? = some o ∧ o ≠ dead
def Sub (m h : Heap) : Prop := ∀ (b : Nat) (o : Obj), m[b]? = some o → o ≠ dead → h[b]? = some o
abbrev No : Nat → Prop := fun _ => False
section
variable {m m' h h' k h0 m0 : Heap} {b : Nat} {W W' : Nat → Prop}
theorem Sub.refl (h : Heap) : Sub h h := fun _ _ h _ => h
theorem Sub.trans (s : Sub m h) (t : Sub h k) : Sub m k := fun b o h1 h2 => t b o (s b o h1 h2) h2
theorem Sub.lt (s : Sub m h) (l : Live m b) : b < h.size := by
  obtain ⟨o, h1, h2⟩ := l
  exact (Array.getElem?_eq_some_iff.1 (s b o h1 h2)).1
theorem Sub.ext (s : Sub m h) (e : Ext h h') : Sub m h' := fun b o h1 h2 => by rw [e.2 b (s.lt ⟨o, h1, h2⟩)]; exact s b o h1 h2
theorem Sub.cell (s : Sub m h) {a : Addr} {v : Value} (hc : cellH m a = some v) : cellH h a = some v := by
  unfold cellH at hc
  split at hc
  · rename_i c e f hm
    have hne : (Obj.cells c e f) ≠ dead := by
      intro hd
      unfold dead at hd
      cases hd
      split at hc <;> simp at hc
    unfold cellH
    rw [s _ _ hm hne]; exact hc
  · cases hc
theorem Sub.cells (s : Sub m h) {a : Addr} : ∀ (n i : Nat) {vs : List Value}, cellsH m a i n = some vs → cellsH h a i n = some vs := by
  intro n
  induction n with
  | zero => intro i vs hc; exact hc
  | succ n ih =>
    intro i vs hc
    simp only [cellsH] at hc ⊢
    split at hc
    · rename_i v hv
      rw [s.cell hv]
      split at hc
      · rename_i us hu
        rw [ih _ hu]; exact hc
      · cases hc
    · cases hc
end
structure Tell {α : Type} (sz : Nat) (E : Heap → α → List Value → Prop) : Prop where
  mono : ∀ m h x cs, Sub m h → E m x cs → E h x cs
  len : ∀ h x cs, E h x cs → cs.length = sz
  flat : ∀ h x cs, E h x cs → ∀ v ∈ cs, Flat v
theorem Flats.nil : ∀ v ∈ ([] : List Value), Flat v := fun v hv => by cases hv
theorem Flats.cons {x : Value} {l : List Value} (h : Flat x) (t : ∀ v ∈ l, Flat v) : ∀ v ∈ x :: l, Flat v := fun v hv => by
  rcases List.mem_cons.1 hv with rfl | hv
  · exact h
  · exact t v hv
theorem tell_int (k : IntKind) : Tell 1 (eInt k) := ⟨fun _ _ _ _ _ h => h, fun _ _ _ h => by rw [h]; rfl, fun _ _ _ h => by rw [h]; exact Flats.cons trivial Flats.nil⟩
theorem tell_str : Tell 1 eStr := ⟨fun _ _ _ _ _ h => h, fun _ _ _ h => by rw [h]; rfl, fun _ _ _ h => by rw [h]; exact Flats.cons trivial Flats.nil⟩
section
variable {α : Type} {sz : Nat} {E : Heap → α → List Value → Prop} {m m' h h' : Heap} {A : Option Addr} {l : List α} {c : Nat}
theorem Rd.sub (r : Rd sz E m A l) (T : Tell sz E) (s : Sub m h) : Rd sz E h A l := fun i hi =>
  let ⟨a, cs, h1, h2, h3⟩ := r i hi
  ⟨a, cs, h1, s.cells _ _ h2, T.mono _ _ _ _ s h3⟩
theorem tell_row (T : Tell sz E) : Tell 1 (eRow sz E) := ⟨fun _ _ _ _ s ⟨A, c, h1, h2, h3⟩ => ⟨A, c, h1, h2, h3.sub T s⟩, fun _ _ _ ⟨A, c, h1, _, _⟩ => by rw [h1]; rfl, fun _ _ _ ⟨A, c, h1, _, _⟩ => by rw [h1]; exact Flats.cons trivial Flats.nil⟩
end
structure St (W : Nat → Prop) (h0 m0 h m : Heap) : Prop where
  up : Sub m0 m
  s : Sub m h
  size : h0.size ≤ h.size
  fr : ∀ b, b < h0.size → ¬ W b → h[b]? = h0[b]?
  lv : ∀ b, b < h0.size → Live m b → Live m0 b ∨ W b
def fb (b0 b : Nat) : Prop := b = b0
def fp (A : Option Addr) (c : Nat) (b : Nat) : Prop := c ≠ 0 ∧ ∃ a, A = some a ∧ a.block = b
def Dj (F G : Nat → Prop) : Prop := ∀ b, F b → G b → False
section
variable {m m' h h' h0 m0 : Heap} {b b' : Nat} {W W' F G G' : Nat → Prop}
theorem Dj.symm (d : Dj F G) : Dj G F := fun b h1 h2 => d b h2 h1
theorem Dj.no : Dj No F := fun _ h _ => h
theorem St.refl (s : Sub m h) : St W h m h m := ⟨.refl _, s, Nat.le_refl _, fun _ _ _ => rfl, fun _ _ h => .inl h⟩
theorem St.of_ext (s : Sub m h) (e : Ext h h') : St W h m h' m := ⟨.refl _, s.ext e, e.1, fun b hb _ => e.2 b hb, fun _ _ h => .inl h⟩
theorem St.ext (S : St No h m h' m') : Ext h h' := ⟨S.size, fun b hb => S.fr b hb (fun h => h)⟩
theorem St.then (S : St W h0 m0 h m) (T : St W' h m h' m') (hw : ∀ b, b < h.size → W' b → h0.size ≤ b ∨ W b) : St W h0 m0 h' m' where
  up := S.up.trans T.up
  s := T.s
  size := Nat.le_trans S.size T.size
  fr b hb hn := by
    rw [T.fr b (by have := S.size; omega) (fun hw' => (hw b (by have := S.size; omega) hw').elim (fun h => by omega) hn)]
    exact S.fr b hb hn
  lv b hb hl := by
    rcases T.lv b (by have := S.size; omega) hl with h1 | h1
    · exact S.lv b hb h1
    · exact .inr ((hw b (by have := S.size; omega) h1).elim (fun h => by omega) id)
theorem St.grow (S : St W h0 m0 h m) (T : St No h m h' m') : St W h0 m0 h' m' := S.then T fun _ _ h => h.elim
theorem St.notLive (s : Sub m h) : ¬ Live m h.size := fun l => by have := s.lt l; omega
theorem St.only (s : Sub m h) (hn : ¬ Live m b) (o : Only h h' b) : St (fb b) h m h' m where
  up := .refl _
  s i x h1 h2 := by
    rw [o.2 i (fun e => hn (e ▸ ⟨x, h1, h2⟩))]; exact s i x h1 h2
  size := by rw [o.1]; exact Nat.le_refl _
  fr i _ hw := o.2 i hw
  lv i _ hl := .inl hl
end
open Classical in
noncomputable def addV (m h : Heap) (F : Nat → Prop) : Heap := Array.ofFn (n := h.size) fun i => if Live m i.1 ∨ F i.1 then h[i.1] else dead
section
variable {m h : Heap} {b : Nat} {F : Nat → Prop}
theorem addV_get (hb : b < h.size) (hl : Live m b ∨ F b) : (addV m h F)[b]? = h[b]? := by
  unfold addV
  rw [Array.getElem?_ofFn, dif_pos hb, if_pos hl, Array.getElem?_eq_getElem hb]
theorem addV_live (hl : Live (addV m h F) b) : (Live m b ∨ F b) ∧ b < h.size := by
  obtain ⟨o, h1, h2⟩ := hl
  unfold addV at h1
  rw [Array.getElem?_ofFn] at h1
  split at h1
  · rename_i hb
    refine ⟨?_, hb⟩
    by_cases hc : Live m b ∨ F b
    · exact hc
    · rw [if_neg hc] at h1; cases h1; exact (h2 rfl).elim
  · cases h1
theorem addV_sub : Sub (addV m h F) h := fun b o h1 h2 => by
  have := addV_live ⟨o, h1, h2⟩
  rw [← addV_get this.2 this.1]; exact h1
theorem addV_up (s : Sub m h) : Sub m (addV m h F) := fun b o h1 h2 => by
  rw [addV_get (s.lt ⟨o, h1, h2⟩) (.inl ⟨o, h1, h2⟩)]; exact s b o h1 h2
theorem St.settle (s : Sub m h) (F : Nat → Prop) : St F h m h (addV m h F) := ⟨addV_up s, addV_sub, Nat.le_refl _, fun _ _ _ => rfl, fun _ _ hl => (addV_live hl).1⟩
theorem Blk.settle {c : List Value} {t : TypeId} (hb : Blk h b c t) (hF : F b) : Blk (addV m h F) b c t := by
  unfold Blk at *
  rw [addV_get (Blk.lt hb) (.inr hF)]; exact hb
end
section
variable {α : Type} {sz : Nat} {E : Heap → α → List Value → Prop} {m m' h h' h0 m0 : Heap} {A : Option Addr} {l l' : List α} {c : Nat} {cs ds : List Value} {x y : α} {W W' : Nat → Prop}
def CsE (sz : Nat) (E : Heap → α → List Value → Prop) (m : Heap) : List α → List Value → Prop
  | [], cs => cs = []
  | x :: l, cs => ∃ c1 c2, cs = c1 ++ c2 ∧ c1.length = sz ∧ E m x c1 ∧ CsE sz E m l c2
theorem CsE.nil : CsE sz E m ([] : List α) [] := rfl
theorem CsE.cons {c1 : List Value} (h1 : E m x c1) (h2 : c1.length = sz) (h : CsE sz E m l cs) : CsE sz E m (x :: l) (c1 ++ cs) := ⟨c1, cs, rfl, h2, h1, h⟩
theorem CsE.len : ∀ {l : List α} {cs : List Value}, CsE sz E m l cs → cs.length = l.length * sz := by
  intro l
  induction l with
  | nil => intro cs h; rw [show cs = [] from h]; simp
  | cons x l ih => rintro cs ⟨c1, c2, rfl, h1, h2, h3⟩; rw [List.length_append, ih h3, h1, List.length_cons, Nat.succ_mul, Nat.add_comm]
theorem CsE.append : ∀ {l l' : List α} {cs ds : List Value}, CsE sz E m l cs → CsE sz E m l' ds → CsE sz E m (l ++ l') (cs ++ ds) := by
  intro l
  induction l with
  | nil => intro l' cs ds h h'; rw [show cs = [] from h]; exact h'
  | cons x l ih => rintro l' cs ds ⟨c1, c2, rfl, h1, h2, h3⟩ h'; rw [List.append_assoc]; exact ⟨c1, c2 ++ ds, rfl, h1, h2, ih h3 h'⟩
theorem CsE.flat (T : Tell sz E) : ∀ {l : List α} {cs : List Value}, CsE sz E m l cs → ∀ v ∈ cs, Flat v := by
  intro l
  induction l with
  | nil => intro cs h; rw [show cs = [] from h]; exact Flats.nil
  | cons x l ih =>
    rintro cs ⟨c1, c2, rfl, h1, h2, h3⟩ v hv
    rcases List.mem_append.1 hv with hv | hv
    · exact T.flat _ _ _ h2 v hv
    · exact ih h3 v hv
theorem CsE.get : ∀ {l : List α} {cs : List Value} {i : Nat}, CsE sz E m l cs → l[i]? = some y → E m y ((cs.drop (i * sz)).take sz) ∧ i * sz + sz ≤ cs.length := by
  intro l
  induction l with
  | nil => intro cs i h h'; cases h'
  | cons x l ih =>
    rintro cs i ⟨c1, c2, rfl, h1, h2, h3⟩ hy
    cases i with
    | zero =>
      cases hy
      simp only [Nat.zero_mul, List.drop_zero]
      rw [← h1, List.take_left]
      exact ⟨h2, by simp⟩
    | succ i =>
      have := ih (i := i) h3 (by simpa using hy)
      rw [show (i + 1) * sz = c1.length + i * sz by rw [h1, Nat.succ_mul, Nat.add_comm], ← List.drop_drop, List.drop_left, List.length_append]
      exact ⟨this.1, by omega⟩
theorem CsE.drop : ∀ {l : List α} {cs : List Value} (k : Nat), CsE sz E m l cs → CsE sz E m (l.drop k) (cs.drop (k * sz)) := by
  intro l
  induction l with
  | nil => intro cs k h; rw [show cs = [] from h]; simp [CsE]
  | cons x l ih =>
    rintro cs k ⟨c1, c2, rfl, h1, h2, h3⟩
    cases k with
    | zero => rw [Nat.zero_mul, List.drop_zero, List.drop_zero]; exact ⟨c1, c2, rfl, h1, h2, h3⟩
    | succ k =>
      rw [show (k + 1) * sz = c1.length + k * sz by rw [h1, Nat.succ_mul, Nat.add_comm], ← List.drop_drop (l := c1 ++ c2), List.drop_left, List.drop_succ_cons]
      exact ih k h3
theorem CsE.take : ∀ {l : List α} {cs : List Value} (k : Nat), CsE sz E m l cs → CsE sz E m (l.take k) (cs.take (k * sz)) := by
  intro l
  induction l with
  | nil => intro cs k h; rw [show cs = [] from h]; simp [CsE]
  | cons x l ih =>
    rintro cs k ⟨c1, c2, rfl, h1, h2, h3⟩
    cases k with
    | zero => simp [CsE]
    | succ k =>
      rw [show (k + 1) * sz = c1.length + k * sz by rw [h1, Nat.succ_mul, Nat.add_comm], List.take_length_add_append, List.take_succ_cons]
      exact ⟨c1, _, rfl, h1, h2, ih k h3⟩
theorem Rd.tail (r : Rd sz E m A (x :: l)) : ∀ a, A = some a → Rd sz E m (some (a.add sz)) l := by
  intro a ha i hi
  obtain ⟨a', cs, h1, h2, h3⟩ := r (i + 1) (by simpa using hi)
  rw [ha] at h1; cases h1
  refine ⟨_, cs, rfl, ?_, h3⟩
  rw [add_add, show sz + i * sz = (i + 1) * sz by rw [Nat.succ_mul, Nat.add_comm]]; exact h2
theorem Rd.cse (T : Tell sz E) : ∀ {l : List α} {a : Addr}, Rd sz E m (some a) l → ∃ cs, cellsH m a 0 (l.length * sz) = some cs ∧ CsE sz E m l cs := by
  intro l
  induction l with
  | nil => intro a r; exact ⟨[], by simp [cellsH], rfl⟩
  | cons x l ih =>
    intro a r
    obtain ⟨cs, h1, h2⟩ := ih (r.tail a rfl)
    obtain ⟨a', c1, h3, h4, h5⟩ := r 0 (by simp)
    cases h3
    rw [Nat.zero_mul, show a.add 0 = a from rfl] at h4
    refine ⟨c1 ++ cs, ?_, c1, cs, rfl, T.len _ _ _ h5, h5, h2⟩
    rw [List.length_cons, Nat.succ_mul, Nat.add_comm]
    refine cellsH_append h4 ?_
    rw [cellsH_shift] at h1
    simpa using h1
theorem CsE.rd {b : Nat} {t : TypeId} {pre rest : List Value} (hb : Blk h b (pre ++ cs ++ rest) t) (hc : CsE sz E m l cs) (hm : ∀ x cs, E m x cs → E h x cs) : Rd sz E h (some ⟨b, pre.length, none⟩) l := by
  intro i hi
  have hg := hc.get (List.getElem?_eq_getElem hi)
  refine ⟨_, _, rfl, ?_, hm _ _ hg.1⟩
  have := hb.cells (a := (⟨b, pre.length, none⟩ : Addr).add (i * sz)) (by rw [add_block]) (add_spot _ rfl) sz 0 (by rw [add_off, List.length_append, List.length_append]; simp only [Nat.add_zero]; omega)
  rw [this, add_off]
  simp only [Nat.add_zero]
  rw [List.append_assoc, ← List.drop_drop, List.drop_left, List.drop_append_of_le_length (by omega), List.take_append_of_le_length (by rw [List.length_drop]; omega)]
def OS (W : Nat → Prop) (h0 : Heap) (sz : Nat) (E : Heap → α → List Value → Prop) (h m : Heap) (A : Option Addr) (l : List α) (c : Nat) : Prop :=
  (l = [] ∧ c = 0) ∨ ∃ b t pre cs rest, A = some ⟨b, pre.length, none⟩ ∧ Blk h b (pre ++ cs ++ rest) t ∧ CsE sz E m l cs ∧ l.length ≤ c ∧ (c - l.length) * sz ≤ rest.length ∧ (h0.size ≤ b ∨ W b) ∧ ¬ Live m b
theorem OS.cap (o : OS W h0 sz E h m A l c) : l.length ≤ c := by
  rcases o with ⟨rfl, rfl⟩ | ⟨b, t, pre, cs, rest, h1, h2, h3, h4, h5, h6, h7⟩
  · exact Nat.le_refl _
  · exact h4
def OB (W : Nat → Prop) (h0 h m : Heap) (b : Nat) (cs : List Value) (t : TypeId) : Prop := Blk h b cs t ∧ (h0.size ≤ b ∨ W b) ∧ ¬ Live m b
variable {b : Nat} {t : TypeId}
theorem OB.all (o : OB W h0 h m b cs t) : cellsH h ⟨b, 0, none⟩ 0 cs.length = some cs := by
  have := o.1.cells (a := ⟨b, 0, none⟩) rfl rfl cs.length 0 (by simp)
  simpa using this
end
end Go.Hw

end
section
namespace Go.Hw
def LeO {β : Type} (a b : Option β) : Prop := ∀ r, a = some r → b = some r
theorem LeO.refl {β : Type} (a : Option β) : LeO a a := fun _ h => h
theorem LeO.bind {β γ : Type} {a b : Option β} {f g : β → Option γ} (h : LeO a b) (k : ∀ x, LeO (f x) (g x)) : LeO (a.bind f) (b.bind g) := by
  intro r hr
  cases a with
  | none => cases hr
  | some x => rw [h x rfl]; exact k x r hr
theorem LeO.ite {β : Type} {p : Prop} [Decidable p] {a b a' b' : Option β} (h : LeO a a') (k : LeO b b') : LeO (if p then a else b) (if p then a' else b') := by
  by_cases c : p
  · rw [if_pos c, if_pos c]; exact h
  · rw [if_neg c, if_neg c]; exact k
section
variable {α : Type} {β : α → Type} {F : ((x : α) → Option (β x)) → (x : α) → Option (β x)}
def MonoF (F : ((x : α) → Option (β x)) → (x : α) → Option (β x)) : Prop := ∀ f g, (∀ x, LeO (f x) (g x)) → ∀ x, LeO (F f x) (F g x)
def FixR (F : ((x : α) → Option (β x)) → (x : α) → Option (β x)) (x : α) (r : β x) : Prop :=
  ∀ I : (x : α) → β x → Prop, (∀ f, (∀ x r, f x = some r → I x r) → ∀ x r, F f x = some r → I x r) → I x r
theorem FixR.close {f : (x : α) → Option (β x)} (hf : ∀ x r, f x = some r → FixR F x r) {x : α} {r : β x} (h : F f x = some r) : FixR F x r :=
  fun I hI => hI f (fun y s hs => hf y s hs I hI) x r h
theorem FixR.uniq (M : MonoF F) {x : α} {r r' : β x} (h : FixR F x r) (h' : FixR F x r') : r = r' := by
  refine (h (fun x r => FixR F x r ∧ ∀ r', FixR F x r' → r = r') ?_).2 r' h'
  intro f hf x r hr
  refine ⟨FixR.close (fun y s hs => (hf y s hs).1) hr, fun s hs => ?_⟩
  have key := hs (fun y s => FixR F y s ∧ ∀ e : x = y, (e ▸ r) = s) ?_
  · exact key.2 rfl
  intro f' hf' y t ht
  refine ⟨FixR.close (fun z s hs => (hf' z s hs).1) ht, ?_⟩
  rintro rfl
  let g : (x : α) → Option (β x) := fun z => match f z with | some u => some u | none => f' z
  have hfg : ∀ z, LeO (f z) (g z) := fun z u hu => by simp only [g, hu]
  have hfg' : ∀ z, LeO (f' z) (g z) := by
    intro z u hu
    simp only [g]
    cases hz : f z with
    | none => exact hu
    | some w => simp only; rw [(hf z w hz).2 u (hf' z u hu).1]
  have e1 := M f g hfg _ _ hr
  have e2 := M f' g hfg' _ _ ht
  rw [e1] at e2
  exact Option.some.inj e2
open Classical in
noncomputable def fixF (F : ((x : α) → Option (β x)) → (x : α) → Option (β x)) (x : α) : Option (β x) := if h : ∃ r, FixR F x r then some (Classical.choose h) else none
theorem fixF_iff (M : MonoF F) {x : α} {r : β x} : fixF F x = some r ↔ FixR F x r := by
  unfold fixF
  constructor
  · intro h
    split at h
    · rename_i hx; cases h; exact Classical.choose_spec hx
    · cases h
  · intro h
    rw [dif_pos ⟨r, h⟩, FixR.uniq M (Classical.choose_spec (⟨r, h⟩ : ∃ r, FixR F x r)) h]
theorem fixF_eq (M : MonoF F) (x : α) : fixF F x = F (fixF F) x := by
  have h1 : ∀ r, fixF F x = some r → F (fixF F) x = some r := by
    intro r hr
    refine ((fixF_iff M).1 hr (fun x r => FixR F x r ∧ F (fixF F) x = some r) ?_).2
    intro f hf y s hs
    refine ⟨FixR.close (fun z s hs => (hf z s hs).1) hs, ?_⟩
    exact M f (fixF F) (fun z u hu => (fixF_iff M).2 (hf z u hu).1) _ _ hs
  have h2 : ∀ r, F (fixF F) x = some r → fixF F x = some r := fun r hr => (fixF_iff M).2 (FixR.close (fun y s hs => (fixF_iff M).1 hs) hr)
  cases h : fixF F x with
  | some r => exact (h1 r h).symm
  | none =>
    cases k : F (fixF F) x with
    | none => rfl
    | some r => rw [h2 r k] at h; cases h
theorem fixF_ind (M : MonoF F) {I : (x : α) → β x → Prop} (hI : ∀ f, (∀ x r, f x = some r → I x r) → ∀ x r, F f x = some r → I x r) {x : α} {r : β x} (h : fixF F x = some r) : I x r := (fixF_iff M).1 h I hI
end
end Go.Hw

end
section
namespace Go.Hw
open Go
section tests
variable {A B : Prop} {β γ : Type} {a b : Option β} {r : β}
theorem bind_e {a : Option γ} {f : γ → Option β} (e : a.bind f = some r) : ∃ x, a = some x ∧ f x = some r := by
  cases a with
  | none => cases e
  | some x => exact ⟨x, rfl, e⟩
theorem guard_e {p : Prop} [Decidable p] (e : (if p then a else none) = some r) : p ∧ a = some r := by
  by_cases h : p
  · rw [if_pos h] at e; exact ⟨h, e⟩
  · rw [if_neg h] at e; cases e
theorem split_dec_e {p : Prop} [Decidable p] (e : (if p then a else b) = some r) (hA : p → a = some r → A) (hB : ¬ p → b = some r → B) : splitB (decide p) A B := by
  by_cases h : p
  · rw [if_pos h] at e; rw [decide_eq_true h]; exact hA h e
  · rw [if_neg h] at e; rw [decide_eq_false h]; exact hB h e
theorem split_eq_e {x y : Int} (e : (if x = y then a else b) = some r) (hA : x = y → a = some r → A) (hB : x ≠ y → b = some r → B) : splitB (x == y) A B := by
  by_cases h : x = y
  · rw [if_pos h] at e; rw [show (x == y) = true from beq_iff_eq.2 h]; exact hA h e
  · rw [if_neg h] at e; rw [show (x == y) = false from beq_eq_false_iff_ne.2 h]; exact hB h e
theorem split_ne_e {x y : Int} (e : (if x = y then b else a) = some r) (hA : x ≠ y → a = some r → A) (hB : x = y → b = some r → B) : splitB (x != y) A B := by
  by_cases h : x = y
  · rw [if_pos h] at e; rw [show (x != y) = false from bne_eq_false_iff_eq.2 h]; exact hB h e
  · rw [if_neg h] at e; rw [show (x != y) = true from bne_iff_ne.2 h]; exact hA h e
theorem split_any_e {t : Bool} (e : (if t = true then a else b) = some r) (hA : t = true → a = some r → A) (hB : t = false → b = some r → B) : splitB t A B := by
  cases t
  · exact hB rfl e
  · exact hA rfl e
theorem ba_list (s t : ByteArray) : (ByteArray.toList s == ByteArray.toList t) = decide (s = t) := by
  by_cases h : s = t
  · subst h; simp
  · rw [decide_eq_false h]
    exact beq_eq_false_iff_ne.2 fun e => h (ba_toList e)
end tests
section
variable {α : Type} {l : List α} {x : Int} {y : α}
def gi (l : List α) (x : Int) : Option α := if 0 ≤ x then l[x.toNat]? else none
theorem gi_nat (l : List α) (k : Nat) : gi l (k : Int) = l[k]? := by unfold gi; rw [if_pos (by omega)]; rfl
theorem gi_le (g : gi l x = some y) : 0 ≤ x := by unfold gi at g; split at g; assumption; cases g
theorem gi_get (g : gi l x = some y) : l[x.toNat]? = some y := by unfold gi at g; split at g; exact g; cases g
theorem gi_lt (g : gi l x = some y) : x < (l.length : Int) := by
  have h1 := gi_get g
  have h2 := gi_le g
  have := (List.getElem?_eq_some_iff.1 h1).1
  omega
def sl (l : List α) (lo hi : Int) : List α := (l.take hi.toNat).drop lo.toNat
theorem sl_len {lo hi : Int} (h1 : 0 ≤ lo) (h2 : lo ≤ hi) (h3 : hi ≤ (l.length : Int)) : Int.toNat hi - Int.toNat lo = (sl l lo hi).length := by
  unfold sl; rw [List.length_drop, List.length_take]; omega
theorem sl_lo {lo : Int} : sl l lo (l.length : Int) = l.drop lo.toNat := by unfold sl; simp
theorem sl_hi {hi : Int} : sl l 0 hi = l.take hi.toNat := by unfold sl; simp
end
section
variable {α : Type} {sz : Nat} {E : Heap → α → List Value → Prop} {m m' h h' h0 m0 : Heap} {A : Option Addr} {l : List α} {c n k : Nat} {cs : List Value} {x : Int} {y : α} {W : Nat → Prop} {a : Addr} {v : Value} {b : Nat} {t : TypeId}
theorem Rd.addr {K : Addr → Prop} (r : Rd sz E m A l) (hn : n = l.length) (g : gi l x = some y) (hk : ∀ a cs, A = some a → cellsH m (a.add (Int.toNat x * sz)) 0 sz = some cs → E m y cs → K a) : ptrOk A fun a => 0 ≤ x ∧ x < ((n : Nat) : Int) ∧ K a := by
  subst hn
  have h1 := gi_get g
  obtain ⟨hi, h2⟩ := List.getElem?_eq_some_iff.1 h1
  obtain ⟨a, cs, rfl, h3, h4⟩ := r _ hi
  rw [h2] at h4
  exact ⟨gi_le g, gi_lt g, hk a cs rfl h3 h4⟩
theorem OS.cellsAt (o : OS W h0 sz E h m A l c) (g : gi l x = some y) : ∃ a cs, A = some a ∧ cellsH h (a.add (Int.toNat x * sz)) 0 sz = some cs ∧ E m y cs := by
  have h1 := gi_get g
  rcases o with ⟨rfl, rfl⟩ | ⟨b, t, pre, cs, rest, rfl, h3, h4, h5, h6, h7⟩
  · cases h1
  have h8 := h4.get h1
  refine ⟨_, _, rfl, ?_, h8.1⟩
  have := h3.cells (a := (⟨b, pre.length, none⟩ : Addr).add (x.toNat * sz)) (by rw [add_block]) (add_spot _ rfl) sz 0 (by rw [add_off, List.length_append, List.length_append]; simp only [Nat.add_zero]; omega)
  rw [this, add_off]
  simp only [Nat.add_zero]
  rw [List.append_assoc, ← List.drop_drop, List.drop_left, List.drop_append_of_le_length (by omega), List.take_append_of_le_length (by rw [List.length_drop]; omega)]
theorem OS.addr {K : Addr → Prop} (o : OS W h0 sz E h m A l c) (hn : n = l.length) (g : gi l x = some y) (hk : ∀ a cs, A = some a → cellsH h (a.add (Int.toNat x * sz)) 0 sz = some cs → E m y cs → K a) : ptrOk A fun a => 0 ≤ x ∧ x < ((n : Nat) : Int) ∧ K a := by
  subst hn
  obtain ⟨a, cs, rfl, h1, h2⟩ := o.cellsAt g
  exact ⟨gi_le g, gi_lt g, hk a cs rfl h1 h2⟩
theorem ld0 (s : Sub m h) (hc : cellsH m a 0 n = some cs) (hv : cs[0]? = some v) : ldv false 1 h a = some v := by
  have h1 : cellH h (a.add 0) = some v := cellsH_get (s.cells _ _ hc) hv
  exact h1
theorem ldk (s : Sub m h) (hc : cellsH m a 0 n = some cs) (hv : cs[k]? = some v) : ldv false 1 h (Addr.add a k) = some v := by
  have := cellsH_get (s.cells _ _ hc) hv
  simpa [ldv] using this
theorem ldA (s : Sub m h) (hc : cellsH m a 0 n = some cs) : ldv true n h a = some (.agg cs.toArray) := by
  simp only [ldv, s.cells _ _ hc, Option.map_some]
theorem cellsH_part : ∀ {n i : Nat} {cs : List Value} (k j : Nat), cellsH h a i n = some cs → k + j ≤ n → cellsH h a (i + k) j = some ((cs.drop k).take j) := by
  intro n
  induction n with
  | zero =>
    intro i cs k j hc hk
    obtain ⟨rfl, rfl⟩ : k = 0 ∧ j = 0 := by omega
    simp [cellsH]
  | succ n ih =>
    intro i cs k j hc hk
    cases k with
    | succ k =>
      simp only [cellsH] at hc
      split at hc
      · split at hc
        · rename_i vs hvs
          cases hc
          have := ih k j hvs (by omega)
          rw [show i + (k + 1) = i + 1 + k by omega, this]; simp
        · cases hc
      · cases hc
    | zero =>
      cases j with
      | zero => simp [cellsH]
      | succ j =>
        simp only [cellsH] at hc
        split at hc
        · rename_i u hu
          split at hc
          · rename_i vs hvs
            cases hc
            have := ih 0 j hvs (by omega)
            simp only [Nat.add_zero, List.drop_zero] at this
            simp only [Nat.add_zero, cellsH, hu, this, List.drop_zero, List.take_succ_cons]
          · cases hc
        · cases hc
theorem ldAk {j : Nat} (s : Sub m h) (hc : cellsH m a 0 n = some cs) (hk : k + j ≤ n) : ldv true j h (Addr.add a k) = some (.agg ((cs.drop k).take j).toArray) := by
  have := cellsH_part k j (s.cells _ _ hc) hk
  simp only [ldv, cellsH_shift]
  simp only [Nat.zero_add] at this
  simp only [Nat.add_zero, this, Option.map_some]
theorem OB.st (o : OB W h0 h m b cs t) (s : Sub m h) (hk : k < cs.length) (hf : Flat v) : ∃ h', st1 h (Addr.add ⟨b, 0, none⟩ k) v = some h' ∧ OB W h0 h' m b (cs.set k v) t ∧ St (fb b) h m h' m := by
  obtain ⟨h', h1, h2, h3⟩ := o.1.st (a := Addr.add ⟨b, 0, none⟩ k) (v := v) (add_block _ _) (add_spot _ rfl) (by rw [add_off]; simpa using hk) hf
  rw [add_off, Nat.zero_add] at h2
  exact ⟨h', h1, ⟨h2, o.2⟩, .only s o.2.2 h3⟩
theorem OB.stA (o : OB W h0 h m b cs t) (s : Sub m h) (l : List Value) (hn : l.length = cs.length) (hf : ∀ v ∈ l, Flat v) : ∃ h', stH h ⟨b, 0, none⟩ l 0 = some h' ∧ OB W h0 h' m b l t ∧ St (fb b) h m h' m := by
  obtain ⟨h', h1, h2, h3⟩ := o.1.stAll l hn hf
  exact ⟨h', h1, ⟨h2, o.2⟩, .only s o.2.2 h3⟩
theorem sl_cap {lo hi : Int} {mx : Nat} (h1 : 0 ≤ lo) (h2 : lo ≤ hi) (h3 : hi ≤ (l.length : Int)) (h4 : hi.toNat ≤ mx) : (sl l lo hi).length ≤ mx - Int.toNat lo := by rw [← sl_len h1 h2 h3]; omega
theorem OS.sl {lo hi : Int} {mx : Nat} (o : OS W h0 sz E h m A l c) (h1 : 0 ≤ lo) (h2 : lo ≤ hi) (h3 : hi ≤ (l.length : Int)) (h4 : hi.toNat ≤ mx) (h5 : mx ≤ c) : OS W h0 sz E h m (sliceA A (Int.toNat lo) mx sz) (sl l lo hi) (mx - Int.toNat lo) := by
  rcases o with ⟨rfl, rfl⟩ | ⟨b, t, pre, cs, rest, rfl, k1, k2, k3, k4, k5⟩
  · exact .inl ⟨by unfold Hw.sl; simp, by omega⟩
  by_cases hm : mx = lo.toNat
  · refine .inl ⟨List.length_eq_zero_iff.1 (by rw [← sl_len h1 h2 h3]; omega), by omega⟩
  have hl := k2.len
  have e1 : (cs.take (lo.toNat * sz)).length = lo.toNat * sz := by
    rw [List.length_take, hl]; have := Nat.mul_le_mul_right sz (show lo.toNat ≤ l.length by omega); omega
  have e2 : hi.toNat * sz ≤ l.length * sz := Nat.mul_le_mul_right _ (by omega)
  have e3 : lo.toNat * sz ≤ hi.toNat * sz := Nat.mul_le_mul_right _ (by omega)
  refine .inr ⟨b, t, pre ++ cs.take (lo.toNat * sz), (cs.take (hi.toNat * sz)).drop (lo.toNat * sz), cs.drop (hi.toNat * sz) ++ rest, ?_, ?_, ?_, sl_cap h1 h2 h3 h4, ?_, k5⟩
  · unfold sliceA
    rw [if_neg hm, Option.map_some, List.length_append, e1]
    unfold Addr.add
    split
    · rename_i h9; rw [h9]; rfl
    · rfl
  · have : pre ++ cs.take (lo.toNat * sz) ++ (cs.take (hi.toNat * sz)).drop (lo.toNat * sz) ++ (cs.drop (hi.toNat * sz) ++ rest) = pre ++ cs ++ rest := by
      have e4 : cs.take (lo.toNat * sz) = (cs.take (hi.toNat * sz)).take (lo.toNat * sz) := by rw [List.take_take, Nat.min_eq_left e3]
      rw [e4, List.append_assoc pre, List.take_append_drop, ← List.append_assoc, List.append_assoc pre, List.take_append_drop]
    rw [this]; exact k1
  · exact (k2.take hi.toNat).drop lo.toNat
  · rw [List.length_append, List.length_drop, hl, ← sl_len h1 h2 h3]
    have e5 : (mx - lo.toNat - (hi.toNat - lo.toNat)) * sz + hi.toNat * sz ≤ c * sz := by rw [← Nat.add_mul]; exact Nat.mul_le_mul_right _ (by omega)
    have e6 : (c - l.length) * sz + l.length * sz = c * sz := by rw [← Nat.add_mul, Nat.sub_add_cancel k3]
    omega
theorem zc_len {z : Array Value} {n : Nat} : (zcells z n).toList.length = n * z.size := by rw [Array.length_toList, zcells_size]
def Src (sz : Nat) (E : Heap → α → List Value → Prop) (h m : Heap) (x : Value) (xs : List α) : Prop := ∃ es, srcCells sz x h = some (xs.length, es) ∧ CsE sz E m xs es
theorem Rd.srcE (r : Rd sz E m A l) (T : Tell sz E) (s : Sub m h) (hn : n = l.length) : Src sz E h m (.slice A n c) l := by
  subst hn
  cases A with
  | none =>
    have : l = [] := by
      cases l with
      | nil => rfl
      | cons x l => obtain ⟨a, _, h1, _⟩ := r 0 (by simp); cases h1
    subst this
    exact ⟨[], rfl, rfl⟩
  | some a =>
    obtain ⟨es, h1, h2⟩ := Rd.cse T r
    exact ⟨es, by simp only [srcCells, s.cells _ _ h1, Option.map_some], h2⟩
theorem OS.srcE {c' : Nat} (o : OS W h0 sz E h m A l c) (hn : n = l.length) : Src sz E h m (.slice A n c') l := by
  subst hn
  rcases o with ⟨rfl, rfl⟩ | ⟨b, t, pre, cs, rest, rfl, k1, k2, k3, k4, k5⟩
  · refine ⟨[], ?_, rfl⟩
    cases A with
    | none => rfl
    | some a => simp [srcCells, cellsH]
  · refine ⟨cs, ?_, k2⟩
    have hl := k2.len
    have := k1.cells (a := ⟨b, pre.length, none⟩) rfl rfl (l.length * sz) 0 (by simp [hl])
    simp only [srcCells, this, Nat.add_zero]
    rw [List.append_assoc, List.drop_left, List.take_append_of_le_length (by omega), List.take_of_length_le (by omega)]; rfl
def ap (B : Nat) (l xs : List α) : Option (List α) := if (l.length + xs.length) * B ≤ 140737488355328 then some (l ++ xs) else none
theorem ap_e {B : Nat} {l xs l' : List α} (g : ap B l xs = some l') : (l.length + xs.length) * B ≤ 140737488355328 ∧ l ++ xs = l' := by
  unfold ap at g
  obtain ⟨h, k⟩ := guard_e g
  exact ⟨h, Option.some.inj k⟩
def sls (l : List α) (lo hi : Int) : Option (List α) := if 0 ≤ lo ∧ lo ≤ hi ∧ hi ≤ (l.length : Int) then some (sl l lo hi) else none
theorem sls_e {lo hi : Int} {l' : List α} (g : sls l lo hi = some l') : 0 ≤ lo ∧ lo ≤ hi ∧ hi ≤ (l.length : Int) ∧ Int.toNat hi - Int.toNat lo = l'.length ∧ l' = Hw.sl l lo hi := by
  unfold sls at g
  obtain ⟨h, k⟩ := guard_e g
  cases k
  exact ⟨h.1, h.2.1, h.2.2, sl_len h.1 h.2.1 h.2.2, rfl⟩
theorem OS.sls {lo hi : Int} {mx : Nat} {l' : List α} (o : OS W h0 sz E h m A l c) (g : Hw.sls l lo hi = some l') (h4 : hi.toNat ≤ mx) (h5 : mx ≤ c) : OS W h0 sz E h m (sliceA A (Int.toNat lo) mx sz) l' (mx - Int.toNat lo) := by
  obtain ⟨h1, h2, h3, _, rfl⟩ := sls_e g
  exact o.sl h1 h2 h3 h4 h5
theorem mkCells_flat {zc : Array Value} (hz : zc.size = sz) : ∀ n : Nat, (mkCells zc (n * sz)).toList = (List.replicate n zc.toList).flatten := by
  intro n
  unfold mkCells
  apply List.ext_getElem
  · simp [hz]
  · intro i h1 h2
    simp only [Array.toList_map, Array.toList_range, List.getElem_map, List.getElem_range]
    have hi : i < n * sz := by simpa using h1
    have : ∀ (n i : Nat) (hi : i < n * sz) (h2 : i < (List.replicate n zc.toList).flatten.length), zc[i % zc.size]! = (List.replicate n zc.toList).flatten[i] := by
      intro n
      induction n with
      | zero => intro i hi; simp at hi
      | succ n ih =>
        intro i hi h2
        simp only [List.replicate_succ, List.flatten_cons]
        by_cases hlt : i < zc.toList.length
        · rw [List.getElem_append_left hlt]
          have hlt' : i < zc.size := by simpa using hlt
          rw [Nat.mod_eq_of_lt hlt', getElem!_pos zc i hlt']; simp
        · have hge : sz ≤ i := by simpa [hz] using hlt
          rw [List.getElem_append_right (by rw [Array.length_toList, hz]; exact hge)]
          have e1 : i % zc.size = (i - zc.toList.length) % zc.size := by
            rw [Array.length_toList, hz]; exact (Nat.mod_eq_sub_mod hge)
          rw [e1]
          exact ih (i - zc.toList.length) (by rw [Array.length_toList, hz]; rw [Nat.succ_mul] at hi; omega) _
    exact this n i hi h2
end
end Go.Hw

end
section
namespace Go.Hw
open Go
section
variable {α : Type} {sz : Nat} {E : Heap → α → List Value → Prop} {m m' h h' h0 m0 : Heap} {A : Option Addr} {l : List α} {c n k : Nat} {x : Int} {W : Nat → Prop}
theorem Rd.void (r : Rd sz E m none l) : l = [] := by
  cases l with
  | nil => rfl
  | cons x l => obtain ⟨a, _, h1, _⟩ := r 0 (by simp); cases h1
end
section
variable {α : Type} {sz : Nat} {E : Heap → α → List Value → Prop} {m m' mL h h' h0 m0 : Heap} {A : Option Addr} {l : List α} {c b : Nat} {cs : List Value} {t : TypeId} {W W' : Nat → Prop}
theorem St.unlend (T : St W' h mL h' m') (s : Sub m h) (hd : ∀ b, W' b → ¬ Live m b) : St W' h m h' m where
  up := .refl _
  s b o h1 h2 := by
    rw [T.fr b (s.lt ⟨o, h1, h2⟩) (fun hw => hd b hw ⟨o, h1, h2⟩)]; exact s b o h1 h2
  size := T.size
  fr := T.fr
  lv b _ hl := .inl hl
end
section
variable {κ ν : Type} [DecidableEq κ] {h h' m m' h0 m0 : Heap} {b : Nat} {W W' : Nat → Prop} {kv : κ → Value} {es : List (κ × ν)} {vs : List (κ × Value)} {k : κ} {x zv : ν} {v z : Value} {P : Program} {t elem : TypeId} {sz : Nat}
def MonoV (EV : Heap → ν → Value → Prop) : Prop := ∀ m h x v, Sub m h → EV m x v → EV h x v
def MR (EV : ν → Value → Prop) : List (κ × ν) → List (κ × Value) → Prop
  | [], vs => vs = []
  | p :: es, vs => ∃ v vs', vs = (p.1, v) :: vs' ∧ EV p.2 v ∧ MR EV es vs'
variable {EV : Heap → ν → Value → Prop}
end
section
variable {H : Type} {enc : TypeId × Value → H} {P : Program} {W : World}
theorem tells_i64 {t : TypeId} (hu : P.underlying t = some (.int .i64)) : Tells enc P W t (eInt .i64) (fun x => -9223372036854775808 ≤ x ∧ x ≤ 9223372036854775807) := tells_map (tells_int hu) fun a _ h q => ⟨a, h, wf_i64 q⟩
theorem tells_strL {t : TypeId} (hu : P.underlying t = some .string) : Tells enc P W t eStr (fun s => s.size ≤ 140737488351232) := tells_map (tells_str hu) fun a _ h q => ⟨a, h, q⟩
theorem tells_sliceL {α : Type} {t e : TypeId} {sz B : Nat} {E : Heap → α → List Value → Prop} {Q : α → Prop} (hu : P.underlying t = some (.slice e)) (hc : P.cellsOf e = sz) (hB : P.bytesOf e = B) (he : Tells enc P W e E Q) :
    Tells enc P W t (eRow sz E) (fun l => l.length * B ≤ 140737488351232 ∧ ∀ a ∈ l, Q a) := tells_map (tells_slice hu hc hB he) fun a _ h q => ⟨a, h, q⟩
end
end Go.Hw

end
section
namespace Go.Hw
open Go
section
variable {α β : Type}
theorem ap_of {B : Nat} {l xs : List α} (h : (l.length + xs.length) * B ≤ 140737488355328) : ap B l xs = some (l ++ xs) := by unfold ap; rw [if_pos h]
theorem ap_nil {B : Nat} {xs : List α} (h : xs.length * B ≤ 140737488355328) : ap B ([] : List α) xs = some xs := by rw [ap_of (by simpa using h)]; rfl
theorem ap_one {B : Nat} {l : List α} {x : α} (h : (l.length + 1) * B ≤ 140737488355328) : ap B l [x] = some (l ++ [x]) := ap_of (by simpa using h)
theorem gi_some {l : List α} {k : Nat} {x : Int} {y : α} (hx : x = k) (h : l[k]? = some y) : gi l x = some y := by subst hx; rw [gi_nat]; exact h
theorem gi_at {l : List α} {k : Nat} (h : k < l.length) : gi l (k : Int) = some l[k] := by rw [gi_nat]; exact List.getElem?_eq_getElem h
theorem sls_of {l : List α} {lo hi : Int} (h1 : 0 ≤ lo) (h2 : lo ≤ hi) (h3 : hi ≤ (l.length : Int)) : sls l lo hi = some (sl l lo hi) := by unfold sls; rw [if_pos ⟨h1, h2, h3⟩]
theorem w_succ {k : Nat} (h : k < 9223372036854775807) : IntKind.wrap .i64 ((k : Int) + 1) = ((k + 1 : Nat) : Int) := by rw [wrap_in (by omega) (by omega)]; rfl
end
section
theorem forall_get {α : Type} {l : List α} {p : α → Prop} : (∀ i (hi : i < l.length), p l[i]) ↔ ∀ a ∈ l, p a :=
  ⟨fun h a ha => by obtain ⟨i, hi, rfl⟩ := List.getElem_of_mem ha; exact h i hi, fun h i hi => h _ (List.getElem_mem hi)⟩
open Go.RowKit
variable {H : Type} {enc : TypeId × Value → H} {P : Program} {W : World} {N : Nat}
def TellsU (N : Nat) {α : Type} (enc : TypeId × Value → H) (P : Program) (W : World) (t : TypeId) (E : Heap → α → List Value → Prop) (Q : α → Prop) : Prop :=
  ∀ (fuel : Nat), fuel < N → ∀ (cs : List Value) (x : DataW H × List MemPlace), DataW.trod enc P W 0 (fun _ => true) true fuel t cs = some x → (x.1.weights P t).all (· ≤ reachBytes) = true → ∃ a, E W.heap a cs ∧ Q a
theorem Tells.up {α : Type} {t : TypeId} {E : Heap → α → List Value → Prop} {Q : α → Prop} (he : Tells enc P W t E Q) : TellsU N enc P W t E Q := fun fuel _ => he fuel
theorem tells_rec {α : Type} {t : TypeId} {E : Heap → α → List Value → Prop} {Q : α → Prop} (step : ∀ N, TellsU N enc P W t E Q → TellsU (N + 1) enc P W t E Q) : Tells enc P W t E Q := by
  have key : ∀ N, TellsU N enc P W t E Q := by
    intro N
    induction N with
    | zero => intro fuel hf; omega
    | succ N ih => exact step N ih
  exact fun fuel => key (fuel + 1) fuel (Nat.lt_succ_self _)
theorem tellsU_map {α β : Type} {E : Heap → α → List Value → Prop} {F : Heap → β → List Value → Prop} {Q : α → Prop} {Q' : β → Prop} {t : TypeId} (he : TellsU N enc P W t E Q) (hm : ∀ a cs, E W.heap a cs → Q a → ∃ b, F W.heap b cs ∧ Q' b) : TellsU N enc P W t F Q' :=
  fun fuel hf cs x h hw => let ⟨a, ha, qa⟩ := he fuel hf cs x h hw; hm a cs ha qa
theorem tellsU_slice {α : Type} {t e : TypeId} {sz B : Nat} {E : Heap → α → List Value → Prop} {Q : α → Prop} (hu : P.underlying t = some (.slice e)) (hc : P.cellsOf e = sz) (hB : P.bytesOf e = B) (he : TellsU N enc P W e E Q) :
    TellsU N enc P W t (eRow sz E) (fun l => l.length * B ≤ 140737488351232 ∧ ∀ a ∈ l, Q a) := by
  intro fuel hf cs x h hw
  rcases DataW.trod_slice hu h with ⟨h1, h2⟩ | ⟨a, len, cap, elems, rest, n, hfn, h1, h2, _, hl, hm, hlen, hel, _, _⟩
  · exact ⟨[], ⟨none, 0, h1, Nat.le_refl _, Rd.nil⟩, by simp, fun a ha => by cases ha⟩
  · rw [h2] at hw
    simp only [DataW.weights, hu, List.all_cons, List.all_append, Bool.and_eq_true, decide_eq_true_eq] at hw
    obtain ⟨hw1, hw2, _⟩ := hw
    have hall := weightsAll_all _ hw2
    obtain ⟨l, h3, h4⟩ := list_choose (n := len) (p := fun i x => (∃ cs', cellsH W.heap (a.add (i * sz)) 0 sz = some cs' ∧ E W.heap x cs') ∧ Q x) (fun i hi => by
      have h5 := hel i hi
      have hlt : i < elems.length := by omega
      rw [List.getElem?_eq_getElem hlt] at h5
      obtain ⟨cs', h6, h7⟩ := Option.bind_eq_some_iff.1 h5
      obtain ⟨x, h8, h9⟩ := he _ (by omega) _ _ h7 (hall _ (List.mem_map.2 ⟨_, List.getElem_mem hlt, rfl⟩))
      rw [hc] at h6
      exact ⟨x, ⟨cs', cells_of h6, h8⟩, h9⟩)
    refine ⟨l, ⟨some a, cap, by rw [h1, h3], by omega, fun i hi => ?_⟩, ?_, fun x hx => ?_⟩
    · obtain ⟨⟨cs', h5, h6⟩, _⟩ := h4 i hi
      exact ⟨a, cs', rfl, h5, h6⟩
    · rw [hB] at hw1
      have h9 : l.length ≤ (List.map (·.1) elems).length + (List.map (·.1) rest).length := by simp; omega
      exact Nat.le_trans (Nat.mul_le_mul_right _ h9) hw1
    · obtain ⟨i, hi, rfl⟩ := List.getElem_of_mem hx
      exact (h4 i hi).2
theorem tellsU_down {α : Type} {t : TypeId} {E : Heap → α → List Value → Prop} {Q : α → Prop} (he : TellsU (N + 1) enc P W t E Q) : TellsU N enc P W t E Q := fun fuel hf => he fuel (by omega)
def TellsFU (N : Nat) {α : Type} (enc : TypeId × Value → H) (P : Program) (W : World) (T o : Nat) (fs : List (TypeId × Nat)) (F : Heap → α → List Value → Prop) (Q : α → Prop) : Prop :=
  ∀ (n : Nat), n < N → ∀ (cs : List Value) (xs : List (DataW H × List MemPlace)), cs.length = T → xs.length = fs.length → (∀ (i : Nat) (f : TypeId × Nat), fs[i]? = some f → DataW.trod enc P W 0 (fun _ => true) true n f.1 ((cs.drop f.2).take (P.cellsOf f.1)) = xs[i]?) →
    (DataW.weightsEach P (fs.map (·.1)) (xs.map (·.1))).all (· ≤ reachBytes) = true → ∃ b, F W.heap b (cs.drop o) ∧ Q b
theorem tfU_nil {T : Nat} : TellsFU N enc P W T T [] eNil (fun _ => True) := fun n _ cs xs hl _ _ _ => ⟨(), by unfold eNil; rw [List.drop_eq_nil_of_le (by omega)], trivial⟩
theorem tfU_cons {α β : Type} {E : Heap → α → List Value → Prop} {F : Heap → β → List Value → Prop} {Q : α → Prop} {Q' : β → Prop} {T o s : Nat} {f : TypeId} {fs : List (TypeId × Nat)} (hs : P.cellsOf f = s)
    (he : TellsU N enc P W f E Q) (hf : TellsFU N enc P W T (o + s) fs F Q') : TellsFU N enc P W T o ((f, o) :: fs) (eCons E F) (fun x => Q x.1 ∧ Q' x.2) := by
  intro n hn cs xs hl hx hi hw
  cases xs with
  | nil => cases hx
  | cons x xs =>
    have h0 := hi 0 (f, o) rfl
    simp only [hs] at h0
    simp only [List.map_cons, DataW.weightsEach, List.all_append, Bool.and_eq_true] at hw
    obtain ⟨a, ha, qa⟩ := he n hn _ _ h0 hw.1
    obtain ⟨b, hb, qb⟩ := hf n hn cs xs hl (by simpa using hx) (fun i g hg => by simpa using hi (i + 1) g hg) hw.2
    exact ⟨(a, b), ⟨_, _, by rw [← List.drop_drop, List.take_append_drop], ha, hb⟩, qa, qb⟩
theorem tellsU_struct {α : Type} {F : Heap → α → List Value → Prop} {Q : α → Prop} {t : TypeId} {fs : List (TypeId × Nat)} {T : Nat} (hs : shapeOf P t = some fs) (hc : P.cellsOf t = T) (hf : TellsFU N enc P W T 0 fs F Q) : TellsU (N + 1) enc P W t F Q := by
  intro fuel hfl cs x h hw
  unfold shapeOf at hs
  split at hs
  · rename_i fa hu
    cases hs
    obtain ⟨xs, n, hn, rfl, hl, hlen, hi⟩ := DataW.trod_struct hu h
    simp only [DataW.weights, hu] at hw
    obtain ⟨b, hb, qb⟩ := hf n (by omega) cs xs (by rw [hl, hc]) (by simpa using hlen) (fun i f hif => by
      rw [List.getElem?_map, Option.map_eq_some_iff] at hif
      obtain ⟨g, hg, rfl⟩ := hif
      exact hi i g (by simpa using hg)) (by rw [List.map_map]; exact hw)
    exact ⟨b, by simpa using hb, qb⟩
  · cases hs
end
end Go.Hw

end
section
set_option linter.unusedVariables false
namespace Go.Hw
open Go
abbrev Foot := Nat → Prop
def U (F G : Foot) : Foot := fun b => F b ∨ G b
section
variable {F G H F' G' : Foot}
theorem U.no_left : U No F = F := funext fun _ => propext ⟨fun h => h.elim (fun h => h.elim) id, .inr⟩
theorem U.no_right : U F No = F := funext fun _ => propext ⟨fun h => h.elim id (fun h => h.elim), .inl⟩
theorem U.assoc : U (U F G) H = U F (U G H) := funext fun _ => propext or_assoc
theorem U.comm : U F G = U G F := funext fun _ => propext or_comm
theorem U.left_comm : U F (U G H) = U G (U F H) := by rw [← U.assoc, U.comm (F := F), U.assoc]
theorem Dj.u (d : Dj F H) (d' : Dj G H) : Dj (U F G) H := fun b h k => h.elim (fun h => d b h k) (fun h => d' b h k)
theorem Dj.ul (d : Dj (U F G) H) : Dj F H := fun b h k => d b (.inl h) k
theorem Dj.ur (d : Dj (U F G) H) : Dj G H := fun b h k => d b (.inr h) k
theorem Dj.u' (d : Dj H F) (d' : Dj H G) : Dj H (U F G) := fun b k h => h.elim (fun h => d b k h) (fun h => d' b k h)
theorem Dj.ul' (d : Dj H (U F G)) : Dj H F := fun b k h => d b k (.inl h)
theorem Dj.ur' (d : Dj H (U F G)) : Dj H G := fun b k h => d b k (.inr h)
theorem Dj.no' : Dj F No := fun _ _ h => h
theorem Dj.mono (d : Dj F G) (h1 : ∀ b, F' b → F b) (h2 : ∀ b, G' b → G b) : Dj F' G' := fun b k l => d b (h1 b k) (h2 b l)
end
structure Res where
  p : Heap → Heap → Foot → Prop
  z : Heap → Prop
  lt : ∀ {h m F}, p h m F → ∀ b, F b → b < h.size
  nl : ∀ {h m F}, p h m F → ∀ b, F b → ¬ Live m b
  fr : ∀ {h m F h' m'}, p h m F → (∀ b, F b → h'[b]? = h[b]?) → Sub m m' → (∀ b, F b → ¬ Live m' b) → p h' m' F
  fz : ∀ {h m F G}, p h m F → Sub m h → (∀ b, F b → G b) → z (addV m h G)
def Res.vf (R : Res) : Prop := ∀ h m m' F, R.p h m F → Sub m' h → (∀ b, F b → ¬ Live m' b) → R.p h m' F
def rE : Res where
  p _ _ F := F = No
  z _ := True
  lt := by rintro h m F rfl b hb; exact hb.elim
  nl := by rintro h m F rfl b hb; exact hb.elim
  fr := fun h _ _ _ => h
  fz := fun _ _ _ => trivial
def Sep : List Res → Heap → Heap → Foot → Prop
  | [], _, _, F => F = No
  | R :: Rs, h, m, F => ∃ F1 F2, R.p h m F1 ∧ Sep Rs h m F2 ∧ Dj F1 F2 ∧ F = U F1 F2
def ZAll (m : Heap) : List Res → Prop
  | [] => True
  | R :: Rs => R.z m ∧ ZAll m Rs
def takeL : List Res → List Nat → List Res
  | _, [] => []
  | Rs, i :: is => (match Rs[i]? with | some R => R | none => rE) :: takeL (Rs.set i rE) is
def dropL : List Res → List Nat → List Res
  | Rs, [] => Rs
  | Rs, i :: is => dropL (Rs.set i rE) is
section
variable {h h' m m' : Heap} {F F1 F2 G : Foot} {Rs Rs' : List Res} {R R' : Res} {k : Nat}
theorem Sep.lt : ∀ {Rs : List Res} {F : Foot}, Sep Rs h m F → ∀ b, F b → b < h.size
  | [], _, hs, b, hb => by rw [show _ = No from hs] at hb; exact hb.elim
  | _ :: _, _, ⟨_, _, h1, h2, _, rfl⟩, b, hb => hb.elim (Res.lt _ h1 b) (Sep.lt h2 b)
theorem Sep.nl : ∀ {Rs : List Res} {F : Foot}, Sep Rs h m F → ∀ b, F b → ¬ Live m b
  | [], _, hs, b, hb => by rw [show _ = No from hs] at hb; exact hb.elim
  | _ :: _, _, ⟨_, _, h1, h2, _, rfl⟩, b, hb => hb.elim (Res.nl _ h1 b) (Sep.nl h2 b)
theorem Sep.fr : ∀ {Rs : List Res} {F : Foot}, Sep Rs h m F → (∀ b, F b → h'[b]? = h[b]?) → Sub m m' → (∀ b, F b → ¬ Live m' b) → Sep Rs h' m' F
  | [], _, hs, _, _, _ => hs
  | _ :: _, _, ⟨F1, F2, h1, h2, h3, rfl⟩, k1, k2, k3 => ⟨F1, F2, Res.fr _ h1 (fun b hb => k1 b (.inl hb)) k2 (fun b hb => k3 b (.inl hb)), Sep.fr h2 (fun b hb => k1 b (.inr hb)) k2 (fun b hb => k3 b (.inr hb)), h3, rfl⟩
theorem Sep.fz : ∀ {Rs : List Res} {F : Foot}, Sep Rs h m F → Sub m h → (∀ b, F b → G b) → ZAll (addV m h G) Rs
  | [], _, _, _, _ => trivial
  | _ :: _, _, ⟨F1, F2, h1, h2, h3, rfl⟩, k1, k2 => ⟨Res.fz _ h1 k1 (fun b hb => k2 b (.inl hb)), Sep.fz h2 k1 (fun b hb => k2 b (.inr hb))⟩
theorem Sep.vf : ∀ {Rs : List Res} {F : Foot}, Sep Rs h m F → (∀ R ∈ Rs, R.vf) → Sub m' h → (∀ b, F b → ¬ Live m' b) → Sep Rs h m' F
  | [], _, hs, _, _, _ => hs
  | R :: Rs, _, ⟨F1, F2, h1, h2, h3, rfl⟩, v, k1, k2 => ⟨F1, F2, v R (List.mem_cons_self ..) _ _ _ _ h1 k1 (fun b hb => k2 b (.inl hb)), Sep.vf h2 (fun R hR => v R (List.mem_cons_of_mem _ hR)) k1 (fun b hb => k2 b (.inr hb)), h3, rfl⟩
theorem Sep.get : ∀ {Rs : List Res} {F : Foot} {k : Nat}, Sep Rs h m F → Rs[k]? = some R → ∃ F1 F2, R.p h m F1 ∧ Sep (Rs.set k rE) h m F2 ∧ Dj F1 F2 ∧ F = U F1 F2
  | [], _, _, _, hk => by cases hk
  | R' :: Rs, _, 0, ⟨F1, F2, h1, h2, h3, e⟩, hk => by
    cases hk
    exact ⟨F1, F2, h1, ⟨No, F2, rfl, h2, .no, U.no_left.symm⟩, h3, e⟩
  | R' :: Rs, _, k + 1, ⟨F1, F2, h1, h2, h3, e⟩, hk => by
    obtain ⟨G1, G2, k1, k2, k3, rfl⟩ := Sep.get h2 (show Rs[k]? = some R by simpa using hk)
    refine ⟨G1, U F1 G2, k1, ⟨F1, G2, h1, k2, h3.ur', rfl⟩, ?_, ?_⟩
    · exact Dj.u' h3.ul'.symm k3
    · rw [e, U.left_comm]
theorem Sep.put : ∀ {Rs : List Res} {F2 : Foot} {k : Nat}, Sep Rs h m F2 → Rs[k]? = some rE → R'.p h m F1 → Dj F1 F2 → Sep (Rs.set k R') h m (U F1 F2)
  | [], _, _, _, hk, _, _ => by cases hk
  | R :: Rs, _, 0, ⟨G1, G2, h1, h2, h3, e⟩, hk, hp, d => by
    cases hk
    have : G1 = No := h1
    subst this
    rw [U.no_left] at e
    subst e
    exact ⟨F1, _, hp, h2, d, rfl⟩
  | R :: Rs, _, k + 1, ⟨G1, G2, h1, h2, h3, e⟩, hk, hp, d => by
    subst e
    have := Sep.put h2 (show Rs[k]? = some rE by simpa using hk) hp d.ur'
    exact ⟨G1, _, h1, this, Dj.u' d.ul'.symm h3, by rw [U.left_comm]⟩
theorem Sep.app : ∀ {Rs : List Res} {F : Foot}, Sep Rs h m F → Sep Rs' h m G → Dj F G → Sep (Rs ++ Rs') h m (U F G)
  | [], _, hs, hs', _ => by rw [show _ = No from hs, U.no_left]; exact hs'
  | R :: Rs, _, ⟨F1, F2, h1, h2, h3, e⟩, hs', d => by
    subst e
    exact ⟨F1, _, h1, Sep.app h2 hs' d.ur, Dj.u' h3 d.ul, U.assoc⟩
theorem Sep.one (hp : R.p h m F) : Sep [R] h m F := ⟨F, No, hp, rfl, .no', U.no_right.symm⟩
theorem set_rE (hk : Rs[k]? = some R) : (Rs.set k rE)[k]? = some rE := by
  have : k < Rs.length := (List.getElem?_eq_some_iff.1 hk).1
  rw [List.getElem?_set_self this]
theorem Sep.part : ∀ (is : List Nat) {Rs : List Res} {F : Foot}, Sep Rs h m F → ∃ F1 F2, Sep (takeL Rs is) h m F1 ∧ Sep (dropL Rs is) h m F2 ∧ Dj F1 F2 ∧ F = U F1 F2
  | [], Rs, F, hs => ⟨No, F, rfl, hs, .no, U.no_left.symm⟩
  | i :: is, Rs, F, hs => by
    cases hi : Rs[i]? with
    | none =>
      have : Rs.set i rE = Rs := List.set_eq_of_length_le (List.getElem?_eq_none_iff.1 hi)
      obtain ⟨F1, F2, h1, h2, h3, h4⟩ := Sep.part is (Rs := Rs.set i rE) (by rw [this]; exact hs)
      refine ⟨F1, F2, ?_, h2, h3, h4⟩
      simp only [takeL, hi]
      exact ⟨No, F1, rfl, h1, .no, U.no_left.symm⟩
    | some R =>
      obtain ⟨G1, G2, k1, k2, k3, rfl⟩ := Sep.get hs hi
      obtain ⟨F1, F2, h1, h2, h3, rfl⟩ := Sep.part is k2
      refine ⟨U G1 F1, F2, ?_, h2, Dj.u k3.ur' h3, U.assoc.symm⟩
      simp only [takeL, hi]
      exact ⟨G1, F1, k1, h1, k3.ul', rfl⟩
end
structure Hold (W : Foot) (h0 m0 h m : Heap) (Rs : List Res) : Prop where
  S : St W h0 m0 h m
  q : ∃ F, Sep Rs h m F ∧ ∀ b, F b → h0.size ≤ b ∨ W b
section
variable {h0 m0 h h' m m' : Heap} {W F F' G : Foot} {Rs Rs' : List Res} {R R' : Res} {k : Nat}
theorem Hold.s (O : Hold W h0 m0 h m Rs) : Sub m h := O.S.s
theorem Hold.start (s : Sub m h) : Hold W h m h m [] := ⟨.refl s, No, rfl, fun _ h => h.elim⟩
theorem St.frame (T : St F h m h' m') (h2 : Dj F G) (h3 : ∀ b, G b → b < h.size) (h4 : ∀ b, G b → ¬ Live m b) : (∀ b, G b → h'[b]? = h[b]?) ∧ ∀ b, G b → ¬ Live m' b :=
  ⟨fun b hb => T.fr b (h3 b hb) (fun hf => h2 b hf hb), fun b hb hl => (T.lv b (h3 b hb) hl).elim (h4 b hb) (fun hf => h2 b hf hb)⟩
theorem Hold.get (O : Hold W h0 m0 h m Rs) (k : Nat) (hk : Rs[k]? = some R) : ∃ F, R.p h m F ∧ (∀ b, F b → h0.size ≤ b ∨ W b) ∧
    ∀ {h' m' : Heap} {R' : Res} {F' : Foot}, St F h m h' m' → R'.p h' m' F' → (∀ b, F' b → F b ∨ h.size ≤ b) → Hold W h0 m0 h' m' (Rs.set k R') := by
  obtain ⟨S, FF, hs, hw⟩ := O
  obtain ⟨F1, F2, h1, h2, h3, rfl⟩ := hs.get hk
  refine ⟨F1, h1, fun b hb => hw b (.inl hb), fun {h' m' R' F'} T hp hn => ?_⟩
  obtain ⟨f1, f2⟩ := T.frame h3 h2.lt h2.nl
  have s2 := Sep.fr h2 f1 T.up f2
  have d : Dj F' F2 := fun b hb hc => (hn b hb).elim (fun hf => h3 b hf hc) (fun hl => by have := h2.lt b hc; omega)
  have := Sep.put s2 (set_rE hk) hp d
  rw [List.set_set] at this
  refine ⟨S.then T (fun b _ hb => hw b (.inl hb)), _, this, fun b hb => hb.elim (fun hb => (hn b hb).elim (fun hf => hw b (.inl hf)) (fun hl => .inl (Nat.le_trans S.size hl))) (fun hb => hw b (.inr hb))⟩
theorem Hold.add (O : Hold W h0 m0 h m Rs) (T : St No h m h' m') (hp : R.p h' m' F') (hn : ∀ b, F' b → h.size ≤ b) : Hold W h0 m0 h' m' (Rs ++ [R]) := by
  obtain ⟨S, F, hs, hw⟩ := O
  obtain ⟨f1, f2⟩ := T.frame (G := F) .no hs.lt hs.nl
  refine ⟨S.grow T, _, (Sep.fr hs f1 T.up f2).app (.one hp) (fun b hb hc => by have := hs.lt b hb; have := hn b hc; omega), fun b hb => hb.elim (hw b) (fun hb => .inl (Nat.le_trans S.size (hn b hb)))⟩
theorem Hold.grow (O : Hold W h0 m0 h m Rs) (T : St No h m h' m') : Hold W h0 m0 h' m' Rs := by
  obtain ⟨S, F, hs, hw⟩ := O
  obtain ⟨f1, f2⟩ := T.frame (G := F) .no hs.lt hs.nl
  exact ⟨S.grow T, F, Sep.fr hs f1 T.up f2, hw⟩
theorem Hold.ext (O : Hold W h0 m0 h m Rs) (e : Ext h h') : Hold W h0 m0 h' m Rs := O.grow (St.of_ext O.s e)
theorem Hold.adds (O : Hold W h0 m0 h m Rs) (hp : R.p h m No) : Hold W h0 m0 h m (Rs ++ [R]) := O.add (.refl O.s) hp (fun _ h => h.elim)
theorem Hold.conv (O : Hold W h0 m0 h m Rs) (k : Nat) (hk : Rs[k]? = some R) (H : ∀ F, R.p h m F → ∃ F', R'.p h m F' ∧ ∀ b, F' b → F b) : Hold W h0 m0 h m (Rs.set k R') := by
  obtain ⟨F, h1, _, h3⟩ := O.get k hk
  obtain ⟨F', h4, h5⟩ := H F h1
  exact h3 (.refl O.s) h4 (fun b hb => .inl (h5 b hb))
theorem Hold.pick (O : Hold W h0 m0 h m Rs) (is : List Nat) : Hold W h0 m0 h m (takeL Rs is) := by
  obtain ⟨S, F, hs, hw⟩ := O
  obtain ⟨F1, F2, h1, h2, h3, rfl⟩ := hs.part is
  exact ⟨S, F1, h1, fun b hb => hw b (.inl hb)⟩
theorem Hold.call (O : Hold W h0 m0 h m Rs) (is : List Nat) : ∃ W', Hold W' h m h m (takeL Rs is) ∧ ∀ {h' m' : Heap} {Rs' : List Res}, Hold W' h m h' m' Rs' → Hold W h0 m0 h' m' (dropL Rs is ++ Rs') := by
  obtain ⟨S, F, hs, hw⟩ := O
  obtain ⟨F1, F2, h1, h2, h3, rfl⟩ := hs.part is
  refine ⟨F1, ⟨.refl S.s, F1, h1, fun b hb => .inr hb⟩, fun {h' m' Rs'} O' => ?_⟩
  obtain ⟨T, F', hs', hw'⟩ := O'
  obtain ⟨f1, f2⟩ := T.frame h3 h2.lt h2.nl
  refine ⟨S.then T (fun b _ hb => hw b (.inl hb)), _, (Sep.fr h2 f1 T.up f2).app hs' (fun b hb hc => (hw' b hc).elim (fun hl => by have := h2.lt b hb; omega) (fun hf => h3 b hf hb)), fun b hb => hb.elim (fun hb => hw b (.inr hb)) (fun hb => (hw' b hb).elim (fun hl => .inl (Nat.le_trans S.size hl)) (fun hf => hw b (.inl hf)))⟩
theorem Hold.callC (O : Hold W h0 m0 h m Rs) (is : List Nat) : ∃ W', Hold W' h m h m (takeL Rs is) ∧
    (∀ {h' m' : Heap} {Rs' : List Res}, Hold W' h m h' m' Rs' → Hold W h0 m0 h' m' (dropL Rs is ++ Rs')) ∧
    (∀ {h' m' : Heap} {Rs' : List Res}, Hold W' h m h' m' Rs' → (∀ R ∈ Rs', R.vf) → Hold W h0 m0 h' m (dropL Rs is ++ Rs')) := by
  obtain ⟨S, F, hs, hw⟩ := O
  obtain ⟨F1, F2, h1, h2, h3, rfl⟩ := hs.part is
  have key : ∀ {h' m' : Heap} {Rs' : List Res}, Hold F1 h m h' m' Rs' → Hold W h0 m0 h' m' (dropL Rs is ++ Rs') := fun {h' m' Rs'} O' => by
    obtain ⟨T, F', hs', hw'⟩ := O'
    obtain ⟨f1, f2⟩ := T.frame h3 h2.lt h2.nl
    exact ⟨S.then T (fun b _ hb => hw b (.inl hb)), _, (Sep.fr h2 f1 T.up f2).app hs' (fun b hb hc => (hw' b hc).elim (fun hl => by have := h2.lt b hb; omega) (fun hf => h3 b hf hb)), fun b hb => hb.elim (fun hb => hw b (.inr hb)) (fun hb => (hw' b hb).elim (fun hl => .inl (Nat.le_trans S.size hl)) (fun hf => hw b (.inl hf)))⟩
  refine ⟨F1, ⟨.refl S.s, F1, h1, fun b hb => .inr hb⟩, key, fun {h' m' Rs'} O' v => key ?_⟩
  obtain ⟨T, F', hs', hw'⟩ := O'
  have T' : St F1 h m h' m := T.unlend S.s h1.nl
  exact ⟨T', F', hs'.vf v T'.s (fun b hb hv => (hw' b hb).elim (fun hl => by have := S.s.lt hv; omega) (fun hf => h1.nl b hf hv)), hw'⟩
theorem Hold.lend (O : Hold W h0 m0 h m Rs) (is ls : List Nat) : ∃ m1 W', Sub m m1 ∧ Hold W' h m1 h m1 (takeL Rs is) ∧ ZAll m1 (takeL (dropL Rs is) ls) ∧
    (∀ {h' m' : Heap} {Rs' : List Res}, Hold W' h m1 h' m' Rs' → Hold W h0 m0 h' m' (dropL (dropL Rs is) ls ++ Rs')) ∧
    (∀ {h' m' : Heap} {Rs' : List Res}, Hold W' h m1 h' m' Rs' → (∀ R ∈ Rs', R.vf) → Hold W h0 m0 h' m (dropL Rs is ++ Rs')) := by
  obtain ⟨S, F, hs, hw⟩ := O
  obtain ⟨F1, F2, h1, h2, h3, rfl⟩ := hs.part is
  obtain ⟨F3, F4, k1, k2, k3, rfl⟩ := h2.part ls
  have hl : ∀ b, Live (addV m h F3) b → Live m b ∨ F3 b := fun b h => (addV_live h).1
  have n1 : ∀ b, F1 b → ¬ Live (addV m h F3) b := fun b hb hv => (hl b hv).elim (h1.nl b hb) (fun hf => h3 b hb (.inl hf))
  have n4 : ∀ b, F4 b → ¬ Live (addV m h F3) b := fun b hb hv => (hl b hv).elim (k2.nl b hb) (fun hf => k3 b hf hb)
  refine ⟨addV m h F3, F1, addV_up S.s, ⟨.refl addV_sub, F1, Sep.fr h1 (fun _ _ => rfl) (addV_up S.s) n1, fun b hb => .inr hb⟩, k1.fz S.s (fun _ h => h), fun {h' m' Rs'} O' => ?_, fun {h' m' Rs'} O' v => ?_⟩
  · obtain ⟨T, F', hs', hw'⟩ := O'
    have k4 := Sep.fr k2 (fun _ _ => rfl) (addV_up S.s) n4
    obtain ⟨f1, f2⟩ := T.frame h3.ur' k2.lt n4
    refine ⟨(S.then (St.settle S.s F3) (fun b _ hb => hw b (.inr (.inl hb)))).then T (fun b _ hb => hw b (.inl hb)), _, (Sep.fr k4 f1 T.up f2).app hs' (fun b hb hc => (hw' b hc).elim (fun hl => by have := k2.lt b hb; omega) (fun hf => h3 b hf (.inr hb))), fun b hb => hb.elim (fun hb => hw b (.inr (.inr hb))) (fun hb => (hw' b hb).elim (fun hl => .inl (Nat.le_trans S.size hl)) (fun hf => hw b (.inl hf)))⟩
  · obtain ⟨T, F', hs', hw'⟩ := O'
    have T' : St F1 h m h' m := T.unlend S.s h1.nl
    obtain ⟨f1, f2⟩ := T'.frame h3 h2.lt h2.nl
    have n' : ∀ b, F' b → ¬ Live m b := fun b hb hv => (hw' b hb).elim (fun hl => by have := S.s.lt hv; omega) (fun hf => h1.nl b hf hv)
    refine ⟨S.then T' (fun b _ hb => hw b (.inl hb)), _, (Sep.fr h2 f1 T'.up f2).app (hs'.vf v T'.s n') (fun b hb hc => (hw' b hc).elim (fun hl => by have := h2.lt b hb; omega) (fun hf => h3 b hf hb)), fun b hb => hb.elim (fun hb => hw b (.inr hb)) (fun hb => (hw' b hb).elim (fun hl => .inl (Nat.le_trans S.size hl)) (fun hf => hw b (.inl hf)))⟩
theorem Hold.frz (O : Hold W h0 m0 h m Rs) (k : Nat) (hk : Rs[k]? = some R) : ∃ m', Sub m m' ∧ R.z m' ∧ Hold W h0 m0 h m' (Rs.set k rE) := by
  obtain ⟨m1, W', h1, h2, h3, h4, _⟩ := O.lend [] [k]
  refine ⟨m1, h1, ?_, ?_⟩
  · have : takeL (dropL Rs []) [k] = [R] := by simp only [takeL, dropL, hk]
    rw [this] at h3
    exact h3.1
  · have := h4 h2
    simp only [takeL, dropL, List.append_nil] at this
    exact this
end
end Go.Hw

end
section
set_option linter.unusedVariables false
namespace Go.Hw
open Go
structure Asn (α : Type) (sz : Nat) where
  p : Heap → Heap → α → List Value → Foot → Prop
  E : Heap → α → List Value → Prop
  T : Tell sz E
  len : ∀ {h m x cs F}, p h m x cs F → cs.length = sz
  flat : ∀ {h m x cs F}, p h m x cs F → ∀ v ∈ cs, Flat v
  lt : ∀ {h m x cs F}, p h m x cs F → ∀ b, F b → b < h.size
  nl : ∀ {h m x cs F}, p h m x cs F → ∀ b, F b → ¬ Live m b
  fr : ∀ {h m x cs F h' m'}, p h m x cs F → (∀ b, F b → h'[b]? = h[b]?) → Sub m m' → (∀ b, F b → ¬ Live m' b) → p h' m' x cs F
  fz : ∀ {h m x cs F G}, p h m x cs F → Sub m h → (∀ b, F b → G b) → E (addV m h G) x cs
def aE {α : Type} {sz : Nat} {E : Heap → α → List Value → Prop} (T : Tell sz E) : Asn α sz where
  p _ m x cs F := E m x cs ∧ F = No
  E := E
  T := T
  len h := T.len _ _ _ h.1
  flat h := T.flat _ _ _ h.1
  lt := by rintro h m x cs F ⟨_, rfl⟩ b hb; exact hb.elim
  nl := by rintro h m x cs F ⟨_, rfl⟩ b hb; exact hb.elim
  fr := fun h _ s _ => ⟨T.mono _ _ _ _ s h.1, h.2⟩
  fz := fun h s _ => T.mono _ _ _ _ (addV_up s) h.1
def Asn.vf {α : Type} {sz : Nat} (a : Asn α sz) : Prop := ∀ h m m' x cs F, a.p h m x cs F → Sub m' h → (∀ b, F b → ¬ Live m' b) → a.p h m' x cs F
theorem aE_vf {α : Type} {sz : Nat} {E : Heap → α → List Value → Prop} {T : Tell sz E} (hE : ∀ m m' x cs, E m x cs → E m' x cs) : (aE T).vf := fun _ _ _ _ _ _ h _ _ => ⟨hE _ _ _ _ h.1, h.2⟩
theorem Blk.fr {h h' : Heap} {b : Nat} {c : List Value} {t : TypeId} (hb : Blk h b c t) (e : h'[b]? = h[b]?) : Blk h' b c t := by unfold Blk at *; rw [e]; exact hb
def rV (b : Nat) (t : TypeId) (cs : List Value) : Res where
  p h m F := Blk h b cs t ∧ ¬ Live m b ∧ F = fb b
  z m := Blk m b cs t
  lt := by rintro h m F ⟨h1, _, rfl⟩ i hi; unfold fb at hi; subst hi; exact h1.lt
  nl := by rintro h m F ⟨h1, h2, rfl⟩ i hi; unfold fb at hi; subst hi; exact h2
  fr := by rintro h m F h' m' ⟨h1, h2, rfl⟩ k1 _ k3; exact ⟨h1.fr (k1 b rfl), k3 b rfl, rfl⟩
  fz := by rintro h m F G ⟨h1, h2, rfl⟩ _ k2; exact h1.settle (k2 b rfl)
theorem rV_vf {b : Nat} {t : TypeId} {cs : List Value} : (rV b t cs).vf := by rintro h m m' F ⟨h1, _, rfl⟩ _ k2; exact ⟨h1, k2 b rfl, rfl⟩
section
variable {α : Type} {sz : Nat}
def CsA (a : Asn α sz) (h m : Heap) : List α → List Value → Foot → Prop
  | [], cs, F => cs = [] ∧ F = No
  | x :: l, cs, F => ∃ c1 c2 F1 F2, cs = c1 ++ c2 ∧ a.p h m x c1 F1 ∧ CsA a h m l c2 F2 ∧ Dj F1 F2 ∧ F = U F1 F2
variable {a : Asn α sz} {h h' m m' : Heap} {l l' : List α} {cs ds : List Value} {F F' F1 F2 G : Foot} {x y : α}
theorem CsA.len : ∀ {l : List α} {cs : List Value} {F : Foot}, CsA a h m l cs F → cs.length = l.length * sz
  | [], _, _, ⟨e, _⟩ => by rw [e]; simp
  | x :: l, _, _, ⟨c1, c2, F1, F2, e, h1, h2, _, _⟩ => by rw [e, List.length_append, CsA.len h2, a.len h1, List.length_cons, Nat.succ_mul, Nat.add_comm]
theorem CsA.flat : ∀ {l : List α} {cs : List Value} {F : Foot}, CsA a h m l cs F → ∀ v ∈ cs, Flat v
  | [], _, _, ⟨e, _⟩ => by rw [e]; exact Flats.nil
  | x :: l, _, _, ⟨c1, c2, F1, F2, e, h1, h2, _, _⟩ => by
    rw [e]; intro v hv
    rcases List.mem_append.1 hv with hv | hv
    · exact a.flat h1 v hv
    · exact CsA.flat h2 v hv
theorem CsA.lt : ∀ {l : List α} {cs : List Value} {F : Foot}, CsA a h m l cs F → ∀ b, F b → b < h.size
  | [], _, _, ⟨_, e⟩, b, hb => by rw [e] at hb; exact hb.elim
  | x :: l, _, _, ⟨c1, c2, F1, F2, _, h1, h2, _, rfl⟩, b, hb => hb.elim (a.lt h1 b) (CsA.lt h2 b)
theorem CsA.nl : ∀ {l : List α} {cs : List Value} {F : Foot}, CsA a h m l cs F → ∀ b, F b → ¬ Live m b
  | [], _, _, ⟨_, e⟩, b, hb => by rw [e] at hb; exact hb.elim
  | x :: l, _, _, ⟨c1, c2, F1, F2, _, h1, h2, _, rfl⟩, b, hb => hb.elim (a.nl h1 b) (CsA.nl h2 b)
theorem CsA.fr : ∀ {l : List α} {cs : List Value} {F : Foot}, CsA a h m l cs F → (∀ b, F b → h'[b]? = h[b]?) → Sub m m' → (∀ b, F b → ¬ Live m' b) → CsA a h' m' l cs F
  | [], _, _, hs, _, _, _ => hs
  | x :: l, _, _, ⟨c1, c2, F1, F2, e, h1, h2, d, rfl⟩, k1, k2, k3 => ⟨c1, c2, F1, F2, e, a.fr h1 (fun b hb => k1 b (.inl hb)) k2 (fun b hb => k3 b (.inl hb)), CsA.fr h2 (fun b hb => k1 b (.inr hb)) k2 (fun b hb => k3 b (.inr hb)), d, rfl⟩
theorem CsA.vf (v : a.vf) : ∀ {l : List α} {cs : List Value} {F : Foot}, CsA a h m l cs F → Sub m' h → (∀ b, F b → ¬ Live m' b) → CsA a h m' l cs F
  | [], _, _, hs, _, _ => hs
  | x :: l, _, _, ⟨c1, c2, F1, F2, e, h1, h2, d, rfl⟩, k1, k2 => ⟨c1, c2, F1, F2, e, v _ _ _ _ _ _ h1 k1 (fun b hb => k2 b (.inl hb)), CsA.vf v h2 k1 (fun b hb => k2 b (.inr hb)), d, rfl⟩
theorem CsA.fz : ∀ {l : List α} {cs : List Value} {F : Foot}, CsA a h m l cs F → Sub m h → (∀ b, F b → G b) → CsE sz a.E (addV m h G) l cs
  | [], _, _, ⟨e, _⟩, _, _ => e
  | x :: l, _, _, ⟨c1, c2, F1, F2, e, h1, h2, d, rfl⟩, k1, k2 => ⟨c1, c2, e, a.len h1, a.fz h1 k1 (fun b hb => k2 b (.inl hb)), CsA.fz h2 k1 (fun b hb => k2 b (.inr hb))⟩
theorem CsA.append : ∀ {l : List α} {cs : List Value} {F : Foot}, CsA a h m l cs F → CsA a h m l' ds F' → Dj F F' → CsA a h m (l ++ l') (cs ++ ds) (U F F')
  | [], _, _, ⟨e, e'⟩, h', _ => by subst e; subst e'; rw [U.no_left]; exact h'
  | x :: l, _, _, ⟨c1, c2, F1, F2, e, h1, h2, d, e'⟩, h', dd => by
    subst e; subst e'
    rw [List.append_assoc]
    exact ⟨c1, _, F1, _, rfl, h1, CsA.append h2 h' dd.ur, Dj.u' d dd.ul, U.assoc⟩
theorem CsE.csa {E : Heap → α → List Value → Prop} {T : Tell sz E} : ∀ {l : List α} {cs : List Value}, CsE sz E m l cs → CsA (aE T) h m l cs No
  | [], _, e => ⟨e, rfl⟩
  | x :: l, _, ⟨c1, c2, e, h1, h2, h3⟩ => ⟨c1, c2, No, No, e, ⟨h2, rfl⟩, CsE.csa h3, .no, U.no_left.symm⟩
theorem CsA.cse {E : Heap → α → List Value → Prop} {T : Tell sz E} : ∀ {l : List α} {cs : List Value} {F : Foot}, CsA (aE T) h m l cs F → CsE sz E m l cs ∧ F = No
  | [], _, _, ⟨e, e'⟩ => ⟨e, e'⟩
  | x :: l, _, _, ⟨c1, c2, F1, F2, e, ⟨h1, h1'⟩, h2, _, e'⟩ => by
    obtain ⟨h3, h3'⟩ := CsA.cse h2
    subst h1'; subst h3'
    exact ⟨⟨c1, c2, e, T.len _ _ _ h1, h1, h3⟩, by rw [e', U.no_left]⟩
end
section
variable {α : Type} {sz : Nat}
def rowP (a : Asn α sz) (A : Option Addr) (c : Nat) (l : List α) (h m : Heap) (F : Foot) : Prop :=
  (l = [] ∧ c = 0 ∧ F = No) ∨ ∃ b t pre cs rest Fe, c ≠ 0 ∧ A = some ⟨b, pre.length, none⟩ ∧ Blk h b (pre ++ cs ++ rest) t ∧ CsA a h m l cs Fe ∧ l.length ≤ c ∧ (c - l.length) * sz ≤ rest.length ∧ ¬ Live m b ∧ ¬ Fe b ∧ F = U (fb b) Fe
def rR (a : Asn α sz) (A : Option Addr) (c : Nat) (l : List α) : Res where
  p := rowP a A c l
  z m := Rd sz a.E m A l ∧ l.length ≤ c
  lt := by
    rintro h m F (⟨_, _, rfl⟩ | ⟨b, t, pre, cs, rest, Fe, k0, k1, k2, k3, k4, k5, k6, k7, rfl⟩) i hi
    · exact hi.elim
    · rcases hi with hi | hi
      · unfold fb at hi; subst hi; exact k2.lt
      · exact k3.lt i hi
  nl := by
    rintro h m F (⟨_, _, rfl⟩ | ⟨b, t, pre, cs, rest, Fe, k0, k1, k2, k3, k4, k5, k6, k7, rfl⟩) i hi
    · exact hi.elim
    · rcases hi with hi | hi
      · unfold fb at hi; subst hi; exact k6
      · exact k3.nl i hi
  fr := by
    rintro h m F h' m' (⟨e1, e2, rfl⟩ | ⟨b, t, pre, cs, rest, Fe, k0, k1, k2, k3, k4, k5, k6, k7, rfl⟩) f1 f2 f3
    · exact .inl ⟨e1, e2, rfl⟩
    · exact .inr ⟨b, t, pre, cs, rest, Fe, k0, k1, k2.fr (f1 b (.inl rfl)), k3.fr (fun i hi => f1 i (.inr hi)) f2 (fun i hi => f3 i (.inr hi)), k4, k5, f3 b (.inl rfl), k7, rfl⟩
  fz := by
    rintro h m F G (⟨e1, e2, rfl⟩ | ⟨b, t, pre, cs, rest, Fe, k0, k1, k2, k3, k4, k5, k6, k7, rfl⟩) f1 f2
    · subst e1; exact ⟨.nil, Nat.zero_le _⟩
    · subst k1
      exact ⟨CsE.rd (k2.settle (f2 b (.inl rfl))) (k3.fz f1 (fun i hi => f2 i (.inr hi))) (fun _ _ h => h), k4⟩
variable {a : Asn α sz} {h h' h0 m m' m0 : Heap} {A : Option Addr} {c n k : Nat} {l l' : List α} {F F' G W : Foot} {x : Int} {y : α} {v : Value} {cs : List Value} {Rs : List Res} {b : Nat} {t : TypeId} {aa : Addr}
variable {E : Heap → α → List Value → Prop} {T : Tell sz E}
theorem rR_vf (v : a.vf) : (rR a A c l).vf := by
  rintro h m m' F (⟨e1, e2, rfl⟩ | ⟨b, t, pre, cs, rest, Fe, k0, k1, k2, k3, k4, k5, k6, k7, rfl⟩) f1 f2
  · exact .inl ⟨e1, e2, rfl⟩
  · exact .inr ⟨b, t, pre, cs, rest, Fe, k0, k1, k2, k3.vf v f1 (fun i hi => f2 i (.inr hi)), k4, k5, f2 b (.inl rfl), k7, rfl⟩
theorem rowP.cap (o : rowP a A c l h m F) : l.length ≤ c := by
  rcases o with ⟨rfl, rfl, _⟩ | ⟨b, t, pre, cs, rest, Fe, k0, k1, k2, k3, k4, _⟩
  · exact Nat.le_refl _
  · exact k4
theorem rowP.os (o : rowP (aE T) A c l h m F) (hw : ∀ b, F b → h0.size ≤ b ∨ W b) : OS W h0 sz E h m A l c ∧ F = fp A c := by
  rcases o with ⟨rfl, rfl, rfl⟩ | ⟨b, t, pre, cs, rest, Fe, k0, k1, k2, k3, k4, k5, k6, k7, rfl⟩
  · exact ⟨.inl ⟨rfl, rfl⟩, funext fun b => propext ⟨fun h => h.elim, fun h => h.1 rfl⟩⟩
  · obtain ⟨k8, rfl⟩ := k3.cse
    refine ⟨.inr ⟨b, t, pre, cs, rest, k1, k2, k8, k4, k5, hw b (.inl rfl), k6⟩, ?_⟩
    rw [U.no_right]
    subst k1
    exact funext fun i => propext ⟨fun hi => ⟨k0, _, rfl, hi.symm⟩, fun ⟨_, a, e, hi⟩ => by cases e; exact hi.symm⟩
theorem OS.rowP (o : OS W h0 sz E h m A l c) : rowP (aE T) A c l h m (fp A c) := by
  by_cases hc : c = 0
  · subst hc
    have := o.cap
    exact .inl ⟨List.length_eq_zero_iff.1 (by omega), rfl, funext fun b => propext ⟨fun h => h.1 rfl, fun h => h.elim⟩⟩
  rcases o with ⟨rfl, rfl⟩ | ⟨b, t, pre, cs, rest, k1, k2, k3, k4, k5, k6, k7⟩
  · exact (hc rfl).elim
  · refine .inr ⟨b, t, pre, cs, rest, No, hc, k1, k2, k3.csa, k4, k5, k7, fun h => h, ?_⟩
    rw [U.no_right]
    subst k1
    exact funext fun i => propext ⟨fun ⟨_, a, e, hi⟩ => by cases e; exact hi.symm, fun hi => ⟨hc, _, rfl, hi.symm⟩⟩
theorem Hold.os (O : Hold W h0 m0 h m Rs) (k : Nat) (hk : Rs[k]? = some (rR (aE T) A c l)) : OS W h0 sz E h m A l c := by
  obtain ⟨F, h1, h2, _⟩ := O.get k hk
  exact (rowP.os h1 h2).1
theorem Hold.ob (O : Hold W h0 m0 h m Rs) (k : Nat) (hk : Rs[k]? = some (rV b t cs)) : OB W h0 h m b cs t := by
  obtain ⟨F, ⟨h1, h3, rfl⟩, h2, _⟩ := O.get k hk
  exact ⟨h1, h2 b rfl, h3⟩
theorem Hold.cap (O : Hold W h0 m0 h m Rs) (k : Nat) (hk : Rs[k]? = some (rR a A c l)) : l.length ≤ c := by
  obtain ⟨F, h1, _⟩ := O.get k hk
  exact rowP.cap h1
theorem Hold.all (O : Hold W h0 m0 h m Rs) (k : Nat) (hk : Rs[k]? = some (rV b t cs)) : cellsH h ⟨b, 0, none⟩ 0 cs.length = some cs := (O.ob k hk).all
theorem Hold.setV (O : Hold W h0 m0 h m Rs) (k : Nat) (hk : Rs[k]? = some (rV b t cs)) {cs' : List Value} (o : OB W h0 h' m b cs' t) (S : St (fb b) h m h' m) : Hold W h0 m0 h' m (Rs.set k (rV b t cs')) := by
  obtain ⟨F, ⟨h1, h3, rfl⟩, h2, h4⟩ := O.get k hk
  exact h4 S ⟨o.1, o.2.2, rfl⟩ (fun _ h => .inl h)
theorem Hold.setR (O : Hold W h0 m0 h m Rs) (k : Nat) (hk : Rs[k]? = some (rR (aE T) A c l)) (o : OS W h0 sz E h' m A l' c) (S : St (fp A c) h m h' m) : Hold W h0 m0 h' m (Rs.set k (rR (aE T) A c l')) := by
  obtain ⟨F, h1, h2, h4⟩ := O.get k hk
  obtain ⟨_, rfl⟩ := rowP.os h1 h2
  exact h4 S o.rowP (fun _ h => .inl h)
variable {K : Heap → Prop}
theorem Hold.new {z : Array Value} (O : Hold W h0 m0 h m Rs) (H : ∀ h', Ext h h' → Hold W h0 m0 h' m (Rs ++ [rV h.size t z.toList]) → K h') : newH h (.cells z t) K :=
  newH_in fun h' hb e hs => H h' e (O.add (St.of_ext O.s e) ⟨hb, St.notLive O.s, rfl⟩ (fun i hi => by unfold fb at hi; omega))
theorem Hold.st (O : Hold W h0 m0 h m Rs) (k : Nat) (hk : Rs[k]? = some (rV b t cs)) (j : Nat) (hj : j < cs.length) (hf : Flat v) (H : ∀ h', Hold W h0 m0 h' m (Rs.set k (rV b t (cs.set j v))) → K h') : ∃ h', st1 h (Addr.add ⟨b, 0, none⟩ j) v = some h' ∧ K h' := by
  obtain ⟨h', h1, h2, h3⟩ := (O.ob k hk).st O.s hj hf
  exact ⟨h', h1, H h' (O.setV k hk h2 h3)⟩
theorem Hold.st0 (O : Hold W h0 m0 h m Rs) (k : Nat) (hk : Rs[k]? = some (rV b t cs)) (hj : 0 < cs.length) (hf : Flat v) (H : ∀ h', Hold W h0 m0 h' m (Rs.set k (rV b t (cs.set 0 v))) → K h') : ∃ h', st1 h ⟨b, 0, none⟩ v = some h' ∧ K h' := O.st k hk 0 hj hf H
theorem Hold.stA (O : Hold W h0 m0 h m Rs) (k : Nat) (hk : Rs[k]? = some (rV b t cs)) {ds : List Value} (hn : ds.length = cs.length) (hf : ∀ v ∈ ds, Flat v) (H : ∀ h', Hold W h0 m0 h' m (Rs.set k (rV b t ds)) → K h') : ∃ h', stH h ⟨b, 0, none⟩ ds 0 = some h' ∧ K h' := by
  obtain ⟨h', h1, h2, h3⟩ := (O.ob k hk).stA O.s ds hn hf
  exact ⟨h', h1, H h' (O.setV k hk h2 h3)⟩
theorem Hold.nil (O : Hold W h0 m0 h m Rs) (a : Asn α sz) (A : Option Addr) : Hold W h0 m0 h m (Rs ++ [rR a A 0 []]) := O.adds (R := rR a A 0 []) (.inl ⟨rfl, rfl, rfl⟩)
theorem Hold.row (O : Hold W h0 m0 h m Rs) (k : Nat) (hk : Rs[k]? = some (rV b t cs)) (a : Asn α sz) (hc : ∃ F, CsA a h m l cs F ∧ F = No) (hn : l.length = c) (h0' : c ≠ 0) : Hold W h0 m0 h m (Rs.set k (rR a (some ⟨b, 0, none⟩) c l)) :=
  O.conv k hk (R' := rR a (some ⟨b, 0, none⟩) c l) fun F hF => by
    obtain ⟨h1, h2, rfl⟩ := hF
    obtain ⟨_, hc, rfl⟩ := hc
    exact ⟨_, .inr ⟨b, t, [], cs, [], No, h0', rfl, by simpa using h1, hc, by omega, by simp [hn], h2, fun h => h, rfl⟩, fun i hi => hi.elim id (fun h => h.elim)⟩
theorem Hold.rowE (O : Hold W h0 m0 h m Rs) (k : Nat) (hk : Rs[k]? = some (rV b t cs)) (T : Tell sz E) (hc : CsE sz E m l cs) (hn : l.length = c) : Hold W h0 m0 h m (Rs.set k (rR (aE T) (some ⟨b, 0, none⟩) c l)) := by
  by_cases h0' : c = 0
  · subst h0'
    refine O.conv k hk (R' := rR (aE T) (some ⟨b, 0, none⟩) 0 l) fun F _ => ⟨No, .inl ⟨List.length_eq_zero_iff.1 hn, rfl, rfl⟩, fun _ h => h.elim⟩
  · exact O.row k hk (aE T) ⟨No, hc.csa, rfl⟩ hn h0'
end
section
variable {α : Type} {sz : Nat} {a : Asn α sz} {h h' h0 m m' m0 : Heap} {A : Option Addr} {c n k : Nat} {l l' xs : List α} {F F' G W : Foot} {x : Int} {y : α} {v X : Value} {cs es : List Value} {Rs : List Res} {b : Nat} {t e : TypeId} {aa : Addr}
variable {E : Heap → α → List Value → Prop} {T : Tell sz E}
theorem rowP.app {bytes : Nat} {z : Array Value} {K : Value → Heap → Prop} {F2 : Foot} (o : rowP a A c l h m F) (s : Sub m h) (hn : n = l.length) (hz : z.size = sz) (h1 : srcCells sz X h = some (xs.length, es)) (h2 : CsA a h m xs es F2) (hd : Dj F F2) (hb0 : 0 < bytes) (g : ap bytes l xs = some l')
    (hk : ∀ A' c' h' F', rowP a A' c' l' h' m F' → St F h m h' m → (∀ b, F' b → F b ∨ F2 b ∨ h.size ≤ b) → K (.slice A' l'.length c') h') : AppW e sz bytes z A n c X h K := by
  subst hn
  obtain ⟨hb, rfl⟩ := ap_e g
  have he := h2.len
  refine ⟨xs.length, es, h1, ?_⟩
  have hpush : ∀ (old : List Value) (Fo : Foot) (hold : oldCells sz A l.length h = some old) (hE : CsA a h m l old Fo) (hFo : ∀ b, Fo b → F b), c < l.length + xs.length →
      ∃ old, oldCells sz A l.length h = some old ∧ ∀ c', l.length + xs.length ≤ c' → K (.slice (some ⟨h.size, 0, none⟩) (l.length + xs.length) c') (h.push (.cells (old.toArray ++ es.toArray ++ zcells z (c' - (l.length + xs.length))) e)) := by
    intro old Fo hold hE hFo hlt
    refine ⟨old, hold, fun c' hc' => ?_⟩
    rw [show (Value.slice (some ⟨h.size, 0, none⟩) (l.length + xs.length) c') = .slice (some ⟨h.size, 0, none⟩) (l ++ xs).length c' by rw [List.length_append]]
    have e1 := Ext.push h (Obj.cells (old.toArray ++ es.toArray ++ zcells z (c' - (l.length + xs.length))) e)
    have S1 := St.of_ext (W := F) s e1
    have hA := hE.append h2 (hd.mono hFo (fun _ h => h))
    have hA' := hA.fr (fun i hi => e1.2 i (hA.lt i hi)) (.refl _) (fun i hi => hA.nl i hi)
    refine hk _ _ _ _ (.inr ⟨h.size, e, [], old ++ es, (zcells z (c' - (l.length + xs.length))).toList, _, by omega, rfl, ?_, hA', by rw [List.length_append]; exact hc', ?_, St.notLive s, fun hf => by have := hA.lt _ hf; omega, rfl⟩) S1 ?_
    · have := Blk.new h (old.toArray ++ es.toArray ++ zcells z (c' - (l.length + xs.length))) e
      simpa using this
    · rw [zc_len, hz, List.length_append]; exact Nat.le_refl _
    · rintro i (hi | hi | hi)
      · unfold fb at hi; exact .inr (.inr (by omega))
      · exact .inl (hFo i hi)
      · exact .inr (.inl hi)
  rcases o with ⟨rfl, rfl, rfl⟩ | ⟨b, t, pre, cs, rest, Fe, k0, rfl, k1, k2, k3, k4, k5, k6, rfl⟩
  · by_cases hx : xs.length = 0
    · have hxs : xs = [] := List.length_eq_zero_iff.1 hx
      subst hxs
      obtain ⟨rfl, rfl⟩ : es = [] ∧ F2 = No := h2
      refine .inl ⟨by simp, ?_⟩
      have fin := hk A 0 h No (.inl ⟨rfl, rfl, rfl⟩) (St.refl s) (fun b hb => .inl hb)
      cases A with
      | none => exact .inl ⟨rfl, fin⟩
      | some a => exact .inr ⟨a, h, rfl, by simp [stH], fin⟩
    · refine .inr ⟨by simp; omega, by simpa using hb, hb0, ?_⟩
      refine hpush [] No ?_ ⟨rfl, rfl⟩ (fun _ h => h) (by simp; omega)
      cases A with
      | none => rfl
      | some a => simp [oldCells, cellsH]
  · have hl := k2.len
    by_cases hle : l.length + xs.length ≤ c
    · refine .inl ⟨hle, .inr ?_⟩
      have hmul : (c - l.length) * sz = xs.length * sz + (c - l.length - xs.length) * sz := by rw [← Nat.add_mul]; congr 1; omega
      have k1' : Blk h b ((pre ++ cs) ++ rest.take (xs.length * sz) ++ rest.drop (xs.length * sz)) t := by rw [List.append_assoc, List.take_append_drop]; exact k1
      obtain ⟨h', s1, b1, o1⟩ := Blk.stH es (a := (⟨b, pre.length, none⟩ : Addr).add (l.length * sz)) (i := 0) k1' (by rw [add_block]) (add_spot _ rfl) (by rw [add_off, List.length_append, hl, Nat.add_zero]) (by rw [List.length_take, he]; omega) (h2.flat)
      refine ⟨_, h', rfl, s1, ?_⟩
      rw [show (Value.slice (some ⟨b, pre.length, none⟩) (l.length + xs.length) c) = .slice (some ⟨b, pre.length, none⟩) (l ++ xs).length c by rw [List.length_append]]
      have S : St (fb b) h m h' m := .only s k5 o1
      have S2 : St (U (fb b) Fe) h m h' m := ⟨S.up, S.s, S.size, fun i hi hn => S.fr i hi (fun h => hn (.inl h)), fun i hi hl => .inl hl⟩
      have hA := k2.append h2 hd.ur
      have nb : ∀ i, U Fe F2 i → i ≠ b := fun i hi e' => by subst e'; exact hi.elim k6 (fun hf => hd i (.inl rfl) hf)
      have hA' := hA.fr (fun i hi => S.fr i (hA.lt i hi) (fun e' => nb i hi e')) (.refl _) (fun i hi => hA.nl i hi)
      refine hk _ _ _ _ (.inr ⟨b, t, pre, cs ++ es, rest.drop (xs.length * sz), _, k0, rfl, by rw [← List.append_assoc pre]; exact b1, hA', by rw [List.length_append]; exact hle, ?_, k5, fun hf => nb b hf rfl, rfl⟩) S2 ?_
      · rw [List.length_drop, List.length_append, show c - (l.length + xs.length) = c - l.length - xs.length by omega]; omega
      · rintro i (hi | hi | hi)
        · exact .inl (.inl hi)
        · exact .inl (.inr hi)
        · exact .inr (.inl hi)
    · refine .inr ⟨by omega, hb, hb0, ?_⟩
      refine hpush cs Fe ?_ k2 (fun _ h => .inr h) (by omega)
      have := k1.cells (a := ⟨b, pre.length, none⟩) rfl rfl (l.length * sz) 0 (by simp [hl])
      simp only [oldCells, this, Nat.add_zero]
      rw [List.append_assoc, List.drop_left, List.take_append_of_le_length (by omega), List.take_of_length_le (by omega)]
variable {K : Value → Heap → Prop} {bytes : Nat} {z : Array Value}
theorem Hold.app (O : Hold W h0 m0 h m Rs) (k : Nat) (hk : Rs[k]? = some (rR (aE T) A c l)) (hn : n = l.length) (hz : z.size = sz) (hs : Src sz E h m X xs) (hb0 : 0 < bytes) (g : ap bytes l xs = some l')
    (H : ∀ A' c' h', Hold W h0 m0 h' m (Rs.set k (rR (aE T) A' c' l')) → K (.slice A' l'.length c') h') : AppW e sz bytes z A n c X h K := by
  obtain ⟨F, h1, h2, h3⟩ := O.get k hk
  obtain ⟨es, s1, s2⟩ := hs
  refine rowP.app h1 O.s hn hz s1 (s2.csa (T := T)) .no' hb0 g fun A' c' h' F' q1 q2 q3 => H A' c' h' (h3 (R' := rR (aE T) A' c' l') q2 q1 fun b hb => ?_)
  rcases q3 b hb with hb | hb | hb
  · exact .inl hb
  · exact hb.elim
  · exact .inr hb
theorem Hold.app0 (O : Hold W h0 m0 h m Rs) (a : Asn α sz) (hn : n = 0) (hz : z.size = sz) (h1 : srcCells sz X h = some (xs.length, es)) (h2 : ∃ F, CsA a h m xs es F ∧ F = No) (hb0 : 0 < bytes) (g : ap bytes ([] : List α) xs = some l')
    (H : ∀ A' c' h', Ext h h' → Hold W h0 m0 h' m (Rs ++ [rR a A' c' l']) → K (.slice A' l'.length c') h') : AppW e sz bytes z A n 0 X h K := by
  obtain ⟨_, h2, rfl⟩ := h2
  refine rowP.app (a := a) (l := []) (F := No) (.inl ⟨rfl, rfl, rfl⟩) O.s hn hz h1 h2 .no' hb0 g fun A' c' h' F' q1 q2 q3 => H A' c' h' q2.ext (O.add q2 q1 fun b hb => ?_)
  rcases q3 b hb with hb | hb | hb
  · exact hb.elim
  · exact hb.elim
  · exact hb
theorem Hold.appE0 (O : Hold W h0 m0 h m Rs) (T : Tell sz E) (hn : n = 0) (hz : z.size = sz) (hs : Src sz E h m X xs) (hb0 : 0 < bytes) (g : ap bytes ([] : List α) xs = some l')
    (H : ∀ A' c' h', Ext h h' → Hold W h0 m0 h' m (Rs ++ [rR (aE T) A' c' l']) → K (.slice A' l'.length c') h') : AppW e sz bytes z A n 0 X h K := by
  obtain ⟨es, s1, s2⟩ := hs
  exact O.app0 (aE T) hn hz s1 ⟨No, s2.csa, rfl⟩ hb0 g H
end
end Go.Hw

end
