/- The forward texts of functions of the given program, each with its proof by the kernel. Printed by a program of this session. -/
import Derived.Test.YtbpfmlgnlcfbcaaHwT
namespace Go.Proofs.Ytbpfmlgnlcfbcaa.Fw
open Go Go.Hw Go.Proofs
set_option linter.unusedVariables false

/-! ### cmp.Less[int]: function 130 -/
def f130.T : Tab := { sh := tSh, tup := tTup, keep := [], plan := [] }
def f130.kp : Keep := []
theorem f130.good : goodCode Try.prog f130.T (rootOf Try.f130) = true := by kernel_rfl
set_option maxRecDepth 100000 in
theorem f130.ok : calleeOk Try.prog 130 = true := by kernel_rfl
set_option maxRecDepth 100000 in
def f130.runT (R : Value → Heap → Prop) (x0 : Int) (x1 : Int) (h : Heap) : Prop :=
  Run Try.prog 134 #[(Value.int .i64 x0)] h fun v1_ h2_ => ∃ b3_, v1_ = (Value.bool b3_) ∧ splitB b3_ (Run Try.prog 134 #[(Value.int .i64 x1)] h2_ fun v4_ h5_ => ∃ b6_, v4_ = (Value.bool b6_) ∧ splitB (!b6_) (R (Value.bool true) h5_) (R (Value.bool (decide (x0 < x1))) h5_)) (R (Value.bool (decide (x0 < x1))) h2_)
set_option maxRecDepth 100000 in
theorem f130.run {R : Value → Heap → Prop} {x0 : Int} {x1 : Int} {h : Heap} (H : f130.runT R x0 x1 h) : Run Try.prog 130 #[(Value.int .i64 x0), (Value.int .i64 x1)] h R :=
  run_of mixed Try.func130 (by kernel_rfl) (by kernel_rfl) f130.good (Eq.mpr (show (Fwd Try.prog f130.T f130.kp Try.f130 R [] (mkFr (argL [(Value.int .i64 x0), (Value.int .i64 x1)] 0)) h) = (f130.runT R x0 x1 h) by kernel_rfl) H)

/-! ### slices.isNaN[int]: function 131 -/
def f131.T : Tab := { sh := tSh, tup := tTup, keep := [], plan := [] }
def f131.kp : Keep := []
theorem f131.good : goodCode Try.prog f131.T (rootOf Try.f131) = true := by kernel_rfl
set_option maxRecDepth 100000 in
theorem f131.ok : calleeOk Try.prog 131 = true := by kernel_rfl
set_option maxRecDepth 100000 in
def f131.runT (R : Value → Heap → Prop) (x0 : Int) (h : Heap) : Prop :=
  R (Value.bool (x0 != x0)) h
set_option maxRecDepth 100000 in
theorem f131.run {R : Value → Heap → Prop} {x0 : Int} {h : Heap} (H : f131.runT R x0 h) : Run Try.prog 131 #[(Value.int .i64 x0)] h R :=
  run_of mixed Try.func131 (by kernel_rfl) (by kernel_rfl) f131.good (Eq.mpr (show (Fwd Try.prog f131.T f131.kp Try.f131 R [] (mkFr (argL [(Value.int .i64 x0)] 0)) h) = (f131.runT R x0 h) by kernel_rfl) H)

/-! ### slices.BinarySearch[[]int,int]: function 114 -/
def f114.T : Tab := { sh := tSh, tup := tTup, keep := [], plan := [] }
def f114.kp : Keep := [([false, false, false, true, true, true], [0, 1, 6, 7, 8])]
theorem f114.good : goodCode Try.prog f114.T (rootOf Try.f114) = true := by kernel_rfl
set_option maxRecDepth 100000 in
theorem f114.ok : calleeOk Try.prog 114 = true := by kernel_rfl
def f114.l0 (R : Value → Heap → Prop) (A0 : Option Addr) (n0 : Nat) (c0 : Nat) (x1 : Int) (x6 : Int) (x7 : Int) (x8 : Int) (h : Heap) : Prop := Pt Try.prog Try.f114 R [false, false, false, true, true, true] (mkFr [(0, (Value.slice A0 n0 c0)), (1, (Value.int .i64 x1)), (6, (Value.int .i64 x6)), (7, (Value.int .i64 x7)), (8, (Value.int .i64 x8))]) h
set_option maxRecDepth 100000 in
def f114.l0T (R : Value → Heap → Prop) (A0 : Option Addr) (n0 : Nat) (c0 : Nat) (x1 : Int) (x6 : Int) (x7 : Int) (x8 : Int) (h : Heap) : Prop :=
  splitB (decide (x7 < x8)) (0 ≤ (1 : Int) ∧ (ptrOk A0 fun a1_ => 0 ≤ (IntKind.wrap .i64 (shrI .u64 (IntKind.wrap .u64 (IntKind.wrap .i64 (x7 + x8))) (1 : Int))) ∧ (IntKind.wrap .i64 (shrI .u64 (IntKind.wrap .u64 (IntKind.wrap .i64 (x7 + x8))) (1 : Int))) < ((n0 : Nat) : Int) ∧ (∃ v2_, ldv false 1 h (Addr.add a1_ (Int.toNat (IntKind.wrap .i64 (shrI .u64 (IntKind.wrap .u64 (IntKind.wrap .i64 (x7 + x8))) (1 : Int))) * 1)) = some v2_ ∧ ∃ x3_, v2_ = (Value.int .i64 x3_) ∧ Run Try.prog 130 #[(Value.int .i64 x3_), (Value.int .i64 x1)] h fun v4_ h5_ => ∃ b6_, v4_ = (Value.bool b6_) ∧ splitB b6_ (f114.l0 R A0 n0 c0 x1 x6 (IntKind.wrap .i64 ((IntKind.wrap .i64 (shrI .u64 (IntKind.wrap .u64 (IntKind.wrap .i64 (x7 + x8))) (1 : Int))) + (1 : Int))) x8 h5_) (f114.l0 R A0 n0 c0 x1 x6 x7 (IntKind.wrap .i64 (shrI .u64 (IntKind.wrap .u64 (IntKind.wrap .i64 (x7 + x8))) (1 : Int))) h5_)))) (splitB (decide (x7 < x6)) (ptrOk A0 fun a7_ => 0 ≤ x7 ∧ x7 < ((n0 : Nat) : Int) ∧ (∃ v8_, ldv false 1 h (Addr.add a7_ (Int.toNat x7 * 1)) = some v8_ ∧ ∃ x9_, v8_ = (Value.int .i64 x9_) ∧ splitB (x9_ == x1) (R (Value.tuple #[(Value.int .i64 x7), (Value.bool true)]) h) (ptrOk A0 fun a10_ => 0 ≤ x7 ∧ x7 < ((n0 : Nat) : Int) ∧ (∃ v11_, ldv false 1 h (Addr.add a10_ (Int.toNat x7 * 1)) = some v11_ ∧ ∃ x12_, v11_ = (Value.int .i64 x12_) ∧ Run Try.prog 131 #[(Value.int .i64 x12_)] h fun v13_ h14_ => ∃ b15_, v13_ = (Value.bool b15_) ∧ splitB b15_ (Run Try.prog 131 #[(Value.int .i64 x1)] h14_ fun v16_ h17_ => ∃ b18_, v16_ = (Value.bool b18_) ∧ R (Value.tuple #[(Value.int .i64 x7), (Value.bool b18_)]) h17_) (R (Value.tuple #[(Value.int .i64 x7), (Value.bool false)]) h14_))))) (R (Value.tuple #[(Value.int .i64 x7), (Value.bool false)]) h))
set_option maxRecDepth 100000 in
theorem f114.l0_in {R : Value → Heap → Prop} {A0 : Option Addr} {n0 : Nat} {c0 : Nat} {x1 : Int} {x6 : Int} {x7 : Int} {x8 : Int} {h : Heap} (H : f114.l0T R A0 n0 c0 x1 x6 x7 x8 h) : f114.l0 R A0 n0 c0 x1 x6 x7 x8 h :=
  pt_intro mixed f114.good (Eq.mpr (show (Fwd Try.prog f114.T f114.kp Try.f114 R [false, false, false, true, true, true] (mkFr [(0, (Value.slice A0 n0 c0)), (1, (Value.int .i64 x1)), (6, (Value.int .i64 x6)), (7, (Value.int .i64 x7)), (8, (Value.int .i64 x8))]) h) = (f114.l0T R A0 n0 c0 x1 x6 x7 x8 h) by kernel_rfl) H)
set_option maxRecDepth 100000 in
def f114.runT (R : Value → Heap → Prop) (A0 : Option Addr) (n0 : Nat) (c0 : Nat) (x1 : Int) (h : Heap) : Prop :=
  f114.l0 R A0 n0 c0 x1 ((n0 : Nat) : Int) (0 : Int) ((n0 : Nat) : Int) h
set_option maxRecDepth 100000 in
theorem f114.run {R : Value → Heap → Prop} {A0 : Option Addr} {n0 : Nat} {c0 : Nat} {x1 : Int} {h : Heap} (H : f114.runT R A0 n0 c0 x1 h) : Run Try.prog 114 #[(Value.slice A0 n0 c0), (Value.int .i64 x1)] h R :=
  run_of mixed Try.func114 (by kernel_rfl) (by kernel_rfl) f114.good (Eq.mpr (show (Fwd Try.prog f114.T f114.kp Try.f114 R [] (mkFr (argL [(Value.slice A0 n0 c0), (Value.int .i64 x1)] 0)) h) = (f114.runT R A0 n0 c0 x1 h) by kernel_rfl) H)

/-! ### roadstead/turn.Next: function 58 -/
def f58.T : Tab := { sh := tSh, tup := tTup, keep := [], plan := [] }
def f58.kp : Keep := [([true, true, true, true, true], [0, 7])]
theorem f58.good : goodCode Try.prog f58.T (rootOf Try.f58) = true := by kernel_rfl
set_option maxRecDepth 100000 in
theorem f58.ok : calleeOk Try.prog 58 = true := by kernel_rfl
def f58.j0 (R : Value → Heap → Prop) (A0 : Option Addr) (n0 : Nat) (c0 : Nat) (x7 : Int) (h : Heap) : Prop := Pt Try.prog Try.f58 R [true, true, true, true, true] (mkFr [(0, (Value.slice A0 n0 c0)), (7, (Value.int .i64 x7))]) h
set_option maxRecDepth 100000 in
def f58.j0T (R : Value → Heap → Prop) (A0 : Option Addr) (n0 : Nat) (c0 : Nat) (x7 : Int) (h : Heap) : Prop :=
  ((n0 : Nat) : Int) ≠ 0 ∧ (ptrOk A0 fun a1_ => 0 ≤ (Int.tmod x7 ((n0 : Nat) : Int)) ∧ (Int.tmod x7 ((n0 : Nat) : Int)) < ((n0 : Nat) : Int) ∧ (∃ v2_, ldv false 1 h (Addr.add a1_ (Int.toNat (Int.tmod x7 ((n0 : Nat) : Int)) * 1)) = some v2_ ∧ ∃ x3_, v2_ = (Value.int .i64 x3_) ∧ R (Value.tuple #[(Value.int .i64 x3_), (Value.int .i64 (0 : Int))]) h))
set_option maxRecDepth 100000 in
theorem f58.j0_in {R : Value → Heap → Prop} {A0 : Option Addr} {n0 : Nat} {c0 : Nat} {x7 : Int} {h : Heap} (H : f58.j0T R A0 n0 c0 x7 h) : f58.j0 R A0 n0 c0 x7 h :=
  pt_intro mixed f58.good (Eq.mpr (show (Fwd Try.prog f58.T f58.kp Try.f58 R [true, true, true, true, true] (mkFr [(0, (Value.slice A0 n0 c0)), (7, (Value.int .i64 x7))]) h) = (f58.j0T R A0 n0 c0 x7 h) by kernel_rfl) H)
set_option maxRecDepth 100000 in
def f58.runT (R : Value → Heap → Prop) (A0 : Option Addr) (n0 : Nat) (c0 : Nat) (x1 : Int) (h : Heap) : Prop :=
  Run Try.prog 60 #[(Value.slice A0 n0 c0)] h fun v1_ h2_ => ∃ x3_, v1_ = (Value.int .i64 x3_) ∧ splitB (x3_ != (0 : Int)) (R (Value.tuple #[(Value.int .i64 (0 : Int)), (Value.int .i64 x3_)]) h2_) (splitB (((n0 : Nat) : Int) == (0 : Int)) (R (Value.tuple #[(Value.int .i64 (0 : Int)), (Value.int .i64 (4 : Int))]) h2_) (Run Try.prog 114 #[(Value.slice A0 n0 c0), (Value.int .i64 x1)] h2_ fun v4_ h5_ => ∃ x6_, ∃ b7_, v4_ = (Value.tuple #[(Value.int .i64 x6_), (Value.bool b7_)]) ∧ splitB b7_ (f58.j0 R A0 n0 c0 (IntKind.wrap .i64 (x6_ + (1 : Int))) h5_) (f58.j0 R A0 n0 c0 x6_ h5_)))
set_option maxRecDepth 100000 in
theorem f58.run {R : Value → Heap → Prop} {A0 : Option Addr} {n0 : Nat} {c0 : Nat} {x1 : Int} {h : Heap} (H : f58.runT R A0 n0 c0 x1 h) : Run Try.prog 58 #[(Value.slice A0 n0 c0), (Value.int .i64 x1)] h R :=
  run_of mixed Try.func58 (by kernel_rfl) (by kernel_rfl) f58.good (Eq.mpr (show (Fwd Try.prog f58.T f58.kp Try.f58 R [] (mkFr (argL [(Value.slice A0 n0 c0), (Value.int .i64 x1)] 0)) h) = (f58.runT R A0 n0 c0 x1 h) by kernel_rfl) H)

/-! ### roadstead/roadref3.ReadyFault: function 59 -/
def f59.T : Tab := { sh := tSh, tup := tTup, keep := [], plan := [(6, (.take 0 (.take 1 (.take 2 (.split 2 (.take 3 (.take 4 (.take 5 (.take 7 (.take 8 (.take 9 (.take 10 (.take 6 (.take 11 (.take 12 (.take 13 .done))))))))))))))))] }
def f59.kp : Keep := [([false, false, true, false, true, true], [0, 8, 9])]
theorem f59.good : goodCode Try.prog f59.T (rootOf Try.f59) = true := by kernel_rfl
set_option maxRecDepth 100000 in
theorem f59.ok : calleeOk Try.prog 59 = true := by kernel_rfl
def f59.l0 (R : Value → Heap → Prop) (A0 : Option Addr) (n0 : Nat) (c0 : Nat) (x8 : Int) (x9 : Int) (h : Heap) : Prop := Pt Try.prog Try.f59 R [false, false, true, false, true, true] (mkFr [(0, (Value.slice A0 n0 c0)), (8, (Value.int .i64 x8)), (9, (Value.int .i64 x9))]) h
set_option maxRecDepth 100000 in
def f59.l0T (R : Value → Heap → Prop) (A0 : Option Addr) (n0 : Nat) (c0 : Nat) (x8 : Int) (x9 : Int) (h : Heap) : Prop :=
  splitB (decide (x9 < x8)) (splitB (decide (x9 > (0 : Int))) (ptrOk A0 fun a1_ => 0 ≤ x9 ∧ x9 < ((n0 : Nat) : Int) ∧ (ptrOk A0 fun a2_ => 0 ≤ (IntKind.wrap .i64 (x9 - (1 : Int))) ∧ (IntKind.wrap .i64 (x9 - (1 : Int))) < ((n0 : Nat) : Int) ∧ (∃ v3_, ldv false 1 h (Addr.add a1_ (Int.toNat x9 * 1)) = some v3_ ∧ ∃ x4_, v3_ = (Value.int .i64 x4_) ∧ ∃ v5_, ldv false 1 h (Addr.add a2_ (Int.toNat (IntKind.wrap .i64 (x9 - (1 : Int))) * 1)) = some v5_ ∧ ∃ x6_, v5_ = (Value.int .i64 x6_) ∧ splitB (decide (x4_ ≤ x6_)) (R (Value.int .i64 (21 : Int)) h) (f59.l0 R A0 n0 c0 x8 (IntKind.wrap .i64 (x9 + (1 : Int))) h)))) (f59.l0 R A0 n0 c0 x8 (IntKind.wrap .i64 (x9 + (1 : Int))) h)) (R (Value.int .i64 (0 : Int)) h)
set_option maxRecDepth 100000 in
theorem f59.l0_in {R : Value → Heap → Prop} {A0 : Option Addr} {n0 : Nat} {c0 : Nat} {x8 : Int} {x9 : Int} {h : Heap} (H : f59.l0T R A0 n0 c0 x8 x9 h) : f59.l0 R A0 n0 c0 x8 x9 h :=
  pt_intro mixed f59.good (Eq.mpr (show (Fwd Try.prog f59.T f59.kp Try.f59 R [false, false, true, false, true, true] (mkFr [(0, (Value.slice A0 n0 c0)), (8, (Value.int .i64 x8)), (9, (Value.int .i64 x9))]) h) = (f59.l0T R A0 n0 c0 x8 x9 h) by kernel_rfl) H)
set_option maxRecDepth 100000 in
def f59.runT (R : Value → Heap → Prop) (A0 : Option Addr) (n0 : Nat) (c0 : Nat) (h : Heap) : Prop :=
  splitB (decide (((n0 : Nat) : Int) > (100 : Int))) (R (Value.int .i64 (2 : Int)) h) (f59.l0 R A0 n0 c0 ((n0 : Nat) : Int) (0 : Int) h)
set_option maxRecDepth 100000 in
theorem f59.run {R : Value → Heap → Prop} {A0 : Option Addr} {n0 : Nat} {c0 : Nat} {h : Heap} (H : f59.runT R A0 n0 c0 h) : Run Try.prog 59 #[(Value.slice A0 n0 c0)] h R :=
  run_of mixed Try.func59 (by kernel_rfl) (by kernel_rfl) f59.good (Eq.mpr (show (Fwd Try.prog f59.T f59.kp Try.f59 R [] (mkFr (argL [(Value.slice A0 n0 c0)] 0)) h) = (f59.runT R A0 n0 c0 h) by kernel_rfl) H)

/-! ### roadstead/roadref3.NextOf: function 61 -/
def f61.T : Tab := { sh := tSh, tup := tTup, keep := [], plan := [] }
def f61.kp : Keep := [([false, false, true, false, true], [0, 1, 7, 8, 9])]
theorem f61.good : goodCode Try.prog f61.T (rootOf Try.f61) = true := by kernel_rfl
set_option maxRecDepth 100000 in
theorem f61.ok : calleeOk Try.prog 61 = true := by kernel_rfl
def f61.l0 (R : Value → Heap → Prop) (A0 : Option Addr) (n0 : Nat) (c0 : Nat) (x1 : Int) (A7 : Option Addr) (n7 : Nat) (c7 : Nat) (x8 : Int) (x9 : Int) (h : Heap) : Prop := Pt Try.prog Try.f61 R [false, false, true, false, true] (mkFr [(0, (Value.slice A0 n0 c0)), (1, (Value.int .i64 x1)), (7, (Value.slice A7 n7 c7)), (8, (Value.int .i64 x8)), (9, (Value.int .i64 x9))]) h
set_option maxRecDepth 100000 in
def f61.l0T (R : Value → Heap → Prop) (A0 : Option Addr) (n0 : Nat) (c0 : Nat) (x1 : Int) (A7 : Option Addr) (n7 : Nat) (c7 : Nat) (x8 : Int) (x9 : Int) (h : Heap) : Prop :=
  splitB (decide (x9 < x8)) (ptrOk A7 fun a1_ => 0 ≤ x9 ∧ x9 < ((n7 : Nat) : Int) ∧ (∃ v2_, ldv false 1 h (Addr.add a1_ (Int.toNat x9 * 1)) = some v2_ ∧ ∃ x3_, v2_ = (Value.int .i64 x3_) ∧ splitB (decide (x3_ > x1)) (R (Value.int .i64 x3_) h) (f61.l0 R A0 n0 c0 x1 A7 n7 c7 x8 (IntKind.wrap .i64 (x9 + (1 : Int))) h))) (ptrOk A0 fun a4_ => 0 ≤ (0 : Int) ∧ (0 : Int) < ((n0 : Nat) : Int) ∧ (∃ v5_, ldv false 1 h (Addr.add a4_ (Int.toNat (0 : Int) * 1)) = some v5_ ∧ ∃ x6_, v5_ = (Value.int .i64 x6_) ∧ R (Value.int .i64 x6_) h))
set_option maxRecDepth 100000 in
theorem f61.l0_in {R : Value → Heap → Prop} {A0 : Option Addr} {n0 : Nat} {c0 : Nat} {x1 : Int} {A7 : Option Addr} {n7 : Nat} {c7 : Nat} {x8 : Int} {x9 : Int} {h : Heap} (H : f61.l0T R A0 n0 c0 x1 A7 n7 c7 x8 x9 h) : f61.l0 R A0 n0 c0 x1 A7 n7 c7 x8 x9 h :=
  pt_intro mixed f61.good (Eq.mpr (show (Fwd Try.prog f61.T f61.kp Try.f61 R [false, false, true, false, true] (mkFr [(0, (Value.slice A0 n0 c0)), (1, (Value.int .i64 x1)), (7, (Value.slice A7 n7 c7)), (8, (Value.int .i64 x8)), (9, (Value.int .i64 x9))]) h) = (f61.l0T R A0 n0 c0 x1 A7 n7 c7 x8 x9 h) by kernel_rfl) H)
set_option maxRecDepth 100000 in
def f61.runT (R : Value → Heap → Prop) (A0 : Option Addr) (n0 : Nat) (c0 : Nat) (x1 : Int) (h : Heap) : Prop :=
  f61.l0 R A0 n0 c0 x1 A0 n0 c0 ((n0 : Nat) : Int) (0 : Int) h
set_option maxRecDepth 100000 in
theorem f61.run {R : Value → Heap → Prop} {A0 : Option Addr} {n0 : Nat} {c0 : Nat} {x1 : Int} {h : Heap} (H : f61.runT R A0 n0 c0 x1 h) : Run Try.prog 61 #[(Value.slice A0 n0 c0), (Value.int .i64 x1)] h R :=
  run_of mixed Try.func61 (by kernel_rfl) (by kernel_rfl) f61.good (Eq.mpr (show (Fwd Try.prog f61.T f61.kp Try.f61 R [] (mkFr (argL [(Value.slice A0 n0 c0), (Value.int .i64 x1)] 0)) h) = (f61.runT R A0 n0 c0 x1 h) by kernel_rfl) H)

/-! ### roadstead/turn.Round: function 62 -/
def f62.T : Tab := { sh := tSh, tup := tTup, keep := [], plan := [] }
def f62.kp : Keep := [([true, true, true], [0, 1, 2, 8]), ([true, false, true, true, true], [0, 1, 2, 8, 28]), ([true, true, true, true], [0, 1, 2]), ([false, false, true, false, true, true, true, true, true], [0, 1, 9, 30, 31])]
theorem f62.good : goodCode Try.prog f62.T (rootOf Try.f62) = true := by kernel_rfl
set_option maxRecDepth 100000 in
theorem f62.ok : calleeOk Try.prog 62 = true := by kernel_rfl
def f62.j0 (R : Value → Heap → Prop) (A0 : Option Addr) (n0 : Nat) (c0 : Nat) (x1 : Int) (x2 : Int) (x8 : Int) (h : Heap) : Prop := Pt Try.prog Try.f62 R [true, true, true] (mkFr [(0, (Value.slice A0 n0 c0)), (1, (Value.int .i64 x1)), (2, (Value.int .i64 x2)), (8, (Value.int .i64 x8))]) h
def f62.j2 (R : Value → Heap → Prop) (A0 : Option Addr) (n0 : Nat) (c0 : Nat) (x1 : Int) (x2 : Int) (x8 : Int) (b28 : Bool) (h : Heap) : Prop := Pt Try.prog Try.f62 R [true, false, true, true, true] (mkFr [(0, (Value.slice A0 n0 c0)), (1, (Value.int .i64 x1)), (2, (Value.int .i64 x2)), (8, (Value.int .i64 x8)), (28, (Value.bool b28))]) h
def f62.j1 (R : Value → Heap → Prop) (A0 : Option Addr) (n0 : Nat) (c0 : Nat) (x1 : Int) (x2 : Int) (h : Heap) : Prop := Pt Try.prog Try.f62 R [true, true, true, true] (mkFr [(0, (Value.slice A0 n0 c0)), (1, (Value.int .i64 x1)), (2, (Value.int .i64 x2))]) h
def f62.l0 (R : Value → Heap → Prop) (A0 : Option Addr) (n0 : Nat) (c0 : Nat) (x1 : Int) (A9 : Option Addr) (n9 : Nat) (c9 : Nat) (x30 : Int) (x31 : Int) (h : Heap) : Prop := Pt Try.prog Try.f62 R [false, false, true, false, true, true, true, true, true] (mkFr [(0, (Value.slice A0 n0 c0)), (1, (Value.int .i64 x1)), (9, (Value.slice A9 n9 c9)), (30, (Value.int .i64 x30)), (31, (Value.int .i64 x31))]) h
set_option maxRecDepth 100000 in
def f62.j0T (R : Value → Heap → Prop) (A0 : Option Addr) (n0 : Nat) (c0 : Nat) (x1 : Int) (x2 : Int) (x8 : Int) (h : Heap) : Prop :=
  splitB (x8 != (0 : Int)) (f62.j2 R A0 n0 c0 x1 x2 x8 true h) (f62.j2 R A0 n0 c0 x1 x2 x8 (((n0 : Nat) : Int) == (0 : Int)) h)
set_option maxRecDepth 100000 in
theorem f62.j0_in {R : Value → Heap → Prop} {A0 : Option Addr} {n0 : Nat} {c0 : Nat} {x1 : Int} {x2 : Int} {x8 : Int} {h : Heap} (H : f62.j0T R A0 n0 c0 x1 x2 x8 h) : f62.j0 R A0 n0 c0 x1 x2 x8 h :=
  pt_intro mixed f62.good (Eq.mpr (show (Fwd Try.prog f62.T f62.kp Try.f62 R [true, true, true] (mkFr [(0, (Value.slice A0 n0 c0)), (1, (Value.int .i64 x1)), (2, (Value.int .i64 x2)), (8, (Value.int .i64 x8))]) h) = (f62.j0T R A0 n0 c0 x1 x2 x8 h) by kernel_rfl) H)
set_option maxRecDepth 100000 in
def f62.j2T (R : Value → Heap → Prop) (A0 : Option Addr) (n0 : Nat) (c0 : Nat) (x1 : Int) (x2 : Int) (x8 : Int) (b28 : Bool) (h : Heap) : Prop :=
  splitB b28 (R (Value.tuple #[(Value.slice none 0 0), (Value.int .i64 x8)]) h) (f62.j1 R A0 n0 c0 x1 x2 h)
set_option maxRecDepth 100000 in
theorem f62.j2_in {R : Value → Heap → Prop} {A0 : Option Addr} {n0 : Nat} {c0 : Nat} {x1 : Int} {x2 : Int} {x8 : Int} {b28 : Bool} {h : Heap} (H : f62.j2T R A0 n0 c0 x1 x2 x8 b28 h) : f62.j2 R A0 n0 c0 x1 x2 x8 b28 h :=
  pt_intro mixed f62.good (Eq.mpr (show (Fwd Try.prog f62.T f62.kp Try.f62 R [true, false, true, true, true] (mkFr [(0, (Value.slice A0 n0 c0)), (1, (Value.int .i64 x1)), (2, (Value.int .i64 x2)), (8, (Value.int .i64 x8)), (28, (Value.bool b28))]) h) = (f62.j2T R A0 n0 c0 x1 x2 x8 b28 h) by kernel_rfl) H)
set_option maxRecDepth 100000 in
def f62.j1T (R : Value → Heap → Prop) (A0 : Option Addr) (n0 : Nat) (c0 : Nat) (x1 : Int) (x2 : Int) (h : Heap) : Prop :=
  f62.l0 R A0 n0 c0 x1 none 0 0 x2 (0 : Int) h
set_option maxRecDepth 100000 in
theorem f62.j1_in {R : Value → Heap → Prop} {A0 : Option Addr} {n0 : Nat} {c0 : Nat} {x1 : Int} {x2 : Int} {h : Heap} (H : f62.j1T R A0 n0 c0 x1 x2 h) : f62.j1 R A0 n0 c0 x1 x2 h :=
  pt_intro mixed f62.good (Eq.mpr (show (Fwd Try.prog f62.T f62.kp Try.f62 R [true, true, true, true] (mkFr [(0, (Value.slice A0 n0 c0)), (1, (Value.int .i64 x1)), (2, (Value.int .i64 x2))]) h) = (f62.j1T R A0 n0 c0 x1 x2 h) by kernel_rfl) H)
set_option maxRecDepth 100000 in
def f62.l0T (R : Value → Heap → Prop) (A0 : Option Addr) (n0 : Nat) (c0 : Nat) (x1 : Int) (A9 : Option Addr) (n9 : Nat) (c9 : Nat) (x30 : Int) (x31 : Int) (h : Heap) : Prop :=
  splitB (decide (x31 < x30)) (Run Try.prog 58 #[(Value.slice A0 n0 c0), (Value.int .i64 x1)] h fun v1_ h2_ => ∃ x3_, ∃ x4_, v1_ = (Value.tuple #[(Value.int .i64 x3_), (Value.int .i64 x4_)]) ∧ newH h2_ (Obj.cells #[(Value.int .i64 x3_)] 3) fun h5_ => AppW 3 1 8 #[(Value.int .i64 (0 : Int))] A9 n9 c9 (Value.slice (some ⟨Array.size h2_, 0, none⟩) 1 1) h5_ fun v6_ h7_ => ∃ A8_, ∃ n8_, ∃ c8_, v6_ = (Value.slice A8_ n8_ c8_) ∧ f62.l0 R A0 n0 c0 x3_ A8_ n8_ c8_ x30 (IntKind.wrap .i64 (x31 + (1 : Int))) h7_) (R (Value.tuple #[(Value.slice A9 n9 c9), (Value.int .i64 (0 : Int))]) h)
set_option maxRecDepth 100000 in
theorem f62.l0_in {R : Value → Heap → Prop} {A0 : Option Addr} {n0 : Nat} {c0 : Nat} {x1 : Int} {A9 : Option Addr} {n9 : Nat} {c9 : Nat} {x30 : Int} {x31 : Int} {h : Heap} (H : f62.l0T R A0 n0 c0 x1 A9 n9 c9 x30 x31 h) : f62.l0 R A0 n0 c0 x1 A9 n9 c9 x30 x31 h :=
  pt_intro mixed f62.good (Eq.mpr (show (Fwd Try.prog f62.T f62.kp Try.f62 R [false, false, true, false, true, true, true, true, true] (mkFr [(0, (Value.slice A0 n0 c0)), (1, (Value.int .i64 x1)), (9, (Value.slice A9 n9 c9)), (30, (Value.int .i64 x30)), (31, (Value.int .i64 x31))]) h) = (f62.l0T R A0 n0 c0 x1 A9 n9 c9 x30 x31 h) by kernel_rfl) H)
set_option maxRecDepth 100000 in
def f62.runT (R : Value → Heap → Prop) (A0 : Option Addr) (n0 : Nat) (c0 : Nat) (x1 : Int) (x2 : Int) (h : Heap) : Prop :=
  Run Try.prog 60 #[(Value.slice A0 n0 c0)] h fun v1_ h2_ => ∃ x3_, v1_ = (Value.int .i64 x3_) ∧ splitB (x3_ == (0 : Int)) (splitB (decide (x2 < (0 : Int))) (f62.j0 R A0 n0 c0 x1 x2 (1 : Int) h2_) (splitB (decide (x2 > (10000 : Int))) (f62.j0 R A0 n0 c0 x1 x2 (1 : Int) h2_) (f62.j0 R A0 n0 c0 x1 x2 x3_ h2_))) (f62.j0 R A0 n0 c0 x1 x2 x3_ h2_)
set_option maxRecDepth 100000 in
theorem f62.run {R : Value → Heap → Prop} {A0 : Option Addr} {n0 : Nat} {c0 : Nat} {x1 : Int} {x2 : Int} {h : Heap} (H : f62.runT R A0 n0 c0 x1 x2 h) : Run Try.prog 62 #[(Value.slice A0 n0 c0), (Value.int .i64 x1), (Value.int .i64 x2)] h R :=
  run_of mixed Try.func62 (by kernel_rfl) (by kernel_rfl) f62.good (Eq.mpr (show (Fwd Try.prog f62.T f62.kp Try.f62 R [] (mkFr (argL [(Value.slice A0 n0 c0), (Value.int .i64 x1), (Value.int .i64 x2)] 0)) h) = (f62.runT R A0 n0 c0 x1 x2 h) by kernel_rfl) H)

/-! ### roadstead/roadlaw3.TurnTells: function 10 -/
def f10.T : Tab := { sh := tSh, tup := tTup, keep := [], plan := [] }
def f10.kp : Keep := [([true, true, true, true, true], [0, 1, 2, 9]), ([true, true, true, true, true, true], [0, 1, 2, 9]), ([true, true, true, true, true, true, true, true], [0, 1, 2, 9, 10, 11]), ([false, false, true, false, true, true, true, true, true, true, true, true, true, true], [0, 1, 10, 11, 12, 85, 86])]
theorem f10.good : goodCode Try.prog f10.T (rootOf Try.f10) = true := by kernel_rfl
set_option maxRecDepth 100000 in
theorem f10.ok : calleeOk Try.prog 10 = true := by kernel_rfl
def f10.j0 (R : Value → Heap → Prop) (A0 : Option Addr) (n0 : Nat) (c0 : Nat) (x1 : Int) (x2 : Int) (x9 : Int) (h : Heap) : Prop := Pt Try.prog Try.f10 R [true, true, true, true, true] (mkFr [(0, (Value.slice A0 n0 c0)), (1, (Value.int .i64 x1)), (2, (Value.int .i64 x2)), (9, (Value.int .i64 x9))]) h
def f10.j1 (R : Value → Heap → Prop) (A0 : Option Addr) (n0 : Nat) (c0 : Nat) (x1 : Int) (x2 : Int) (x9 : Int) (h : Heap) : Prop := Pt Try.prog Try.f10 R [true, true, true, true, true, true] (mkFr [(0, (Value.slice A0 n0 c0)), (1, (Value.int .i64 x1)), (2, (Value.int .i64 x2)), (9, (Value.int .i64 x9))]) h
def f10.j2 (R : Value → Heap → Prop) (A0 : Option Addr) (n0 : Nat) (c0 : Nat) (x1 : Int) (x2 : Int) (x9 : Int) (A10 : Option Addr) (n10 : Nat) (c10 : Nat) (x11 : Int) (h : Heap) : Prop := Pt Try.prog Try.f10 R [true, true, true, true, true, true, true, true] (mkFr [(0, (Value.slice A0 n0 c0)), (1, (Value.int .i64 x1)), (2, (Value.int .i64 x2)), (9, (Value.int .i64 x9)), (10, (Value.slice A10 n10 c10)), (11, (Value.int .i64 x11))]) h
def f10.l0 (R : Value → Heap → Prop) (A0 : Option Addr) (n0 : Nat) (c0 : Nat) (x1 : Int) (A10 : Option Addr) (n10 : Nat) (c10 : Nat) (x11 : Int) (A12 : Option Addr) (n12 : Nat) (c12 : Nat) (x85 : Int) (x86 : Int) (h : Heap) : Prop := Pt Try.prog Try.f10 R [false, false, true, false, true, true, true, true, true, true, true, true, true, true] (mkFr [(0, (Value.slice A0 n0 c0)), (1, (Value.int .i64 x1)), (10, (Value.slice A10 n10 c10)), (11, (Value.int .i64 x11)), (12, (Value.slice A12 n12 c12)), (85, (Value.int .i64 x85)), (86, (Value.int .i64 x86))]) h
set_option maxRecDepth 100000 in
def f10.j0T (R : Value → Heap → Prop) (A0 : Option Addr) (n0 : Nat) (c0 : Nat) (x1 : Int) (x2 : Int) (x9 : Int) (h : Heap) : Prop :=
  splitB (decide (x2 > (300 : Int))) (splitB (decide (x2 ≤ (10000 : Int))) (R (Value.bool true) h) (f10.j1 R A0 n0 c0 x1 x2 x9 h)) (f10.j1 R A0 n0 c0 x1 x2 x9 h)
set_option maxRecDepth 100000 in
theorem f10.j0_in {R : Value → Heap → Prop} {A0 : Option Addr} {n0 : Nat} {c0 : Nat} {x1 : Int} {x2 : Int} {x9 : Int} {h : Heap} (H : f10.j0T R A0 n0 c0 x1 x2 x9 h) : f10.j0 R A0 n0 c0 x1 x2 x9 h :=
  pt_intro mixed f10.good (Eq.mpr (show (Fwd Try.prog f10.T f10.kp Try.f10 R [true, true, true, true, true] (mkFr [(0, (Value.slice A0 n0 c0)), (1, (Value.int .i64 x1)), (2, (Value.int .i64 x2)), (9, (Value.int .i64 x9))]) h) = (f10.j0T R A0 n0 c0 x1 x2 x9 h) by kernel_rfl) H)
set_option maxRecDepth 100000 in
def f10.j1T (R : Value → Heap → Prop) (A0 : Option Addr) (n0 : Nat) (c0 : Nat) (x1 : Int) (x2 : Int) (x9 : Int) (h : Heap) : Prop :=
  Run Try.prog 62 #[(Value.slice A0 n0 c0), (Value.int .i64 x1), (Value.int .i64 x2)] h fun v1_ h2_ => ∃ A3_, ∃ n3_, ∃ c3_, ∃ x4_, v1_ = (Value.tuple #[(Value.slice A3_ n3_ c3_), (Value.int .i64 x4_)]) ∧ splitB (x9 == (0 : Int)) (Run Try.prog 30 #[(Value.int .i64 x2), (Value.int .i64 (0 : Int)), (Value.int .i64 (10000 : Int))] h2_ fun v5_ h6_ => ∃ b7_, v5_ = (Value.bool b7_) ∧ splitB (!b7_) (f10.j2 R A0 n0 c0 x1 x2 (1 : Int) A3_ n3_ c3_ x4_ h6_) (f10.j2 R A0 n0 c0 x1 x2 x9 A3_ n3_ c3_ x4_ h6_)) (f10.j2 R A0 n0 c0 x1 x2 x9 A3_ n3_ c3_ x4_ h2_)
set_option maxRecDepth 100000 in
theorem f10.j1_in {R : Value → Heap → Prop} {A0 : Option Addr} {n0 : Nat} {c0 : Nat} {x1 : Int} {x2 : Int} {x9 : Int} {h : Heap} (H : f10.j1T R A0 n0 c0 x1 x2 x9 h) : f10.j1 R A0 n0 c0 x1 x2 x9 h :=
  pt_intro mixed f10.good (Eq.mpr (show (Fwd Try.prog f10.T f10.kp Try.f10 R [true, true, true, true, true, true] (mkFr [(0, (Value.slice A0 n0 c0)), (1, (Value.int .i64 x1)), (2, (Value.int .i64 x2)), (9, (Value.int .i64 x9))]) h) = (f10.j1T R A0 n0 c0 x1 x2 x9 h) by kernel_rfl) H)
set_option maxRecDepth 100000 in
def f10.j2T (R : Value → Heap → Prop) (A0 : Option Addr) (n0 : Nat) (c0 : Nat) (x1 : Int) (x2 : Int) (x9 : Int) (A10 : Option Addr) (n10 : Nat) (c10 : Nat) (x11 : Int) (h : Heap) : Prop :=
  splitB (x9 != (0 : Int)) (splitB (((n10 : Nat) : Int) == (0 : Int)) (R (Value.bool (x11 == x9)) h) (R (Value.bool false) h)) (f10.l0 R A0 n0 c0 x1 A10 n10 c10 x11 none 0 0 x2 (0 : Int) h)
set_option maxRecDepth 100000 in
theorem f10.j2_in {R : Value → Heap → Prop} {A0 : Option Addr} {n0 : Nat} {c0 : Nat} {x1 : Int} {x2 : Int} {x9 : Int} {A10 : Option Addr} {n10 : Nat} {c10 : Nat} {x11 : Int} {h : Heap} (H : f10.j2T R A0 n0 c0 x1 x2 x9 A10 n10 c10 x11 h) : f10.j2 R A0 n0 c0 x1 x2 x9 A10 n10 c10 x11 h :=
  pt_intro mixed f10.good (Eq.mpr (show (Fwd Try.prog f10.T f10.kp Try.f10 R [true, true, true, true, true, true, true, true] (mkFr [(0, (Value.slice A0 n0 c0)), (1, (Value.int .i64 x1)), (2, (Value.int .i64 x2)), (9, (Value.int .i64 x9)), (10, (Value.slice A10 n10 c10)), (11, (Value.int .i64 x11))]) h) = (f10.j2T R A0 n0 c0 x1 x2 x9 A10 n10 c10 x11 h) by kernel_rfl) H)
set_option maxRecDepth 100000 in
def f10.l0T (R : Value → Heap → Prop) (A0 : Option Addr) (n0 : Nat) (c0 : Nat) (x1 : Int) (A10 : Option Addr) (n10 : Nat) (c10 : Nat) (x11 : Int) (A12 : Option Addr) (n12 : Nat) (c12 : Nat) (x85 : Int) (x86 : Int) (h : Heap) : Prop :=
  splitB (decide (x86 < x85)) (splitB (decide (((n0 : Nat) : Int) > (0 : Int))) (Run Try.prog 61 #[(Value.slice A0 n0 c0), (Value.int .i64 x1)] h fun v1_ h2_ => ∃ x3_, v1_ = (Value.int .i64 x3_) ∧ newH h2_ (Obj.cells #[(Value.int .i64 x3_)] 3) fun h4_ => AppW 3 1 8 #[(Value.int .i64 (0 : Int))] A12 n12 c12 (Value.slice (some ⟨Array.size h2_, 0, none⟩) 1 1) h4_ fun v5_ h6_ => ∃ A7_, ∃ n7_, ∃ c7_, v5_ = (Value.slice A7_ n7_ c7_) ∧ f10.l0 R A0 n0 c0 x3_ A10 n10 c10 x11 A7_ n7_ c7_ x85 (IntKind.wrap .i64 (x86 + (1 : Int))) h6_) (f10.l0 R A0 n0 c0 x1 A10 n10 c10 x11 A12 n12 c12 x85 (IntKind.wrap .i64 (x86 + (1 : Int))) h)) (Run Try.prog 48 #[(Value.slice A10 n10 c10), (Value.slice A12 n12 c12)] h fun v8_ h9_ => ∃ b10_, v8_ = (Value.bool b10_) ∧ splitB b10_ (R (Value.bool (x11 == (0 : Int))) h9_) (R (Value.bool false) h9_))
set_option maxRecDepth 100000 in
theorem f10.l0_in {R : Value → Heap → Prop} {A0 : Option Addr} {n0 : Nat} {c0 : Nat} {x1 : Int} {A10 : Option Addr} {n10 : Nat} {c10 : Nat} {x11 : Int} {A12 : Option Addr} {n12 : Nat} {c12 : Nat} {x85 : Int} {x86 : Int} {h : Heap} (H : f10.l0T R A0 n0 c0 x1 A10 n10 c10 x11 A12 n12 c12 x85 x86 h) : f10.l0 R A0 n0 c0 x1 A10 n10 c10 x11 A12 n12 c12 x85 x86 h :=
  pt_intro mixed f10.good (Eq.mpr (show (Fwd Try.prog f10.T f10.kp Try.f10 R [false, false, true, false, true, true, true, true, true, true, true, true, true, true] (mkFr [(0, (Value.slice A0 n0 c0)), (1, (Value.int .i64 x1)), (10, (Value.slice A10 n10 c10)), (11, (Value.int .i64 x11)), (12, (Value.slice A12 n12 c12)), (85, (Value.int .i64 x85)), (86, (Value.int .i64 x86))]) h) = (f10.l0T R A0 n0 c0 x1 A10 n10 c10 x11 A12 n12 c12 x85 x86 h) by kernel_rfl) H)
set_option maxRecDepth 100000 in
def f10.runT (R : Value → Heap → Prop) (A0 : Option Addr) (n0 : Nat) (c0 : Nat) (x1 : Int) (x2 : Int) (h : Heap) : Prop :=
  Run Try.prog 58 #[(Value.slice A0 n0 c0), (Value.int .i64 x1)] h fun v1_ h2_ => ∃ x3_, ∃ x4_, v1_ = (Value.tuple #[(Value.int .i64 x3_), (Value.int .i64 x4_)]) ∧ Run Try.prog 59 #[(Value.slice A0 n0 c0)] h2_ fun v5_ h6_ => ∃ x7_, v5_ = (Value.int .i64 x7_) ∧ Run Try.prog 60 #[(Value.slice A0 n0 c0)] h6_ fun v8_ h9_ => ∃ x10_, v8_ = (Value.int .i64 x10_) ∧ splitB (x10_ != x7_) (R (Value.bool false) h9_) (splitB (x7_ != (0 : Int)) (splitB (x3_ != (0 : Int)) (R (Value.bool false) h9_) (splitB (x4_ != x7_) (R (Value.bool false) h9_) (f10.j0 R A0 n0 c0 x1 x2 x7_ h9_))) (splitB (((n0 : Nat) : Int) == (0 : Int)) (splitB (x3_ != (0 : Int)) (R (Value.bool false) h9_) (splitB (x4_ != (4 : Int)) (R (Value.bool false) h9_) (f10.j0 R A0 n0 c0 x1 x2 x7_ h9_))) (Run Try.prog 61 #[(Value.slice A0 n0 c0), (Value.int .i64 x1)] h9_ fun v11_ h12_ => ∃ x13_, v11_ = (Value.int .i64 x13_) ∧ splitB (x3_ != x13_) (R (Value.bool false) h12_) (splitB (x4_ != (0 : Int)) (R (Value.bool false) h12_) (f10.j0 R A0 n0 c0 x1 x2 x7_ h12_)))))
set_option maxRecDepth 100000 in
theorem f10.run {R : Value → Heap → Prop} {A0 : Option Addr} {n0 : Nat} {c0 : Nat} {x1 : Int} {x2 : Int} {h : Heap} (H : f10.runT R A0 n0 c0 x1 x2 h) : Run Try.prog 10 #[(Value.slice A0 n0 c0), (Value.int .i64 x1), (Value.int .i64 x2)] h R :=
  run_of mixed Try.func10 (by kernel_rfl) (by kernel_rfl) f10.good (Eq.mpr (show (Fwd Try.prog f10.T f10.kp Try.f10 R [] (mkFr (argL [(Value.slice A0 n0 c0), (Value.int .i64 x1), (Value.int .i64 x2)] 0)) h) = (f10.runT R A0 n0 c0 x1 x2 h) by kernel_rfl) H)

/-! ### roadstead/credit.New: function 63 -/
def f63.T : Tab := { sh := tSh, tup := tTup, keep := [], plan := [] }
def f63.kp : Keep := [([true, false, true], [0, 1, 19]), ([true, true], [0, 1])]
theorem f63.good : goodCode Try.prog f63.T (rootOf Try.f63) = true := by kernel_rfl
set_option maxRecDepth 100000 in
theorem f63.ok : calleeOk Try.prog 63 = true := by kernel_rfl
def f63.j1 (R : Value → Heap → Prop) (x0 : Int) (x1 : Int) (b19 : Bool) (h : Heap) : Prop := Pt Try.prog Try.f63 R [true, false, true] (mkFr [(0, (Value.int .i64 x0)), (1, (Value.int .i64 x1)), (19, (Value.bool b19))]) h
def f63.j0 (R : Value → Heap → Prop) (x0 : Int) (x1 : Int) (h : Heap) : Prop := Pt Try.prog Try.f63 R [true, true] (mkFr [(0, (Value.int .i64 x0)), (1, (Value.int .i64 x1))]) h
set_option maxRecDepth 100000 in
def f63.j1T (R : Value → Heap → Prop) (x0 : Int) (x1 : Int) (b19 : Bool) (h : Heap) : Prop :=
  splitB b19 (R (Value.tuple #[(Value.pointer none), (Value.int .i64 (1 : Int))]) h) (f63.j0 R x0 x1 h)
set_option maxRecDepth 100000 in
theorem f63.j1_in {R : Value → Heap → Prop} {x0 : Int} {x1 : Int} {b19 : Bool} {h : Heap} (H : f63.j1T R x0 x1 b19 h) : f63.j1 R x0 x1 b19 h :=
  pt_intro mixed f63.good (Eq.mpr (show (Fwd Try.prog f63.T f63.kp Try.f63 R [true, false, true] (mkFr [(0, (Value.int .i64 x0)), (1, (Value.int .i64 x1)), (19, (Value.bool b19))]) h) = (f63.j1T R x0 x1 b19 h) by kernel_rfl) H)
set_option maxRecDepth 100000 in
def f63.j0T (R : Value → Heap → Prop) (x0 : Int) (x1 : Int) (h : Heap) : Prop :=
  0 ≤ x1 ∧ x1 ≤ x1 ∧ x1 * 24 ≤ 140737488355328 ∧ x1 ≤ 9223372036854775807 ∧ (newH h (Obj.cells (mkCells #[(Value.int .i64 (0 : Int)), (Value.int .i64 (0 : Int)), (Value.int .i64 (0 : Int))] (Int.toNat x1 * 3)) 178) fun h1_ => newH h1_ (Obj.cells #[(Value.int .i64 x0), (Value.int .i64 x0), (Value.int .i64 (0 : Int)), (Value.slice (some ⟨Array.size h, 0, none⟩) (Int.toNat x1) (Int.toNat x1))] 176) fun h2_ => R (Value.tuple #[(Value.pointer (some ⟨Array.size h1_, 0, none⟩)), (Value.int .i64 (0 : Int))]) h2_)
set_option maxRecDepth 100000 in
theorem f63.j0_in {R : Value → Heap → Prop} {x0 : Int} {x1 : Int} {h : Heap} (H : f63.j0T R x0 x1 h) : f63.j0 R x0 x1 h :=
  pt_intro mixed f63.good (Eq.mpr (show (Fwd Try.prog f63.T f63.kp Try.f63 R [true, true] (mkFr [(0, (Value.int .i64 x0)), (1, (Value.int .i64 x1))]) h) = (f63.j0T R x0 x1 h) by kernel_rfl) H)
set_option maxRecDepth 100000 in
def f63.runT (R : Value → Heap → Prop) (x0 : Int) (x1 : Int) (h : Heap) : Prop :=
  splitB (decide (x0 < (1 : Int))) (f63.j1 R x0 x1 true h) (splitB (decide (x0 > (64 : Int))) (f63.j1 R x0 x1 true h) (splitB (decide (x1 < (1 : Int))) (f63.j1 R x0 x1 true h) (f63.j1 R x0 x1 (decide (x1 > (8 : Int))) h)))
set_option maxRecDepth 100000 in
theorem f63.run {R : Value → Heap → Prop} {x0 : Int} {x1 : Int} {h : Heap} (H : f63.runT R x0 x1 h) : Run Try.prog 63 #[(Value.int .i64 x0), (Value.int .i64 x1)] h R :=
  run_of mixed Try.func63 (by kernel_rfl) (by kernel_rfl) f63.good (Eq.mpr (show (Fwd Try.prog f63.T f63.kp Try.f63 R [] (mkFr (argL [(Value.int .i64 x0), (Value.int .i64 x1)] 0)) h) = (f63.runT R x0 x1 h) by kernel_rfl) H)

/-! ### (*roadstead/credit.Pool).is: function 115 -/
def f115.T : Tab := { sh := tSh, tup := tTup, keep := [], plan := [] }
def f115.kp : Keep := []
theorem f115.good : goodCode Try.prog f115.T (rootOf Try.f115) = true := by kernel_rfl
set_option maxRecDepth 100000 in
theorem f115.ok : calleeOk Try.prog 115 = true := by kernel_rfl
set_option maxRecDepth 100000 in
def f115.runT (R : Value → Heap → Prop) (a0 : Addr) (x1 : Int) (h : Heap) : Prop :=
  splitB (decide (x1 ≥ (0 : Int))) (∃ v1_, ldv false 1 h (Addr.add a0 3) = some v1_ ∧ ∃ A2_, ∃ n2_, ∃ c2_, v1_ = (Value.slice A2_ n2_ c2_) ∧ R (Value.bool (decide (x1 < ((n2_ : Nat) : Int)))) h) (R (Value.bool false) h)
set_option maxRecDepth 100000 in
theorem f115.run {R : Value → Heap → Prop} {a0 : Addr} {x1 : Int} {h : Heap} (H : f115.runT R a0 x1 h) : Run Try.prog 115 #[(Value.pointer (some a0)), (Value.int .i64 x1)] h R :=
  run_of mixed Try.func115 (by kernel_rfl) (by kernel_rfl) f115.good (Eq.mpr (show (Fwd Try.prog f115.T f115.kp Try.f115 R [] (mkFr (argL [(Value.pointer (some a0)), (Value.int .i64 x1)] 0)) h) = (f115.runT R a0 x1 h) by kernel_rfl) H)

/-! ### (*roadstead/credit.Pool).share: function 116 -/
def f116.T : Tab := { sh := tSh, tup := tTup, keep := [], plan := [(5, (.take 0 (.take 1 (.take 2 (.take 4 (.take 6 (.take 7 (.take 8 (.take 3 (.take 5 (.take 9 (.take 10 (.take 11 (.take 12 .done))))))))))))))] }
def f116.kp : Keep := [([false, false], [0]), ([false, false, true, false, true, false, true, false, false], [0, 2, 14, 15]), ([true, true, false, true, false, false], [0, 2])]
theorem f116.good : goodCode Try.prog f116.T (rootOf Try.f116) = true := by kernel_rfl
set_option maxRecDepth 100000 in
theorem f116.ok : calleeOk Try.prog 116 = true := by kernel_rfl
def f116.l0 (R : Value → Heap → Prop) (a0 : Addr) (h : Heap) : Prop := Pt Try.prog Try.f116 R [false, false] (mkFr [(0, (Value.pointer (some a0)))]) h
def f116.l1 (R : Value → Heap → Prop) (a0 : Addr) (x2 : Int) (x14 : Int) (x15 : Int) (h : Heap) : Prop := Pt Try.prog Try.f116 R [false, false, true, false, true, false, true, false, false] (mkFr [(0, (Value.pointer (some a0))), (2, (Value.int .i64 x2)), (14, (Value.int .i64 x14)), (15, (Value.int .i64 x15))]) h
def f116.j0 (R : Value → Heap → Prop) (a0 : Addr) (x2 : Int) (h : Heap) : Prop := Pt Try.prog Try.f116 R [true, true, false, true, false, false] (mkFr [(0, (Value.pointer (some a0))), (2, (Value.int .i64 x2))]) h
set_option maxRecDepth 100000 in
def f116.l0T (R : Value → Heap → Prop) (a0 : Addr) (h : Heap) : Prop :=
  ∃ v1_, ldv false 1 h (Addr.add a0 1) = some v1_ ∧ ∃ x2_, v1_ = (Value.int .i64 x2_) ∧ splitB (decide (x2_ > (0 : Int))) (∃ v3_, ldv false 1 h (Addr.add a0 3) = some v3_ ∧ ∃ A4_, ∃ n4_, ∃ c4_, v3_ = (Value.slice A4_ n4_ c4_) ∧ f116.l1 R a0 (-1 : Int) ((n4_ : Nat) : Int) (0 : Int) h) (R (Value.tuple #[]) h)
set_option maxRecDepth 100000 in
theorem f116.l0_in {R : Value → Heap → Prop} {a0 : Addr} {h : Heap} (H : f116.l0T R a0 h) : f116.l0 R a0 h :=
  pt_intro mixed f116.good (Eq.mpr (show (Fwd Try.prog f116.T f116.kp Try.f116 R [false, false] (mkFr [(0, (Value.pointer (some a0)))]) h) = (f116.l0T R a0 h) by kernel_rfl) H)
set_option maxRecDepth 100000 in
def f116.l1T (R : Value → Heap → Prop) (a0 : Addr) (x2 : Int) (x14 : Int) (x15 : Int) (h : Heap) : Prop :=
  splitB (decide (x15 < x14)) (∃ v1_, ldv false 1 h (Addr.add a0 2) = some v1_ ∧ ∃ x2_, v1_ = (Value.int .i64 x2_) ∧ ∃ v3_, ldv false 1 h (Addr.add a0 3) = some v3_ ∧ ∃ A4_, ∃ n4_, ∃ c4_, v3_ = (Value.slice A4_ n4_ c4_) ∧ ((n4_ : Nat) : Int) ≠ 0 ∧ (∃ v5_, ldv false 1 h (Addr.add a0 3) = some v5_ ∧ ∃ A6_, ∃ n6_, ∃ c6_, v5_ = (Value.slice A6_ n6_ c6_) ∧ ptrOk A6_ fun a7_ => 0 ≤ (Int.tmod (IntKind.wrap .i64 (x2_ + x15)) ((n4_ : Nat) : Int)) ∧ (Int.tmod (IntKind.wrap .i64 (x2_ + x15)) ((n4_ : Nat) : Int)) < ((n6_ : Nat) : Int) ∧ (∃ v8_, ldv false 1 h (Addr.add a7_ (Int.toNat (Int.tmod (IntKind.wrap .i64 (x2_ + x15)) ((n4_ : Nat) : Int)) * 3)) = some v8_ ∧ ∃ x9_, v8_ = (Value.int .i64 x9_) ∧ splitB (decide (x9_ > (0 : Int))) (f116.j0 R a0 (Int.tmod (IntKind.wrap .i64 (x2_ + x15)) ((n4_ : Nat) : Int)) h) (f116.l1 R a0 x2 x14 (IntKind.wrap .i64 (x15 + (1 : Int))) h)))) (f116.j0 R a0 x2 h)
set_option maxRecDepth 100000 in
theorem f116.l1_in {R : Value → Heap → Prop} {a0 : Addr} {x2 : Int} {x14 : Int} {x15 : Int} {h : Heap} (H : f116.l1T R a0 x2 x14 x15 h) : f116.l1 R a0 x2 x14 x15 h :=
  pt_intro mixed f116.good (Eq.mpr (show (Fwd Try.prog f116.T f116.kp Try.f116 R [false, false, true, false, true, false, true, false, false] (mkFr [(0, (Value.pointer (some a0))), (2, (Value.int .i64 x2)), (14, (Value.int .i64 x14)), (15, (Value.int .i64 x15))]) h) = (f116.l1T R a0 x2 x14 x15 h) by kernel_rfl) H)
set_option maxRecDepth 100000 in
def f116.j0T (R : Value → Heap → Prop) (a0 : Addr) (x2 : Int) (h : Heap) : Prop :=
  splitB (decide (x2 < (0 : Int))) (R (Value.tuple #[]) h) (∃ v1_, ldv false 1 h (Addr.add a0 3) = some v1_ ∧ ∃ A2_, ∃ n2_, ∃ c2_, v1_ = (Value.slice A2_ n2_ c2_) ∧ ptrOk A2_ fun a3_ => 0 ≤ x2 ∧ x2 < ((n2_ : Nat) : Int) ∧ (∃ v4_, ldv false 1 h (Addr.add a3_ (Int.toNat x2 * 3)) = some v4_ ∧ ∃ x5_, v4_ = (Value.int .i64 x5_) ∧ ptrOk A2_ fun a6_ => 0 ≤ x2 ∧ x2 < ((n2_ : Nat) : Int) ∧ (∃ h7_, st1 h (Addr.add a6_ (Int.toNat x2 * 3)) (Value.int .i64 (IntKind.wrap .i64 (x5_ - (1 : Int)))) = some h7_ ∧ ∃ v8_, ldv false 1 h7_ (Addr.add a0 3) = some v8_ ∧ ∃ A9_, ∃ n9_, ∃ c9_, v8_ = (Value.slice A9_ n9_ c9_) ∧ ptrOk A9_ fun a10_ => 0 ≤ x2 ∧ x2 < ((n9_ : Nat) : Int) ∧ (∃ v11_, ldv false 1 h7_ (Addr.add (Addr.add a10_ (Int.toNat x2 * 3)) 1) = some v11_ ∧ ∃ x12_, v11_ = (Value.int .i64 x12_) ∧ ptrOk A9_ fun a13_ => 0 ≤ x2 ∧ x2 < ((n9_ : Nat) : Int) ∧ (∃ h14_, st1 h7_ (Addr.add (Addr.add a13_ (Int.toNat x2 * 3)) 1) (Value.int .i64 (IntKind.wrap .i64 (x12_ + (1 : Int)))) = some h14_ ∧ ∃ v15_, ldv false 1 h14_ (Addr.add a0 1) = some v15_ ∧ ∃ x16_, v15_ = (Value.int .i64 x16_) ∧ ∃ h17_, st1 h14_ (Addr.add a0 1) (Value.int .i64 (IntKind.wrap .i64 (x16_ - (1 : Int)))) = some h17_ ∧ ∃ v18_, ldv false 1 h17_ (Addr.add a0 3) = some v18_ ∧ ∃ A19_, ∃ n19_, ∃ c19_, v18_ = (Value.slice A19_ n19_ c19_) ∧ ((n19_ : Nat) : Int) ≠ 0 ∧ (∃ h20_, st1 h17_ (Addr.add a0 2) (Value.int .i64 (Int.tmod (IntKind.wrap .i64 (x2 + (1 : Int))) ((n19_ : Nat) : Int))) = some h20_ ∧ f116.l0 R a0 h20_))))))
set_option maxRecDepth 100000 in
theorem f116.j0_in {R : Value → Heap → Prop} {a0 : Addr} {x2 : Int} {h : Heap} (H : f116.j0T R a0 x2 h) : f116.j0 R a0 x2 h :=
  pt_intro mixed f116.good (Eq.mpr (show (Fwd Try.prog f116.T f116.kp Try.f116 R [true, true, false, true, false, false] (mkFr [(0, (Value.pointer (some a0))), (2, (Value.int .i64 x2))]) h) = (f116.j0T R a0 x2 h) by kernel_rfl) H)
set_option maxRecDepth 100000 in
def f116.runT (R : Value → Heap → Prop) (a0 : Addr) (h : Heap) : Prop :=
  f116.l0 R a0 h
set_option maxRecDepth 100000 in
theorem f116.run {R : Value → Heap → Prop} {a0 : Addr} {h : Heap} (H : f116.runT R a0 h) : Run Try.prog 116 #[(Value.pointer (some a0))] h R :=
  run_of mixed Try.func116 (by kernel_rfl) (by kernel_rfl) f116.good (Eq.mpr (show (Fwd Try.prog f116.T f116.kp Try.f116 R [] (mkFr (argL [(Value.pointer (some a0))] 0)) h) = (f116.runT R a0 h) by kernel_rfl) H)

/-! ### (*roadstead/credit.Pool).Want: function 64 -/
def f64.T : Tab := { sh := tSh, tup := tTup, keep := [], plan := [] }
def f64.kp : Keep := [([true, true], [0, 1, 2])]
theorem f64.good : goodCode Try.prog f64.T (rootOf Try.f64) = true := by kernel_rfl
set_option maxRecDepth 100000 in
theorem f64.ok : calleeOk Try.prog 64 = true := by kernel_rfl
def f64.j0 (R : Value → Heap → Prop) (a0 : Addr) (x1 : Int) (x2 : Int) (h : Heap) : Prop := Pt Try.prog Try.f64 R [true, true] (mkFr [(0, (Value.pointer (some a0))), (1, (Value.int .i64 x1)), (2, (Value.int .i64 x2))]) h
set_option maxRecDepth 100000 in
def f64.j0T (R : Value → Heap → Prop) (a0 : Addr) (x1 : Int) (x2 : Int) (h : Heap) : Prop :=
  ∃ v1_, ldv false 1 h (Addr.add a0 3) = some v1_ ∧ ∃ A2_, ∃ n2_, ∃ c2_, v1_ = (Value.slice A2_ n2_ c2_) ∧ ptrOk A2_ fun a3_ => 0 ≤ x1 ∧ x1 < ((n2_ : Nat) : Int) ∧ (∃ v4_, ldv false 1 h (Addr.add a3_ (Int.toNat x1 * 3)) = some v4_ ∧ ∃ x5_, v4_ = (Value.int .i64 x5_) ∧ splitB (decide ((IntKind.wrap .i64 (x5_ + x2)) > (64 : Int))) (R (Value.int .i64 (6 : Int)) h) (∃ v6_, ldv false 1 h (Addr.add a0 3) = some v6_ ∧ ∃ A7_, ∃ n7_, ∃ c7_, v6_ = (Value.slice A7_ n7_ c7_) ∧ ptrOk A7_ fun a8_ => 0 ≤ x1 ∧ x1 < ((n7_ : Nat) : Int) ∧ (∃ v9_, ldv false 1 h (Addr.add a8_ (Int.toNat x1 * 3)) = some v9_ ∧ ∃ x10_, v9_ = (Value.int .i64 x10_) ∧ ptrOk A7_ fun a11_ => 0 ≤ x1 ∧ x1 < ((n7_ : Nat) : Int) ∧ (∃ h12_, st1 h (Addr.add a11_ (Int.toNat x1 * 3)) (Value.int .i64 (IntKind.wrap .i64 (x10_ + x2))) = some h12_ ∧ Run Try.prog 116 #[(Value.pointer (some a0))] h12_ fun v13_ h14_ => v13_ = (Value.tuple #[]) ∧ R (Value.int .i64 (0 : Int)) h14_))))
set_option maxRecDepth 100000 in
theorem f64.j0_in {R : Value → Heap → Prop} {a0 : Addr} {x1 : Int} {x2 : Int} {h : Heap} (H : f64.j0T R a0 x1 x2 h) : f64.j0 R a0 x1 x2 h :=
  pt_intro mixed f64.good (Eq.mpr (show (Fwd Try.prog f64.T f64.kp Try.f64 R [true, true] (mkFr [(0, (Value.pointer (some a0))), (1, (Value.int .i64 x1)), (2, (Value.int .i64 x2))]) h) = (f64.j0T R a0 x1 x2 h) by kernel_rfl) H)
set_option maxRecDepth 100000 in
def f64.runT (R : Value → Heap → Prop) (a0 : Addr) (x1 : Int) (x2 : Int) (h : Heap) : Prop :=
  Run Try.prog 115 #[(Value.pointer (some a0)), (Value.int .i64 x1)] h fun v1_ h2_ => ∃ b3_, v1_ = (Value.bool b3_) ∧ splitB (!b3_) (R (Value.int .i64 (1 : Int)) h2_) (splitB (decide (x2 < (1 : Int))) (R (Value.int .i64 (1 : Int)) h2_) (splitB (decide (x2 > (64 : Int))) (R (Value.int .i64 (1 : Int)) h2_) (f64.j0 R a0 x1 x2 h2_)))
set_option maxRecDepth 100000 in
theorem f64.run {R : Value → Heap → Prop} {a0 : Addr} {x1 : Int} {x2 : Int} {h : Heap} (H : f64.runT R a0 x1 x2 h) : Run Try.prog 64 #[(Value.pointer (some a0)), (Value.int .i64 x1), (Value.int .i64 x2)] h R :=
  run_of mixed Try.func64 (by kernel_rfl) (by kernel_rfl) f64.good (Eq.mpr (show (Fwd Try.prog f64.T f64.kp Try.f64 R [] (mkFr (argL [(Value.pointer (some a0)), (Value.int .i64 x1), (Value.int .i64 x2)] 0)) h) = (f64.runT R a0 x1 x2 h) by kernel_rfl) H)

/-! ### (*roadstead/credit.Pool).Use: function 65 -/
def f65.T : Tab := { sh := tSh, tup := tTup, keep := [], plan := [] }
def f65.kp : Keep := []
theorem f65.good : goodCode Try.prog f65.T (rootOf Try.f65) = true := by kernel_rfl
set_option maxRecDepth 100000 in
theorem f65.ok : calleeOk Try.prog 65 = true := by kernel_rfl
set_option maxRecDepth 100000 in
def f65.runT (R : Value → Heap → Prop) (a0 : Addr) (x1 : Int) (h : Heap) : Prop :=
  Run Try.prog 115 #[(Value.pointer (some a0)), (Value.int .i64 x1)] h fun v1_ h2_ => ∃ b3_, v1_ = (Value.bool b3_) ∧ splitB (!b3_) (R (Value.int .i64 (1 : Int)) h2_) (∃ v4_, ldv false 1 h2_ (Addr.add a0 3) = some v4_ ∧ ∃ A5_, ∃ n5_, ∃ c5_, v4_ = (Value.slice A5_ n5_ c5_) ∧ ptrOk A5_ fun a6_ => 0 ≤ x1 ∧ x1 < ((n5_ : Nat) : Int) ∧ (∃ v7_, ldv false 1 h2_ (Addr.add (Addr.add a6_ (Int.toNat x1 * 3)) 1) = some v7_ ∧ ∃ x8_, v7_ = (Value.int .i64 x8_) ∧ splitB (x8_ == (0 : Int)) (R (Value.int .i64 (9 : Int)) h2_) (∃ v9_, ldv false 1 h2_ (Addr.add a0 3) = some v9_ ∧ ∃ A10_, ∃ n10_, ∃ c10_, v9_ = (Value.slice A10_ n10_ c10_) ∧ ptrOk A10_ fun a11_ => 0 ≤ x1 ∧ x1 < ((n10_ : Nat) : Int) ∧ (∃ v12_, ldv false 1 h2_ (Addr.add (Addr.add a11_ (Int.toNat x1 * 3)) 1) = some v12_ ∧ ∃ x13_, v12_ = (Value.int .i64 x13_) ∧ ptrOk A10_ fun a14_ => 0 ≤ x1 ∧ x1 < ((n10_ : Nat) : Int) ∧ (∃ h15_, st1 h2_ (Addr.add (Addr.add a14_ (Int.toNat x1 * 3)) 1) (Value.int .i64 (IntKind.wrap .i64 (x13_ - (1 : Int)))) = some h15_ ∧ ∃ v16_, ldv false 1 h15_ (Addr.add a0 3) = some v16_ ∧ ∃ A17_, ∃ n17_, ∃ c17_, v16_ = (Value.slice A17_ n17_ c17_) ∧ ptrOk A17_ fun a18_ => 0 ≤ x1 ∧ x1 < ((n17_ : Nat) : Int) ∧ (∃ v19_, ldv false 1 h15_ (Addr.add (Addr.add a18_ (Int.toNat x1 * 3)) 2) = some v19_ ∧ ∃ x20_, v19_ = (Value.int .i64 x20_) ∧ ptrOk A17_ fun a21_ => 0 ≤ x1 ∧ x1 < ((n17_ : Nat) : Int) ∧ (∃ h22_, st1 h15_ (Addr.add (Addr.add a21_ (Int.toNat x1 * 3)) 2) (Value.int .i64 (IntKind.wrap .i64 (x20_ + (1 : Int)))) = some h22_ ∧ R (Value.int .i64 (0 : Int)) h22_)))))))
set_option maxRecDepth 100000 in
theorem f65.run {R : Value → Heap → Prop} {a0 : Addr} {x1 : Int} {h : Heap} (H : f65.runT R a0 x1 h) : Run Try.prog 65 #[(Value.pointer (some a0)), (Value.int .i64 x1)] h R :=
  run_of mixed Try.func65 (by kernel_rfl) (by kernel_rfl) f65.good (Eq.mpr (show (Fwd Try.prog f65.T f65.kp Try.f65 R [] (mkFr (argL [(Value.pointer (some a0)), (Value.int .i64 x1)] 0)) h) = (f65.runT R a0 x1 h) by kernel_rfl) H)

/-! ### (*roadstead/credit.Pool).Free: function 66 -/
def f66.T : Tab := { sh := tSh, tup := tTup, keep := [], plan := [] }
def f66.kp : Keep := []
theorem f66.good : goodCode Try.prog f66.T (rootOf Try.f66) = true := by kernel_rfl
set_option maxRecDepth 100000 in
theorem f66.ok : calleeOk Try.prog 66 = true := by kernel_rfl
set_option maxRecDepth 100000 in
def f66.runT (R : Value → Heap → Prop) (a0 : Addr) (x1 : Int) (h : Heap) : Prop :=
  Run Try.prog 115 #[(Value.pointer (some a0)), (Value.int .i64 x1)] h fun v1_ h2_ => ∃ b3_, v1_ = (Value.bool b3_) ∧ splitB (!b3_) (R (Value.int .i64 (1 : Int)) h2_) (∃ v4_, ldv false 1 h2_ (Addr.add a0 3) = some v4_ ∧ ∃ A5_, ∃ n5_, ∃ c5_, v4_ = (Value.slice A5_ n5_ c5_) ∧ ptrOk A5_ fun a6_ => 0 ≤ x1 ∧ x1 < ((n5_ : Nat) : Int) ∧ (∃ v7_, ldv false 1 h2_ (Addr.add (Addr.add a6_ (Int.toNat x1 * 3)) 2) = some v7_ ∧ ∃ x8_, v7_ = (Value.int .i64 x8_) ∧ splitB (x8_ == (0 : Int)) (R (Value.int .i64 (8 : Int)) h2_) (∃ v9_, ldv false 1 h2_ (Addr.add a0 3) = some v9_ ∧ ∃ A10_, ∃ n10_, ∃ c10_, v9_ = (Value.slice A10_ n10_ c10_) ∧ ptrOk A10_ fun a11_ => 0 ≤ x1 ∧ x1 < ((n10_ : Nat) : Int) ∧ (∃ v12_, ldv false 1 h2_ (Addr.add (Addr.add a11_ (Int.toNat x1 * 3)) 2) = some v12_ ∧ ∃ x13_, v12_ = (Value.int .i64 x13_) ∧ ptrOk A10_ fun a14_ => 0 ≤ x1 ∧ x1 < ((n10_ : Nat) : Int) ∧ (∃ h15_, st1 h2_ (Addr.add (Addr.add a14_ (Int.toNat x1 * 3)) 2) (Value.int .i64 (IntKind.wrap .i64 (x13_ - (1 : Int)))) = some h15_ ∧ ∃ v16_, ldv false 1 h15_ (Addr.add a0 1) = some v16_ ∧ ∃ x17_, v16_ = (Value.int .i64 x17_) ∧ ∃ h18_, st1 h15_ (Addr.add a0 1) (Value.int .i64 (IntKind.wrap .i64 (x17_ + (1 : Int)))) = some h18_ ∧ Run Try.prog 116 #[(Value.pointer (some a0))] h18_ fun v19_ h20_ => v19_ = (Value.tuple #[]) ∧ R (Value.int .i64 (0 : Int)) h20_)))))
set_option maxRecDepth 100000 in
theorem f66.run {R : Value → Heap → Prop} {a0 : Addr} {x1 : Int} {h : Heap} (H : f66.runT R a0 x1 h) : Run Try.prog 66 #[(Value.pointer (some a0)), (Value.int .i64 x1)] h R :=
  run_of mixed Try.func66 (by kernel_rfl) (by kernel_rfl) f66.good (Eq.mpr (show (Fwd Try.prog f66.T f66.kp Try.f66 R [] (mkFr (argL [(Value.pointer (some a0)), (Value.int .i64 x1)] 0)) h) = (f66.runT R a0 x1 h) by kernel_rfl) H)

/-! ### (*roadstead/credit.Pool).Drop: function 67 -/
def f67.T : Tab := { sh := tSh, tup := tTup, keep := [], plan := [(3, (.take 0 (.take 1 (.take 2 (.take 4 (.take 5 (.take 6 (.take 8 (.take 12 (.take 13 (.take 14 (.take 16 (.take 3 (.take 7 (.take 9 (.take 10 (.take 11 (.take 15 (.take 17 (.take 18 (.take 19 (.take 20 (.take 21 (.take 22 (.take 23 (.eff false 24 .done))))))))))))))))))))))))))] }
def f67.kp : Keep := []
theorem f67.good : goodCode Try.prog f67.T (rootOf Try.f67) = true := by kernel_rfl
set_option maxRecDepth 100000 in
theorem f67.ok : calleeOk Try.prog 67 = true := by kernel_rfl
set_option maxRecDepth 100000 in
def f67.runT (R : Value → Heap → Prop) (a0 : Addr) (x1 : Int) (h : Heap) : Prop :=
  Run Try.prog 115 #[(Value.pointer (some a0)), (Value.int .i64 x1)] h fun v1_ h2_ => ∃ b3_, v1_ = (Value.bool b3_) ∧ splitB (!b3_) (R (Value.int .i64 (1 : Int)) h2_) (∃ v4_, ldv false 1 h2_ (Addr.add a0 1) = some v4_ ∧ ∃ x5_, v4_ = (Value.int .i64 x5_) ∧ ∃ v6_, ldv false 1 h2_ (Addr.add a0 3) = some v6_ ∧ ∃ A7_, ∃ n7_, ∃ c7_, v6_ = (Value.slice A7_ n7_ c7_) ∧ ptrOk A7_ fun a8_ => 0 ≤ x1 ∧ x1 < ((n7_ : Nat) : Int) ∧ (∃ v9_, ldv false 1 h2_ (Addr.add (Addr.add a8_ (Int.toNat x1 * 3)) 1) = some v9_ ∧ ∃ x10_, v9_ = (Value.int .i64 x10_) ∧ ∃ v11_, ldv false 1 h2_ (Addr.add a0 3) = some v11_ ∧ ∃ A12_, ∃ n12_, ∃ c12_, v11_ = (Value.slice A12_ n12_ c12_) ∧ ptrOk A12_ fun a13_ => 0 ≤ x1 ∧ x1 < ((n12_ : Nat) : Int) ∧ (∃ v14_, ldv false 1 h2_ (Addr.add (Addr.add a13_ (Int.toNat x1 * 3)) 2) = some v14_ ∧ ∃ x15_, v14_ = (Value.int .i64 x15_) ∧ ∃ h16_, st1 h2_ (Addr.add a0 1) (Value.int .i64 (IntKind.wrap .i64 (x5_ + (IntKind.wrap .i64 (x10_ + x15_))))) = some h16_ ∧ ∃ v17_, ldv false 1 h16_ (Addr.add a0 3) = some v17_ ∧ ∃ A18_, ∃ n18_, ∃ c18_, v17_ = (Value.slice A18_ n18_ c18_) ∧ ptrOk A18_ fun a19_ => 0 ≤ x1 ∧ x1 < ((n18_ : Nat) : Int) ∧ (∃ l21_ : List Value, (Value.agg #[(Value.int .i64 (0 : Int)), (Value.int .i64 (0 : Int)), (Value.int .i64 (0 : Int))]) = Value.agg l21_.toArray ∧ l21_.length = 3 ∧ ∃ h20_, stH h16_ (Addr.add a19_ (Int.toNat x1 * 3)) l21_ 0 = some h20_ ∧ Run Try.prog 116 #[(Value.pointer (some a0))] h20_ fun v22_ h23_ => v22_ = (Value.tuple #[]) ∧ R (Value.int .i64 (0 : Int)) h23_))))
set_option maxRecDepth 100000 in
theorem f67.run {R : Value → Heap → Prop} {a0 : Addr} {x1 : Int} {h : Heap} (H : f67.runT R a0 x1 h) : Run Try.prog 67 #[(Value.pointer (some a0)), (Value.int .i64 x1)] h R :=
  run_of mixed Try.func67 (by kernel_rfl) (by kernel_rfl) f67.good (Eq.mpr (show (Fwd Try.prog f67.T f67.kp Try.f67 R [] (mkFr (argL [(Value.pointer (some a0)), (Value.int .i64 x1)] 0)) h) = (f67.runT R a0 x1 h) by kernel_rfl) H)

/-! ### (*roadstead/roadref4.Pool).Left: function 70 -/
def f70.T : Tab := { sh := tSh, tup := tTup, keep := [], plan := [] }
def f70.kp : Keep := [([false, false, true, false, true, true], [3, 13, 14, 15])]
theorem f70.good : goodCode Try.prog f70.T (rootOf Try.f70) = true := by kernel_rfl
set_option maxRecDepth 100000 in
theorem f70.ok : calleeOk Try.prog 70 = true := by kernel_rfl
def f70.l0 (R : Value → Heap → Prop) (x3 : Int) (A13 : Option Addr) (n13 : Nat) (c13 : Nat) (x14 : Int) (x15 : Int) (h : Heap) : Prop := Pt Try.prog Try.f70 R [false, false, true, false, true, true] (mkFr [(3, (Value.int .i64 x3)), (13, (Value.slice A13 n13 c13)), (14, (Value.int .i64 x14)), (15, (Value.int .i64 x15))]) h
set_option maxRecDepth 100000 in
def f70.l0T (R : Value → Heap → Prop) (x3 : Int) (A13 : Option Addr) (n13 : Nat) (c13 : Nat) (x14 : Int) (x15 : Int) (h : Heap) : Prop :=
  splitB (decide (x15 < x14)) (ptrOk A13 fun a1_ => 0 ≤ x15 ∧ x15 < ((n13 : Nat) : Int) ∧ (∃ v2_, ldv true 3 h (Addr.add a1_ (Int.toNat x15 * 3)) = some v2_ ∧ newH h (Obj.cells #[(Value.int .i64 (0 : Int)), (Value.int .i64 (0 : Int)), (Value.int .i64 (0 : Int))] 97) fun h3_ => ∃ l5_ : List Value, v2_ = Value.agg l5_.toArray ∧ l5_.length = 3 ∧ ∃ h4_, stH h3_ (⟨Array.size h, 0, none⟩) l5_ 0 = some h4_ ∧ 0 ≤ (1 : Int) ∧ (1 : Int) < ((3 : Nat) : Int) ∧ (∃ v6_, ldv false 1 h4_ (Addr.add (⟨Array.size h, 0, none⟩) (Int.toNat (1 : Int) * 1)) = some v6_ ∧ ∃ x7_, v6_ = (Value.int .i64 x7_) ∧ 0 ≤ (2 : Int) ∧ (2 : Int) < ((3 : Nat) : Int) ∧ (∃ v8_, ldv false 1 h4_ (Addr.add (⟨Array.size h, 0, none⟩) (Int.toNat (2 : Int) * 1)) = some v8_ ∧ ∃ x9_, v8_ = (Value.int .i64 x9_) ∧ f70.l0 R (IntKind.wrap .i64 (x3 - (IntKind.wrap .i64 (x7_ + x9_)))) A13 n13 c13 x14 (IntKind.wrap .i64 (x15 + (1 : Int))) h4_)))) (R (Value.int .i64 x3) h)
set_option maxRecDepth 100000 in
theorem f70.l0_in {R : Value → Heap → Prop} {x3 : Int} {A13 : Option Addr} {n13 : Nat} {c13 : Nat} {x14 : Int} {x15 : Int} {h : Heap} (H : f70.l0T R x3 A13 n13 c13 x14 x15 h) : f70.l0 R x3 A13 n13 c13 x14 x15 h :=
  pt_intro mixed f70.good (Eq.mpr (show (Fwd Try.prog f70.T f70.kp Try.f70 R [false, false, true, false, true, true] (mkFr [(3, (Value.int .i64 x3)), (13, (Value.slice A13 n13 c13)), (14, (Value.int .i64 x14)), (15, (Value.int .i64 x15))]) h) = (f70.l0T R x3 A13 n13 c13 x14 x15 h) by kernel_rfl) H)
set_option maxRecDepth 100000 in
def f70.runT (R : Value → Heap → Prop) (a0 : Addr) (h : Heap) : Prop :=
  ∃ v1_, ldv false 1 h a0 = some v1_ ∧ ∃ x2_, v1_ = (Value.int .i64 x2_) ∧ ∃ v3_, ldv false 1 h (Addr.add a0 2) = some v3_ ∧ ∃ A4_, ∃ n4_, ∃ c4_, v3_ = (Value.slice A4_ n4_ c4_) ∧ f70.l0 R x2_ A4_ n4_ c4_ ((n4_ : Nat) : Int) (0 : Int) h
set_option maxRecDepth 100000 in
theorem f70.run {R : Value → Heap → Prop} {a0 : Addr} {h : Heap} (H : f70.runT R a0 h) : Run Try.prog 70 #[(Value.pointer (some a0))] h R :=
  run_of mixed Try.func70 (by kernel_rfl) (by kernel_rfl) f70.good (Eq.mpr (show (Fwd Try.prog f70.T f70.kp Try.f70 R [] (mkFr (argL [(Value.pointer (some a0))] 0)) h) = (f70.runT R a0 h) by kernel_rfl) H)

/-! ### (*roadstead/roadref4.Pool).Share: function 68 -/
def f68.T : Tab := { sh := tSh, tup := tTup, keep := [], plan := [(4, (.take 0 (.take 1 (.take 2 (.take 4 (.take 5 (.take 6 (.take 3 (.take 7 (.take 8 (.take 9 .done))))))))))), (5, (.take 0 (.take 1 (.take 2 (.take 3 (.take 6 (.take 7 (.take 8 (.take 4 (.take 5 (.take 9 (.take 10 (.take 11 (.take 12 (.take 13 (.eff false 14 .done)))))))))))))))), (7, (.take 0 (.take 1 (.take 2 (.take 5 (.take 3 (.take 4 (.take 6 (.eff false 7 .done))))))))), (8, (.take 0 (.take 1 (.take 2 (.take 5 (.take 3 (.take 4 (.take 6 (.eff false 7 .done)))))))))] }
def f68.kp : Keep := [([false, false], [0]), ([false, false, true, false, true, false, true, false, false], [0, 2, 11, 12]), ([true, true, false, true, false, false], [0, 2])]
theorem f68.good : goodCode Try.prog f68.T (rootOf Try.f68) = true := by kernel_rfl
set_option maxRecDepth 100000 in
theorem f68.ok : calleeOk Try.prog 68 = true := by kernel_rfl
def f68.l0 (R : Value → Heap → Prop) (a0 : Addr) (h : Heap) : Prop := Pt Try.prog Try.f68 R [false, false] (mkFr [(0, (Value.pointer (some a0)))]) h
def f68.l1 (R : Value → Heap → Prop) (a0 : Addr) (b2 : Bool) (x11 : Int) (x12 : Int) (h : Heap) : Prop := Pt Try.prog Try.f68 R [false, false, true, false, true, false, true, false, false] (mkFr [(0, (Value.pointer (some a0))), (2, (Value.bool b2)), (11, (Value.int .i64 x11)), (12, (Value.int .i64 x12))]) h
def f68.j0 (R : Value → Heap → Prop) (a0 : Addr) (b2 : Bool) (h : Heap) : Prop := Pt Try.prog Try.f68 R [true, true, false, true, false, false] (mkFr [(0, (Value.pointer (some a0))), (2, (Value.bool b2))]) h
set_option maxRecDepth 100000 in
def f68.l0T (R : Value → Heap → Prop) (a0 : Addr) (h : Heap) : Prop :=
  Run Try.prog 70 #[(Value.pointer (some a0))] h fun v1_ h2_ => ∃ x3_, v1_ = (Value.int .i64 x3_) ∧ splitB (decide (x3_ > (0 : Int))) (∃ v4_, ldv false 1 h2_ (Addr.add a0 2) = some v4_ ∧ ∃ A5_, ∃ n5_, ∃ c5_, v4_ = (Value.slice A5_ n5_ c5_) ∧ f68.l1 R a0 false ((n5_ : Nat) : Int) (0 : Int) h2_) (R (Value.tuple #[]) h2_)
set_option maxRecDepth 100000 in
theorem f68.l0_in {R : Value → Heap → Prop} {a0 : Addr} {h : Heap} (H : f68.l0T R a0 h) : f68.l0 R a0 h :=
  pt_intro mixed f68.good (Eq.mpr (show (Fwd Try.prog f68.T f68.kp Try.f68 R [false, false] (mkFr [(0, (Value.pointer (some a0)))]) h) = (f68.l0T R a0 h) by kernel_rfl) H)
set_option maxRecDepth 100000 in
def f68.l1T (R : Value → Heap → Prop) (a0 : Addr) (b2 : Bool) (x11 : Int) (x12 : Int) (h : Heap) : Prop :=
  splitB (decide (x12 < x11)) (∃ v1_, ldv false 1 h (Addr.add a0 2) = some v1_ ∧ ∃ A2_, ∃ n2_, ∃ c2_, v1_ = (Value.slice A2_ n2_ c2_) ∧ ∃ v3_, ldv false 1 h (Addr.add a0 1) = some v3_ ∧ ∃ x4_, v3_ = (Value.int .i64 x4_) ∧ ptrOk A2_ fun a5_ => 0 ≤ x4_ ∧ x4_ < ((n2_ : Nat) : Int) ∧ (∃ v6_, ldv false 1 h (Addr.add a0 1) = some v6_ ∧ ∃ x7_, v6_ = (Value.int .i64 x7_) ∧ ∃ v8_, ldv false 1 h (Addr.add a0 2) = some v8_ ∧ ∃ A9_, ∃ n9_, ∃ c9_, v8_ = (Value.slice A9_ n9_ c9_) ∧ ((n9_ : Nat) : Int) ≠ 0 ∧ (∃ h10_, st1 h (Addr.add a0 1) (Value.int .i64 (Int.tmod (IntKind.wrap .i64 (x7_ + (1 : Int))) ((n9_ : Nat) : Int))) = some h10_ ∧ 0 ≤ (0 : Int) ∧ (0 : Int) < ((3 : Nat) : Int) ∧ (∃ v11_, ldv false 1 h10_ (Addr.add (Addr.add a5_ (Int.toNat x4_ * 3)) (Int.toNat (0 : Int) * 1)) = some v11_ ∧ ∃ x12_, v11_ = (Value.int .i64 x12_) ∧ splitB (decide (x12_ > (0 : Int))) (0 ≤ (0 : Int) ∧ (0 : Int) < ((3 : Nat) : Int) ∧ (∃ v13_, ldv false 1 h10_ (Addr.add (Addr.add a5_ (Int.toNat x4_ * 3)) (Int.toNat (0 : Int) * 1)) = some v13_ ∧ ∃ x14_, v13_ = (Value.int .i64 x14_) ∧ 0 ≤ (0 : Int) ∧ (0 : Int) < ((3 : Nat) : Int) ∧ (∃ h15_, st1 h10_ (Addr.add (Addr.add a5_ (Int.toNat x4_ * 3)) (Int.toNat (0 : Int) * 1)) (Value.int .i64 (IntKind.wrap .i64 (x14_ - (1 : Int)))) = some h15_ ∧ 0 ≤ (1 : Int) ∧ (1 : Int) < ((3 : Nat) : Int) ∧ (∃ v16_, ldv false 1 h15_ (Addr.add (Addr.add a5_ (Int.toNat x4_ * 3)) (Int.toNat (1 : Int) * 1)) = some v16_ ∧ ∃ x17_, v16_ = (Value.int .i64 x17_) ∧ 0 ≤ (1 : Int) ∧ (1 : Int) < ((3 : Nat) : Int) ∧ (∃ h18_, st1 h15_ (Addr.add (Addr.add a5_ (Int.toNat x4_ * 3)) (Int.toNat (1 : Int) * 1)) (Value.int .i64 (IntKind.wrap .i64 (x17_ + (1 : Int)))) = some h18_ ∧ f68.j0 R a0 true h18_))))) (f68.l1 R a0 b2 x11 (IntKind.wrap .i64 (x12 + (1 : Int))) h10_))))) (f68.j0 R a0 b2 h)
set_option maxRecDepth 100000 in
theorem f68.l1_in {R : Value → Heap → Prop} {a0 : Addr} {b2 : Bool} {x11 : Int} {x12 : Int} {h : Heap} (H : f68.l1T R a0 b2 x11 x12 h) : f68.l1 R a0 b2 x11 x12 h :=
  pt_intro mixed f68.good (Eq.mpr (show (Fwd Try.prog f68.T f68.kp Try.f68 R [false, false, true, false, true, false, true, false, false] (mkFr [(0, (Value.pointer (some a0))), (2, (Value.bool b2)), (11, (Value.int .i64 x11)), (12, (Value.int .i64 x12))]) h) = (f68.l1T R a0 b2 x11 x12 h) by kernel_rfl) H)
set_option maxRecDepth 100000 in
def f68.j0T (R : Value → Heap → Prop) (a0 : Addr) (b2 : Bool) (h : Heap) : Prop :=
  splitB (!b2) (R (Value.tuple #[]) h) (f68.l0 R a0 h)
set_option maxRecDepth 100000 in
theorem f68.j0_in {R : Value → Heap → Prop} {a0 : Addr} {b2 : Bool} {h : Heap} (H : f68.j0T R a0 b2 h) : f68.j0 R a0 b2 h :=
  pt_intro mixed f68.good (Eq.mpr (show (Fwd Try.prog f68.T f68.kp Try.f68 R [true, true, false, true, false, false] (mkFr [(0, (Value.pointer (some a0))), (2, (Value.bool b2))]) h) = (f68.j0T R a0 b2 h) by kernel_rfl) H)
set_option maxRecDepth 100000 in
def f68.runT (R : Value → Heap → Prop) (a0 : Addr) (h : Heap) : Prop :=
  f68.l0 R a0 h
set_option maxRecDepth 100000 in
theorem f68.run {R : Value → Heap → Prop} {a0 : Addr} {h : Heap} (H : f68.runT R a0 h) : Run Try.prog 68 #[(Value.pointer (some a0))] h R :=
  run_of mixed Try.func68 (by kernel_rfl) (by kernel_rfl) f68.good (Eq.mpr (show (Fwd Try.prog f68.T f68.kp Try.f68 R [] (mkFr (argL [(Value.pointer (some a0))] 0)) h) = (f68.runT R a0 h) by kernel_rfl) H)

/-! ### (*roadstead/credit.Pool).Left: function 69 -/
def f69.T : Tab := { sh := tSh, tup := tTup, keep := [], plan := [] }
def f69.kp : Keep := []
theorem f69.good : goodCode Try.prog f69.T (rootOf Try.f69) = true := by kernel_rfl
set_option maxRecDepth 100000 in
theorem f69.ok : calleeOk Try.prog 69 = true := by kernel_rfl
set_option maxRecDepth 100000 in
def f69.runT (R : Value → Heap → Prop) (a0 : Addr) (h : Heap) : Prop :=
  ∃ v1_, ldv false 1 h (Addr.add a0 1) = some v1_ ∧ ∃ x2_, v1_ = (Value.int .i64 x2_) ∧ R (Value.int .i64 x2_) h
set_option maxRecDepth 100000 in
theorem f69.run {R : Value → Heap → Prop} {a0 : Addr} {h : Heap} (H : f69.runT R a0 h) : Run Try.prog 69 #[(Value.pointer (some a0))] h R :=
  run_of mixed Try.func69 (by kernel_rfl) (by kernel_rfl) f69.good (Eq.mpr (show (Fwd Try.prog f69.T f69.kp Try.f69 R [] (mkFr (argL [(Value.pointer (some a0))] 0)) h) = (f69.runT R a0 h) by kernel_rfl) H)

/-! ### (*roadstead/credit.Pool).Lane: function 71 -/
def f71.T : Tab := { sh := tSh, tup := tTup, keep := [], plan := [(4, (.take 0 (.take 2 (.take 4 (.take 1 (.take 6 (.take 3 (.take 7 (.take 5 (.take 8 (.take 9 .done)))))))))))] }
def f71.kp : Keep := []
theorem f71.good : goodCode Try.prog f71.T (rootOf Try.f71) = true := by kernel_rfl
set_option maxRecDepth 100000 in
theorem f71.ok : calleeOk Try.prog 71 = true := by kernel_rfl
set_option maxRecDepth 100000 in
def f71.runT (R : Value → Heap → Prop) (a0 : Addr) (x1 : Int) (h : Heap) : Prop :=
  Run Try.prog 115 #[(Value.pointer (some a0)), (Value.int .i64 x1)] h fun v1_ h2_ => ∃ b3_, v1_ = (Value.bool b3_) ∧ splitB (!b3_) (R (Value.tuple #[(Value.int .i64 (0 : Int)), (Value.int .i64 (0 : Int)), (Value.int .i64 (0 : Int)), (Value.int .i64 (1 : Int))]) h2_) (∃ v4_, ldv false 1 h2_ (Addr.add a0 3) = some v4_ ∧ ∃ A5_, ∃ n5_, ∃ c5_, v4_ = (Value.slice A5_ n5_ c5_) ∧ ptrOk A5_ fun a6_ => 0 ≤ x1 ∧ x1 < ((n5_ : Nat) : Int) ∧ (∃ v7_, ldv true 3 h2_ (Addr.add a6_ (Int.toNat x1 * 3)) = some v7_ ∧ newH h2_ (Obj.cells #[(Value.int .i64 (0 : Int)), (Value.int .i64 (0 : Int)), (Value.int .i64 (0 : Int))] 178) fun h8_ => ∃ l10_ : List Value, v7_ = Value.agg l10_.toArray ∧ l10_.length = 3 ∧ ∃ h9_, stH h8_ (⟨Array.size h2_, 0, none⟩) l10_ 0 = some h9_ ∧ ∃ v11_, ldv false 1 h9_ (⟨Array.size h2_, 0, none⟩) = some v11_ ∧ ∃ x12_, v11_ = (Value.int .i64 x12_) ∧ ∃ v13_, ldv false 1 h9_ (Addr.add (⟨Array.size h2_, 0, none⟩) 1) = some v13_ ∧ ∃ x14_, v13_ = (Value.int .i64 x14_) ∧ ∃ v15_, ldv false 1 h9_ (Addr.add (⟨Array.size h2_, 0, none⟩) 2) = some v15_ ∧ ∃ x16_, v15_ = (Value.int .i64 x16_) ∧ R (Value.tuple #[(Value.int .i64 x12_), (Value.int .i64 x14_), (Value.int .i64 x16_), (Value.int .i64 (0 : Int))]) h9_))
set_option maxRecDepth 100000 in
theorem f71.run {R : Value → Heap → Prop} {a0 : Addr} {x1 : Int} {h : Heap} (H : f71.runT R a0 x1 h) : Run Try.prog 71 #[(Value.pointer (some a0)), (Value.int .i64 x1)] h R :=
  run_of mixed Try.func71 (by kernel_rfl) (by kernel_rfl) f71.good (Eq.mpr (show (Fwd Try.prog f71.T f71.kp Try.f71 R [] (mkFr (argL [(Value.pointer (some a0)), (Value.int .i64 x1)] 0)) h) = (f71.runT R a0 x1 h) by kernel_rfl) H)

/-! ### roadstead/roadlaw4.CreditPlays: function 11 -/
def f11.T : Tab := { sh := tSh, tup := tTup, keep := [], plan := [(24, (.take 0 (.take 1 (.take 2 (.take 4 (.take 8 (.take 3 (.take 5 (.take 6 (.take 10 (.take 7 (.take 9 (.take 11 (.eff false 12 .done)))))))))))))), (31, (.take 0 (.take 1 (.take 2 (.take 4 (.take 3 (.take 5 (.take 6 (.take 9 (.take 7 (.take 8 (.take 10 (.eff false 11 .done))))))))))))), (32, (.take 0 (.take 1 (.take 2 (.take 4 (.take 3 (.take 5 (.take 6 (.take 9 (.take 7 (.take 8 (.take 10 (.eff false 11 .done))))))))))))), (39, (.take 0 (.take 1 (.take 2 (.take 4 (.take 3 (.take 5 (.take 6 (.take 9 (.take 7 (.take 8 (.take 10 (.eff false 11 .done)))))))))))))] }
def f11.kp : Keep := [([true, true], [0, 1, 2]), ([true, false, true, true, true], [0, 1, 2, 9, 10, 68]), ([true, true, true, true], [0, 1, 2, 9, 10]), ([true, true, true, true, true], [0, 1, 2, 9]), ([false, false, true, false, true, true, true, true, true, true], [1, 9, 11, 86, 87, 88]), ([true, true, true, false, false, true, true, false, false, true, false, true, true, true, true, true, true], [1, 9, 11, 13, 14, 15, 16, 86, 87, 88, 99, 100, 101]), ([true, true, false, true, false, true, false, true, true, true, true, false, false, true, true, false, false, true, false, true, true, true, true, true, true], [1, 9, 11, 14, 15, 17, 18, 86, 87, 88, 99, 100, 101, 113, 114, 117, 118, 119]), ([true, true, true, true, true, false, false, true, true, false, false, true, false, true, true, true, true, true, true], [1, 9, 11, 17, 18, 86, 87, 88, 99, 100, 101]), ([true, true, true, true, true, true, true, false, false, true, true, false, false, true, false, true, true, true, true, true, true], [1, 9, 11, 86, 87, 88, 99, 100, 101, 225, 226, 227, 228, 229]), ([false, false, true, true, true, true, true, true, true, true, false, false, true, true, false, false, true, false, true, true, true, true, true, true], [1, 9, 11, 19, 86, 87, 88, 99, 100, 101, 225, 226, 227, 228, 229]), ([true, true, false, false, true, false, false, true, true, true, true, true, true, true, true, false, false, true, true, false, false, true, false, true, true, true, true, true, true], [1, 9, 11, 19, 20, 21, 22, 23, 86, 87, 88, 99, 100, 101, 225, 226, 227, 228, 229, 247, 248, 249, 250]), ([true, true, false, false, true, true, true, true, true, true, true, true, false, false, true, true, false, false, true, false, true, true, true, true, true, true], [1, 9, 11, 19, 86, 87, 88, 99, 100, 101, 225, 226, 227, 228, 229, 247, 248, 249])]
theorem f11.good : goodCode Try.prog f11.T (rootOf Try.f11) = true := by kernel_rfl
set_option maxRecDepth 100000 in
theorem f11.ok : calleeOk Try.prog 11 = true := by kernel_rfl
def f11.j0 (R : Value → Heap → Prop) (x0 : Int) (x1 : Int) (A2 : Option Addr) (n2 : Nat) (c2 : Nat) (h : Heap) : Prop := Pt Try.prog Try.f11 R [true, true] (mkFr [(0, (Value.int .i64 x0)), (1, (Value.int .i64 x1)), (2, (Value.slice A2 n2 c2))]) h
def f11.j2 (R : Value → Heap → Prop) (x0 : Int) (x1 : Int) (A2 : Option Addr) (n2 : Nat) (c2 : Nat) (p9 : Option Addr) (x10 : Int) (b68 : Bool) (h : Heap) : Prop := Pt Try.prog Try.f11 R [true, false, true, true, true] (mkFr [(0, (Value.int .i64 x0)), (1, (Value.int .i64 x1)), (2, (Value.slice A2 n2 c2)), (9, (Value.pointer p9)), (10, (Value.int .i64 x10)), (68, (Value.bool b68))]) h
def f11.j1 (R : Value → Heap → Prop) (x0 : Int) (x1 : Int) (A2 : Option Addr) (n2 : Nat) (c2 : Nat) (p9 : Option Addr) (x10 : Int) (h : Heap) : Prop := Pt Try.prog Try.f11 R [true, true, true, true] (mkFr [(0, (Value.int .i64 x0)), (1, (Value.int .i64 x1)), (2, (Value.slice A2 n2 c2)), (9, (Value.pointer p9)), (10, (Value.int .i64 x10))]) h
def f11.j3 (R : Value → Heap → Prop) (x0 : Int) (x1 : Int) (A2 : Option Addr) (n2 : Nat) (c2 : Nat) (p9 : Option Addr) (h : Heap) : Prop := Pt Try.prog Try.f11 R [true, true, true, true, true] (mkFr [(0, (Value.int .i64 x0)), (1, (Value.int .i64 x1)), (2, (Value.slice A2 n2 c2)), (9, (Value.pointer p9))]) h
def f11.l0 (R : Value → Heap → Prop) (x1 : Int) (p9 : Option Addr) (a11 : Addr) (A86 : Option Addr) (n86 : Nat) (c86 : Nat) (x87 : Int) (x88 : Int) (h : Heap) : Prop := Pt Try.prog Try.f11 R [false, false, true, false, true, true, true, true, true, true] (mkFr [(1, (Value.int .i64 x1)), (9, (Value.pointer p9)), (11, (Value.pointer (some a11))), (86, (Value.slice A86 n86 c86)), (87, (Value.int .i64 x87)), (88, (Value.int .i64 x88))]) h
def f11.j4 (R : Value → Heap → Prop) (x1 : Int) (p9 : Option Addr) (a11 : Addr) (A13 : Option Addr) (n13 : Nat) (c13 : Nat) (x14 : Int) (x15 : Int) (b16 : Bool) (A86 : Option Addr) (n86 : Nat) (c86 : Nat) (x87 : Int) (x88 : Int) (v99 : Value) (v100 : Value) (v101 : Value) (h : Heap) : Prop := Pt Try.prog Try.f11 R [true, true, true, false, false, true, true, false, false, true, false, true, true, true, true, true, true] (mkFr [(1, (Value.int .i64 x1)), (9, (Value.pointer p9)), (11, (Value.pointer (some a11))), (13, (Value.slice A13 n13 c13)), (14, (Value.int .i64 x14)), (15, (Value.int .i64 x15)), (16, (Value.bool b16)), (86, (Value.slice A86 n86 c86)), (87, (Value.int .i64 x87)), (88, (Value.int .i64 x88)), (99, v99), (100, v100), (101, v101)]) h
def f11.j7 (R : Value → Heap → Prop) (x1 : Int) (p9 : Option Addr) (a11 : Addr) (x14 : Int) (x15 : Int) (x17 : Int) (x18 : Int) (A86 : Option Addr) (n86 : Nat) (c86 : Nat) (x87 : Int) (x88 : Int) (v99 : Value) (v100 : Value) (v101 : Value) (v113 : Value) (v114 : Value) (v117 : Value) (v118 : Value) (b119 : Bool) (h : Heap) : Prop := Pt Try.prog Try.f11 R [true, true, false, true, false, true, false, true, true, true, true, false, false, true, true, false, false, true, false, true, true, true, true, true, true] (mkFr [(1, (Value.int .i64 x1)), (9, (Value.pointer p9)), (11, (Value.pointer (some a11))), (14, (Value.int .i64 x14)), (15, (Value.int .i64 x15)), (17, (Value.int .i64 x17)), (18, (Value.int .i64 x18)), (86, (Value.slice A86 n86 c86)), (87, (Value.int .i64 x87)), (88, (Value.int .i64 x88)), (99, v99), (100, v100), (101, v101), (113, v113), (114, v114), (117, v117), (118, v118), (119, (Value.bool b119))]) h
def f11.j5 (R : Value → Heap → Prop) (x1 : Int) (p9 : Option Addr) (a11 : Addr) (x17 : Int) (x18 : Int) (A86 : Option Addr) (n86 : Nat) (c86 : Nat) (x87 : Int) (x88 : Int) (v99 : Value) (v100 : Value) (v101 : Value) (h : Heap) : Prop := Pt Try.prog Try.f11 R [true, true, true, true, true, false, false, true, true, false, false, true, false, true, true, true, true, true, true] (mkFr [(1, (Value.int .i64 x1)), (9, (Value.pointer p9)), (11, (Value.pointer (some a11))), (17, (Value.int .i64 x17)), (18, (Value.int .i64 x18)), (86, (Value.slice A86 n86 c86)), (87, (Value.int .i64 x87)), (88, (Value.int .i64 x88)), (99, v99), (100, v100), (101, v101)]) h
def f11.j6 (R : Value → Heap → Prop) (x1 : Int) (p9 : Option Addr) (a11 : Addr) (A86 : Option Addr) (n86 : Nat) (c86 : Nat) (x87 : Int) (x88 : Int) (v99 : Value) (v100 : Value) (v101 : Value) (p225 : Option Addr) (x226 : Int) (a227 : Addr) (x228 : Int) (b229 : Bool) (h : Heap) : Prop := Pt Try.prog Try.f11 R [true, true, true, true, true, true, true, false, false, true, true, false, false, true, false, true, true, true, true, true, true] (mkFr [(1, (Value.int .i64 x1)), (9, (Value.pointer p9)), (11, (Value.pointer (some a11))), (86, (Value.slice A86 n86 c86)), (87, (Value.int .i64 x87)), (88, (Value.int .i64 x88)), (99, v99), (100, v100), (101, v101), (225, (Value.pointer p225)), (226, (Value.int .i64 x226)), (227, (Value.pointer (some a227))), (228, (Value.int .i64 x228)), (229, (Value.bool b229))]) h
def f11.l1 (R : Value → Heap → Prop) (x1 : Int) (p9 : Option Addr) (a11 : Addr) (x19 : Int) (A86 : Option Addr) (n86 : Nat) (c86 : Nat) (x87 : Int) (x88 : Int) (v99 : Value) (v100 : Value) (v101 : Value) (p225 : Option Addr) (x226 : Int) (a227 : Addr) (x228 : Int) (b229 : Bool) (h : Heap) : Prop := Pt Try.prog Try.f11 R [false, false, true, true, true, true, true, true, true, true, false, false, true, true, false, false, true, false, true, true, true, true, true, true] (mkFr [(1, (Value.int .i64 x1)), (9, (Value.pointer p9)), (11, (Value.pointer (some a11))), (19, (Value.int .i64 x19)), (86, (Value.slice A86 n86 c86)), (87, (Value.int .i64 x87)), (88, (Value.int .i64 x88)), (99, v99), (100, v100), (101, v101), (225, (Value.pointer p225)), (226, (Value.int .i64 x226)), (227, (Value.pointer (some a227))), (228, (Value.int .i64 x228)), (229, (Value.bool b229))]) h
def f11.j9 (R : Value → Heap → Prop) (x1 : Int) (p9 : Option Addr) (a11 : Addr) (x19 : Int) (x20 : Int) (x21 : Int) (x22 : Int) (x23 : Int) (A86 : Option Addr) (n86 : Nat) (c86 : Nat) (x87 : Int) (x88 : Int) (v99 : Value) (v100 : Value) (v101 : Value) (p225 : Option Addr) (x226 : Int) (a227 : Addr) (x228 : Int) (b229 : Bool) (v247 : Value) (v248 : Value) (v249 : Value) (b250 : Bool) (h : Heap) : Prop := Pt Try.prog Try.f11 R [true, true, false, false, true, false, false, true, true, true, true, true, true, true, true, false, false, true, true, false, false, true, false, true, true, true, true, true, true] (mkFr [(1, (Value.int .i64 x1)), (9, (Value.pointer p9)), (11, (Value.pointer (some a11))), (19, (Value.int .i64 x19)), (20, (Value.int .i64 x20)), (21, (Value.int .i64 x21)), (22, (Value.int .i64 x22)), (23, (Value.int .i64 x23)), (86, (Value.slice A86 n86 c86)), (87, (Value.int .i64 x87)), (88, (Value.int .i64 x88)), (99, v99), (100, v100), (101, v101), (225, (Value.pointer p225)), (226, (Value.int .i64 x226)), (227, (Value.pointer (some a227))), (228, (Value.int .i64 x228)), (229, (Value.bool b229)), (247, v247), (248, v248), (249, v249), (250, (Value.bool b250))]) h
def f11.j8 (R : Value → Heap → Prop) (x1 : Int) (p9 : Option Addr) (a11 : Addr) (x19 : Int) (A86 : Option Addr) (n86 : Nat) (c86 : Nat) (x87 : Int) (x88 : Int) (v99 : Value) (v100 : Value) (v101 : Value) (p225 : Option Addr) (x226 : Int) (a227 : Addr) (x228 : Int) (b229 : Bool) (v247 : Value) (v248 : Value) (v249 : Value) (h : Heap) : Prop := Pt Try.prog Try.f11 R [true, true, false, false, true, true, true, true, true, true, true, true, false, false, true, true, false, false, true, false, true, true, true, true, true, true] (mkFr [(1, (Value.int .i64 x1)), (9, (Value.pointer p9)), (11, (Value.pointer (some a11))), (19, (Value.int .i64 x19)), (86, (Value.slice A86 n86 c86)), (87, (Value.int .i64 x87)), (88, (Value.int .i64 x88)), (99, v99), (100, v100), (101, v101), (225, (Value.pointer p225)), (226, (Value.int .i64 x226)), (227, (Value.pointer (some a227))), (228, (Value.int .i64 x228)), (229, (Value.bool b229)), (247, v247), (248, v248), (249, v249)]) h
set_option maxRecDepth 100000 in
def f11.j0T (R : Value → Heap → Prop) (x0 : Int) (x1 : Int) (A2 : Option Addr) (n2 : Nat) (c2 : Nat) (h : Heap) : Prop :=
  Run Try.prog 63 #[(Value.int .i64 x0), (Value.int .i64 x1)] h fun v1_ h2_ => ∃ p3_, ∃ x4_, v1_ = (Value.tuple #[(Value.pointer p3_), (Value.int .i64 x4_)]) ∧ splitB (decide (x0 < (1 : Int))) (f11.j2 R x0 x1 A2 n2 c2 p3_ x4_ true h2_) (splitB (decide (x0 > (64 : Int))) (f11.j2 R x0 x1 A2 n2 c2 p3_ x4_ true h2_) (splitB (decide (x1 < (1 : Int))) (f11.j2 R x0 x1 A2 n2 c2 p3_ x4_ true h2_) (f11.j2 R x0 x1 A2 n2 c2 p3_ x4_ (decide (x1 > (8 : Int))) h2_)))
set_option maxRecDepth 100000 in
theorem f11.j0_in {R : Value → Heap → Prop} {x0 : Int} {x1 : Int} {A2 : Option Addr} {n2 : Nat} {c2 : Nat} {h : Heap} (H : f11.j0T R x0 x1 A2 n2 c2 h) : f11.j0 R x0 x1 A2 n2 c2 h :=
  pt_intro mixed f11.good (Eq.mpr (show (Fwd Try.prog f11.T f11.kp Try.f11 R [true, true] (mkFr [(0, (Value.int .i64 x0)), (1, (Value.int .i64 x1)), (2, (Value.slice A2 n2 c2))]) h) = (f11.j0T R x0 x1 A2 n2 c2 h) by kernel_rfl) H)
set_option maxRecDepth 100000 in
def f11.j2T (R : Value → Heap → Prop) (x0 : Int) (x1 : Int) (A2 : Option Addr) (n2 : Nat) (c2 : Nat) (p9 : Option Addr) (x10 : Int) (b68 : Bool) (h : Heap) : Prop :=
  splitB b68 (splitB (x10 == (1 : Int)) (R (Value.bool (Option.isNone p9)) h) (R (Value.bool false) h)) (f11.j1 R x0 x1 A2 n2 c2 p9 x10 h)
set_option maxRecDepth 100000 in
theorem f11.j2_in {R : Value → Heap → Prop} {x0 : Int} {x1 : Int} {A2 : Option Addr} {n2 : Nat} {c2 : Nat} {p9 : Option Addr} {x10 : Int} {b68 : Bool} {h : Heap} (H : f11.j2T R x0 x1 A2 n2 c2 p9 x10 b68 h) : f11.j2 R x0 x1 A2 n2 c2 p9 x10 b68 h :=
  pt_intro mixed f11.good (Eq.mpr (show (Fwd Try.prog f11.T f11.kp Try.f11 R [true, false, true, true, true] (mkFr [(0, (Value.int .i64 x0)), (1, (Value.int .i64 x1)), (2, (Value.slice A2 n2 c2)), (9, (Value.pointer p9)), (10, (Value.int .i64 x10)), (68, (Value.bool b68))]) h) = (f11.j2T R x0 x1 A2 n2 c2 p9 x10 b68 h) by kernel_rfl) H)
set_option maxRecDepth 100000 in
def f11.j1T (R : Value → Heap → Prop) (x0 : Int) (x1 : Int) (A2 : Option Addr) (n2 : Nat) (c2 : Nat) (p9 : Option Addr) (x10 : Int) (h : Heap) : Prop :=
  splitB (x10 != (0 : Int)) (R (Value.bool false) h) (splitB (Option.isNone p9) (R (Value.bool false) h) (f11.j3 R x0 x1 A2 n2 c2 p9 h))
set_option maxRecDepth 100000 in
theorem f11.j1_in {R : Value → Heap → Prop} {x0 : Int} {x1 : Int} {A2 : Option Addr} {n2 : Nat} {c2 : Nat} {p9 : Option Addr} {x10 : Int} {h : Heap} (H : f11.j1T R x0 x1 A2 n2 c2 p9 x10 h) : f11.j1 R x0 x1 A2 n2 c2 p9 x10 h :=
  pt_intro mixed f11.good (Eq.mpr (show (Fwd Try.prog f11.T f11.kp Try.f11 R [true, true, true, true] (mkFr [(0, (Value.int .i64 x0)), (1, (Value.int .i64 x1)), (2, (Value.slice A2 n2 c2)), (9, (Value.pointer p9)), (10, (Value.int .i64 x10))]) h) = (f11.j1T R x0 x1 A2 n2 c2 p9 x10 h) by kernel_rfl) H)
set_option maxRecDepth 100000 in
def f11.j3T (R : Value → Heap → Prop) (x0 : Int) (x1 : Int) (A2 : Option Addr) (n2 : Nat) (c2 : Nat) (p9 : Option Addr) (h : Heap) : Prop :=
  0 ≤ x1 ∧ x1 ≤ x1 ∧ x1 * 24 ≤ 140737488355328 ∧ x1 ≤ 9223372036854775807 ∧ (newH h (Obj.cells (mkCells #[(Value.int .i64 (0 : Int)), (Value.int .i64 (0 : Int)), (Value.int .i64 (0 : Int))] (Int.toNat x1 * 3)) 97) fun h1_ => newH h1_ (Obj.cells #[(Value.int .i64 x0), (Value.int .i64 (0 : Int)), (Value.slice (some ⟨Array.size h, 0, none⟩) (Int.toNat x1) (Int.toNat x1))] 96) fun h2_ => f11.l0 R x1 p9 (⟨Array.size h1_, 0, none⟩) A2 n2 c2 ((n2 : Nat) : Int) (0 : Int) h2_)
set_option maxRecDepth 100000 in
theorem f11.j3_in {R : Value → Heap → Prop} {x0 : Int} {x1 : Int} {A2 : Option Addr} {n2 : Nat} {c2 : Nat} {p9 : Option Addr} {h : Heap} (H : f11.j3T R x0 x1 A2 n2 c2 p9 h) : f11.j3 R x0 x1 A2 n2 c2 p9 h :=
  pt_intro mixed f11.good (Eq.mpr (show (Fwd Try.prog f11.T f11.kp Try.f11 R [true, true, true, true, true] (mkFr [(0, (Value.int .i64 x0)), (1, (Value.int .i64 x1)), (2, (Value.slice A2 n2 c2)), (9, (Value.pointer p9))]) h) = (f11.j3T R x0 x1 A2 n2 c2 p9 h) by kernel_rfl) H)
set_option maxRecDepth 100000 in
def f11.l0T (R : Value → Heap → Prop) (x1 : Int) (p9 : Option Addr) (a11 : Addr) (A86 : Option Addr) (n86 : Nat) (c86 : Nat) (x87 : Int) (x88 : Int) (h : Heap) : Prop :=
  splitB (decide (x88 < x87)) (ptrOk A86 fun a1_ => 0 ≤ x88 ∧ x88 < ((n86 : Nat) : Int) ∧ (∃ v2_, ldv false 1 h (Addr.add a1_ (Int.toNat x88 * 1)) = some v2_ ∧ ∃ A3_, ∃ n3_, ∃ c3_, v2_ = (Value.slice A3_ n3_ c3_) ∧ Run Try.prog 17 #[(Value.slice A3_ n3_ c3_), (Value.int .i64 (1 : Int))] h fun v4_ h5_ => ∃ x6_, v4_ = (Value.int .i64 x6_) ∧ Run Try.prog 17 #[(Value.slice A3_ n3_ c3_), (Value.int .i64 (2 : Int))] h5_ fun v7_ h8_ => ∃ x9_, v7_ = (Value.int .i64 x9_) ∧ splitB (decide (x6_ ≥ (0 : Int))) (f11.j4 R x1 p9 a11 A3_ n3_ c3_ x6_ x9_ (decide (x6_ < x1)) A86 n86 c86 x87 x88 (Value.int .i64 x6_) (Value.int .i64 x1) (Value.bool (decide (x6_ < x1))) h8_) (f11.j4 R x1 p9 a11 A3_ n3_ c3_ x6_ x9_ false A86 n86 c86 x87 x88 (Value.tuple #[]) (Value.tuple #[]) (Value.tuple #[]) h8_))) (R (Value.bool true) h)
set_option maxRecDepth 100000 in
theorem f11.l0_in {R : Value → Heap → Prop} {x1 : Int} {p9 : Option Addr} {a11 : Addr} {A86 : Option Addr} {n86 : Nat} {c86 : Nat} {x87 : Int} {x88 : Int} {h : Heap} (H : f11.l0T R x1 p9 a11 A86 n86 c86 x87 x88 h) : f11.l0 R x1 p9 a11 A86 n86 c86 x87 x88 h :=
  pt_intro mixed f11.good (Eq.mpr (show (Fwd Try.prog f11.T f11.kp Try.f11 R [false, false, true, false, true, true, true, true, true, true] (mkFr [(1, (Value.int .i64 x1)), (9, (Value.pointer p9)), (11, (Value.pointer (some a11))), (86, (Value.slice A86 n86 c86)), (87, (Value.int .i64 x87)), (88, (Value.int .i64 x88))]) h) = (f11.l0T R x1 p9 a11 A86 n86 c86 x87 x88 h) by kernel_rfl) H)
set_option maxRecDepth 100000 in
def f11.j4T (R : Value → Heap → Prop) (x1 : Int) (p9 : Option Addr) (a11 : Addr) (A13 : Option Addr) (n13 : Nat) (c13 : Nat) (x14 : Int) (x15 : Int) (b16 : Bool) (A86 : Option Addr) (n86 : Nat) (c86 : Nat) (x87 : Int) (x88 : Int) (v99 : Value) (v100 : Value) (v101 : Value) (h : Heap) : Prop :=
  Run Try.prog 17 #[(Value.slice A13 n13 c13), (Value.int .i64 (0 : Int))] h fun v1_ h2_ => ∃ x3_, v1_ = (Value.int .i64 x3_) ∧ splitB (x3_ == (1 : Int)) (Run Try.prog 64 #[(Value.pointer p9), (Value.int .i64 x14), (Value.int .i64 x15)] h2_ fun v4_ h5_ => ∃ x6_, v4_ = (Value.int .i64 x6_) ∧ splitB b16 (splitB (decide (x15 ≥ (1 : Int))) (f11.j7 R x1 p9 a11 x14 x15 x6_ (1 : Int) A86 n86 c86 x87 x88 v99 v100 v101 (Value.int .i64 x15) (Value.bool (decide (x15 ≥ (1 : Int)))) (Value.int .i64 x15) (Value.bool (decide (x15 ≤ (64 : Int)))) (decide (x15 ≤ (64 : Int))) h5_) (f11.j7 R x1 p9 a11 x14 x15 x6_ (1 : Int) A86 n86 c86 x87 x88 v99 v100 v101 (Value.int .i64 x15) (Value.bool (decide (x15 ≥ (1 : Int)))) (Value.tuple #[]) (Value.tuple #[]) false h5_)) (f11.j7 R x1 p9 a11 x14 x15 x6_ (1 : Int) A86 n86 c86 x87 x88 v99 v100 v101 (Value.tuple #[]) (Value.tuple #[]) (Value.tuple #[]) (Value.tuple #[]) false h5_)) (splitB (x3_ == (2 : Int)) (Run Try.prog 65 #[(Value.pointer p9), (Value.int .i64 x14)] h2_ fun v7_ h8_ => ∃ x9_, v7_ = (Value.int .i64 x9_) ∧ splitB b16 (∃ v10_, ldv false 1 h8_ (Addr.add a11 2) = some v10_ ∧ ∃ A11_, ∃ n11_, ∃ c11_, v10_ = (Value.slice A11_ n11_ c11_) ∧ ptrOk A11_ fun a12_ => 0 ≤ x14 ∧ x14 < ((n11_ : Nat) : Int) ∧ (0 ≤ (1 : Int) ∧ (1 : Int) < ((3 : Nat) : Int) ∧ (∃ v13_, ldv false 1 h8_ (Addr.add (Addr.add a12_ (Int.toNat x14 * 3)) (Int.toNat (1 : Int) * 1)) = some v13_ ∧ ∃ x14_, v13_ = (Value.int .i64 x14_) ∧ splitB (decide (x14_ > (0 : Int))) (∃ v15_, ldv false 1 h8_ (Addr.add a11 2) = some v15_ ∧ ∃ A16_, ∃ n16_, ∃ c16_, v15_ = (Value.slice A16_ n16_ c16_) ∧ ptrOk A16_ fun a17_ => 0 ≤ x14 ∧ x14 < ((n16_ : Nat) : Int) ∧ (0 ≤ (1 : Int) ∧ (1 : Int) < ((3 : Nat) : Int) ∧ (ptrOk A16_ fun a18_ => 0 ≤ x14 ∧ x14 < ((n16_ : Nat) : Int) ∧ (∃ v19_, ldv false 1 h8_ (Addr.add (Addr.add a17_ (Int.toNat x14 * 3)) (Int.toNat (1 : Int) * 1)) = some v19_ ∧ ∃ x20_, v19_ = (Value.int .i64 x20_) ∧ 0 ≤ (1 : Int) ∧ (1 : Int) < ((3 : Nat) : Int) ∧ (∃ h21_, st1 h8_ (Addr.add (Addr.add a18_ (Int.toNat x14 * 3)) (Int.toNat (1 : Int) * 1)) (Value.int .i64 (IntKind.wrap .i64 (x20_ - (1 : Int)))) = some h21_ ∧ ∃ v22_, ldv false 1 h21_ (Addr.add a11 2) = some v22_ ∧ ∃ A23_, ∃ n23_, ∃ c23_, v22_ = (Value.slice A23_ n23_ c23_) ∧ ptrOk A23_ fun a24_ => 0 ≤ x14 ∧ x14 < ((n23_ : Nat) : Int) ∧ (0 ≤ (2 : Int) ∧ (2 : Int) < ((3 : Nat) : Int) ∧ (ptrOk A23_ fun a25_ => 0 ≤ x14 ∧ x14 < ((n23_ : Nat) : Int) ∧ (∃ v26_, ldv false 1 h21_ (Addr.add (Addr.add a24_ (Int.toNat x14 * 3)) (Int.toNat (2 : Int) * 1)) = some v26_ ∧ ∃ x27_, v26_ = (Value.int .i64 x27_) ∧ 0 ≤ (2 : Int) ∧ (2 : Int) < ((3 : Nat) : Int) ∧ (∃ h28_, st1 h21_ (Addr.add (Addr.add a25_ (Int.toNat x14 * 3)) (Int.toNat (2 : Int) * 1)) (Value.int .i64 (IntKind.wrap .i64 (x27_ + (1 : Int)))) = some h28_ ∧ f11.j5 R x1 p9 a11 x9_ (0 : Int) A86 n86 c86 x87 x88 v99 v100 v101 h28_))))))))) (f11.j5 R x1 p9 a11 x9_ (9 : Int) A86 n86 c86 x87 x88 v99 v100 v101 h8_)))) (f11.j5 R x1 p9 a11 x9_ (1 : Int) A86 n86 c86 x87 x88 v99 v100 v101 h8_)) (splitB (x3_ == (3 : Int)) (Run Try.prog 66 #[(Value.pointer p9), (Value.int .i64 x14)] h2_ fun v29_ h30_ => ∃ x31_, v29_ = (Value.int .i64 x31_) ∧ splitB b16 (∃ v32_, ldv false 1 h30_ (Addr.add a11 2) = some v32_ ∧ ∃ A33_, ∃ n33_, ∃ c33_, v32_ = (Value.slice A33_ n33_ c33_) ∧ ptrOk A33_ fun a34_ => 0 ≤ x14 ∧ x14 < ((n33_ : Nat) : Int) ∧ (0 ≤ (2 : Int) ∧ (2 : Int) < ((3 : Nat) : Int) ∧ (∃ v35_, ldv false 1 h30_ (Addr.add (Addr.add a34_ (Int.toNat x14 * 3)) (Int.toNat (2 : Int) * 1)) = some v35_ ∧ ∃ x36_, v35_ = (Value.int .i64 x36_) ∧ splitB (decide (x36_ > (0 : Int))) (∃ v37_, ldv false 1 h30_ (Addr.add a11 2) = some v37_ ∧ ∃ A38_, ∃ n38_, ∃ c38_, v37_ = (Value.slice A38_ n38_ c38_) ∧ ptrOk A38_ fun a39_ => 0 ≤ x14 ∧ x14 < ((n38_ : Nat) : Int) ∧ (0 ≤ (2 : Int) ∧ (2 : Int) < ((3 : Nat) : Int) ∧ (ptrOk A38_ fun a40_ => 0 ≤ x14 ∧ x14 < ((n38_ : Nat) : Int) ∧ (∃ v41_, ldv false 1 h30_ (Addr.add (Addr.add a39_ (Int.toNat x14 * 3)) (Int.toNat (2 : Int) * 1)) = some v41_ ∧ ∃ x42_, v41_ = (Value.int .i64 x42_) ∧ 0 ≤ (2 : Int) ∧ (2 : Int) < ((3 : Nat) : Int) ∧ (∃ h43_, st1 h30_ (Addr.add (Addr.add a40_ (Int.toNat x14 * 3)) (Int.toNat (2 : Int) * 1)) (Value.int .i64 (IntKind.wrap .i64 (x42_ - (1 : Int)))) = some h43_ ∧ f11.j5 R x1 p9 a11 x31_ (0 : Int) A86 n86 c86 x87 x88 v99 v100 v101 h43_))))) (f11.j5 R x1 p9 a11 x31_ (8 : Int) A86 n86 c86 x87 x88 v99 v100 v101 h30_)))) (f11.j5 R x1 p9 a11 x31_ (1 : Int) A86 n86 c86 x87 x88 v99 v100 v101 h30_)) (splitB (x3_ == (4 : Int)) (Run Try.prog 67 #[(Value.pointer p9), (Value.int .i64 x14)] h2_ fun v44_ h45_ => ∃ x46_, v44_ = (Value.int .i64 x46_) ∧ splitB b16 (∃ v47_, ldv false 1 h45_ (Addr.add a11 2) = some v47_ ∧ ∃ A48_, ∃ n48_, ∃ c48_, v47_ = (Value.slice A48_ n48_ c48_) ∧ ptrOk A48_ fun a49_ => 0 ≤ x14 ∧ x14 < ((n48_ : Nat) : Int) ∧ (∃ l51_ : List Value, (Value.agg #[(Value.int .i64 (0 : Int)), (Value.int .i64 (0 : Int)), (Value.int .i64 (0 : Int))]) = Value.agg l51_.toArray ∧ l51_.length = 3 ∧ ∃ h50_, stH h45_ (Addr.add a49_ (Int.toNat x14 * 3)) l51_ 0 = some h50_ ∧ f11.j5 R x1 p9 a11 x46_ (0 : Int) A86 n86 c86 x87 x88 v99 v100 v101 h50_)) (f11.j5 R x1 p9 a11 x46_ (1 : Int) A86 n86 c86 x87 x88 v99 v100 v101 h45_)) (f11.j5 R x1 p9 a11 (0 : Int) (0 : Int) A86 n86 c86 x87 x88 v99 v100 v101 h2_))))
set_option maxRecDepth 100000 in
theorem f11.j4_in {R : Value → Heap → Prop} {x1 : Int} {p9 : Option Addr} {a11 : Addr} {A13 : Option Addr} {n13 : Nat} {c13 : Nat} {x14 : Int} {x15 : Int} {b16 : Bool} {A86 : Option Addr} {n86 : Nat} {c86 : Nat} {x87 : Int} {x88 : Int} {v99 : Value} {v100 : Value} {v101 : Value} {h : Heap} (H : f11.j4T R x1 p9 a11 A13 n13 c13 x14 x15 b16 A86 n86 c86 x87 x88 v99 v100 v101 h) : f11.j4 R x1 p9 a11 A13 n13 c13 x14 x15 b16 A86 n86 c86 x87 x88 v99 v100 v101 h :=
  pt_intro mixed f11.good (Eq.mpr (show (Fwd Try.prog f11.T f11.kp Try.f11 R [true, true, true, false, false, true, true, false, false, true, false, true, true, true, true, true, true] (mkFr [(1, (Value.int .i64 x1)), (9, (Value.pointer p9)), (11, (Value.pointer (some a11))), (13, (Value.slice A13 n13 c13)), (14, (Value.int .i64 x14)), (15, (Value.int .i64 x15)), (16, (Value.bool b16)), (86, (Value.slice A86 n86 c86)), (87, (Value.int .i64 x87)), (88, (Value.int .i64 x88)), (99, v99), (100, v100), (101, v101)]) h) = (f11.j4T R x1 p9 a11 A13 n13 c13 x14 x15 b16 A86 n86 c86 x87 x88 v99 v100 v101 h) by kernel_rfl) H)
set_option maxRecDepth 100000 in
def f11.j7T (R : Value → Heap → Prop) (x1 : Int) (p9 : Option Addr) (a11 : Addr) (x14 : Int) (x15 : Int) (x17 : Int) (x18 : Int) (A86 : Option Addr) (n86 : Nat) (c86 : Nat) (x87 : Int) (x88 : Int) (v99 : Value) (v100 : Value) (v101 : Value) (v113 : Value) (v114 : Value) (v117 : Value) (v118 : Value) (b119 : Bool) (h : Heap) : Prop :=
  splitB b119 (∃ v1_, ldv false 1 h (Addr.add a11 2) = some v1_ ∧ ∃ A2_, ∃ n2_, ∃ c2_, v1_ = (Value.slice A2_ n2_ c2_) ∧ ptrOk A2_ fun a3_ => 0 ≤ x14 ∧ x14 < ((n2_ : Nat) : Int) ∧ (0 ≤ (0 : Int) ∧ (0 : Int) < ((3 : Nat) : Int) ∧ (∃ v4_, ldv false 1 h (Addr.add (Addr.add a3_ (Int.toNat x14 * 3)) (Int.toNat (0 : Int) * 1)) = some v4_ ∧ ∃ x5_, v4_ = (Value.int .i64 x5_) ∧ splitB (decide ((IntKind.wrap .i64 (x5_ + x15)) ≤ (64 : Int))) (∃ v6_, ldv false 1 h (Addr.add a11 2) = some v6_ ∧ ∃ A7_, ∃ n7_, ∃ c7_, v6_ = (Value.slice A7_ n7_ c7_) ∧ ptrOk A7_ fun a8_ => 0 ≤ x14 ∧ x14 < ((n7_ : Nat) : Int) ∧ (0 ≤ (0 : Int) ∧ (0 : Int) < ((3 : Nat) : Int) ∧ (ptrOk A7_ fun a9_ => 0 ≤ x14 ∧ x14 < ((n7_ : Nat) : Int) ∧ (∃ v10_, ldv false 1 h (Addr.add (Addr.add a8_ (Int.toNat x14 * 3)) (Int.toNat (0 : Int) * 1)) = some v10_ ∧ ∃ x11_, v10_ = (Value.int .i64 x11_) ∧ 0 ≤ (0 : Int) ∧ (0 : Int) < ((3 : Nat) : Int) ∧ (∃ h12_, st1 h (Addr.add (Addr.add a9_ (Int.toNat x14 * 3)) (Int.toNat (0 : Int) * 1)) (Value.int .i64 (IntKind.wrap .i64 (x11_ + x15))) = some h12_ ∧ f11.j5 R x1 p9 a11 x17 (0 : Int) A86 n86 c86 x87 x88 v99 v100 v101 h12_))))) (f11.j5 R x1 p9 a11 x17 (6 : Int) A86 n86 c86 x87 x88 v99 v100 v101 h)))) (f11.j5 R x1 p9 a11 x17 x18 A86 n86 c86 x87 x88 v99 v100 v101 h)
set_option maxRecDepth 100000 in
theorem f11.j7_in {R : Value → Heap → Prop} {x1 : Int} {p9 : Option Addr} {a11 : Addr} {x14 : Int} {x15 : Int} {x17 : Int} {x18 : Int} {A86 : Option Addr} {n86 : Nat} {c86 : Nat} {x87 : Int} {x88 : Int} {v99 : Value} {v100 : Value} {v101 : Value} {v113 : Value} {v114 : Value} {v117 : Value} {v118 : Value} {b119 : Bool} {h : Heap} (H : f11.j7T R x1 p9 a11 x14 x15 x17 x18 A86 n86 c86 x87 x88 v99 v100 v101 v113 v114 v117 v118 b119 h) : f11.j7 R x1 p9 a11 x14 x15 x17 x18 A86 n86 c86 x87 x88 v99 v100 v101 v113 v114 v117 v118 b119 h :=
  pt_intro mixed f11.good (Eq.mpr (show (Fwd Try.prog f11.T f11.kp Try.f11 R [true, true, false, true, false, true, false, true, true, true, true, false, false, true, true, false, false, true, false, true, true, true, true, true, true] (mkFr [(1, (Value.int .i64 x1)), (9, (Value.pointer p9)), (11, (Value.pointer (some a11))), (14, (Value.int .i64 x14)), (15, (Value.int .i64 x15)), (17, (Value.int .i64 x17)), (18, (Value.int .i64 x18)), (86, (Value.slice A86 n86 c86)), (87, (Value.int .i64 x87)), (88, (Value.int .i64 x88)), (99, v99), (100, v100), (101, v101), (113, v113), (114, v114), (117, v117), (118, v118), (119, (Value.bool b119))]) h) = (f11.j7T R x1 p9 a11 x14 x15 x17 x18 A86 n86 c86 x87 x88 v99 v100 v101 v113 v114 v117 v118 b119 h) by kernel_rfl) H)
set_option maxRecDepth 100000 in
def f11.j5T (R : Value → Heap → Prop) (x1 : Int) (p9 : Option Addr) (a11 : Addr) (x17 : Int) (x18 : Int) (A86 : Option Addr) (n86 : Nat) (c86 : Nat) (x87 : Int) (x88 : Int) (v99 : Value) (v100 : Value) (v101 : Value) (h : Heap) : Prop :=
  Run Try.prog 68 #[(Value.pointer (some a11))] h fun v1_ h2_ => v1_ = (Value.tuple #[]) ∧ splitB (x17 != x18) (R (Value.bool false) h2_) (Run Try.prog 69 #[(Value.pointer p9)] h2_ fun v3_ h4_ => ∃ x5_, v3_ = (Value.int .i64 x5_) ∧ Run Try.prog 70 #[(Value.pointer (some a11))] h4_ fun v6_ h7_ => ∃ x8_, v6_ = (Value.int .i64 x8_) ∧ splitB (x5_ != x8_) (R (Value.bool false) h7_) (f11.j6 R x1 p9 a11 A86 n86 c86 x87 x88 v99 v100 v101 p9 x5_ a11 x8_ (x5_ != x8_) h7_))
set_option maxRecDepth 100000 in
theorem f11.j5_in {R : Value → Heap → Prop} {x1 : Int} {p9 : Option Addr} {a11 : Addr} {x17 : Int} {x18 : Int} {A86 : Option Addr} {n86 : Nat} {c86 : Nat} {x87 : Int} {x88 : Int} {v99 : Value} {v100 : Value} {v101 : Value} {h : Heap} (H : f11.j5T R x1 p9 a11 x17 x18 A86 n86 c86 x87 x88 v99 v100 v101 h) : f11.j5 R x1 p9 a11 x17 x18 A86 n86 c86 x87 x88 v99 v100 v101 h :=
  pt_intro mixed f11.good (Eq.mpr (show (Fwd Try.prog f11.T f11.kp Try.f11 R [true, true, true, true, true, false, false, true, true, false, false, true, false, true, true, true, true, true, true] (mkFr [(1, (Value.int .i64 x1)), (9, (Value.pointer p9)), (11, (Value.pointer (some a11))), (17, (Value.int .i64 x17)), (18, (Value.int .i64 x18)), (86, (Value.slice A86 n86 c86)), (87, (Value.int .i64 x87)), (88, (Value.int .i64 x88)), (99, v99), (100, v100), (101, v101)]) h) = (f11.j5T R x1 p9 a11 x17 x18 A86 n86 c86 x87 x88 v99 v100 v101 h) by kernel_rfl) H)
set_option maxRecDepth 100000 in
def f11.j6T (R : Value → Heap → Prop) (x1 : Int) (p9 : Option Addr) (a11 : Addr) (A86 : Option Addr) (n86 : Nat) (c86 : Nat) (x87 : Int) (x88 : Int) (v99 : Value) (v100 : Value) (v101 : Value) (p225 : Option Addr) (x226 : Int) (a227 : Addr) (x228 : Int) (b229 : Bool) (h : Heap) : Prop :=
  f11.l1 R x1 p9 a11 (-1 : Int) A86 n86 c86 x87 x88 v99 v100 v101 p225 x226 a227 x228 b229 h
set_option maxRecDepth 100000 in
theorem f11.j6_in {R : Value → Heap → Prop} {x1 : Int} {p9 : Option Addr} {a11 : Addr} {A86 : Option Addr} {n86 : Nat} {c86 : Nat} {x87 : Int} {x88 : Int} {v99 : Value} {v100 : Value} {v101 : Value} {p225 : Option Addr} {x226 : Int} {a227 : Addr} {x228 : Int} {b229 : Bool} {h : Heap} (H : f11.j6T R x1 p9 a11 A86 n86 c86 x87 x88 v99 v100 v101 p225 x226 a227 x228 b229 h) : f11.j6 R x1 p9 a11 A86 n86 c86 x87 x88 v99 v100 v101 p225 x226 a227 x228 b229 h :=
  pt_intro mixed f11.good (Eq.mpr (show (Fwd Try.prog f11.T f11.kp Try.f11 R [true, true, true, true, true, true, true, false, false, true, true, false, false, true, false, true, true, true, true, true, true] (mkFr [(1, (Value.int .i64 x1)), (9, (Value.pointer p9)), (11, (Value.pointer (some a11))), (86, (Value.slice A86 n86 c86)), (87, (Value.int .i64 x87)), (88, (Value.int .i64 x88)), (99, v99), (100, v100), (101, v101), (225, (Value.pointer p225)), (226, (Value.int .i64 x226)), (227, (Value.pointer (some a227))), (228, (Value.int .i64 x228)), (229, (Value.bool b229))]) h) = (f11.j6T R x1 p9 a11 A86 n86 c86 x87 x88 v99 v100 v101 p225 x226 a227 x228 b229 h) by kernel_rfl) H)
set_option maxRecDepth 100000 in
def f11.l1T (R : Value → Heap → Prop) (x1 : Int) (p9 : Option Addr) (a11 : Addr) (x19 : Int) (A86 : Option Addr) (n86 : Nat) (c86 : Nat) (x87 : Int) (x88 : Int) (v99 : Value) (v100 : Value) (v101 : Value) (p225 : Option Addr) (x226 : Int) (a227 : Addr) (x228 : Int) (b229 : Bool) (h : Heap) : Prop :=
  splitB (decide (x19 ≤ x1)) (Run Try.prog 71 #[(Value.pointer p9), (Value.int .i64 x19)] h fun v1_ h2_ => ∃ x3_, ∃ x4_, ∃ x5_, ∃ x6_, v1_ = (Value.tuple #[(Value.int .i64 x3_), (Value.int .i64 x4_), (Value.int .i64 x5_), (Value.int .i64 x6_)]) ∧ splitB (decide (x19 < (0 : Int))) (f11.j9 R x1 p9 a11 x19 x3_ x4_ x5_ x6_ A86 n86 c86 x87 x88 v99 v100 v101 p225 x226 a227 x228 b229 (Value.tuple #[]) (Value.tuple #[]) (Value.tuple #[]) true h2_) (f11.j9 R x1 p9 a11 x19 x3_ x4_ x5_ x6_ A86 n86 c86 x87 x88 v99 v100 v101 p225 x226 a227 x228 b229 (Value.int .i64 x19) (Value.int .i64 x1) (Value.bool (x19 == x1)) (x19 == x1) h2_)) (f11.l0 R x1 p9 a11 A86 n86 c86 x87 (IntKind.wrap .i64 (x88 + (1 : Int))) h)
set_option maxRecDepth 100000 in
theorem f11.l1_in {R : Value → Heap → Prop} {x1 : Int} {p9 : Option Addr} {a11 : Addr} {x19 : Int} {A86 : Option Addr} {n86 : Nat} {c86 : Nat} {x87 : Int} {x88 : Int} {v99 : Value} {v100 : Value} {v101 : Value} {p225 : Option Addr} {x226 : Int} {a227 : Addr} {x228 : Int} {b229 : Bool} {h : Heap} (H : f11.l1T R x1 p9 a11 x19 A86 n86 c86 x87 x88 v99 v100 v101 p225 x226 a227 x228 b229 h) : f11.l1 R x1 p9 a11 x19 A86 n86 c86 x87 x88 v99 v100 v101 p225 x226 a227 x228 b229 h :=
  pt_intro mixed f11.good (Eq.mpr (show (Fwd Try.prog f11.T f11.kp Try.f11 R [false, false, true, true, true, true, true, true, true, true, false, false, true, true, false, false, true, false, true, true, true, true, true, true] (mkFr [(1, (Value.int .i64 x1)), (9, (Value.pointer p9)), (11, (Value.pointer (some a11))), (19, (Value.int .i64 x19)), (86, (Value.slice A86 n86 c86)), (87, (Value.int .i64 x87)), (88, (Value.int .i64 x88)), (99, v99), (100, v100), (101, v101), (225, (Value.pointer p225)), (226, (Value.int .i64 x226)), (227, (Value.pointer (some a227))), (228, (Value.int .i64 x228)), (229, (Value.bool b229))]) h) = (f11.l1T R x1 p9 a11 x19 A86 n86 c86 x87 x88 v99 v100 v101 p225 x226 a227 x228 b229 h) by kernel_rfl) H)
set_option maxRecDepth 100000 in
def f11.j9T (R : Value → Heap → Prop) (x1 : Int) (p9 : Option Addr) (a11 : Addr) (x19 : Int) (x20 : Int) (x21 : Int) (x22 : Int) (x23 : Int) (A86 : Option Addr) (n86 : Nat) (c86 : Nat) (x87 : Int) (x88 : Int) (v99 : Value) (v100 : Value) (v101 : Value) (p225 : Option Addr) (x226 : Int) (a227 : Addr) (x228 : Int) (b229 : Bool) (v247 : Value) (v248 : Value) (v249 : Value) (b250 : Bool) (h : Heap) : Prop :=
  splitB b250 (splitB (x23 != (1 : Int)) (R (Value.bool false) h) (splitB (x20 != (0 : Int)) (R (Value.bool false) h) (splitB (x21 != (0 : Int)) (R (Value.bool false) h) (splitB (x22 != (0 : Int)) (R (Value.bool false) h) (f11.j8 R x1 p9 a11 x19 A86 n86 c86 x87 x88 v99 v100 v101 p225 x226 a227 x228 b229 v247 v248 v249 h))))) (splitB (x23 != (0 : Int)) (R (Value.bool false) h) (∃ v1_, ldv false 1 h (Addr.add a11 2) = some v1_ ∧ ∃ A2_, ∃ n2_, ∃ c2_, v1_ = (Value.slice A2_ n2_ c2_) ∧ ptrOk A2_ fun a3_ => 0 ≤ x19 ∧ x19 < ((n2_ : Nat) : Int) ∧ (∃ v4_, ldv true 3 h (Addr.add a3_ (Int.toNat x19 * 3)) = some v4_ ∧ Gen Try.prog (do eqGuard .neq 97 (.tmp 271) (.tmp 278) (Value.agg #[(Value.int .i64 x20), (Value.int .i64 x21), (Value.int .i64 x22)]) v4_; binOp .neq 97 (Value.agg #[(Value.int .i64 x20), (Value.int .i64 x21), (Value.int .i64 x22)]) v4_) h fun v5_ h6_ => ∃ b7_, v5_ = Value.bool b7_ ∧ splitB b7_ (R (Value.bool false) h6_) (f11.j8 R x1 p9 a11 x19 A86 n86 c86 x87 x88 v99 v100 v101 p225 x226 a227 x228 b229 v247 v248 v249 h6_))))
set_option maxRecDepth 100000 in
theorem f11.j9_in {R : Value → Heap → Prop} {x1 : Int} {p9 : Option Addr} {a11 : Addr} {x19 : Int} {x20 : Int} {x21 : Int} {x22 : Int} {x23 : Int} {A86 : Option Addr} {n86 : Nat} {c86 : Nat} {x87 : Int} {x88 : Int} {v99 : Value} {v100 : Value} {v101 : Value} {p225 : Option Addr} {x226 : Int} {a227 : Addr} {x228 : Int} {b229 : Bool} {v247 : Value} {v248 : Value} {v249 : Value} {b250 : Bool} {h : Heap} (H : f11.j9T R x1 p9 a11 x19 x20 x21 x22 x23 A86 n86 c86 x87 x88 v99 v100 v101 p225 x226 a227 x228 b229 v247 v248 v249 b250 h) : f11.j9 R x1 p9 a11 x19 x20 x21 x22 x23 A86 n86 c86 x87 x88 v99 v100 v101 p225 x226 a227 x228 b229 v247 v248 v249 b250 h :=
  pt_intro mixed f11.good (Eq.mpr (show (Fwd Try.prog f11.T f11.kp Try.f11 R [true, true, false, false, true, false, false, true, true, true, true, true, true, true, true, false, false, true, true, false, false, true, false, true, true, true, true, true, true] (mkFr [(1, (Value.int .i64 x1)), (9, (Value.pointer p9)), (11, (Value.pointer (some a11))), (19, (Value.int .i64 x19)), (20, (Value.int .i64 x20)), (21, (Value.int .i64 x21)), (22, (Value.int .i64 x22)), (23, (Value.int .i64 x23)), (86, (Value.slice A86 n86 c86)), (87, (Value.int .i64 x87)), (88, (Value.int .i64 x88)), (99, v99), (100, v100), (101, v101), (225, (Value.pointer p225)), (226, (Value.int .i64 x226)), (227, (Value.pointer (some a227))), (228, (Value.int .i64 x228)), (229, (Value.bool b229)), (247, v247), (248, v248), (249, v249), (250, (Value.bool b250))]) h) = (f11.j9T R x1 p9 a11 x19 x20 x21 x22 x23 A86 n86 c86 x87 x88 v99 v100 v101 p225 x226 a227 x228 b229 v247 v248 v249 b250 h) by kernel_rfl) H)
set_option maxRecDepth 100000 in
def f11.j8T (R : Value → Heap → Prop) (x1 : Int) (p9 : Option Addr) (a11 : Addr) (x19 : Int) (A86 : Option Addr) (n86 : Nat) (c86 : Nat) (x87 : Int) (x88 : Int) (v99 : Value) (v100 : Value) (v101 : Value) (p225 : Option Addr) (x226 : Int) (a227 : Addr) (x228 : Int) (b229 : Bool) (v247 : Value) (v248 : Value) (v249 : Value) (h : Heap) : Prop :=
  f11.l1 R x1 p9 a11 (IntKind.wrap .i64 (x19 + (1 : Int))) A86 n86 c86 x87 x88 v99 v100 v101 p225 x226 a227 x228 b229 h
set_option maxRecDepth 100000 in
theorem f11.j8_in {R : Value → Heap → Prop} {x1 : Int} {p9 : Option Addr} {a11 : Addr} {x19 : Int} {A86 : Option Addr} {n86 : Nat} {c86 : Nat} {x87 : Int} {x88 : Int} {v99 : Value} {v100 : Value} {v101 : Value} {p225 : Option Addr} {x226 : Int} {a227 : Addr} {x228 : Int} {b229 : Bool} {v247 : Value} {v248 : Value} {v249 : Value} {h : Heap} (H : f11.j8T R x1 p9 a11 x19 A86 n86 c86 x87 x88 v99 v100 v101 p225 x226 a227 x228 b229 v247 v248 v249 h) : f11.j8 R x1 p9 a11 x19 A86 n86 c86 x87 x88 v99 v100 v101 p225 x226 a227 x228 b229 v247 v248 v249 h :=
  pt_intro mixed f11.good (Eq.mpr (show (Fwd Try.prog f11.T f11.kp Try.f11 R [true, true, false, false, true, true, true, true, true, true, true, true, false, false, true, true, false, false, true, false, true, true, true, true, true, true] (mkFr [(1, (Value.int .i64 x1)), (9, (Value.pointer p9)), (11, (Value.pointer (some a11))), (19, (Value.int .i64 x19)), (86, (Value.slice A86 n86 c86)), (87, (Value.int .i64 x87)), (88, (Value.int .i64 x88)), (99, v99), (100, v100), (101, v101), (225, (Value.pointer p225)), (226, (Value.int .i64 x226)), (227, (Value.pointer (some a227))), (228, (Value.int .i64 x228)), (229, (Value.bool b229)), (247, v247), (248, v248), (249, v249)]) h) = (f11.j8T R x1 p9 a11 x19 A86 n86 c86 x87 x88 v99 v100 v101 p225 x226 a227 x228 b229 v247 v248 v249 h) by kernel_rfl) H)
set_option maxRecDepth 100000 in
def f11.runT (R : Value → Heap → Prop) (x0 : Int) (x1 : Int) (A2 : Option Addr) (n2 : Nat) (c2 : Nat) (h : Heap) : Prop :=
  Run Try.prog 63 #[(Value.int .i64 (1 : Int)), (Value.int .i64 (2 : Int))] h fun v1_ h2_ => ∃ p3_, ∃ x4_, v1_ = (Value.tuple #[(Value.pointer p3_), (Value.int .i64 x4_)]) ∧ splitB (x4_ != (0 : Int)) (R (Value.bool false) h2_) (splitB (Option.isNone p3_) (R (Value.bool false) h2_) (Run Try.prog 64 #[(Value.pointer p3_), (Value.int .i64 (1 : Int)), (Value.int .i64 (2 : Int))] h2_ fun v5_ h6_ => ∃ x7_, v5_ = (Value.int .i64 x7_) ∧ splitB (x7_ != (0 : Int)) (R (Value.bool false) h6_) (Run Try.prog 65 #[(Value.pointer p3_), (Value.int .i64 (1 : Int))] h6_ fun v8_ h9_ => ∃ x10_, v8_ = (Value.int .i64 x10_) ∧ splitB (x10_ != (0 : Int)) (R (Value.bool false) h9_) (Run Try.prog 65 #[(Value.pointer p3_), (Value.int .i64 (1 : Int))] h9_ fun v11_ h12_ => ∃ x13_, v11_ = (Value.int .i64 x13_) ∧ splitB (x13_ != (9 : Int)) (R (Value.bool false) h12_) (f11.j0 R x0 x1 A2 n2 c2 h12_)))))
set_option maxRecDepth 100000 in
theorem f11.run {R : Value → Heap → Prop} {x0 : Int} {x1 : Int} {A2 : Option Addr} {n2 : Nat} {c2 : Nat} {h : Heap} (H : f11.runT R x0 x1 A2 n2 c2 h) : Run Try.prog 11 #[(Value.int .i64 x0), (Value.int .i64 x1), (Value.slice A2 n2 c2)] h R :=
  run_of mixed Try.func11 (by kernel_rfl) (by kernel_rfl) f11.good (Eq.mpr (show (Fwd Try.prog f11.T f11.kp Try.f11 R [] (mkFr (argL [(Value.int .i64 x0), (Value.int .i64 x1), (Value.slice A2 n2 c2)] 0)) h) = (f11.runT R x0 x1 A2 n2 c2 h) by kernel_rfl) H)

/-! ### roadstead/roadref3.Deep: function 117 -/
def f117.T : Tab := { sh := tSh, tup := tTup, keep := [], plan := [] }
def f117.kp : Keep := [([false, false, true, false, true, true], [4, 5, 11, 12, 13])]
theorem f117.good : goodCode Try.prog f117.T (rootOf Try.f117) = true := by kernel_rfl
set_option maxRecDepth 100000 in
theorem f117.ok : calleeOk Try.prog 117 = true := by kernel_rfl
def f117.l0 (R : Value → Heap → Prop) (x4 : Int) (x5 : Int) (A11 : Option Addr) (n11 : Nat) (c11 : Nat) (x12 : Int) (x13 : Int) (h : Heap) : Prop := Pt Try.prog Try.f117 R [false, false, true, false, true, true] (mkFr [(4, (Value.int .i64 x4)), (5, (Value.int .i64 x5)), (11, (Value.slice A11 n11 c11)), (12, (Value.int .i64 x12)), (13, (Value.int .i64 x13))]) h
set_option maxRecDepth 100000 in
def f117.l0T (R : Value → Heap → Prop) (x4 : Int) (x5 : Int) (A11 : Option Addr) (n11 : Nat) (c11 : Nat) (x12 : Int) (x13 : Int) (h : Heap) : Prop :=
  splitB (decide (x13 < x12)) (ptrOk A11 fun a1_ => 0 ≤ x13 ∧ x13 < ((n11 : Nat) : Int) ∧ (∃ v2_, ldv true 4 h (Addr.add a1_ (Int.toNat x13 * 4)) = some v2_ ∧ newH h (Obj.cells #[(Value.int .i64 (0 : Int)), (Value.int .i64 (0 : Int)), (Value.string (ByteArray.mk #[])), (Value.slice none 0 0)] 42) fun h3_ => ∃ l5_ : List Value, v2_ = Value.agg l5_.toArray ∧ l5_.length = 4 ∧ ∃ h4_, stH h3_ (⟨Array.size h, 0, none⟩) l5_ 0 = some h4_ ∧ ∃ v6_, ldv true 4 h4_ (⟨Array.size h, 0, none⟩) = some v6_ ∧ Run Try.prog 117 #[v6_] h4_ fun v7_ h8_ => ∃ x9_, ∃ x10_, v7_ = (Value.tuple #[(Value.int .i64 x9_), (Value.int .i64 x10_)]) ∧ f117.l0 R (if x9_ > x4 then x9_ else x4) (IntKind.wrap .i64 (x5 + x10_)) A11 n11 c11 x12 (IntKind.wrap .i64 (x13 + (1 : Int))) h8_)) (R (Value.tuple #[(Value.int .i64 (IntKind.wrap .i64 (x4 + (1 : Int)))), (Value.int .i64 x5)]) h)
set_option maxRecDepth 100000 in
theorem f117.l0_in {R : Value → Heap → Prop} {x4 : Int} {x5 : Int} {A11 : Option Addr} {n11 : Nat} {c11 : Nat} {x12 : Int} {x13 : Int} {h : Heap} (H : f117.l0T R x4 x5 A11 n11 c11 x12 x13 h) : f117.l0 R x4 x5 A11 n11 c11 x12 x13 h :=
  pt_intro mixed f117.good (Eq.mpr (show (Fwd Try.prog f117.T f117.kp Try.f117 R [false, false, true, false, true, true] (mkFr [(4, (Value.int .i64 x4)), (5, (Value.int .i64 x5)), (11, (Value.slice A11 n11 c11)), (12, (Value.int .i64 x12)), (13, (Value.int .i64 x13))]) h) = (f117.l0T R x4 x5 A11 n11 c11 x12 x13 h) by kernel_rfl) H)
set_option maxRecDepth 100000 in
def f117.runT (R : Value → Heap → Prop) (v0 : Value) (h : Heap) : Prop :=
  newH h (Obj.cells ((v0).cells) 42) fun h1_ => ∃ v2_, ldv false 1 h1_ (Addr.add (⟨Array.size h, 0, none⟩) 3) = some v2_ ∧ ∃ A3_, ∃ n3_, ∃ c3_, v2_ = (Value.slice A3_ n3_ c3_) ∧ f117.l0 R (0 : Int) (1 : Int) A3_ n3_ c3_ ((n3_ : Nat) : Int) (0 : Int) h1_
set_option maxRecDepth 100000 in
theorem f117.run {R : Value → Heap → Prop} {v0 : Value} {h : Heap} (H : f117.runT R v0 h) : Run Try.prog 117 #[v0] h R :=
  run_of mixed Try.func117 (by kernel_rfl) (by kernel_rfl) f117.good (Eq.mpr (show (Fwd Try.prog f117.T f117.kp Try.f117 R [] (mkFr (argL [v0] 0)) h) = (f117.runT R v0 h) by kernel_rfl) H)

/-! ### roadstead/roadlaw3.flat: function 72 -/
def f72.T : Tab := { sh := tSh, tup := tTup, keep := [], plan := [] }
def f72.kp : Keep := []
theorem f72.good : goodCode Try.prog f72.T (rootOf Try.f72) = true := by kernel_rfl
set_option maxRecDepth 100000 in
theorem f72.ok : calleeOk Try.prog 72 = true := by kernel_rfl
set_option maxRecDepth 100000 in
def f72.runT (R : Value → Heap → Prop) (v0 : Value) (h : Heap) : Prop :=
  newH h (Obj.cells ((v0).cells) 42) fun h1_ => ∃ v2_, ldv true 4 h1_ (⟨Array.size h, 0, none⟩) = some v2_ ∧ Run Try.prog 117 #[v2_] h1_ fun v3_ h4_ => ∃ x5_, ∃ x6_, v3_ = (Value.tuple #[(Value.int .i64 x5_), (Value.int .i64 x6_)]) ∧ splitB (decide (x5_ ≤ (60 : Int))) (R (Value.bool (decide (x6_ ≤ (500 : Int)))) h4_) (R (Value.bool false) h4_)
set_option maxRecDepth 100000 in
theorem f72.run {R : Value → Heap → Prop} {v0 : Value} {h : Heap} (H : f72.runT R v0 h) : Run Try.prog 72 #[v0] h R :=
  run_of mixed Try.func72 (by kernel_rfl) (by kernel_rfl) f72.good (Eq.mpr (show (Fwd Try.prog f72.T f72.kp Try.f72 R [] (mkFr (argL [v0] 0)) h) = (f72.runT R v0 h) by kernel_rfl) H)

/-! ### roadstead/box.Check: function 77 -/
def f77.T : Tab := { sh := tSh, tup := tTup, keep := [], plan := [] }
def f77.kp : Keep := [([true, true], [1]), ([false, false, true, false, true, true], [23, 24, 25])]
theorem f77.good : goodCode Try.prog f77.T (rootOf Try.f77) = true := by kernel_rfl
set_option maxRecDepth 100000 in
theorem f77.ok : calleeOk Try.prog 77 = true := by kernel_rfl
def f77.j0 (R : Value → Heap → Prop) (a1 : Addr) (h : Heap) : Prop := Pt Try.prog Try.f77 R [true, true] (mkFr [(1, (Value.pointer (some a1)))]) h
def f77.l0 (R : Value → Heap → Prop) (A23 : Option Addr) (n23 : Nat) (c23 : Nat) (x24 : Int) (x25 : Int) (h : Heap) : Prop := Pt Try.prog Try.f77 R [false, false, true, false, true, true] (mkFr [(23, (Value.slice A23 n23 c23)), (24, (Value.int .i64 x24)), (25, (Value.int .i64 x25))]) h
set_option maxRecDepth 100000 in
def f77.j0T (R : Value → Heap → Prop) (a1 : Addr) (h : Heap) : Prop :=
  ∃ v1_, ldv false 1 h a1 = some v1_ ∧ ∃ A2_, ∃ n2_, ∃ c2_, v1_ = (Value.slice A2_ n2_ c2_) ∧ f77.l0 R A2_ n2_ c2_ ((n2_ : Nat) : Int) (0 : Int) h
set_option maxRecDepth 100000 in
theorem f77.j0_in {R : Value → Heap → Prop} {a1 : Addr} {h : Heap} (H : f77.j0T R a1 h) : f77.j0 R a1 h :=
  pt_intro mixed f77.good (Eq.mpr (show (Fwd Try.prog f77.T f77.kp Try.f77 R [true, true] (mkFr [(1, (Value.pointer (some a1)))]) h) = (f77.j0T R a1 h) by kernel_rfl) H)
set_option maxRecDepth 100000 in
def f77.l0T (R : Value → Heap → Prop) (A23 : Option Addr) (n23 : Nat) (c23 : Nat) (x24 : Int) (x25 : Int) (h : Heap) : Prop :=
  splitB (decide (x25 < x24)) (ptrOk A23 fun a1_ => 0 ≤ x25 ∧ x25 < ((n23 : Nat) : Int) ∧ (∃ v2_, ldv true 9 h (Addr.add a1_ (Int.toNat x25 * 9)) = some v2_ ∧ newH h (Obj.cells #[(Value.int .i64 (0 : Int)), (Value.int .i64 (0 : Int)), (Value.int .i64 (0 : Int)), (Value.int .i64 (0 : Int)), (Value.string (ByteArray.mk #[])), (Value.int .i64 (0 : Int)), (Value.int .i64 (0 : Int)), (Value.string (ByteArray.mk #[])), (Value.slice none 0 0)] 106) fun h3_ => ∃ l5_ : List Value, v2_ = Value.agg l5_.toArray ∧ l5_.length = 9 ∧ ∃ h4_, stH h3_ (⟨Array.size h, 0, none⟩) l5_ 0 = some h4_ ∧ ∃ v6_, ldv false 1 h4_ (⟨Array.size h, 0, none⟩) = some v6_ ∧ ∃ x7_, v6_ = (Value.int .i64 x7_) ∧ splitB (x7_ != (1 : Int)) (∃ v8_, ldv false 1 h4_ (⟨Array.size h, 0, none⟩) = some v8_ ∧ ∃ x9_, v8_ = (Value.int .i64 x9_) ∧ splitB (x9_ != (2 : Int)) (R (Value.int .i64 (3 : Int)) h4_) (f77.l0 R A23 n23 c23 x24 (IntKind.wrap .i64 (x25 + (1 : Int))) h4_)) (f77.l0 R A23 n23 c23 x24 (IntKind.wrap .i64 (x25 + (1 : Int))) h4_))) (R (Value.int .i64 (0 : Int)) h)
set_option maxRecDepth 100000 in
theorem f77.l0_in {R : Value → Heap → Prop} {A23 : Option Addr} {n23 : Nat} {c23 : Nat} {x24 : Int} {x25 : Int} {h : Heap} (H : f77.l0T R A23 n23 c23 x24 x25 h) : f77.l0 R A23 n23 c23 x24 x25 h :=
  pt_intro mixed f77.good (Eq.mpr (show (Fwd Try.prog f77.T f77.kp Try.f77 R [false, false, true, false, true, true] (mkFr [(23, (Value.slice A23 n23 c23)), (24, (Value.int .i64 x24)), (25, (Value.int .i64 x25))]) h) = (f77.l0T R A23 n23 c23 x24 x25 h) by kernel_rfl) H)
set_option maxRecDepth 100000 in
def f77.runT (R : Value → Heap → Prop) (v0 : Value) (h : Heap) : Prop :=
  newH h (Obj.cells ((v0).cells) 104) fun h1_ => ∃ v2_, ldv false 1 h1_ (⟨Array.size h, 0, none⟩) = some v2_ ∧ ∃ A3_, ∃ n3_, ∃ c3_, v2_ = (Value.slice A3_ n3_ c3_) ∧ splitB (decide (((n3_ : Nat) : Int) > (60 : Int))) (R (Value.int .i64 (2 : Int)) h1_) (∃ v4_, ldv false 1 h1_ (Addr.add (⟨Array.size h, 0, none⟩) 1) = some v4_ ∧ ∃ x5_, v4_ = (Value.int .i64 x5_) ∧ splitB (decide (x5_ < (0 : Int))) (R (Value.int .i64 (1 : Int)) h1_) (∃ v6_, ldv false 1 h1_ (Addr.add (⟨Array.size h, 0, none⟩) 1) = some v6_ ∧ ∃ x7_, v6_ = (Value.int .i64 x7_) ∧ ∃ v8_, ldv false 1 h1_ (⟨Array.size h, 0, none⟩) = some v8_ ∧ ∃ A9_, ∃ n9_, ∃ c9_, v8_ = (Value.slice A9_ n9_ c9_) ∧ splitB (decide (x7_ > ((n9_ : Nat) : Int))) (R (Value.int .i64 (1 : Int)) h1_) (f77.j0 R (⟨Array.size h, 0, none⟩) h1_)))
set_option maxRecDepth 100000 in
theorem f77.run {R : Value → Heap → Prop} {v0 : Value} {h : Heap} (H : f77.runT R v0 h) : Run Try.prog 77 #[v0] h R :=
  run_of mixed Try.func77 (by kernel_rfl) (by kernel_rfl) f77.good (Eq.mpr (show (Fwd Try.prog f77.T f77.kp Try.f77 R [] (mkFr (argL [v0] 0)) h) = (f77.runT R v0 h) by kernel_rfl) H)

/-! ### slices.Clone[[]roadstead/api.Letter,roadstead/api.Letter]: function 83 -/
def f83.T : Tab := { sh := tSh, tup := tTup, keep := [], plan := [] }
def f83.kp : Keep := []
theorem f83.good : goodCode Try.prog f83.T (rootOf Try.f83) = true := by kernel_rfl
set_option maxRecDepth 100000 in
theorem f83.ok : calleeOk Try.prog 83 = true := by kernel_rfl
set_option maxRecDepth 100000 in
def f83.runT (R : Value → Heap → Prop) (A0 : Option Addr) (n0 : Nat) (c0 : Nat) (h : Heap) : Prop :=
  splitB (Option.isNone A0) (R (Value.slice none 0 0) h) (newH h (Obj.cells #[] 106) fun h1_ => AppW 106 9 104 #[(Value.int .i64 (0 : Int)), (Value.int .i64 (0 : Int)), (Value.int .i64 (0 : Int)), (Value.int .i64 (0 : Int)), (Value.string (ByteArray.mk #[])), (Value.int .i64 (0 : Int)), (Value.int .i64 (0 : Int)), (Value.string (ByteArray.mk #[])), (Value.slice none 0 0)] (some ⟨Array.size h, 0, none⟩) 0 0 (Value.slice A0 n0 c0) h1_ fun v2_ h3_ => ∃ A4_, ∃ n4_, ∃ c4_, v2_ = (Value.slice A4_ n4_ c4_) ∧ R (Value.slice A4_ n4_ c4_) h3_)
set_option maxRecDepth 100000 in
theorem f83.run {R : Value → Heap → Prop} {A0 : Option Addr} {n0 : Nat} {c0 : Nat} {h : Heap} (H : f83.runT R A0 n0 c0 h) : Run Try.prog 83 #[(Value.slice A0 n0 c0)] h R :=
  run_of mixed Try.func83 (by kernel_rfl) (by kernel_rfl) f83.good (Eq.mpr (show (Fwd Try.prog f83.T f83.kp Try.f83 R [] (mkFr (argL [(Value.slice A0 n0 c0)] 0)) h) = (f83.runT R A0 n0 c0 h) by kernel_rfl) H)

/-! ### roadstead/box.Put: function 73 -/
def f73.T : Tab := { sh := tSh, tup := tTup, keep := [], plan := [(8, (.take 0 (.take 6 (.take 1 (.take 3 (.take 7 (.alt true 2 (.eff true 4 (.eff true 5 (.eff false 8 (.eff false 9 (.take 10 .done))))) (.eff true 4 (.eff true 2 (.eff true 5 (.eff false 8 (.eff false 9 (.take 10 .done)))))))))))))] }
def f73.kp : Keep := [([true, true, true, false, false, true, true], [2, 3, 4, 14]), ([true, true, true], [2, 3, 4])]
theorem f73.good : goodCode Try.prog f73.T (rootOf Try.f73) = true := by kernel_rfl
set_option maxRecDepth 100000 in
theorem f73.ok : calleeOk Try.prog 73 = true := by kernel_rfl
def f73.j1 (R : Value → Heap → Prop) (a2 : Addr) (a3 : Addr) (a4 : Addr) (b14 : Bool) (h : Heap) : Prop := Pt Try.prog Try.f73 R [true, true, true, false, false, true, true] (mkFr [(2, (Value.pointer (some a2))), (3, (Value.pointer (some a3))), (4, (Value.pointer (some a4))), (14, (Value.bool b14))]) h
def f73.j0 (R : Value → Heap → Prop) (a2 : Addr) (a3 : Addr) (a4 : Addr) (h : Heap) : Prop := Pt Try.prog Try.f73 R [true, true, true] (mkFr [(2, (Value.pointer (some a2))), (3, (Value.pointer (some a3))), (4, (Value.pointer (some a4)))]) h
set_option maxRecDepth 100000 in
def f73.j1T (R : Value → Heap → Prop) (a2 : Addr) (a3 : Addr) (a4 : Addr) (b14 : Bool) (h : Heap) : Prop :=
  splitB b14 (∃ l2_ : List Value, (Value.agg #[(Value.slice none 0 0), (Value.int .i64 (0 : Int))]) = Value.agg l2_.toArray ∧ l2_.length = 2 ∧ ∃ h1_, stH h a4 l2_ 0 = some h1_ ∧ ∃ v3_, ldv true 2 h1_ a4 = some v3_ ∧ R (Value.tuple #[v3_, (Value.int .i64 (3 : Int))]) h1_) (∃ v4_, ldv false 1 h a2 = some v4_ ∧ ∃ A5_, ∃ n5_, ∃ c5_, v4_ = (Value.slice A5_ n5_ c5_) ∧ splitB (((n5_ : Nat) : Int) == (60 : Int)) (∃ l7_ : List Value, (Value.agg #[(Value.slice none 0 0), (Value.int .i64 (0 : Int))]) = Value.agg l7_.toArray ∧ l7_.length = 2 ∧ ∃ h6_, stH h a4 l7_ 0 = some h6_ ∧ ∃ v8_, ldv true 2 h6_ a4 = some v8_ ∧ R (Value.tuple #[v8_, (Value.int .i64 (6 : Int))]) h6_) (f73.j0 R a2 a3 a4 h))
set_option maxRecDepth 100000 in
theorem f73.j1_in {R : Value → Heap → Prop} {a2 : Addr} {a3 : Addr} {a4 : Addr} {b14 : Bool} {h : Heap} (H : f73.j1T R a2 a3 a4 b14 h) : f73.j1 R a2 a3 a4 b14 h :=
  pt_intro mixed f73.good (Eq.mpr (show (Fwd Try.prog f73.T f73.kp Try.f73 R [true, true, true, false, false, true, true] (mkFr [(2, (Value.pointer (some a2))), (3, (Value.pointer (some a3))), (4, (Value.pointer (some a4))), (14, (Value.bool b14))]) h) = (f73.j1T R a2 a3 a4 b14 h) by kernel_rfl) H)
set_option maxRecDepth 100000 in
def f73.j0T (R : Value → Heap → Prop) (a2 : Addr) (a3 : Addr) (a4 : Addr) (h : Heap) : Prop :=
  ∃ v1_, ldv false 1 h a2 = some v1_ ∧ ∃ A2_, ∃ n2_, ∃ c2_, v1_ = (Value.slice A2_ n2_ c2_) ∧ ∃ v3_, ldv true 9 h a3 = some v3_ ∧ ∃ v4_, ldv false 1 h (Addr.add a2 1) = some v4_ ∧ ∃ x5_, v4_ = (Value.int .i64 x5_) ∧ (Run Try.prog 83 #[(Value.slice A2_ n2_ c2_)] h fun v6_ h7_ => ∃ A8_, ∃ n8_, ∃ c8_, v6_ = (Value.slice A8_ n8_ c8_) ∧ Ext h h7_ ∧ (∃ l9_ : List Value, v3_ = Value.agg l9_.toArray ∧ l9_.length = 9 ∧ (newH h7_ (Obj.cells ((List.take 0 ([(Value.int .i64 (0 : Int)), (Value.int .i64 (0 : Int)), (Value.int .i64 (0 : Int)), (Value.int .i64 (0 : Int)), (Value.string (ByteArray.mk #[])), (Value.int .i64 (0 : Int)), (Value.int .i64 (0 : Int)), (Value.string (ByteArray.mk #[])), (Value.slice none 0 0)]) ++ l9_ ++ List.drop 9 ([(Value.int .i64 (0 : Int)), (Value.int .i64 (0 : Int)), (Value.int .i64 (0 : Int)), (Value.int .i64 (0 : Int)), (Value.string (ByteArray.mk #[])), (Value.int .i64 (0 : Int)), (Value.int .i64 (0 : Int)), (Value.string (ByteArray.mk #[])), (Value.slice none 0 0)])).toArray) 106) fun h10_ => Ext h7_ h10_ ∧ (AppW 106 9 104 #[(Value.int .i64 (0 : Int)), (Value.int .i64 (0 : Int)), (Value.int .i64 (0 : Int)), (Value.int .i64 (0 : Int)), (Value.string (ByteArray.mk #[])), (Value.int .i64 (0 : Int)), (Value.int .i64 (0 : Int)), (Value.string (ByteArray.mk #[])), (Value.slice none 0 0)] A8_ n8_ c8_ (Value.slice (some ⟨Array.size h7_, 0, none⟩) 1 1) h10_ fun v11_ h12_ => ∃ A13_, ∃ n13_, ∃ c13_, v11_ = (Value.slice A13_ n13_ c13_) ∧ Ext h10_ h12_ ∧ (∃ l15_ : List Value, (Value.agg #[(Value.slice A13_ n13_ c13_), (Value.int .i64 x5_)]) = Value.agg l15_.toArray ∧ l15_.length = 2 ∧ ∃ h14_, stH h12_ a4 l15_ 0 = some h14_ ∧ ∃ v16_, ldv true 2 h14_ a4 = some v16_ ∧ R (Value.tuple #[v16_, (Value.int .i64 (0 : Int))]) h14_))))) ∧ (∃ l17_ : List Value, v3_ = Value.agg l17_.toArray ∧ l17_.length = 9 ∧ (newH h (Obj.cells ((List.take 0 ([(Value.int .i64 (0 : Int)), (Value.int .i64 (0 : Int)), (Value.int .i64 (0 : Int)), (Value.int .i64 (0 : Int)), (Value.string (ByteArray.mk #[])), (Value.int .i64 (0 : Int)), (Value.int .i64 (0 : Int)), (Value.string (ByteArray.mk #[])), (Value.slice none 0 0)]) ++ l17_ ++ List.drop 9 ([(Value.int .i64 (0 : Int)), (Value.int .i64 (0 : Int)), (Value.int .i64 (0 : Int)), (Value.int .i64 (0 : Int)), (Value.string (ByteArray.mk #[])), (Value.int .i64 (0 : Int)), (Value.int .i64 (0 : Int)), (Value.string (ByteArray.mk #[])), (Value.slice none 0 0)])).toArray) 106) fun h18_ => Ext h h18_ ∧ (Run Try.prog 83 #[(Value.slice A2_ n2_ c2_)] h18_ fun v19_ h20_ => ∃ A21_, ∃ n21_, ∃ c21_, v19_ = (Value.slice A21_ n21_ c21_) ∧ Ext h18_ h20_ ∧ (AppW 106 9 104 #[(Value.int .i64 (0 : Int)), (Value.int .i64 (0 : Int)), (Value.int .i64 (0 : Int)), (Value.int .i64 (0 : Int)), (Value.string (ByteArray.mk #[])), (Value.int .i64 (0 : Int)), (Value.int .i64 (0 : Int)), (Value.string (ByteArray.mk #[])), (Value.slice none 0 0)] A21_ n21_ c21_ (Value.slice (some ⟨Array.size h, 0, none⟩) 1 1) h20_ fun v22_ h23_ => ∃ A24_, ∃ n24_, ∃ c24_, v22_ = (Value.slice A24_ n24_ c24_) ∧ Ext h20_ h23_ ∧ (∃ l26_ : List Value, (Value.agg #[(Value.slice A24_ n24_ c24_), (Value.int .i64 x5_)]) = Value.agg l26_.toArray ∧ l26_.length = 2 ∧ ∃ h25_, stH h23_ a4 l26_ 0 = some h25_ ∧ ∃ v27_, ldv true 2 h25_ a4 = some v27_ ∧ R (Value.tuple #[v27_, (Value.int .i64 (0 : Int))]) h25_)))))
set_option maxRecDepth 100000 in
theorem f73.j0_in {R : Value → Heap → Prop} {a2 : Addr} {a3 : Addr} {a4 : Addr} {h : Heap} (H : f73.j0T R a2 a3 a4 h) : f73.j0 R a2 a3 a4 h :=
  pt_intro mixed f73.good (Eq.mpr (show (Fwd Try.prog f73.T f73.kp Try.f73 R [true, true, true] (mkFr [(2, (Value.pointer (some a2))), (3, (Value.pointer (some a3))), (4, (Value.pointer (some a4)))]) h) = (f73.j0T R a2 a3 a4 h) by kernel_rfl) H)
set_option maxRecDepth 100000 in
def f73.runT (R : Value → Heap → Prop) (v0 : Value) (v1 : Value) (h : Heap) : Prop :=
  newH h (Obj.cells ((v0).cells) 104) fun h1_ => newH h1_ (Obj.cells ((v1).cells) 106) fun h2_ => newH h2_ (Obj.cells #[(Value.slice none 0 0), (Value.int .i64 (0 : Int))] 104) fun h3_ => ∃ v4_, ldv true 2 h3_ (⟨Array.size h, 0, none⟩) = some v4_ ∧ Run Try.prog 77 #[v4_] h3_ fun v5_ h6_ => ∃ x7_, v5_ = (Value.int .i64 x7_) ∧ splitB (x7_ != (0 : Int)) (∃ l9_ : List Value, (Value.agg #[(Value.slice none 0 0), (Value.int .i64 (0 : Int))]) = Value.agg l9_.toArray ∧ l9_.length = 2 ∧ ∃ h8_, stH h6_ (⟨Array.size h2_, 0, none⟩) l9_ 0 = some h8_ ∧ ∃ v10_, ldv true 2 h8_ (⟨Array.size h2_, 0, none⟩) = some v10_ ∧ R (Value.tuple #[v10_, (Value.int .i64 x7_)]) h8_) (∃ v11_, ldv false 1 h6_ (⟨Array.size h1_, 0, none⟩) = some v11_ ∧ ∃ x12_, v11_ = (Value.int .i64 x12_) ∧ splitB (x12_ != (1 : Int)) (∃ v13_, ldv false 1 h6_ (⟨Array.size h1_, 0, none⟩) = some v13_ ∧ ∃ x14_, v13_ = (Value.int .i64 x14_) ∧ f73.j1 R (⟨Array.size h, 0, none⟩) (⟨Array.size h1_, 0, none⟩) (⟨Array.size h2_, 0, none⟩) (x14_ != (2 : Int)) h6_) (f73.j1 R (⟨Array.size h, 0, none⟩) (⟨Array.size h1_, 0, none⟩) (⟨Array.size h2_, 0, none⟩) false h6_))
set_option maxRecDepth 100000 in
theorem f73.run {R : Value → Heap → Prop} {v0 : Value} {v1 : Value} {h : Heap} (H : f73.runT R v0 v1 h) : Run Try.prog 73 #[v0, v1] h R :=
  run_of mixed Try.func73 (by kernel_rfl) (by kernel_rfl) f73.good (Eq.mpr (show (Fwd Try.prog f73.T f73.kp Try.f73 R [] (mkFr (argL [v0, v1] 0)) h) = (f73.runT R v0 v1 h) by kernel_rfl) H)

/-! ### roadstead/box.Again: function 74 -/
def f74.T : Tab := { sh := tSh, tup := tTup, keep := [], plan := [] }
def f74.kp : Keep := []
theorem f74.good : goodCode Try.prog f74.T (rootOf Try.f74) = true := by kernel_rfl
set_option maxRecDepth 100000 in
theorem f74.ok : calleeOk Try.prog 74 = true := by kernel_rfl
set_option maxRecDepth 100000 in
def f74.runT (R : Value → Heap → Prop) (v0 : Value) (h : Heap) : Prop :=
  newH h (Obj.cells ((v0).cells) 104) fun h1_ => newH h1_ (Obj.cells #[(Value.slice none 0 0), (Value.int .i64 (0 : Int))] 104) fun h2_ => ∃ v3_, ldv true 2 h2_ (⟨Array.size h, 0, none⟩) = some v3_ ∧ Run Try.prog 77 #[v3_] h2_ fun v4_ h5_ => ∃ x6_, v4_ = (Value.int .i64 x6_) ∧ splitB (x6_ != (0 : Int)) (∃ l8_ : List Value, (Value.agg #[(Value.slice none 0 0), (Value.int .i64 (0 : Int))]) = Value.agg l8_.toArray ∧ l8_.length = 2 ∧ ∃ h7_, stH h5_ (⟨Array.size h1_, 0, none⟩) l8_ 0 = some h7_ ∧ ∃ v9_, ldv true 2 h7_ (⟨Array.size h1_, 0, none⟩) = some v9_ ∧ R (Value.tuple #[v9_, (Value.int .i64 x6_)]) h7_) (∃ v10_, ldv false 1 h5_ (⟨Array.size h, 0, none⟩) = some v10_ ∧ ∃ A11_, ∃ n11_, ∃ c11_, v10_ = (Value.slice A11_ n11_ c11_) ∧ Run Try.prog 83 #[(Value.slice A11_ n11_ c11_)] h5_ fun v12_ h13_ => ∃ A14_, ∃ n14_, ∃ c14_, v12_ = (Value.slice A14_ n14_ c14_) ∧ ∃ l16_ : List Value, (Value.agg #[(Value.slice A14_ n14_ c14_), (Value.int .i64 (0 : Int))]) = Value.agg l16_.toArray ∧ l16_.length = 2 ∧ ∃ h15_, stH h13_ (⟨Array.size h1_, 0, none⟩) l16_ 0 = some h15_ ∧ ∃ v17_, ldv true 2 h15_ (⟨Array.size h1_, 0, none⟩) = some v17_ ∧ R (Value.tuple #[v17_, (Value.int .i64 (0 : Int))]) h15_)
set_option maxRecDepth 100000 in
theorem f74.run {R : Value → Heap → Prop} {v0 : Value} {h : Heap} (H : f74.runT R v0 h) : Run Try.prog 74 #[v0] h R :=
  run_of mixed Try.func74 (by kernel_rfl) (by kernel_rfl) f74.good (Eq.mpr (show (Fwd Try.prog f74.T f74.kp Try.f74 R [] (mkFr (argL [v0] 0)) h) = (f74.runT R v0 h) by kernel_rfl) H)

/-! ### slices.IndexFunc[[]roadstead/api.Letter,roadstead/api.Letter]: function 132 -/
def f132.T : Tab := { sh := tSh, tup := tTup, keep := [], plan := [] }
def f132.kp : Keep := [([false, false, true, false, true], [0, 1, 7, 8])]
theorem f132.good : goodCode Try.prog f132.T (rootOf Try.f132) = true := by kernel_rfl
set_option maxRecDepth 100000 in
theorem f132.ok : calleeOk Try.prog 132 = true := by kernel_rfl
def f132.l0 (R : Value → Heap → Prop) (A0 : Option Addr) (n0 : Nat) (c0 : Nat) (v1 : Value) (x7 : Int) (x8 : Int) (h : Heap) : Prop := Pt Try.prog Try.f132 R [false, false, true, false, true] (mkFr [(0, (Value.slice A0 n0 c0)), (1, v1), (7, (Value.int .i64 x7)), (8, (Value.int .i64 x8))]) h
set_option maxRecDepth 100000 in
def f132.l0T (R : Value → Heap → Prop) (A0 : Option Addr) (n0 : Nat) (c0 : Nat) (v1 : Value) (x7 : Int) (x8 : Int) (h : Heap) : Prop :=
  splitB (decide (x8 < x7)) (ptrOk A0 fun a1_ => 0 ≤ x8 ∧ x8 < ((n0 : Nat) : Int) ∧ (∃ v2_, ldv true 9 h (Addr.add a1_ (Int.toNat x8 * 9)) = some v2_ ∧ CallF Try.prog v1 [v2_] h fun v3_ h4_ => ∃ b5_, v3_ = (Value.bool b5_) ∧ splitB b5_ (R (Value.int .i64 x8) h4_) (f132.l0 R A0 n0 c0 v1 x7 (IntKind.wrap .i64 (x8 + (1 : Int))) h4_))) (R (Value.int .i64 (-1 : Int)) h)
set_option maxRecDepth 100000 in
theorem f132.l0_in {R : Value → Heap → Prop} {A0 : Option Addr} {n0 : Nat} {c0 : Nat} {v1 : Value} {x7 : Int} {x8 : Int} {h : Heap} (H : f132.l0T R A0 n0 c0 v1 x7 x8 h) : f132.l0 R A0 n0 c0 v1 x7 x8 h :=
  pt_intro mixed f132.good (Eq.mpr (show (Fwd Try.prog f132.T f132.kp Try.f132 R [false, false, true, false, true] (mkFr [(0, (Value.slice A0 n0 c0)), (1, v1), (7, (Value.int .i64 x7)), (8, (Value.int .i64 x8))]) h) = (f132.l0T R A0 n0 c0 v1 x7 x8 h) by kernel_rfl) H)
set_option maxRecDepth 100000 in
def f132.runT (R : Value → Heap → Prop) (A0 : Option Addr) (n0 : Nat) (c0 : Nat) (v1 : Value) (h : Heap) : Prop :=
  f132.l0 R A0 n0 c0 v1 ((n0 : Nat) : Int) (0 : Int) h
set_option maxRecDepth 100000 in
theorem f132.run {R : Value → Heap → Prop} {A0 : Option Addr} {n0 : Nat} {c0 : Nat} {v1 : Value} {h : Heap} (H : f132.runT R A0 n0 c0 v1 h) : Run Try.prog 132 #[(Value.slice A0 n0 c0), v1] h R :=
  run_of mixed Try.func132 (by kernel_rfl) (by kernel_rfl) f132.good (Eq.mpr (show (Fwd Try.prog f132.T f132.kp Try.f132 R [] (mkFr (argL [(Value.slice A0 n0 c0), v1] 0)) h) = (f132.runT R A0 n0 c0 v1 h) by kernel_rfl) H)

/-! ### slices.DeleteFunc[[]roadstead/api.Letter,roadstead/api.Letter]: function 118 -/
def f118.T : Tab := { sh := tSh, tup := tTup, keep := [], plan := [] }
def f118.kp : Keep := [([false, false, true, false, true, true, true], [0, 1, 5, 6]), ([true, true, false, false, true, false, true, true, true], [0, 1, 5, 6])]
theorem f118.good : goodCode Try.prog f118.T (rootOf Try.f118) = true := by kernel_rfl
set_option maxRecDepth 100000 in
theorem f118.ok : calleeOk Try.prog 118 = true := by kernel_rfl
def f118.l0 (R : Value → Heap → Prop) (A0 : Option Addr) (n0 : Nat) (c0 : Nat) (v1 : Value) (x5 : Int) (x6 : Int) (h : Heap) : Prop := Pt Try.prog Try.f118 R [false, false, true, false, true, true, true] (mkFr [(0, (Value.slice A0 n0 c0)), (1, v1), (5, (Value.int .i64 x5)), (6, (Value.int .i64 x6))]) h
def f118.j0 (R : Value → Heap → Prop) (A0 : Option Addr) (n0 : Nat) (c0 : Nat) (v1 : Value) (x5 : Int) (x6 : Int) (h : Heap) : Prop := Pt Try.prog Try.f118 R [true, true, false, false, true, false, true, true, true] (mkFr [(0, (Value.slice A0 n0 c0)), (1, v1), (5, (Value.int .i64 x5)), (6, (Value.int .i64 x6))]) h
set_option maxRecDepth 100000 in
def f118.l0T (R : Value → Heap → Prop) (A0 : Option Addr) (n0 : Nat) (c0 : Nat) (v1 : Value) (x5 : Int) (x6 : Int) (h : Heap) : Prop :=
  splitB (decide (x6 < ((n0 : Nat) : Int))) (ptrOk A0 fun a1_ => 0 ≤ x6 ∧ x6 < ((n0 : Nat) : Int) ∧ (∃ v2_, ldv true 9 h (Addr.add a1_ (Int.toNat x6 * 9)) = some v2_ ∧ newH h (Obj.cells #[(Value.int .i64 (0 : Int)), (Value.int .i64 (0 : Int)), (Value.int .i64 (0 : Int)), (Value.int .i64 (0 : Int)), (Value.string (ByteArray.mk #[])), (Value.int .i64 (0 : Int)), (Value.int .i64 (0 : Int)), (Value.string (ByteArray.mk #[])), (Value.slice none 0 0)] 106) fun h3_ => ∃ l5_ : List Value, v2_ = Value.agg l5_.toArray ∧ l5_.length = 9 ∧ ∃ h4_, stH h3_ (⟨Array.size h, 0, none⟩) l5_ 0 = some h4_ ∧ ∃ v6_, ldv true 9 h4_ (⟨Array.size h, 0, none⟩) = some v6_ ∧ CallF Try.prog v1 [v6_] h4_ fun v7_ h8_ => ∃ b9_, v7_ = (Value.bool b9_) ∧ splitB (!b9_) (∃ v10_, ldv true 9 h8_ (⟨Array.size h, 0, none⟩) = some v10_ ∧ ptrOk A0 fun a11_ => 0 ≤ x5 ∧ x5 < ((n0 : Nat) : Int) ∧ (∃ l13_ : List Value, v10_ = Value.agg l13_.toArray ∧ l13_.length = 9 ∧ ∃ h12_, stH h8_ (Addr.add a11_ (Int.toNat x5 * 9)) l13_ 0 = some h12_ ∧ f118.j0 R A0 n0 c0 v1 (IntKind.wrap .i64 (x5 + (1 : Int))) x6 h12_)) (f118.j0 R A0 n0 c0 v1 x5 x6 h8_))) (0 ≤ x5 ∧ x5 ≤ ((n0 : Nat) : Int) ∧ ((n0 : Nat) : Int) ≤ ((c0 : Nat) : Int) ∧ (Gen Try.prog (Builtin.clear_ #[102] 0 #[(Value.slice (sliceA A0 (Int.toNat x5) c0 9) (Int.toNat ((n0 : Nat) : Int) - Int.toNat x5) (c0 - Int.toNat x5))]) h fun v14_ h15_ => v14_ = (Value.tuple #[]) ∧ 0 ≤ (0 : Int) ∧ (0 : Int) ≤ x5 ∧ x5 ≤ ((c0 : Nat) : Int) ∧ (R (Value.slice (sliceA A0 (Int.toNat (0 : Int)) c0 9) (Int.toNat x5 - Int.toNat (0 : Int)) (c0 - Int.toNat (0 : Int))) h15_)))
set_option maxRecDepth 100000 in
theorem f118.l0_in {R : Value → Heap → Prop} {A0 : Option Addr} {n0 : Nat} {c0 : Nat} {v1 : Value} {x5 : Int} {x6 : Int} {h : Heap} (H : f118.l0T R A0 n0 c0 v1 x5 x6 h) : f118.l0 R A0 n0 c0 v1 x5 x6 h :=
  pt_intro mixed f118.good (Eq.mpr (show (Fwd Try.prog f118.T f118.kp Try.f118 R [false, false, true, false, true, true, true] (mkFr [(0, (Value.slice A0 n0 c0)), (1, v1), (5, (Value.int .i64 x5)), (6, (Value.int .i64 x6))]) h) = (f118.l0T R A0 n0 c0 v1 x5 x6 h) by kernel_rfl) H)
set_option maxRecDepth 100000 in
def f118.j0T (R : Value → Heap → Prop) (A0 : Option Addr) (n0 : Nat) (c0 : Nat) (v1 : Value) (x5 : Int) (x6 : Int) (h : Heap) : Prop :=
  f118.l0 R A0 n0 c0 v1 x5 (IntKind.wrap .i64 (x6 + (1 : Int))) h
set_option maxRecDepth 100000 in
theorem f118.j0_in {R : Value → Heap → Prop} {A0 : Option Addr} {n0 : Nat} {c0 : Nat} {v1 : Value} {x5 : Int} {x6 : Int} {h : Heap} (H : f118.j0T R A0 n0 c0 v1 x5 x6 h) : f118.j0 R A0 n0 c0 v1 x5 x6 h :=
  pt_intro mixed f118.good (Eq.mpr (show (Fwd Try.prog f118.T f118.kp Try.f118 R [true, true, false, false, true, false, true, true, true] (mkFr [(0, (Value.slice A0 n0 c0)), (1, v1), (5, (Value.int .i64 x5)), (6, (Value.int .i64 x6))]) h) = (f118.j0T R A0 n0 c0 v1 x5 x6 h) by kernel_rfl) H)
set_option maxRecDepth 100000 in
def f118.runT (R : Value → Heap → Prop) (A0 : Option Addr) (n0 : Nat) (c0 : Nat) (v1 : Value) (h : Heap) : Prop :=
  Run Try.prog 132 #[(Value.slice A0 n0 c0), v1] h fun v1_ h2_ => ∃ x3_, v1_ = (Value.int .i64 x3_) ∧ splitB (x3_ == (-1 : Int)) (R (Value.slice A0 n0 c0) h2_) (f118.l0 R A0 n0 c0 v1 x3_ (IntKind.wrap .i64 (x3_ + (1 : Int))) h2_)
set_option maxRecDepth 100000 in
theorem f118.run {R : Value → Heap → Prop} {A0 : Option Addr} {n0 : Nat} {c0 : Nat} {v1 : Value} {h : Heap} (H : f118.runT R A0 n0 c0 v1 h) : Run Try.prog 118 #[(Value.slice A0 n0 c0), v1] h R :=
  run_of mixed Try.func118 (by kernel_rfl) (by kernel_rfl) f118.good (Eq.mpr (show (Fwd Try.prog f118.T f118.kp Try.f118 R [] (mkFr (argL [(Value.slice A0 n0 c0), v1] 0)) h) = (f118.runT R A0 n0 c0 v1 h) by kernel_rfl) H)

/-! ### roadstead/box.From$1: function 119 -/
def f119.T : Tab := { sh := tSh, tup := tTup, keep := [], plan := [] }
def f119.kp : Keep := []
theorem f119.good : goodCode Try.prog f119.T (rootOf Try.f119) = true := by kernel_rfl
set_option maxRecDepth 100000 in
theorem f119.ok : calleeOk Try.prog 119 = true := by kernel_rfl
set_option maxRecDepth 100000 in
def f119.runT (R : Value → Heap → Prop) (v0 : Value) (a1 : Addr) (h : Heap) : Prop :=
  newH h (Obj.cells ((v0).cells) 106) fun h1_ => ∃ v2_, ldv false 1 h1_ (Addr.add (⟨Array.size h, 0, none⟩) 1) = some v2_ ∧ ∃ x3_, v2_ = (Value.int .i64 x3_) ∧ ∃ v4_, ldv false 1 h1_ a1 = some v4_ ∧ ∃ x5_, v4_ = (Value.int .i64 x5_) ∧ R (Value.bool (x3_ != x5_)) h1_
set_option maxRecDepth 100000 in
theorem f119.run {R : Value → Heap → Prop} {v0 : Value} {a1 : Addr} {h : Heap} (H : f119.runT R v0 a1 h) : Run Try.prog 119 #[v0, (Value.pointer (some a1))] h R :=
  run_of mixed Try.func119 (by kernel_rfl) (by kernel_rfl) f119.good (Eq.mpr (show (Fwd Try.prog f119.T f119.kp Try.f119 R [] (mkFr (argL [v0, (Value.pointer (some a1))] 0)) h) = (f119.runT R v0 a1 h) by kernel_rfl) H)

/-! ### roadstead/box.From: function 75 -/
def f75.T : Tab := { sh := tSh, tup := tTup, keep := [], plan := [] }
def f75.kp : Keep := []
theorem f75.good : goodCode Try.prog f75.T (rootOf Try.f75) = true := by kernel_rfl
set_option maxRecDepth 100000 in
theorem f75.ok : calleeOk Try.prog 75 = true := by kernel_rfl
set_option maxRecDepth 100000 in
def f75.runT (R : Value → Heap → Prop) (v0 : Value) (x1 : Int) (h : Heap) : Prop :=
  newH h (Obj.cells ((v0).cells) 104) fun h1_ => newH h1_ (Obj.cells #[(Value.int .i64 x1)] 3) fun h2_ => ∃ v3_, ldv true 2 h2_ (⟨Array.size h, 0, none⟩) = some v3_ ∧ Run Try.prog 77 #[v3_] h2_ fun v4_ h5_ => ∃ x6_, v4_ = (Value.int .i64 x6_) ∧ splitB (x6_ != (0 : Int)) (R (Value.tuple #[(Value.slice none 0 0), (Value.int .i64 x6_)]) h5_) (∃ v7_, ldv false 1 h5_ (⟨Array.size h, 0, none⟩) = some v7_ ∧ ∃ A8_, ∃ n8_, ∃ c8_, v7_ = (Value.slice A8_ n8_ c8_) ∧ Run Try.prog 83 #[(Value.slice A8_ n8_ c8_)] h5_ fun v9_ h10_ => ∃ A11_, ∃ n11_, ∃ c11_, v9_ = (Value.slice A11_ n11_ c11_) ∧ Run Try.prog 118 #[(Value.slice A11_ n11_ c11_), (Value.func (.func 119) #[] #[(Value.pointer (some ⟨Array.size h1_, 0, none⟩))])] h10_ fun v12_ h13_ => ∃ A14_, ∃ n14_, ∃ c14_, v12_ = (Value.slice A14_ n14_ c14_) ∧ R (Value.tuple #[(Value.slice A14_ n14_ c14_), (Value.int .i64 (0 : Int))]) h13_)
set_option maxRecDepth 100000 in
theorem f75.run {R : Value → Heap → Prop} {v0 : Value} {x1 : Int} {h : Heap} (H : f75.runT R v0 x1 h) : Run Try.prog 75 #[v0, (Value.int .i64 x1)] h R :=
  run_of mixed Try.func75 (by kernel_rfl) (by kernel_rfl) f75.good (Eq.mpr (show (Fwd Try.prog f75.T f75.kp Try.f75 R [] (mkFr (argL [v0, (Value.int .i64 x1)] 0)) h) = (f75.runT R v0 x1 h) by kernel_rfl) H)

/-! ### roadstead/roadref3.BoxFault: function 76 -/
def f76.T : Tab := { sh := tSh, tup := tTup, keep := [], plan := [] }
def f76.kp : Keep := [([false, false, true, false, true, true, true], [17, 18, 19])]
theorem f76.good : goodCode Try.prog f76.T (rootOf Try.f76) = true := by kernel_rfl
set_option maxRecDepth 100000 in
theorem f76.ok : calleeOk Try.prog 76 = true := by kernel_rfl
def f76.l0 (R : Value → Heap → Prop) (A17 : Option Addr) (n17 : Nat) (c17 : Nat) (x18 : Int) (x19 : Int) (h : Heap) : Prop := Pt Try.prog Try.f76 R [false, false, true, false, true, true, true] (mkFr [(17, (Value.slice A17 n17 c17)), (18, (Value.int .i64 x18)), (19, (Value.int .i64 x19))]) h
set_option maxRecDepth 100000 in
def f76.l0T (R : Value → Heap → Prop) (A17 : Option Addr) (n17 : Nat) (c17 : Nat) (x18 : Int) (x19 : Int) (h : Heap) : Prop :=
  splitB (decide (x19 < x18)) (ptrOk A17 fun a1_ => 0 ≤ x19 ∧ x19 < ((n17 : Nat) : Int) ∧ (∃ v2_, ldv true 9 h (Addr.add a1_ (Int.toNat x19 * 9)) = some v2_ ∧ newH h (Obj.cells #[(Value.int .i64 (0 : Int)), (Value.int .i64 (0 : Int)), (Value.int .i64 (0 : Int)), (Value.int .i64 (0 : Int)), (Value.string (ByteArray.mk #[])), (Value.int .i64 (0 : Int)), (Value.int .i64 (0 : Int)), (Value.string (ByteArray.mk #[])), (Value.slice none 0 0)] 106) fun h3_ => ∃ l5_ : List Value, v2_ = Value.agg l5_.toArray ∧ l5_.length = 9 ∧ ∃ h4_, stH h3_ (⟨Array.size h, 0, none⟩) l5_ 0 = some h4_ ∧ ∃ v6_, ldv false 1 h4_ (⟨Array.size h, 0, none⟩) = some v6_ ∧ ∃ x7_, v6_ = (Value.int .i64 x7_) ∧ Run Try.prog 30 #[(Value.int .i64 x7_), (Value.int .i64 (1 : Int)), (Value.int .i64 (2 : Int))] h4_ fun v8_ h9_ => ∃ b10_, v8_ = (Value.bool b10_) ∧ splitB (!b10_) (R (Value.int .i64 (3 : Int)) h9_) (f76.l0 R A17 n17 c17 x18 (IntKind.wrap .i64 (x19 + (1 : Int))) h9_))) (R (Value.int .i64 (0 : Int)) h)
set_option maxRecDepth 100000 in
theorem f76.l0_in {R : Value → Heap → Prop} {A17 : Option Addr} {n17 : Nat} {c17 : Nat} {x18 : Int} {x19 : Int} {h : Heap} (H : f76.l0T R A17 n17 c17 x18 x19 h) : f76.l0 R A17 n17 c17 x18 x19 h :=
  pt_intro mixed f76.good (Eq.mpr (show (Fwd Try.prog f76.T f76.kp Try.f76 R [false, false, true, false, true, true, true] (mkFr [(17, (Value.slice A17 n17 c17)), (18, (Value.int .i64 x18)), (19, (Value.int .i64 x19))]) h) = (f76.l0T R A17 n17 c17 x18 x19 h) by kernel_rfl) H)
set_option maxRecDepth 100000 in
def f76.runT (R : Value → Heap → Prop) (v0 : Value) (h : Heap) : Prop :=
  newH h (Obj.cells ((v0).cells) 104) fun h1_ => ∃ v2_, ldv false 1 h1_ (⟨Array.size h, 0, none⟩) = some v2_ ∧ ∃ A3_, ∃ n3_, ∃ c3_, v2_ = (Value.slice A3_ n3_ c3_) ∧ splitB (decide (((n3_ : Nat) : Int) > (60 : Int))) (R (Value.int .i64 (2 : Int)) h1_) (∃ v4_, ldv false 1 h1_ (Addr.add (⟨Array.size h, 0, none⟩) 1) = some v4_ ∧ ∃ x5_, v4_ = (Value.int .i64 x5_) ∧ ∃ v6_, ldv false 1 h1_ (⟨Array.size h, 0, none⟩) = some v6_ ∧ ∃ A7_, ∃ n7_, ∃ c7_, v6_ = (Value.slice A7_ n7_ c7_) ∧ Run Try.prog 30 #[(Value.int .i64 x5_), (Value.int .i64 (0 : Int)), (Value.int .i64 ((n7_ : Nat) : Int))] h1_ fun v8_ h9_ => ∃ b10_, v8_ = (Value.bool b10_) ∧ splitB (!b10_) (R (Value.int .i64 (1 : Int)) h9_) (∃ v11_, ldv false 1 h9_ (⟨Array.size h, 0, none⟩) = some v11_ ∧ ∃ A12_, ∃ n12_, ∃ c12_, v11_ = (Value.slice A12_ n12_ c12_) ∧ f76.l0 R A12_ n12_ c12_ ((n12_ : Nat) : Int) (0 : Int) h9_))
set_option maxRecDepth 100000 in
theorem f76.run {R : Value → Heap → Prop} {v0 : Value} {h : Heap} (H : f76.runT R v0 h) : Run Try.prog 76 #[v0] h R :=
  run_of mixed Try.func76 (by kernel_rfl) (by kernel_rfl) f76.good (Eq.mpr (show (Fwd Try.prog f76.T f76.kp Try.f76 R [] (mkFr (argL [v0] 0)) h) = (f76.runT R v0 h) by kernel_rfl) H)

/-! ### slices.Clone[[]roadstead/api.Value,roadstead/api.Value]: function 120 -/
def f120.T : Tab := { sh := tSh, tup := tTup, keep := [], plan := [] }
def f120.kp : Keep := []
theorem f120.good : goodCode Try.prog f120.T (rootOf Try.f120) = true := by kernel_rfl
set_option maxRecDepth 100000 in
theorem f120.ok : calleeOk Try.prog 120 = true := by kernel_rfl
set_option maxRecDepth 100000 in
def f120.runT (R : Value → Heap → Prop) (A0 : Option Addr) (n0 : Nat) (c0 : Nat) (h : Heap) : Prop :=
  splitB (Option.isNone A0) (R (Value.slice none 0 0) h) (newH h (Obj.cells #[] 42) fun h1_ => AppW 42 4 56 #[(Value.int .i64 (0 : Int)), (Value.int .i64 (0 : Int)), (Value.string (ByteArray.mk #[])), (Value.slice none 0 0)] (some ⟨Array.size h, 0, none⟩) 0 0 (Value.slice A0 n0 c0) h1_ fun v2_ h3_ => ∃ A4_, ∃ n4_, ∃ c4_, v2_ = (Value.slice A4_ n4_ c4_) ∧ R (Value.slice A4_ n4_ c4_) h3_)
set_option maxRecDepth 100000 in
theorem f120.run {R : Value → Heap → Prop} {A0 : Option Addr} {n0 : Nat} {c0 : Nat} {h : Heap} (H : f120.runT R A0 n0 c0 h) : Run Try.prog 120 #[(Value.slice A0 n0 c0)] h R :=
  run_of mixed Try.func120 (by kernel_rfl) (by kernel_rfl) f120.good (Eq.mpr (show (Fwd Try.prog f120.T f120.kp Try.f120 R [] (mkFr (argL [(Value.slice A0 n0 c0)] 0)) h) = (f120.runT R A0 n0 c0 h) by kernel_rfl) H)

/-! ### roadstead/box.Own: function 80 -/
def f80.T : Tab := { sh := tSh, tup := tTup, keep := [], plan := [(5, (.take 0 (.take 2 (.take 1 (.take 3 (.eff true 4 (.take 5 (.eff false 6 .done))))))))] }
def f80.kp : Keep := [([false, false, true, false, true, true], [1, 2, 10, 11, 12])]
theorem f80.good : goodCode Try.prog f80.T (rootOf Try.f80) = true := by kernel_rfl
set_option maxRecDepth 100000 in
theorem f80.ok : calleeOk Try.prog 80 = true := by kernel_rfl
def f80.l0 (R : Value → Heap → Prop) (a1 : Addr) (a2 : Addr) (A10 : Option Addr) (n10 : Nat) (c10 : Nat) (x11 : Int) (x12 : Int) (h : Heap) : Prop := Pt Try.prog Try.f80 R [false, false, true, false, true, true] (mkFr [(1, (Value.pointer (some a1))), (2, (Value.pointer (some a2))), (10, (Value.slice A10 n10 c10)), (11, (Value.int .i64 x11)), (12, (Value.int .i64 x12))]) h
set_option maxRecDepth 100000 in
def f80.l0T (R : Value → Heap → Prop) (a1 : Addr) (a2 : Addr) (A10 : Option Addr) (n10 : Nat) (c10 : Nat) (x11 : Int) (x12 : Int) (h : Heap) : Prop :=
  splitB (decide (x12 < x11)) (ptrOk A10 fun a1_ => 0 ≤ x12 ∧ x12 < ((n10 : Nat) : Int) ∧ (∃ v2_, ldv true 4 h (Addr.add a1_ (Int.toNat x12 * 4)) = some v2_ ∧ newH h (Obj.cells #[(Value.int .i64 (0 : Int)), (Value.int .i64 (0 : Int)), (Value.string (ByteArray.mk #[])), (Value.slice none 0 0)] 42) fun h3_ => ∃ l5_ : List Value, v2_ = Value.agg l5_.toArray ∧ l5_.length = 4 ∧ ∃ h4_, stH h3_ (⟨Array.size h, 0, none⟩) l5_ 0 = some h4_ ∧ ∃ v6_, ldv false 1 h4_ (Addr.add a1 3) = some v6_ ∧ ∃ A7_, ∃ n7_, ∃ c7_, v6_ = (Value.slice A7_ n7_ c7_) ∧ ∃ v8_, ldv true 4 h4_ (⟨Array.size h, 0, none⟩) = some v8_ ∧ Run Try.prog 80 #[v8_] h4_ fun v9_ h10_ => Ext h4_ h10_ ∧ (ptrOk A7_ fun a11_ => 0 ≤ x12 ∧ x12 < ((n7_ : Nat) : Int) ∧ (∃ l13_ : List Value, v9_ = Value.agg l13_.toArray ∧ l13_.length = 4 ∧ ∃ h12_, stH h10_ (Addr.add a11_ (Int.toNat x12 * 4)) l13_ 0 = some h12_ ∧ f80.l0 R a1 a2 A10 n10 c10 x11 (IntKind.wrap .i64 (x12 + (1 : Int))) h12_)))) (∃ v14_, ldv true 4 h a1 = some v14_ ∧ ∃ l16_ : List Value, v14_ = Value.agg l16_.toArray ∧ l16_.length = 4 ∧ ∃ h15_, stH h a2 l16_ 0 = some h15_ ∧ ∃ v17_, ldv true 4 h15_ a2 = some v17_ ∧ R v17_ h15_)
set_option maxRecDepth 100000 in
theorem f80.l0_in {R : Value → Heap → Prop} {a1 : Addr} {a2 : Addr} {A10 : Option Addr} {n10 : Nat} {c10 : Nat} {x11 : Int} {x12 : Int} {h : Heap} (H : f80.l0T R a1 a2 A10 n10 c10 x11 x12 h) : f80.l0 R a1 a2 A10 n10 c10 x11 x12 h :=
  pt_intro mixed f80.good (Eq.mpr (show (Fwd Try.prog f80.T f80.kp Try.f80 R [false, false, true, false, true, true] (mkFr [(1, (Value.pointer (some a1))), (2, (Value.pointer (some a2))), (10, (Value.slice A10 n10 c10)), (11, (Value.int .i64 x11)), (12, (Value.int .i64 x12))]) h) = (f80.l0T R a1 a2 A10 n10 c10 x11 x12 h) by kernel_rfl) H)
set_option maxRecDepth 100000 in
def f80.runT (R : Value → Heap → Prop) (v0 : Value) (h : Heap) : Prop :=
  newH h (Obj.cells ((v0).cells) 42) fun h1_ => newH h1_ (Obj.cells #[(Value.int .i64 (0 : Int)), (Value.int .i64 (0 : Int)), (Value.string (ByteArray.mk #[])), (Value.slice none 0 0)] 42) fun h2_ => ∃ v3_, ldv false 1 h2_ (Addr.add (⟨Array.size h, 0, none⟩) 3) = some v3_ ∧ ∃ A4_, ∃ n4_, ∃ c4_, v3_ = (Value.slice A4_ n4_ c4_) ∧ Run Try.prog 120 #[(Value.slice A4_ n4_ c4_)] h2_ fun v5_ h6_ => ∃ A7_, ∃ n7_, ∃ c7_, v5_ = (Value.slice A7_ n7_ c7_) ∧ ∃ h8_, st1 h6_ (Addr.add (⟨Array.size h, 0, none⟩) 3) (Value.slice A7_ n7_ c7_) = some h8_ ∧ ∃ v9_, ldv false 1 h8_ (Addr.add (⟨Array.size h, 0, none⟩) 3) = some v9_ ∧ ∃ A10_, ∃ n10_, ∃ c10_, v9_ = (Value.slice A10_ n10_ c10_) ∧ f80.l0 R (⟨Array.size h, 0, none⟩) (⟨Array.size h1_, 0, none⟩) A10_ n10_ c10_ ((n10_ : Nat) : Int) (0 : Int) h8_
set_option maxRecDepth 100000 in
theorem f80.run {R : Value → Heap → Prop} {v0 : Value} {h : Heap} (H : f80.runT R v0 h) : Run Try.prog 80 #[v0] h R :=
  run_of mixed Try.func80 (by kernel_rfl) (by kernel_rfl) f80.good (Eq.mpr (show (Fwd Try.prog f80.T f80.kp Try.f80 R [] (mkFr (argL [v0] 0)) h) = (f80.runT R v0 h) by kernel_rfl) H)

/-! ### roadstead/box.Says: function 78 -/
def f78.T : Tab := { sh := tSh, tup := tTup, keep := [], plan := [] }
def f78.kp : Keep := []
theorem f78.good : goodCode Try.prog f78.T (rootOf Try.f78) = true := by kernel_rfl
set_option maxRecDepth 100000 in
theorem f78.ok : calleeOk Try.prog 78 = true := by kernel_rfl
set_option maxRecDepth 100000 in
def f78.runT (R : Value → Heap → Prop) (v0 : Value) (h : Heap) : Prop :=
  newH h (Obj.cells ((v0).cells) 106) fun h1_ => newH h1_ (Obj.cells #[(Value.int .i64 (0 : Int)), (Value.int .i64 (0 : Int)), (Value.string (ByteArray.mk #[])), (Value.slice none 0 0)] 42) fun h2_ => ∃ v3_, ldv false 1 h2_ (⟨Array.size h, 0, none⟩) = some v3_ ∧ ∃ x4_, v3_ = (Value.int .i64 x4_) ∧ splitB (x4_ != (2 : Int)) (∃ v5_, ldv true 4 h2_ (Addr.add (⟨Array.size h, 0, none⟩) 5) = some v5_ ∧ Run Try.prog 80 #[v5_] h2_ fun v6_ h7_ => ∃ l9_ : List Value, v6_ = Value.agg l9_.toArray ∧ l9_.length = 4 ∧ ∃ h8_, stH h7_ (⟨Array.size h1_, 0, none⟩) l9_ 0 = some h8_ ∧ ∃ v10_, ldv true 4 h8_ (⟨Array.size h1_, 0, none⟩) = some v10_ ∧ R v10_ h8_) (∃ v11_, ldv false 1 h2_ (Addr.add (⟨Array.size h, 0, none⟩) 1) = some v11_ ∧ ∃ x12_, v11_ = (Value.int .i64 x12_) ∧ ∃ v13_, ldv false 1 h2_ (Addr.add (⟨Array.size h, 0, none⟩) 3) = some v13_ ∧ ∃ x14_, v13_ = (Value.int .i64 x14_) ∧ ∃ l15_ : List Value, (Value.agg #[(Value.int .i64 (6 : Int)), (Value.int .i64 x12_), (Value.string (ByteArray.mk #[])), (Value.slice none 0 0)]) = Value.agg l15_.toArray ∧ l15_.length = 4 ∧ (∃ l16_ : List Value, (Value.agg #[(Value.int .i64 (2 : Int)), (Value.int .i64 x14_), (Value.string (ByteArray.mk #[])), (Value.slice none 0 0)]) = Value.agg l16_.toArray ∧ l16_.length = 4 ∧ (newH h2_ (Obj.cells ((List.take 4 (List.take 0 ([(Value.int .i64 (0 : Int)), (Value.int .i64 (0 : Int)), (Value.string (ByteArray.mk #[])), (Value.slice none 0 0), (Value.int .i64 (0 : Int)), (Value.int .i64 (0 : Int)), (Value.string (ByteArray.mk #[])), (Value.slice none 0 0)]) ++ l15_ ++ List.drop 4 ([(Value.int .i64 (0 : Int)), (Value.int .i64 (0 : Int)), (Value.string (ByteArray.mk #[])), (Value.slice none 0 0), (Value.int .i64 (0 : Int)), (Value.int .i64 (0 : Int)), (Value.string (ByteArray.mk #[])), (Value.slice none 0 0)])) ++ l16_ ++ List.drop 8 (List.take 0 ([(Value.int .i64 (0 : Int)), (Value.int .i64 (0 : Int)), (Value.string (ByteArray.mk #[])), (Value.slice none 0 0), (Value.int .i64 (0 : Int)), (Value.int .i64 (0 : Int)), (Value.string (ByteArray.mk #[])), (Value.slice none 0 0)]) ++ l15_ ++ List.drop 4 ([(Value.int .i64 (0 : Int)), (Value.int .i64 (0 : Int)), (Value.string (ByteArray.mk #[])), (Value.slice none 0 0), (Value.int .i64 (0 : Int)), (Value.int .i64 (0 : Int)), (Value.string (ByteArray.mk #[])), (Value.slice none 0 0)]))).toArray) 42) fun h17_ => ∃ l19_ : List Value, (Value.agg #[(Value.int .i64 (5 : Int)), (Value.int .i64 (0 : Int)), (Value.string (ByteArray.mk #[68, 111, 119, 110])), (Value.slice (some ⟨Array.size h2_, 0, none⟩) 2 2)]) = Value.agg l19_.toArray ∧ l19_.length = 4 ∧ ∃ h18_, stH h17_ (⟨Array.size h1_, 0, none⟩) l19_ 0 = some h18_ ∧ ∃ v20_, ldv true 4 h18_ (⟨Array.size h1_, 0, none⟩) = some v20_ ∧ R v20_ h18_)))
set_option maxRecDepth 100000 in
theorem f78.run {R : Value → Heap → Prop} {v0 : Value} {h : Heap} (H : f78.runT R v0 h) : Run Try.prog 78 #[v0] h R :=
  run_of mixed Try.func78 (by kernel_rfl) (by kernel_rfl) f78.good (Eq.mpr (show (Fwd Try.prog f78.T f78.kp Try.f78 R [] (mkFr (argL [v0] 0)) h) = (f78.runT R v0 h) by kernel_rfl) H)

/-! ### roadstead/roadref3.Message: function 79 -/
def f79.T : Tab := { sh := tSh, tup := tTup, keep := [], plan := [] }
def f79.kp : Keep := []
theorem f79.good : goodCode Try.prog f79.T (rootOf Try.f79) = true := by kernel_rfl
set_option maxRecDepth 100000 in
theorem f79.ok : calleeOk Try.prog 79 = true := by kernel_rfl
set_option maxRecDepth 100000 in
def f79.runT (R : Value → Heap → Prop) (v0 : Value) (h : Heap) : Prop :=
  newH h (Obj.cells ((v0).cells) 106) fun h1_ => newH h1_ (Obj.cells #[(Value.int .i64 (0 : Int)), (Value.int .i64 (0 : Int)), (Value.string (ByteArray.mk #[])), (Value.slice none 0 0)] 42) fun h2_ => ∃ v3_, ldv false 1 h2_ (⟨Array.size h, 0, none⟩) = some v3_ ∧ ∃ x4_, v3_ = (Value.int .i64 x4_) ∧ splitB (x4_ == (2 : Int)) (∃ v5_, ldv false 1 h2_ (Addr.add (⟨Array.size h, 0, none⟩) 1) = some v5_ ∧ ∃ x6_, v5_ = (Value.int .i64 x6_) ∧ ∃ v7_, ldv false 1 h2_ (Addr.add (⟨Array.size h, 0, none⟩) 3) = some v7_ ∧ ∃ x8_, v7_ = (Value.int .i64 x8_) ∧ ∃ l9_ : List Value, (Value.agg #[(Value.int .i64 (6 : Int)), (Value.int .i64 x6_), (Value.string (ByteArray.mk #[])), (Value.slice none 0 0)]) = Value.agg l9_.toArray ∧ l9_.length = 4 ∧ (∃ l10_ : List Value, (Value.agg #[(Value.int .i64 (2 : Int)), (Value.int .i64 x8_), (Value.string (ByteArray.mk #[])), (Value.slice none 0 0)]) = Value.agg l10_.toArray ∧ l10_.length = 4 ∧ (newH h2_ (Obj.cells ((List.take 4 (List.take 0 ([(Value.int .i64 (0 : Int)), (Value.int .i64 (0 : Int)), (Value.string (ByteArray.mk #[])), (Value.slice none 0 0), (Value.int .i64 (0 : Int)), (Value.int .i64 (0 : Int)), (Value.string (ByteArray.mk #[])), (Value.slice none 0 0)]) ++ l9_ ++ List.drop 4 ([(Value.int .i64 (0 : Int)), (Value.int .i64 (0 : Int)), (Value.string (ByteArray.mk #[])), (Value.slice none 0 0), (Value.int .i64 (0 : Int)), (Value.int .i64 (0 : Int)), (Value.string (ByteArray.mk #[])), (Value.slice none 0 0)])) ++ l10_ ++ List.drop 8 (List.take 0 ([(Value.int .i64 (0 : Int)), (Value.int .i64 (0 : Int)), (Value.string (ByteArray.mk #[])), (Value.slice none 0 0), (Value.int .i64 (0 : Int)), (Value.int .i64 (0 : Int)), (Value.string (ByteArray.mk #[])), (Value.slice none 0 0)]) ++ l9_ ++ List.drop 4 ([(Value.int .i64 (0 : Int)), (Value.int .i64 (0 : Int)), (Value.string (ByteArray.mk #[])), (Value.slice none 0 0), (Value.int .i64 (0 : Int)), (Value.int .i64 (0 : Int)), (Value.string (ByteArray.mk #[])), (Value.slice none 0 0)]))).toArray) 42) fun h11_ => ∃ l13_ : List Value, (Value.agg #[(Value.int .i64 (5 : Int)), (Value.int .i64 (0 : Int)), (Value.string (ByteArray.mk #[68, 111, 119, 110])), (Value.slice (some ⟨Array.size h2_, 0, none⟩) 2 2)]) = Value.agg l13_.toArray ∧ l13_.length = 4 ∧ ∃ h12_, stH h11_ (⟨Array.size h1_, 0, none⟩) l13_ 0 = some h12_ ∧ ∃ v14_, ldv true 4 h12_ (⟨Array.size h1_, 0, none⟩) = some v14_ ∧ R v14_ h12_))) (∃ v15_, ldv true 4 h2_ (Addr.add (⟨Array.size h, 0, none⟩) 5) = some v15_ ∧ ∃ l17_ : List Value, v15_ = Value.agg l17_.toArray ∧ l17_.length = 4 ∧ ∃ h16_, stH h2_ (⟨Array.size h1_, 0, none⟩) l17_ 0 = some h16_ ∧ ∃ v18_, ldv true 4 h16_ (⟨Array.size h1_, 0, none⟩) = some v18_ ∧ R v18_ h16_)
set_option maxRecDepth 100000 in
theorem f79.run {R : Value → Heap → Prop} {v0 : Value} {h : Heap} (H : f79.runT R v0 h) : Run Try.prog 79 #[v0] h R :=
  run_of mixed Try.func79 (by kernel_rfl) (by kernel_rfl) f79.good (Eq.mpr (show (Fwd Try.prog f79.T f79.kp Try.f79 R [] (mkFr (argL [v0] 0)) h) = (f79.runT R v0 h) by kernel_rfl) H)

/-! ### roadstead/roadref3.SameLetter: function 121 -/
def f121.T : Tab := { sh := tSh, tup := tTup, keep := [], plan := [] }
def f121.kp : Keep := []
theorem f121.good : goodCode Try.prog f121.T (rootOf Try.f121) = true := by kernel_rfl
set_option maxRecDepth 100000 in
theorem f121.ok : calleeOk Try.prog 121 = true := by kernel_rfl
set_option maxRecDepth 100000 in
def f121.runT (R : Value → Heap → Prop) (v0 : Value) (v1 : Value) (h : Heap) : Prop :=
  newH h (Obj.cells ((v0).cells) 106) fun h1_ => newH h1_ (Obj.cells ((v1).cells) 106) fun h2_ => ∃ v3_, ldv false 1 h2_ (⟨Array.size h, 0, none⟩) = some v3_ ∧ ∃ x4_, v3_ = (Value.int .i64 x4_) ∧ ∃ v5_, ldv false 1 h2_ (⟨Array.size h1_, 0, none⟩) = some v5_ ∧ ∃ x6_, v5_ = (Value.int .i64 x6_) ∧ splitB (x4_ == x6_) (∃ v7_, ldv false 1 h2_ (Addr.add (⟨Array.size h, 0, none⟩) 1) = some v7_ ∧ ∃ x8_, v7_ = (Value.int .i64 x8_) ∧ ∃ v9_, ldv false 1 h2_ (Addr.add (⟨Array.size h1_, 0, none⟩) 1) = some v9_ ∧ ∃ x10_, v9_ = (Value.int .i64 x10_) ∧ splitB (x8_ == x10_) (∃ v11_, ldv false 1 h2_ (Addr.add (⟨Array.size h, 0, none⟩) 2) = some v11_ ∧ ∃ x12_, v11_ = (Value.int .i64 x12_) ∧ ∃ v13_, ldv false 1 h2_ (Addr.add (⟨Array.size h1_, 0, none⟩) 2) = some v13_ ∧ ∃ x14_, v13_ = (Value.int .i64 x14_) ∧ splitB (x12_ == x14_) (∃ v15_, ldv false 1 h2_ (Addr.add (⟨Array.size h, 0, none⟩) 3) = some v15_ ∧ ∃ x16_, v15_ = (Value.int .i64 x16_) ∧ ∃ v17_, ldv false 1 h2_ (Addr.add (⟨Array.size h1_, 0, none⟩) 3) = some v17_ ∧ ∃ x18_, v17_ = (Value.int .i64 x18_) ∧ splitB (x16_ == x18_) (∃ v19_, ldv false 1 h2_ (Addr.add (⟨Array.size h, 0, none⟩) 4) = some v19_ ∧ ∃ s20_, v19_ = (Value.string s20_) ∧ ∃ v21_, ldv false 1 h2_ (Addr.add (⟨Array.size h1_, 0, none⟩) 4) = some v21_ ∧ ∃ s22_, v21_ = (Value.string s22_) ∧ splitB (ByteArray.toList s20_ == ByteArray.toList s22_) (∃ v23_, ldv true 4 h2_ (Addr.add (⟨Array.size h, 0, none⟩) 5) = some v23_ ∧ ∃ v24_, ldv true 4 h2_ (Addr.add (⟨Array.size h1_, 0, none⟩) 5) = some v24_ ∧ Run Try.prog 37 #[v23_, v24_] h2_ fun v25_ h26_ => ∃ b27_, v25_ = (Value.bool b27_) ∧ R (Value.bool b27_) h26_) (R (Value.bool false) h2_)) (R (Value.bool false) h2_)) (R (Value.bool false) h2_)) (R (Value.bool false) h2_)) (R (Value.bool false) h2_)
set_option maxRecDepth 100000 in
theorem f121.run {R : Value → Heap → Prop} {v0 : Value} {v1 : Value} {h : Heap} (H : f121.runT R v0 v1 h) : Run Try.prog 121 #[v0, v1] h R :=
  run_of mixed Try.func121 (by kernel_rfl) (by kernel_rfl) f121.good (Eq.mpr (show (Fwd Try.prog f121.T f121.kp Try.f121 R [] (mkFr (argL [v0, v1] 0)) h) = (f121.runT R v0 v1 h) by kernel_rfl) H)

/-! ### roadstead/roadref3.SameLetters: function 82 -/
def f82.T : Tab := { sh := tSh, tup := tTup, keep := [], plan := [(6, (.take 0 (.take 1 (.take 2 (.take 4 (.take 5 (.take 6 (.take 3 (.take 7 (.quiet true 8 (.take 9 .done)))))))))))] }
def f82.kp : Keep := [([false, false, true, false, true, true], [0, 1, 12, 13])]
theorem f82.good : goodCode Try.prog f82.T (rootOf Try.f82) = true := by kernel_rfl
set_option maxRecDepth 100000 in
theorem f82.ok : calleeOk Try.prog 82 = true := by kernel_rfl
def f82.l0 (R : Value → Heap → Prop) (A0 : Option Addr) (n0 : Nat) (c0 : Nat) (A1 : Option Addr) (n1 : Nat) (c1 : Nat) (x12 : Int) (x13 : Int) (h : Heap) : Prop := Pt Try.prog Try.f82 R [false, false, true, false, true, true] (mkFr [(0, (Value.slice A0 n0 c0)), (1, (Value.slice A1 n1 c1)), (12, (Value.int .i64 x12)), (13, (Value.int .i64 x13))]) h
set_option maxRecDepth 100000 in
def f82.l0T (R : Value → Heap → Prop) (A0 : Option Addr) (n0 : Nat) (c0 : Nat) (A1 : Option Addr) (n1 : Nat) (c1 : Nat) (x12 : Int) (x13 : Int) (h : Heap) : Prop :=
  splitB (decide (x13 < x12)) (ptrOk A0 fun a1_ => 0 ≤ x13 ∧ x13 < ((n0 : Nat) : Int) ∧ (ptrOk A1 fun a2_ => 0 ≤ x13 ∧ x13 < ((n1 : Nat) : Int) ∧ (∃ v3_, ldv true 9 h (Addr.add a1_ (Int.toNat x13 * 9)) = some v3_ ∧ ∃ v4_, ldv true 9 h (Addr.add a2_ (Int.toNat x13 * 9)) = some v4_ ∧ ∃ v5_, (Run Try.prog 121 #[v3_, v4_] h fun v6_ h7_ => v6_ = v5_ ∧ h7_ = h) ∧ ∃ b8_, v5_ = (Value.bool b8_) ∧ splitB (!b8_) (R (Value.bool false) h) (f82.l0 R A0 n0 c0 A1 n1 c1 x12 (IntKind.wrap .i64 (x13 + (1 : Int))) h)))) (R (Value.bool true) h)
set_option maxRecDepth 100000 in
theorem f82.l0_in {R : Value → Heap → Prop} {A0 : Option Addr} {n0 : Nat} {c0 : Nat} {A1 : Option Addr} {n1 : Nat} {c1 : Nat} {x12 : Int} {x13 : Int} {h : Heap} (H : f82.l0T R A0 n0 c0 A1 n1 c1 x12 x13 h) : f82.l0 R A0 n0 c0 A1 n1 c1 x12 x13 h :=
  pt_intro mixed f82.good (Eq.mpr (show (Fwd Try.prog f82.T f82.kp Try.f82 R [false, false, true, false, true, true] (mkFr [(0, (Value.slice A0 n0 c0)), (1, (Value.slice A1 n1 c1)), (12, (Value.int .i64 x12)), (13, (Value.int .i64 x13))]) h) = (f82.l0T R A0 n0 c0 A1 n1 c1 x12 x13 h) by kernel_rfl) H)
set_option maxRecDepth 100000 in
def f82.runT (R : Value → Heap → Prop) (A0 : Option Addr) (n0 : Nat) (c0 : Nat) (A1 : Option Addr) (n1 : Nat) (c1 : Nat) (h : Heap) : Prop :=
  splitB (((n0 : Nat) : Int) != ((n1 : Nat) : Int)) (R (Value.bool false) h) (f82.l0 R A0 n0 c0 A1 n1 c1 ((n0 : Nat) : Int) (0 : Int) h)
set_option maxRecDepth 100000 in
theorem f82.run {R : Value → Heap → Prop} {A0 : Option Addr} {n0 : Nat} {c0 : Nat} {A1 : Option Addr} {n1 : Nat} {c1 : Nat} {h : Heap} (H : f82.runT R A0 n0 c0 A1 n1 c1 h) : Run Try.prog 82 #[(Value.slice A0 n0 c0), (Value.slice A1 n1 c1)] h R :=
  run_of mixed Try.func82 (by kernel_rfl) (by kernel_rfl) f82.good (Eq.mpr (show (Fwd Try.prog f82.T f82.kp Try.f82 R [] (mkFr (argL [(Value.slice A0 n0 c0), (Value.slice A1 n1 c1)] 0)) h) = (f82.runT R A0 n0 c0 A1 n1 c1 h) by kernel_rfl) H)

/-! ### roadstead/roadref3.SameBox: function 81 -/
def f81.T : Tab := { sh := tSh, tup := tTup, keep := [], plan := [] }
def f81.kp : Keep := []
theorem f81.good : goodCode Try.prog f81.T (rootOf Try.f81) = true := by kernel_rfl
set_option maxRecDepth 100000 in
theorem f81.ok : calleeOk Try.prog 81 = true := by kernel_rfl
set_option maxRecDepth 100000 in
def f81.runT (R : Value → Heap → Prop) (v0 : Value) (v1 : Value) (h : Heap) : Prop :=
  newH h (Obj.cells ((v0).cells) 104) fun h1_ => newH h1_ (Obj.cells ((v1).cells) 104) fun h2_ => ∃ v3_, ldv false 1 h2_ (Addr.add (⟨Array.size h, 0, none⟩) 1) = some v3_ ∧ ∃ x4_, v3_ = (Value.int .i64 x4_) ∧ ∃ v5_, ldv false 1 h2_ (Addr.add (⟨Array.size h1_, 0, none⟩) 1) = some v5_ ∧ ∃ x6_, v5_ = (Value.int .i64 x6_) ∧ splitB (x4_ == x6_) (∃ v7_, ldv false 1 h2_ (⟨Array.size h, 0, none⟩) = some v7_ ∧ ∃ A8_, ∃ n8_, ∃ c8_, v7_ = (Value.slice A8_ n8_ c8_) ∧ ∃ v9_, ldv false 1 h2_ (⟨Array.size h1_, 0, none⟩) = some v9_ ∧ ∃ A10_, ∃ n10_, ∃ c10_, v9_ = (Value.slice A10_ n10_ c10_) ∧ Run Try.prog 82 #[(Value.slice A8_ n8_ c8_), (Value.slice A10_ n10_ c10_)] h2_ fun v11_ h12_ => ∃ b13_, v11_ = (Value.bool b13_) ∧ R (Value.bool b13_) h12_) (R (Value.bool false) h2_)
set_option maxRecDepth 100000 in
theorem f81.run {R : Value → Heap → Prop} {v0 : Value} {v1 : Value} {h : Heap} (H : f81.runT R v0 v1 h) : Run Try.prog 81 #[v0, v1] h R :=
  run_of mixed Try.func81 (by kernel_rfl) (by kernel_rfl) f81.good (Eq.mpr (show (Fwd Try.prog f81.T f81.kp Try.f81 R [] (mkFr (argL [v0, v1] 0)) h) = (f81.runT R v0 v1 h) by kernel_rfl) H)

/-! ### roadstead/roadlaw3.BoxTells: function 12 -/
def f12.T : Tab := { sh := tSh, tup := tTup, keep := [], plan := [(7, (.take 2 (.take 0 (.quiet false 1 (.take 3 (.take 4 (.split 4 (.take 5 (.take 7 (.eff true 6 (.eff true 8 (.quiet false 9 (.take 10 (.take 11 (.take 12 (.split 12 (.take 13 (.take 16 (.take 14 (.take 17 (.eff true 15 (.quiet false 18 (.take 19 (.take 20 .done)))))))))))))))))))))))), (26, (.take 1 (.take 7 (.take 0 (.take 2 (.take 4 (.take 8 (.alt true 3 (.eff true 5 (.eff true 6 (.eff true 9 (.quiet false 10 (.take 11 (.split 11 (.take 12 (.take 13 (.take 14 (.take 15 .done)))))))))) (.eff true 5 (.eff true 3 (.eff true 6 (.eff true 9 (.quiet false 10 (.take 11 (.split 11 (.take 12 (.take 13 (.take 14 (.take 15 .done)))))))))))))))))))] }
def f12.kp : Keep := [([true, true, true, true, true, true, true], [2, 3, 4, 7, 8, 9, 10, 11, 12, 13]), ([false, false, true, false, true, true, true, true, true, true, true, true, true], [2, 3, 4, 7, 8, 9, 10, 11, 12, 13, 14, 92, 93, 94]), ([true, true, true, true, true, true, true, true, true, true, true], [3, 4, 7, 8, 13]), ([true, true, true, true, true, true, true, true, true, true, true, true], [3, 4, 7, 8, 13])]
theorem f12.good : goodCode Try.prog f12.T (rootOf Try.f12) = true := by kernel_rfl
set_option maxRecDepth 100000 in
theorem f12.ok : calleeOk Try.prog 12 = true := by kernel_rfl
def f12.j0 (R : Value → Heap → Prop) (x2 : Int) (a3 : Addr) (a4 : Addr) (a7 : Addr) (x8 : Int) (a9 : Addr) (x10 : Int) (A11 : Option Addr) (n11 : Nat) (c11 : Nat) (x12 : Int) (x13 : Int) (h : Heap) : Prop := Pt Try.prog Try.f12 R [true, true, true, true, true, true, true] (mkFr [(2, (Value.int .i64 x2)), (3, (Value.pointer (some a3))), (4, (Value.pointer (some a4))), (7, (Value.pointer (some a7))), (8, (Value.int .i64 x8)), (9, (Value.pointer (some a9))), (10, (Value.int .i64 x10)), (11, (Value.slice A11 n11 c11)), (12, (Value.int .i64 x12)), (13, (Value.int .i64 x13))]) h
def f12.l0 (R : Value → Heap → Prop) (x2 : Int) (a3 : Addr) (a4 : Addr) (a7 : Addr) (x8 : Int) (a9 : Addr) (x10 : Int) (A11 : Option Addr) (n11 : Nat) (c11 : Nat) (x12 : Int) (x13 : Int) (A14 : Option Addr) (n14 : Nat) (c14 : Nat) (A92 : Option Addr) (n92 : Nat) (c92 : Nat) (x93 : Int) (x94 : Int) (h : Heap) : Prop := Pt Try.prog Try.f12 R [false, false, true, false, true, true, true, true, true, true, true, true, true] (mkFr [(2, (Value.int .i64 x2)), (3, (Value.pointer (some a3))), (4, (Value.pointer (some a4))), (7, (Value.pointer (some a7))), (8, (Value.int .i64 x8)), (9, (Value.pointer (some a9))), (10, (Value.int .i64 x10)), (11, (Value.slice A11 n11 c11)), (12, (Value.int .i64 x12)), (13, (Value.int .i64 x13)), (14, (Value.slice A14 n14 c14)), (92, (Value.slice A92 n92 c92)), (93, (Value.int .i64 x93)), (94, (Value.int .i64 x94))]) h
def f12.j1 (R : Value → Heap → Prop) (a3 : Addr) (a4 : Addr) (a7 : Addr) (x8 : Int) (x13 : Int) (h : Heap) : Prop := Pt Try.prog Try.f12 R [true, true, true, true, true, true, true, true, true, true, true] (mkFr [(3, (Value.pointer (some a3))), (4, (Value.pointer (some a4))), (7, (Value.pointer (some a7))), (8, (Value.int .i64 x8)), (13, (Value.int .i64 x13))]) h
def f12.j2 (R : Value → Heap → Prop) (a3 : Addr) (a4 : Addr) (a7 : Addr) (x8 : Int) (x13 : Int) (h : Heap) : Prop := Pt Try.prog Try.f12 R [true, true, true, true, true, true, true, true, true, true, true, true] (mkFr [(3, (Value.pointer (some a3))), (4, (Value.pointer (some a4))), (7, (Value.pointer (some a7))), (8, (Value.int .i64 x8)), (13, (Value.int .i64 x13))]) h
set_option maxRecDepth 100000 in
def f12.j0T (R : Value → Heap → Prop) (x2 : Int) (a3 : Addr) (a4 : Addr) (a7 : Addr) (x8 : Int) (a9 : Addr) (x10 : Int) (A11 : Option Addr) (n11 : Nat) (c11 : Nat) (x12 : Int) (x13 : Int) (h : Heap) : Prop :=
  splitB (x13 != (0 : Int)) (∃ v1_, ldv true 2 h a7 = some v1_ ∧ Run Try.prog 81 #[v1_, (Value.agg #[(Value.slice none 0 0), (Value.int .i64 (0 : Int))])] h fun v2_ h3_ => ∃ b4_, v2_ = (Value.bool b4_) ∧ splitB b4_ (splitB (x8 == x13) (∃ v5_, ldv true 2 h3_ a9 = some v5_ ∧ Run Try.prog 81 #[v5_, (Value.agg #[(Value.slice none 0 0), (Value.int .i64 (0 : Int))])] h3_ fun v6_ h7_ => ∃ b8_, v6_ = (Value.bool b8_) ∧ splitB b8_ (splitB (x10 == x13) (splitB (((n11 : Nat) : Int) == (0 : Int)) (R (Value.bool (x12 == x13)) h7_) (R (Value.bool false) h7_)) (R (Value.bool false) h7_)) (R (Value.bool false) h7_)) (R (Value.bool false) h3_)) (R (Value.bool false) h3_)) (∃ v9_, ldv false 1 h a3 = some v9_ ∧ ∃ A10_, ∃ n10_, ∃ c10_, v9_ = (Value.slice A10_ n10_ c10_) ∧ f12.l0 R x2 a3 a4 a7 x8 a9 x10 A11 n11 c11 x12 x13 none 0 0 A10_ n10_ c10_ ((n10_ : Nat) : Int) (0 : Int) h)
set_option maxRecDepth 100000 in
theorem f12.j0_in {R : Value → Heap → Prop} {x2 : Int} {a3 : Addr} {a4 : Addr} {a7 : Addr} {x8 : Int} {a9 : Addr} {x10 : Int} {A11 : Option Addr} {n11 : Nat} {c11 : Nat} {x12 : Int} {x13 : Int} {h : Heap} (H : f12.j0T R x2 a3 a4 a7 x8 a9 x10 A11 n11 c11 x12 x13 h) : f12.j0 R x2 a3 a4 a7 x8 a9 x10 A11 n11 c11 x12 x13 h :=
  pt_intro mixed f12.good (Eq.mpr (show (Fwd Try.prog f12.T f12.kp Try.f12 R [true, true, true, true, true, true, true] (mkFr [(2, (Value.int .i64 x2)), (3, (Value.pointer (some a3))), (4, (Value.pointer (some a4))), (7, (Value.pointer (some a7))), (8, (Value.int .i64 x8)), (9, (Value.pointer (some a9))), (10, (Value.int .i64 x10)), (11, (Value.slice A11 n11 c11)), (12, (Value.int .i64 x12)), (13, (Value.int .i64 x13))]) h) = (f12.j0T R x2 a3 a4 a7 x8 a9 x10 A11 n11 c11 x12 x13 h) by kernel_rfl) H)
set_option maxRecDepth 100000 in
def f12.l0T (R : Value → Heap → Prop) (x2 : Int) (a3 : Addr) (a4 : Addr) (a7 : Addr) (x8 : Int) (a9 : Addr) (x10 : Int) (A11 : Option Addr) (n11 : Nat) (c11 : Nat) (x12 : Int) (x13 : Int) (A14 : Option Addr) (n14 : Nat) (c14 : Nat) (A92 : Option Addr) (n92 : Nat) (c92 : Nat) (x93 : Int) (x94 : Int) (h : Heap) : Prop :=
  splitB (decide (x94 < x93)) (ptrOk A92 fun a1_ => 0 ≤ x94 ∧ x94 < ((n92 : Nat) : Int) ∧ (∃ v2_, ldv true 9 h (Addr.add a1_ (Int.toNat x94 * 9)) = some v2_ ∧ newH h (Obj.cells #[(Value.int .i64 (0 : Int)), (Value.int .i64 (0 : Int)), (Value.int .i64 (0 : Int)), (Value.int .i64 (0 : Int)), (Value.string (ByteArray.mk #[])), (Value.int .i64 (0 : Int)), (Value.int .i64 (0 : Int)), (Value.string (ByteArray.mk #[])), (Value.slice none 0 0)] 106) fun h3_ => ∃ l5_ : List Value, v2_ = Value.agg l5_.toArray ∧ l5_.length = 9 ∧ ∃ h4_, stH h3_ (⟨Array.size h, 0, none⟩) l5_ 0 = some h4_ ∧ ∃ v6_, ldv false 1 h4_ (Addr.add (⟨Array.size h, 0, none⟩) 1) = some v6_ ∧ ∃ x7_, v6_ = (Value.int .i64 x7_) ∧ splitB (x7_ == x2) (∃ v8_, ldv true 9 h4_ (⟨Array.size h, 0, none⟩) = some v8_ ∧ ∃ l9_ : List Value, v8_ = Value.agg l9_.toArray ∧ l9_.length = 9 ∧ (newH h4_ (Obj.cells ((List.take 0 ([(Value.int .i64 (0 : Int)), (Value.int .i64 (0 : Int)), (Value.int .i64 (0 : Int)), (Value.int .i64 (0 : Int)), (Value.string (ByteArray.mk #[])), (Value.int .i64 (0 : Int)), (Value.int .i64 (0 : Int)), (Value.string (ByteArray.mk #[])), (Value.slice none 0 0)]) ++ l9_ ++ List.drop 9 ([(Value.int .i64 (0 : Int)), (Value.int .i64 (0 : Int)), (Value.int .i64 (0 : Int)), (Value.int .i64 (0 : Int)), (Value.string (ByteArray.mk #[])), (Value.int .i64 (0 : Int)), (Value.int .i64 (0 : Int)), (Value.string (ByteArray.mk #[])), (Value.slice none 0 0)])).toArray) 106) fun h10_ => AppW 106 9 104 #[(Value.int .i64 (0 : Int)), (Value.int .i64 (0 : Int)), (Value.int .i64 (0 : Int)), (Value.int .i64 (0 : Int)), (Value.string (ByteArray.mk #[])), (Value.int .i64 (0 : Int)), (Value.int .i64 (0 : Int)), (Value.string (ByteArray.mk #[])), (Value.slice none 0 0)] A14 n14 c14 (Value.slice (some ⟨Array.size h4_, 0, none⟩) 1 1) h10_ fun v11_ h12_ => ∃ A13_, ∃ n13_, ∃ c13_, v11_ = (Value.slice A13_ n13_ c13_) ∧ f12.l0 R x2 a3 a4 a7 x8 a9 x10 A11 n11 c11 x12 x13 A13_ n13_ c13_ A92 n92 c92 x93 (IntKind.wrap .i64 (x94 + (1 : Int))) h12_)) (f12.l0 R x2 a3 a4 a7 x8 a9 x10 A11 n11 c11 x12 x13 A14 n14 c14 A92 n92 c92 x93 (IntKind.wrap .i64 (x94 + (1 : Int))) h4_))) (∃ v14_, ldv true 2 h a9 = some v14_ ∧ ∃ v15_, ldv false 1 h a3 = some v15_ ∧ ∃ A16_, ∃ n16_, ∃ c16_, v15_ = (Value.slice A16_ n16_ c16_) ∧ Run Try.prog 81 #[v14_, (Value.agg #[(Value.slice A16_ n16_ c16_), (Value.int .i64 (0 : Int))])] h fun v17_ h18_ => ∃ b19_, v17_ = (Value.bool b19_) ∧ splitB (!b19_) (R (Value.bool false) h18_) (splitB (x10 != (0 : Int)) (R (Value.bool false) h18_) (Run Try.prog 82 #[(Value.slice A11 n11 c11), (Value.slice A14 n14 c14)] h18_ fun v20_ h21_ => ∃ b22_, v20_ = (Value.bool b22_) ∧ splitB (!b22_) (R (Value.bool false) h21_) (splitB (x12 != (0 : Int)) (R (Value.bool false) h21_) (f12.j1 R a3 a4 a7 x8 x13 h21_)))))
set_option maxRecDepth 100000 in
theorem f12.l0_in {R : Value → Heap → Prop} {x2 : Int} {a3 : Addr} {a4 : Addr} {a7 : Addr} {x8 : Int} {a9 : Addr} {x10 : Int} {A11 : Option Addr} {n11 : Nat} {c11 : Nat} {x12 : Int} {x13 : Int} {A14 : Option Addr} {n14 : Nat} {c14 : Nat} {A92 : Option Addr} {n92 : Nat} {c92 : Nat} {x93 : Int} {x94 : Int} {h : Heap} (H : f12.l0T R x2 a3 a4 a7 x8 a9 x10 A11 n11 c11 x12 x13 A14 n14 c14 A92 n92 c92 x93 x94 h) : f12.l0 R x2 a3 a4 a7 x8 a9 x10 A11 n11 c11 x12 x13 A14 n14 c14 A92 n92 c92 x93 x94 h :=
  pt_intro mixed f12.good (Eq.mpr (show (Fwd Try.prog f12.T f12.kp Try.f12 R [false, false, true, false, true, true, true, true, true, true, true, true, true] (mkFr [(2, (Value.int .i64 x2)), (3, (Value.pointer (some a3))), (4, (Value.pointer (some a4))), (7, (Value.pointer (some a7))), (8, (Value.int .i64 x8)), (9, (Value.pointer (some a9))), (10, (Value.int .i64 x10)), (11, (Value.slice A11 n11 c11)), (12, (Value.int .i64 x12)), (13, (Value.int .i64 x13)), (14, (Value.slice A14 n14 c14)), (92, (Value.slice A92 n92 c92)), (93, (Value.int .i64 x93)), (94, (Value.int .i64 x94))]) h) = (f12.l0T R x2 a3 a4 a7 x8 a9 x10 A11 n11 c11 x12 x13 A14 n14 c14 A92 n92 c92 x93 x94 h) by kernel_rfl) H)
set_option maxRecDepth 100000 in
def f12.j1T (R : Value → Heap → Prop) (a3 : Addr) (a4 : Addr) (a7 : Addr) (x8 : Int) (x13 : Int) (h : Heap) : Prop :=
  ∃ v1_, ldv false 1 h a4 = some v1_ ∧ ∃ x2_, v1_ = (Value.int .i64 x2_) ∧ Run Try.prog 30 #[(Value.int .i64 x2_), (Value.int .i64 (1 : Int)), (Value.int .i64 (2 : Int))] h fun v3_ h4_ => ∃ b5_, v3_ = (Value.bool b5_) ∧ splitB (!b5_) (f12.j2 R a3 a4 a7 x8 (3 : Int) h4_) (∃ v6_, ldv false 1 h4_ a3 = some v6_ ∧ ∃ A7_, ∃ n7_, ∃ c7_, v6_ = (Value.slice A7_ n7_ c7_) ∧ splitB (((n7_ : Nat) : Int) == (60 : Int)) (f12.j2 R a3 a4 a7 x8 (6 : Int) h4_) (f12.j2 R a3 a4 a7 x8 x13 h4_))
set_option maxRecDepth 100000 in
theorem f12.j1_in {R : Value → Heap → Prop} {a3 : Addr} {a4 : Addr} {a7 : Addr} {x8 : Int} {x13 : Int} {h : Heap} (H : f12.j1T R a3 a4 a7 x8 x13 h) : f12.j1 R a3 a4 a7 x8 x13 h :=
  pt_intro mixed f12.good (Eq.mpr (show (Fwd Try.prog f12.T f12.kp Try.f12 R [true, true, true, true, true, true, true, true, true, true, true] (mkFr [(3, (Value.pointer (some a3))), (4, (Value.pointer (some a4))), (7, (Value.pointer (some a7))), (8, (Value.int .i64 x8)), (13, (Value.int .i64 x13))]) h) = (f12.j1T R a3 a4 a7 x8 x13 h) by kernel_rfl) H)
set_option maxRecDepth 100000 in
def f12.j2T (R : Value → Heap → Prop) (a3 : Addr) (a4 : Addr) (a7 : Addr) (x8 : Int) (x13 : Int) (h : Heap) : Prop :=
  splitB (x13 != (0 : Int)) (∃ v1_, ldv true 2 h a7 = some v1_ ∧ Run Try.prog 81 #[v1_, (Value.agg #[(Value.slice none 0 0), (Value.int .i64 (0 : Int))])] h fun v2_ h3_ => ∃ b4_, v2_ = (Value.bool b4_) ∧ splitB b4_ (R (Value.bool (x8 == x13)) h3_) (R (Value.bool false) h3_)) (∃ v5_, ldv true 2 h a7 = some v5_ ∧ ∃ v6_, ldv false 1 h a3 = some v6_ ∧ ∃ A7_, ∃ n7_, ∃ c7_, v6_ = (Value.slice A7_ n7_ c7_) ∧ ∃ v8_, ldv true 9 h a4 = some v8_ ∧ ∃ v9_, ldv false 1 h (Addr.add a3 1) = some v9_ ∧ ∃ x10_, v9_ = (Value.int .i64 x10_) ∧ (Run Try.prog 83 #[(Value.slice A7_ n7_ c7_)] h fun v11_ h12_ => ∃ A13_, ∃ n13_, ∃ c13_, v11_ = (Value.slice A13_ n13_ c13_) ∧ Ext h h12_ ∧ (∃ l14_ : List Value, v8_ = Value.agg l14_.toArray ∧ l14_.length = 9 ∧ (newH h12_ (Obj.cells ((List.take 0 ([(Value.int .i64 (0 : Int)), (Value.int .i64 (0 : Int)), (Value.int .i64 (0 : Int)), (Value.int .i64 (0 : Int)), (Value.string (ByteArray.mk #[])), (Value.int .i64 (0 : Int)), (Value.int .i64 (0 : Int)), (Value.string (ByteArray.mk #[])), (Value.slice none 0 0)]) ++ l14_ ++ List.drop 9 ([(Value.int .i64 (0 : Int)), (Value.int .i64 (0 : Int)), (Value.int .i64 (0 : Int)), (Value.int .i64 (0 : Int)), (Value.string (ByteArray.mk #[])), (Value.int .i64 (0 : Int)), (Value.int .i64 (0 : Int)), (Value.string (ByteArray.mk #[])), (Value.slice none 0 0)])).toArray) 106) fun h15_ => Ext h12_ h15_ ∧ (AppW 106 9 104 #[(Value.int .i64 (0 : Int)), (Value.int .i64 (0 : Int)), (Value.int .i64 (0 : Int)), (Value.int .i64 (0 : Int)), (Value.string (ByteArray.mk #[])), (Value.int .i64 (0 : Int)), (Value.int .i64 (0 : Int)), (Value.string (ByteArray.mk #[])), (Value.slice none 0 0)] A13_ n13_ c13_ (Value.slice (some ⟨Array.size h12_, 0, none⟩) 1 1) h15_ fun v16_ h17_ => ∃ A18_, ∃ n18_, ∃ c18_, v16_ = (Value.slice A18_ n18_ c18_) ∧ Ext h15_ h17_ ∧ (Ext h17_ h17_ ∧ (∃ v19_, (∀ h23_, Ext h17_ h23_ → Run Try.prog 81 #[v5_, (Value.agg #[(Value.slice A18_ n18_ c18_), (Value.int .i64 x10_)])] h23_ fun v20_ h21_ => v20_ = v19_ ∧ h21_ = h23_) ∧ ∃ b22_, v19_ = (Value.bool b22_) ∧ splitB b22_ (R (Value.bool (x8 == (0 : Int))) h17_) (R (Value.bool false) h17_))))))) ∧ (∃ l24_ : List Value, v8_ = Value.agg l24_.toArray ∧ l24_.length = 9 ∧ (newH h (Obj.cells ((List.take 0 ([(Value.int .i64 (0 : Int)), (Value.int .i64 (0 : Int)), (Value.int .i64 (0 : Int)), (Value.int .i64 (0 : Int)), (Value.string (ByteArray.mk #[])), (Value.int .i64 (0 : Int)), (Value.int .i64 (0 : Int)), (Value.string (ByteArray.mk #[])), (Value.slice none 0 0)]) ++ l24_ ++ List.drop 9 ([(Value.int .i64 (0 : Int)), (Value.int .i64 (0 : Int)), (Value.int .i64 (0 : Int)), (Value.int .i64 (0 : Int)), (Value.string (ByteArray.mk #[])), (Value.int .i64 (0 : Int)), (Value.int .i64 (0 : Int)), (Value.string (ByteArray.mk #[])), (Value.slice none 0 0)])).toArray) 106) fun h25_ => Ext h h25_ ∧ (Run Try.prog 83 #[(Value.slice A7_ n7_ c7_)] h25_ fun v26_ h27_ => ∃ A28_, ∃ n28_, ∃ c28_, v26_ = (Value.slice A28_ n28_ c28_) ∧ Ext h25_ h27_ ∧ (AppW 106 9 104 #[(Value.int .i64 (0 : Int)), (Value.int .i64 (0 : Int)), (Value.int .i64 (0 : Int)), (Value.int .i64 (0 : Int)), (Value.string (ByteArray.mk #[])), (Value.int .i64 (0 : Int)), (Value.int .i64 (0 : Int)), (Value.string (ByteArray.mk #[])), (Value.slice none 0 0)] A28_ n28_ c28_ (Value.slice (some ⟨Array.size h, 0, none⟩) 1 1) h27_ fun v29_ h30_ => ∃ A31_, ∃ n31_, ∃ c31_, v29_ = (Value.slice A31_ n31_ c31_) ∧ Ext h27_ h30_ ∧ (Ext h30_ h30_ ∧ (∃ v32_, (∀ h36_, Ext h30_ h36_ → Run Try.prog 81 #[v5_, (Value.agg #[(Value.slice A31_ n31_ c31_), (Value.int .i64 x10_)])] h36_ fun v33_ h34_ => v33_ = v32_ ∧ h34_ = h36_) ∧ ∃ b35_, v32_ = (Value.bool b35_) ∧ splitB b35_ (R (Value.bool (x8 == (0 : Int))) h30_) (R (Value.bool false) h30_))))))))
set_option maxRecDepth 100000 in
theorem f12.j2_in {R : Value → Heap → Prop} {a3 : Addr} {a4 : Addr} {a7 : Addr} {x8 : Int} {x13 : Int} {h : Heap} (H : f12.j2T R a3 a4 a7 x8 x13 h) : f12.j2 R a3 a4 a7 x8 x13 h :=
  pt_intro mixed f12.good (Eq.mpr (show (Fwd Try.prog f12.T f12.kp Try.f12 R [true, true, true, true, true, true, true, true, true, true, true, true] (mkFr [(3, (Value.pointer (some a3))), (4, (Value.pointer (some a4))), (7, (Value.pointer (some a7))), (8, (Value.int .i64 x8)), (13, (Value.int .i64 x13))]) h) = (f12.j2T R a3 a4 a7 x8 x13 h) by kernel_rfl) H)
set_option maxRecDepth 100000 in
def f12.runT (R : Value → Heap → Prop) (v0 : Value) (v1 : Value) (x2 : Int) (h : Heap) : Prop :=
  newH h (Obj.cells ((v0).cells) 104) fun h1_ => newH h1_ (Obj.cells ((v1).cells) 106) fun h2_ => ∃ v3_, ldv true 4 h2_ (Addr.add (⟨Array.size h1_, 0, none⟩) 5) = some v3_ ∧ Run Try.prog 72 #[v3_] h2_ fun v4_ h5_ => ∃ b6_, v4_ = (Value.bool b6_) ∧ splitB (!b6_) (R (Value.bool true) h5_) (∃ v7_, ldv true 2 h5_ (⟨Array.size h, 0, none⟩) = some v7_ ∧ ∃ v8_, ldv true 9 h5_ (⟨Array.size h1_, 0, none⟩) = some v8_ ∧ Run Try.prog 73 #[v7_, v8_] h5_ fun v9_ h10_ => ∃ v11_, ∃ x12_, v9_ = (Value.tuple #[v11_, (Value.int .i64 x12_)]) ∧ newH h10_ (Obj.cells #[(Value.slice none 0 0), (Value.int .i64 (0 : Int))] 104) fun h13_ => ∃ l15_ : List Value, v11_ = Value.agg l15_.toArray ∧ l15_.length = 2 ∧ ∃ h14_, stH h13_ (⟨Array.size h10_, 0, none⟩) l15_ 0 = some h14_ ∧ ∃ v16_, ldv true 2 h14_ (⟨Array.size h, 0, none⟩) = some v16_ ∧ Run Try.prog 74 #[v16_] h14_ fun v17_ h18_ => ∃ v19_, ∃ x20_, v17_ = (Value.tuple #[v19_, (Value.int .i64 x20_)]) ∧ newH h18_ (Obj.cells #[(Value.slice none 0 0), (Value.int .i64 (0 : Int))] 104) fun h21_ => ∃ l23_ : List Value, v19_ = Value.agg l23_.toArray ∧ l23_.length = 2 ∧ ∃ h22_, stH h21_ (⟨Array.size h18_, 0, none⟩) l23_ 0 = some h22_ ∧ ∃ v24_, ldv true 2 h22_ (⟨Array.size h, 0, none⟩) = some v24_ ∧ Run Try.prog 75 #[v24_, (Value.int .i64 x2)] h22_ fun v25_ h26_ => ∃ A27_, ∃ n27_, ∃ c27_, ∃ x28_, v25_ = (Value.tuple #[(Value.slice A27_ n27_ c27_), (Value.int .i64 x28_)]) ∧ ∃ v29_, ldv true 2 h26_ (⟨Array.size h, 0, none⟩) = some v29_ ∧ Run Try.prog 76 #[v29_] h26_ fun v30_ h31_ => ∃ x32_, v30_ = (Value.int .i64 x32_) ∧ ∃ v33_, ldv true 2 h31_ (⟨Array.size h, 0, none⟩) = some v33_ ∧ ∃ v34_, (∀ h58_, Ext h31_ h58_ → Run Try.prog 77 #[v33_] h58_ fun v35_ h36_ => v35_ = v34_ ∧ h36_ = h58_) ∧ ∃ x37_, v34_ = (Value.int .i64 x37_) ∧ splitB (x37_ != x32_) (Ext h31_ h31_ ∧ (Ext h31_ h31_ ∧ (Ext h31_ h31_ ∧ (R (Value.bool false) h31_)))) (∃ v38_, ldv true 9 h31_ (⟨Array.size h1_, 0, none⟩) = some v38_ ∧ ∃ v39_, ldv true 9 h31_ (⟨Array.size h1_, 0, none⟩) = some v39_ ∧ Run Try.prog 78 #[v38_] h31_ fun v40_ h41_ => Ext h31_ h41_ ∧ (Run Try.prog 79 #[v39_] h41_ fun v42_ h43_ => Ext h41_ h43_ ∧ (∃ v44_, (∀ h57_, Ext h43_ h57_ → Run Try.prog 37 #[v40_, v42_] h57_ fun v45_ h46_ => v45_ = v44_ ∧ h46_ = h57_) ∧ ∃ b47_, v44_ = (Value.bool b47_) ∧ splitB (!b47_) (Ext h43_ h43_ ∧ (R (Value.bool false) h43_)) (∃ v48_, ldv true 4 h43_ (Addr.add (⟨Array.size h1_, 0, none⟩) 5) = some v48_ ∧ ∃ v49_, ldv true 4 h43_ (Addr.add (⟨Array.size h1_, 0, none⟩) 5) = some v49_ ∧ Run Try.prog 80 #[v48_] h43_ fun v50_ h51_ => Ext h43_ h51_ ∧ (∃ v52_, (∀ h56_, Ext h51_ h56_ → Run Try.prog 37 #[v50_, v49_] h56_ fun v53_ h54_ => v53_ = v52_ ∧ h54_ = h56_) ∧ ∃ b55_, v52_ = (Value.bool b55_) ∧ splitB (!b55_) (R (Value.bool false) h51_) (f12.j0 R x2 (⟨Array.size h, 0, none⟩) (⟨Array.size h1_, 0, none⟩) (⟨Array.size h10_, 0, none⟩) x12_ (⟨Array.size h18_, 0, none⟩) x20_ A27_ n27_ c27_ x28_ x32_ h51_)))))))
set_option maxRecDepth 100000 in
theorem f12.run {R : Value → Heap → Prop} {v0 : Value} {v1 : Value} {x2 : Int} {h : Heap} (H : f12.runT R v0 v1 x2 h) : Run Try.prog 12 #[v0, v1, (Value.int .i64 x2)] h R :=
  run_of mixed Try.func12 (by kernel_rfl) (by kernel_rfl) f12.good (Eq.mpr (show (Fwd Try.prog f12.T f12.kp Try.f12 R [] (mkFr (argL [v0, v1, (Value.int .i64 x2)] 0)) h) = (f12.runT R v0 v1 x2 h) by kernel_rfl) H)

/-! ### slices.IndexFunc[roadstead/blob.Store,roadstead/blob.Blob]: function 123 -/
def f123.T : Tab := { sh := tSh, tup := tTup, keep := [], plan := [] }
def f123.kp : Keep := [([false, false, true, false, true], [0, 1, 7, 8])]
theorem f123.good : goodCode Try.prog f123.T (rootOf Try.f123) = true := by kernel_rfl
set_option maxRecDepth 100000 in
theorem f123.ok : calleeOk Try.prog 123 = true := by kernel_rfl
def f123.l0 (R : Value → Heap → Prop) (A0 : Option Addr) (n0 : Nat) (c0 : Nat) (v1 : Value) (x7 : Int) (x8 : Int) (h : Heap) : Prop := Pt Try.prog Try.f123 R [false, false, true, false, true] (mkFr [(0, (Value.slice A0 n0 c0)), (1, v1), (7, (Value.int .i64 x7)), (8, (Value.int .i64 x8))]) h
set_option maxRecDepth 100000 in
def f123.l0T (R : Value → Heap → Prop) (A0 : Option Addr) (n0 : Nat) (c0 : Nat) (v1 : Value) (x7 : Int) (x8 : Int) (h : Heap) : Prop :=
  splitB (decide (x8 < x7)) (ptrOk A0 fun a1_ => 0 ≤ x8 ∧ x8 < ((n0 : Nat) : Int) ∧ (∃ v2_, ldv true 2 h (Addr.add a1_ (Int.toNat x8 * 2)) = some v2_ ∧ CallF Try.prog v1 [v2_] h fun v3_ h4_ => ∃ b5_, v3_ = (Value.bool b5_) ∧ splitB b5_ (R (Value.int .i64 x8) h4_) (f123.l0 R A0 n0 c0 v1 x7 (IntKind.wrap .i64 (x8 + (1 : Int))) h4_))) (R (Value.int .i64 (-1 : Int)) h)
set_option maxRecDepth 100000 in
theorem f123.l0_in {R : Value → Heap → Prop} {A0 : Option Addr} {n0 : Nat} {c0 : Nat} {v1 : Value} {x7 : Int} {x8 : Int} {h : Heap} (H : f123.l0T R A0 n0 c0 v1 x7 x8 h) : f123.l0 R A0 n0 c0 v1 x7 x8 h :=
  pt_intro mixed f123.good (Eq.mpr (show (Fwd Try.prog f123.T f123.kp Try.f123 R [false, false, true, false, true] (mkFr [(0, (Value.slice A0 n0 c0)), (1, v1), (7, (Value.int .i64 x7)), (8, (Value.int .i64 x8))]) h) = (f123.l0T R A0 n0 c0 v1 x7 x8 h) by kernel_rfl) H)
set_option maxRecDepth 100000 in
def f123.runT (R : Value → Heap → Prop) (A0 : Option Addr) (n0 : Nat) (c0 : Nat) (v1 : Value) (h : Heap) : Prop :=
  f123.l0 R A0 n0 c0 v1 ((n0 : Nat) : Int) (0 : Int) h
set_option maxRecDepth 100000 in
theorem f123.run {R : Value → Heap → Prop} {A0 : Option Addr} {n0 : Nat} {c0 : Nat} {v1 : Value} {h : Heap} (H : f123.runT R A0 n0 c0 v1 h) : Run Try.prog 123 #[(Value.slice A0 n0 c0), v1] h R :=
  run_of mixed Try.func123 (by kernel_rfl) (by kernel_rfl) f123.good (Eq.mpr (show (Fwd Try.prog f123.T f123.kp Try.f123 R [] (mkFr (argL [(Value.slice A0 n0 c0), v1] 0)) h) = (f123.runT R A0 n0 c0 v1 h) by kernel_rfl) H)

/-! ### roadstead/blob.find$1: function 133 -/
def f133.T : Tab := { sh := tSh, tup := tTup, keep := [], plan := [] }
def f133.kp : Keep := []
theorem f133.good : goodCode Try.prog f133.T (rootOf Try.f133) = true := by kernel_rfl
set_option maxRecDepth 100000 in
theorem f133.ok : calleeOk Try.prog 133 = true := by kernel_rfl
set_option maxRecDepth 100000 in
def f133.runT (R : Value → Heap → Prop) (v0 : Value) (a1 : Addr) (h : Heap) : Prop :=
  newH h (Obj.cells ((v0).cells) 131) fun h1_ => ∃ v2_, ldv false 1 h1_ (Addr.add (⟨Array.size h, 0, none⟩) 1) = some v2_ ∧ ∃ x3_, v2_ = (Value.int .i64 x3_) ∧ splitB (decide (x3_ > (0 : Int))) (∃ v4_, ldv false 1 h1_ (⟨Array.size h, 0, none⟩) = some v4_ ∧ ∃ s5_, v4_ = (Value.string s5_) ∧ ∃ v6_, ldv false 1 h1_ a1 = some v6_ ∧ ∃ s7_, v6_ = (Value.string s7_) ∧ R (Value.bool (ByteArray.toList s5_ == ByteArray.toList s7_)) h1_) (R (Value.bool false) h1_)
set_option maxRecDepth 100000 in
theorem f133.run {R : Value → Heap → Prop} {v0 : Value} {a1 : Addr} {h : Heap} (H : f133.runT R v0 a1 h) : Run Try.prog 133 #[v0, (Value.pointer (some a1))] h R :=
  run_of mixed Try.func133 (by kernel_rfl) (by kernel_rfl) f133.good (Eq.mpr (show (Fwd Try.prog f133.T f133.kp Try.f133 R [] (mkFr (argL [v0, (Value.pointer (some a1))] 0)) h) = (f133.runT R v0 a1 h) by kernel_rfl) H)

/-! ### roadstead/blob.find: function 122 -/
def f122.T : Tab := { sh := tSh, tup := tTup, keep := [], plan := [] }
def f122.kp : Keep := []
theorem f122.good : goodCode Try.prog f122.T (rootOf Try.f122) = true := by kernel_rfl
set_option maxRecDepth 100000 in
theorem f122.ok : calleeOk Try.prog 122 = true := by kernel_rfl
set_option maxRecDepth 100000 in
def f122.runT (R : Value → Heap → Prop) (A0 : Option Addr) (n0 : Nat) (c0 : Nat) (s1 : ByteArray) (h : Heap) : Prop :=
  newH h (Obj.cells #[(Value.string s1)] 9) fun h1_ => Run Try.prog 123 #[(Value.slice A0 n0 c0), (Value.func (.func 133) #[] #[(Value.pointer (some ⟨Array.size h, 0, none⟩))])] h1_ fun v2_ h3_ => ∃ x4_, v2_ = (Value.int .i64 x4_) ∧ R (Value.int .i64 x4_) h3_
set_option maxRecDepth 100000 in
theorem f122.run {R : Value → Heap → Prop} {A0 : Option Addr} {n0 : Nat} {c0 : Nat} {s1 : ByteArray} {h : Heap} (H : f122.runT R A0 n0 c0 s1 h) : Run Try.prog 122 #[(Value.slice A0 n0 c0), (Value.string s1)] h R :=
  run_of mixed Try.func122 (by kernel_rfl) (by kernel_rfl) f122.good (Eq.mpr (show (Fwd Try.prog f122.T f122.kp Try.f122 R [] (mkFr (argL [(Value.slice A0 n0 c0), (Value.string s1)] 0)) h) = (f122.runT R A0 n0 c0 s1 h) by kernel_rfl) H)

/-! ### roadstead/blob.Check: function 89 -/
def f89.T : Tab := { sh := tSh, tup := tTup, keep := [], plan := [(8, (.take 0 (.take 1 (.take 2 (.take 3 (.split 3 (.take 4 (.take 5 (.take 6 (.take 7 (.take 8 (.quiet true 9 (.take 10 (.take 11 (.take 12 .done)))))))))))))))] }
def f89.kp : Keep := [([false, false, true, false, true, true], [0, 8, 9, 10]), ([true, false, true, false, false, true, true, false, false, true, false, true, true], [0, 3, 4, 8, 9, 10, 15, 21, 22, 23, 26, 27, 28, 31, 32, 33, 34, 35, 36, 37, 38])]
theorem f89.good : goodCode Try.prog f89.T (rootOf Try.f89) = true := by kernel_rfl
set_option maxRecDepth 100000 in
theorem f89.ok : calleeOk Try.prog 89 = true := by kernel_rfl
def f89.l0 (R : Value → Heap → Prop) (A0 : Option Addr) (n0 : Nat) (c0 : Nat) (A8 : Option Addr) (n8 : Nat) (c8 : Nat) (x9 : Int) (x10 : Int) (h : Heap) : Prop := Pt Try.prog Try.f89 R [false, false, true, false, true, true] (mkFr [(0, (Value.slice A0 n0 c0)), (8, (Value.slice A8 n8 c8)), (9, (Value.int .i64 x9)), (10, (Value.int .i64 x10))]) h
def f89.j0 (R : Value → Heap → Prop) (A0 : Option Addr) (n0 : Nat) (c0 : Nat) (x3 : Int) (a4 : Addr) (A8 : Option Addr) (n8 : Nat) (c8 : Nat) (x9 : Int) (x10 : Int) (b15 : Bool) (v21 : Value) (v22 : Value) (v23 : Value) (v26 : Value) (v27 : Value) (v28 : Value) (v31 : Value) (v32 : Value) (v33 : Value) (v34 : Value) (v35 : Value) (v36 : Value) (v37 : Value) (v38 : Value) (h : Heap) : Prop := Pt Try.prog Try.f89 R [true, false, true, false, false, true, true, false, false, true, false, true, true] (mkFr [(0, (Value.slice A0 n0 c0)), (3, (Value.int .i64 x3)), (4, (Value.pointer (some a4))), (8, (Value.slice A8 n8 c8)), (9, (Value.int .i64 x9)), (10, (Value.int .i64 x10)), (15, (Value.bool b15)), (21, v21), (22, v22), (23, v23), (26, v26), (27, v27), (28, v28), (31, v31), (32, v32), (33, v33), (34, v34), (35, v35), (36, v36), (37, v37), (38, v38)]) h
set_option maxRecDepth 100000 in
def f89.l0T (R : Value → Heap → Prop) (A0 : Option Addr) (n0 : Nat) (c0 : Nat) (A8 : Option Addr) (n8 : Nat) (c8 : Nat) (x9 : Int) (x10 : Int) (h : Heap) : Prop :=
  splitB (decide (x10 < x9)) (ptrOk A8 fun a1_ => 0 ≤ x10 ∧ x10 < ((n8 : Nat) : Int) ∧ (∃ v2_, ldv true 2 h (Addr.add a1_ (Int.toNat x10 * 2)) = some v2_ ∧ newH h (Obj.cells #[(Value.string (ByteArray.mk #[])), (Value.int .i64 (0 : Int))] 131) fun h3_ => ∃ l5_ : List Value, v2_ = Value.agg l5_.toArray ∧ l5_.length = 2 ∧ ∃ h4_, stH h3_ (⟨Array.size h, 0, none⟩) l5_ 0 = some h4_ ∧ ∃ v6_, ldv false 1 h4_ (⟨Array.size h, 0, none⟩) = some v6_ ∧ ∃ s7_, v6_ = (Value.string s7_) ∧ splitB (decide (((ByteArray.size s7_ : Nat) : Int) > (64 : Int))) (f89.j0 R A0 n0 c0 x10 (⟨Array.size h, 0, none⟩) A8 n8 c8 x9 x10 true (Value.tuple #[]) (Value.tuple #[]) (Value.tuple #[]) (Value.tuple #[]) (Value.tuple #[]) (Value.tuple #[]) (Value.tuple #[]) (Value.tuple #[]) (Value.tuple #[]) (Value.tuple #[]) (Value.tuple #[]) (Value.tuple #[]) (Value.tuple #[]) (Value.tuple #[]) h4_) (∃ v8_, ldv false 1 h4_ (Addr.add (⟨Array.size h, 0, none⟩) 1) = some v8_ ∧ ∃ x9_, v8_ = (Value.int .i64 x9_) ∧ splitB (decide (x9_ < (0 : Int))) (f89.j0 R A0 n0 c0 x10 (⟨Array.size h, 0, none⟩) A8 n8 c8 x9 x10 true (Value.pointer (some (Addr.add (⟨Array.size h, 0, none⟩) 1))) (Value.int .i64 x9_) (Value.bool (decide (x9_ < (0 : Int)))) (Value.tuple #[]) (Value.tuple #[]) (Value.tuple #[]) (Value.tuple #[]) (Value.tuple #[]) (Value.tuple #[]) (Value.tuple #[]) (Value.tuple #[]) (Value.tuple #[]) (Value.tuple #[]) (Value.tuple #[]) h4_) (∃ v10_, ldv false 1 h4_ (Addr.add (⟨Array.size h, 0, none⟩) 1) = some v10_ ∧ ∃ x11_, v10_ = (Value.int .i64 x11_) ∧ splitB (decide (x11_ > (1000 : Int))) (f89.j0 R A0 n0 c0 x10 (⟨Array.size h, 0, none⟩) A8 n8 c8 x9 x10 true (Value.pointer (some (Addr.add (⟨Array.size h, 0, none⟩) 1))) (Value.int .i64 x9_) (Value.bool (decide (x9_ < (0 : Int)))) (Value.pointer (some (Addr.add (⟨Array.size h, 0, none⟩) 1))) (Value.int .i64 x11_) (Value.bool (decide (x11_ > (1000 : Int)))) (Value.tuple #[]) (Value.tuple #[]) (Value.tuple #[]) (Value.tuple #[]) (Value.tuple #[]) (Value.tuple #[]) (Value.tuple #[]) (Value.tuple #[]) h4_) (∃ v12_, ldv false 1 h4_ (Addr.add (⟨Array.size h, 0, none⟩) 1) = some v12_ ∧ ∃ x13_, v12_ = (Value.int .i64 x13_) ∧ splitB (x13_ == (0 : Int)) (∃ v14_, ldv false 1 h4_ (⟨Array.size h, 0, none⟩) = some v14_ ∧ ∃ s15_, v14_ = (Value.string s15_) ∧ f89.j0 R A0 n0 c0 x10 (⟨Array.size h, 0, none⟩) A8 n8 c8 x9 x10 (!(ByteArray.toList s15_ == ByteArray.toList (ByteArray.mk #[]))) (Value.pointer (some (Addr.add (⟨Array.size h, 0, none⟩) 1))) (Value.int .i64 x9_) (Value.bool (decide (x9_ < (0 : Int)))) (Value.pointer (some (Addr.add (⟨Array.size h, 0, none⟩) 1))) (Value.int .i64 x11_) (Value.bool (decide (x11_ > (1000 : Int)))) (Value.pointer (some (Addr.add (⟨Array.size h, 0, none⟩) 1))) (Value.int .i64 x13_) (Value.bool (x13_ == (0 : Int))) (Value.bool true) (Value.pointer (some ⟨Array.size h, 0, none⟩)) (Value.string s15_) (Value.bool (!(ByteArray.toList s15_ == ByteArray.toList (ByteArray.mk #[])))) (Value.bool (!(ByteArray.toList s15_ == ByteArray.toList (ByteArray.mk #[])))) h4_) (f89.j0 R A0 n0 c0 x10 (⟨Array.size h, 0, none⟩) A8 n8 c8 x9 x10 false (Value.pointer (some (Addr.add (⟨Array.size h, 0, none⟩) 1))) (Value.int .i64 x9_) (Value.bool (decide (x9_ < (0 : Int)))) (Value.pointer (some (Addr.add (⟨Array.size h, 0, none⟩) 1))) (Value.int .i64 x11_) (Value.bool (decide (x11_ > (1000 : Int)))) (Value.pointer (some (Addr.add (⟨Array.size h, 0, none⟩) 1))) (Value.int .i64 x13_) (Value.bool (x13_ == (0 : Int))) (Value.bool false) (Value.tuple #[]) (Value.tuple #[]) (Value.tuple #[]) (Value.bool false) h4_)))))) (R (Value.int .i64 (0 : Int)) h)
set_option maxRecDepth 100000 in
theorem f89.l0_in {R : Value → Heap → Prop} {A0 : Option Addr} {n0 : Nat} {c0 : Nat} {A8 : Option Addr} {n8 : Nat} {c8 : Nat} {x9 : Int} {x10 : Int} {h : Heap} (H : f89.l0T R A0 n0 c0 A8 n8 c8 x9 x10 h) : f89.l0 R A0 n0 c0 A8 n8 c8 x9 x10 h :=
  pt_intro mixed f89.good (Eq.mpr (show (Fwd Try.prog f89.T f89.kp Try.f89 R [false, false, true, false, true, true] (mkFr [(0, (Value.slice A0 n0 c0)), (8, (Value.slice A8 n8 c8)), (9, (Value.int .i64 x9)), (10, (Value.int .i64 x10))]) h) = (f89.l0T R A0 n0 c0 A8 n8 c8 x9 x10 h) by kernel_rfl) H)
set_option maxRecDepth 100000 in
def f89.j0T (R : Value → Heap → Prop) (A0 : Option Addr) (n0 : Nat) (c0 : Nat) (x3 : Int) (a4 : Addr) (A8 : Option Addr) (n8 : Nat) (c8 : Nat) (x9 : Int) (x10 : Int) (b15 : Bool) (v21 : Value) (v22 : Value) (v23 : Value) (v26 : Value) (v27 : Value) (v28 : Value) (v31 : Value) (v32 : Value) (v33 : Value) (v34 : Value) (v35 : Value) (v36 : Value) (v37 : Value) (v38 : Value) (h : Heap) : Prop :=
  splitB b15 (R (Value.int .i64 (1 : Int)) h) (∃ v1_, ldv false 1 h (Addr.add a4 1) = some v1_ ∧ ∃ x2_, v1_ = (Value.int .i64 x2_) ∧ splitB (decide (x2_ > (0 : Int))) (0 ≤ (0 : Int) ∧ (0 : Int) ≤ x3 ∧ x3 ≤ ((c0 : Nat) : Int) ∧ (∃ v3_, ldv false 1 h a4 = some v3_ ∧ ∃ s4_, v3_ = (Value.string s4_) ∧ ∃ v5_, (Run Try.prog 122 #[(Value.slice (sliceA A0 (Int.toNat (0 : Int)) c0 2) (Int.toNat x3 - Int.toNat (0 : Int)) (c0 - Int.toNat (0 : Int))), (Value.string s4_)] h fun v6_ h7_ => v6_ = v5_ ∧ h7_ = h) ∧ ∃ x8_, v5_ = (Value.int .i64 x8_) ∧ splitB (decide (x8_ ≥ (0 : Int))) (R (Value.int .i64 (5 : Int)) h) (f89.l0 R A0 n0 c0 A8 n8 c8 x9 (IntKind.wrap .i64 (x10 + (1 : Int))) h))) (f89.l0 R A0 n0 c0 A8 n8 c8 x9 (IntKind.wrap .i64 (x10 + (1 : Int))) h))
set_option maxRecDepth 100000 in
theorem f89.j0_in {R : Value → Heap → Prop} {A0 : Option Addr} {n0 : Nat} {c0 : Nat} {x3 : Int} {a4 : Addr} {A8 : Option Addr} {n8 : Nat} {c8 : Nat} {x9 : Int} {x10 : Int} {b15 : Bool} {v21 : Value} {v22 : Value} {v23 : Value} {v26 : Value} {v27 : Value} {v28 : Value} {v31 : Value} {v32 : Value} {v33 : Value} {v34 : Value} {v35 : Value} {v36 : Value} {v37 : Value} {v38 : Value} {h : Heap} (H : f89.j0T R A0 n0 c0 x3 a4 A8 n8 c8 x9 x10 b15 v21 v22 v23 v26 v27 v28 v31 v32 v33 v34 v35 v36 v37 v38 h) : f89.j0 R A0 n0 c0 x3 a4 A8 n8 c8 x9 x10 b15 v21 v22 v23 v26 v27 v28 v31 v32 v33 v34 v35 v36 v37 v38 h :=
  pt_intro mixed f89.good (Eq.mpr (show (Fwd Try.prog f89.T f89.kp Try.f89 R [true, false, true, false, false, true, true, false, false, true, false, true, true] (mkFr [(0, (Value.slice A0 n0 c0)), (3, (Value.int .i64 x3)), (4, (Value.pointer (some a4))), (8, (Value.slice A8 n8 c8)), (9, (Value.int .i64 x9)), (10, (Value.int .i64 x10)), (15, (Value.bool b15)), (21, v21), (22, v22), (23, v23), (26, v26), (27, v27), (28, v28), (31, v31), (32, v32), (33, v33), (34, v34), (35, v35), (36, v36), (37, v37), (38, v38)]) h) = (f89.j0T R A0 n0 c0 x3 a4 A8 n8 c8 x9 x10 b15 v21 v22 v23 v26 v27 v28 v31 v32 v33 v34 v35 v36 v37 v38 h) by kernel_rfl) H)
set_option maxRecDepth 100000 in
def f89.runT (R : Value → Heap → Prop) (A0 : Option Addr) (n0 : Nat) (c0 : Nat) (h : Heap) : Prop :=
  splitB (decide (((n0 : Nat) : Int) > (60 : Int))) (R (Value.int .i64 (2 : Int)) h) (f89.l0 R A0 n0 c0 A0 n0 c0 ((n0 : Nat) : Int) (0 : Int) h)
set_option maxRecDepth 100000 in
theorem f89.run {R : Value → Heap → Prop} {A0 : Option Addr} {n0 : Nat} {c0 : Nat} {h : Heap} (H : f89.runT R A0 n0 c0 h) : Run Try.prog 89 #[(Value.slice A0 n0 c0)] h R :=
  run_of mixed Try.func89 (by kernel_rfl) (by kernel_rfl) f89.good (Eq.mpr (show (Fwd Try.prog f89.T f89.kp Try.f89 R [] (mkFr (argL [(Value.slice A0 n0 c0)] 0)) h) = (f89.runT R A0 n0 c0 h) by kernel_rfl) H)

/-! ### roadstead/blob.Hold$1: function 124 -/
def f124.T : Tab := { sh := tSh, tup := tTup, keep := [], plan := [] }
def f124.kp : Keep := []
theorem f124.good : goodCode Try.prog f124.T (rootOf Try.f124) = true := by kernel_rfl
set_option maxRecDepth 100000 in
theorem f124.ok : calleeOk Try.prog 124 = true := by kernel_rfl
set_option maxRecDepth 100000 in
def f124.runT (R : Value → Heap → Prop) (v0 : Value) (h : Heap) : Prop :=
  newH h (Obj.cells ((v0).cells) 131) fun h1_ => ∃ v2_, ldv false 1 h1_ (Addr.add (⟨Array.size h, 0, none⟩) 1) = some v2_ ∧ ∃ x3_, v2_ = (Value.int .i64 x3_) ∧ R (Value.bool (x3_ == (0 : Int))) h1_
set_option maxRecDepth 100000 in
theorem f124.run {R : Value → Heap → Prop} {v0 : Value} {h : Heap} (H : f124.runT R v0 h) : Run Try.prog 124 #[v0] h R :=
  run_of mixed Try.func124 (by kernel_rfl) (by kernel_rfl) f124.good (Eq.mpr (show (Fwd Try.prog f124.T f124.kp Try.f124 R [] (mkFr (argL [v0] 0)) h) = (f124.runT R v0 h) by kernel_rfl) H)

/-! ### slices.Clone[roadstead/blob.Store,roadstead/blob.Blob]: function 125 -/
def f125.T : Tab := { sh := tSh, tup := tTup, keep := [], plan := [] }
def f125.kp : Keep := []
theorem f125.good : goodCode Try.prog f125.T (rootOf Try.f125) = true := by kernel_rfl
set_option maxRecDepth 100000 in
theorem f125.ok : calleeOk Try.prog 125 = true := by kernel_rfl
set_option maxRecDepth 100000 in
def f125.runT (R : Value → Heap → Prop) (A0 : Option Addr) (n0 : Nat) (c0 : Nat) (h : Heap) : Prop :=
  splitB (Option.isNone A0) (R (Value.slice none 0 0) h) (newH h (Obj.cells #[] 131) fun h1_ => AppW 131 2 24 #[(Value.string (ByteArray.mk #[])), (Value.int .i64 (0 : Int))] (some ⟨Array.size h, 0, none⟩) 0 0 (Value.slice A0 n0 c0) h1_ fun v2_ h3_ => ∃ A4_, ∃ n4_, ∃ c4_, v2_ = (Value.slice A4_ n4_ c4_) ∧ R (Value.slice A4_ n4_ c4_) h3_)
set_option maxRecDepth 100000 in
theorem f125.run {R : Value → Heap → Prop} {A0 : Option Addr} {n0 : Nat} {c0 : Nat} {h : Heap} (H : f125.runT R A0 n0 c0 h) : Run Try.prog 125 #[(Value.slice A0 n0 c0)] h R :=
  run_of mixed Try.func125 (by kernel_rfl) (by kernel_rfl) f125.good (Eq.mpr (show (Fwd Try.prog f125.T f125.kp Try.f125 R [] (mkFr (argL [(Value.slice A0 n0 c0)] 0)) h) = (f125.runT R A0 n0 c0 h) by kernel_rfl) H)

/-! ### roadstead/blob.Hold: function 84 -/
def f84.T : Tab := { sh := tSh, tup := tTup, keep := [], plan := [] }
def f84.kp : Keep := [([true, true, true, true, true], [0, 1, 8]), ([true, true, true, true, true, true, true], [1, 8, 9]), ([true, false, true, true, true, true, true, true, true], [1, 8, 9, 46]), ([true, true, true, true, true, true, true, true], [1, 8, 9])]
theorem f84.good : goodCode Try.prog f84.T (rootOf Try.f84) = true := by kernel_rfl
set_option maxRecDepth 100000 in
theorem f84.ok : calleeOk Try.prog 84 = true := by kernel_rfl
def f84.j0 (R : Value → Heap → Prop) (A0 : Option Addr) (n0 : Nat) (c0 : Nat) (s1 : ByteArray) (x8 : Int) (h : Heap) : Prop := Pt Try.prog Try.f84 R [true, true, true, true, true] (mkFr [(0, (Value.slice A0 n0 c0)), (1, (Value.string s1)), (8, (Value.int .i64 x8))]) h
def f84.j1 (R : Value → Heap → Prop) (s1 : ByteArray) (x8 : Int) (A9 : Option Addr) (n9 : Nat) (c9 : Nat) (h : Heap) : Prop := Pt Try.prog Try.f84 R [true, true, true, true, true, true, true] (mkFr [(1, (Value.string s1)), (8, (Value.int .i64 x8)), (9, (Value.slice A9 n9 c9))]) h
def f84.j3 (R : Value → Heap → Prop) (s1 : ByteArray) (x8 : Int) (A9 : Option Addr) (n9 : Nat) (c9 : Nat) (b46 : Bool) (h : Heap) : Prop := Pt Try.prog Try.f84 R [true, false, true, true, true, true, true, true, true] (mkFr [(1, (Value.string s1)), (8, (Value.int .i64 x8)), (9, (Value.slice A9 n9 c9)), (46, (Value.bool b46))]) h
def f84.j2 (R : Value → Heap → Prop) (s1 : ByteArray) (x8 : Int) (A9 : Option Addr) (n9 : Nat) (c9 : Nat) (h : Heap) : Prop := Pt Try.prog Try.f84 R [true, true, true, true, true, true, true, true] (mkFr [(1, (Value.string s1)), (8, (Value.int .i64 x8)), (9, (Value.slice A9 n9 c9))]) h
set_option maxRecDepth 100000 in
def f84.j0T (R : Value → Heap → Prop) (A0 : Option Addr) (n0 : Nat) (c0 : Nat) (s1 : ByteArray) (x8 : Int) (h : Heap) : Prop :=
  Run Try.prog 125 #[(Value.slice A0 n0 c0)] h fun v1_ h2_ => ∃ A3_, ∃ n3_, ∃ c3_, v1_ = (Value.slice A3_ n3_ c3_) ∧ splitB (decide (x8 < (0 : Int))) (∃ l4_ : List Value, (Value.agg #[(Value.string (ByteArray.mk #[])), (Value.int .i64 (0 : Int))]) = Value.agg l4_.toArray ∧ l4_.length = 2 ∧ (newH h2_ (Obj.cells ((List.take 0 ([(Value.string (ByteArray.mk #[])), (Value.int .i64 (0 : Int))]) ++ l4_ ++ List.drop 2 ([(Value.string (ByteArray.mk #[])), (Value.int .i64 (0 : Int))])).toArray) 131) fun h5_ => AppW 131 2 24 #[(Value.string (ByteArray.mk #[])), (Value.int .i64 (0 : Int))] A3_ n3_ c3_ (Value.slice (some ⟨Array.size h2_, 0, none⟩) 1 1) h5_ fun v6_ h7_ => ∃ A8_, ∃ n8_, ∃ c8_, v6_ = (Value.slice A8_ n8_ c8_) ∧ f84.j1 R s1 ((n3_ : Nat) : Int) A8_ n8_ c8_ h7_)) (f84.j1 R s1 x8 A3_ n3_ c3_ h2_)
set_option maxRecDepth 100000 in
theorem f84.j0_in {R : Value → Heap → Prop} {A0 : Option Addr} {n0 : Nat} {c0 : Nat} {s1 : ByteArray} {x8 : Int} {h : Heap} (H : f84.j0T R A0 n0 c0 s1 x8 h) : f84.j0 R A0 n0 c0 s1 x8 h :=
  pt_intro mixed f84.good (Eq.mpr (show (Fwd Try.prog f84.T f84.kp Try.f84 R [true, true, true, true, true] (mkFr [(0, (Value.slice A0 n0 c0)), (1, (Value.string s1)), (8, (Value.int .i64 x8))]) h) = (f84.j0T R A0 n0 c0 s1 x8 h) by kernel_rfl) H)
set_option maxRecDepth 100000 in
def f84.j1T (R : Value → Heap → Prop) (s1 : ByteArray) (x8 : Int) (A9 : Option Addr) (n9 : Nat) (c9 : Nat) (h : Heap) : Prop :=
  splitB (x8 == (60 : Int)) (f84.j3 R s1 x8 A9 n9 c9 true h) (ptrOk A9 fun a1_ => 0 ≤ x8 ∧ x8 < ((n9 : Nat) : Int) ∧ (∃ v2_, ldv false 1 h (Addr.add (Addr.add a1_ (Int.toNat x8 * 2)) 1) = some v2_ ∧ ∃ x3_, v2_ = (Value.int .i64 x3_) ∧ f84.j3 R s1 x8 A9 n9 c9 (x3_ == (1000 : Int)) h))
set_option maxRecDepth 100000 in
theorem f84.j1_in {R : Value → Heap → Prop} {s1 : ByteArray} {x8 : Int} {A9 : Option Addr} {n9 : Nat} {c9 : Nat} {h : Heap} (H : f84.j1T R s1 x8 A9 n9 c9 h) : f84.j1 R s1 x8 A9 n9 c9 h :=
  pt_intro mixed f84.good (Eq.mpr (show (Fwd Try.prog f84.T f84.kp Try.f84 R [true, true, true, true, true, true, true] (mkFr [(1, (Value.string s1)), (8, (Value.int .i64 x8)), (9, (Value.slice A9 n9 c9))]) h) = (f84.j1T R s1 x8 A9 n9 c9 h) by kernel_rfl) H)
set_option maxRecDepth 100000 in
def f84.j3T (R : Value → Heap → Prop) (s1 : ByteArray) (x8 : Int) (A9 : Option Addr) (n9 : Nat) (c9 : Nat) (b46 : Bool) (h : Heap) : Prop :=
  splitB b46 (R (Value.tuple #[(Value.slice none 0 0), (Value.int .i64 (0 : Int)), (Value.int .i64 (6 : Int))]) h) (f84.j2 R s1 x8 A9 n9 c9 h)
set_option maxRecDepth 100000 in
theorem f84.j3_in {R : Value → Heap → Prop} {s1 : ByteArray} {x8 : Int} {A9 : Option Addr} {n9 : Nat} {c9 : Nat} {b46 : Bool} {h : Heap} (H : f84.j3T R s1 x8 A9 n9 c9 b46 h) : f84.j3 R s1 x8 A9 n9 c9 b46 h :=
  pt_intro mixed f84.good (Eq.mpr (show (Fwd Try.prog f84.T f84.kp Try.f84 R [true, false, true, true, true, true, true, true, true] (mkFr [(1, (Value.string s1)), (8, (Value.int .i64 x8)), (9, (Value.slice A9 n9 c9)), (46, (Value.bool b46))]) h) = (f84.j3T R s1 x8 A9 n9 c9 b46 h) by kernel_rfl) H)
set_option maxRecDepth 100000 in
def f84.j2T (R : Value → Heap → Prop) (s1 : ByteArray) (x8 : Int) (A9 : Option Addr) (n9 : Nat) (c9 : Nat) (h : Heap) : Prop :=
  ptrOk A9 fun a1_ => 0 ≤ x8 ∧ x8 < ((n9 : Nat) : Int) ∧ (∃ v2_, ldv false 1 h (Addr.add (Addr.add a1_ (Int.toNat x8 * 2)) 1) = some v2_ ∧ ∃ x3_, v2_ = (Value.int .i64 x3_) ∧ ptrOk A9 fun a4_ => 0 ≤ x8 ∧ x8 < ((n9 : Nat) : Int) ∧ (∃ l6_ : List Value, (Value.agg #[(Value.string s1), (Value.int .i64 (IntKind.wrap .i64 (x3_ + (1 : Int))))]) = Value.agg l6_.toArray ∧ l6_.length = 2 ∧ ∃ h5_, stH h (Addr.add a4_ (Int.toNat x8 * 2)) l6_ 0 = some h5_ ∧ R (Value.tuple #[(Value.slice A9 n9 c9), (Value.int .i64 x8), (Value.int .i64 (0 : Int))]) h5_))
set_option maxRecDepth 100000 in
theorem f84.j2_in {R : Value → Heap → Prop} {s1 : ByteArray} {x8 : Int} {A9 : Option Addr} {n9 : Nat} {c9 : Nat} {h : Heap} (H : f84.j2T R s1 x8 A9 n9 c9 h) : f84.j2 R s1 x8 A9 n9 c9 h :=
  pt_intro mixed f84.good (Eq.mpr (show (Fwd Try.prog f84.T f84.kp Try.f84 R [true, true, true, true, true, true, true, true] (mkFr [(1, (Value.string s1)), (8, (Value.int .i64 x8)), (9, (Value.slice A9 n9 c9))]) h) = (f84.j2T R s1 x8 A9 n9 c9 h) by kernel_rfl) H)
set_option maxRecDepth 100000 in
def f84.runT (R : Value → Heap → Prop) (A0 : Option Addr) (n0 : Nat) (c0 : Nat) (s1 : ByteArray) (h : Heap) : Prop :=
  Run Try.prog 89 #[(Value.slice A0 n0 c0)] h fun v1_ h2_ => ∃ x3_, v1_ = (Value.int .i64 x3_) ∧ splitB (x3_ != (0 : Int)) (R (Value.tuple #[(Value.slice none 0 0), (Value.int .i64 (0 : Int)), (Value.int .i64 x3_)]) h2_) (splitB (decide (((ByteArray.size s1 : Nat) : Int) > (64 : Int))) (R (Value.tuple #[(Value.slice none 0 0), (Value.int .i64 (0 : Int)), (Value.int .i64 (2 : Int))]) h2_) (Run Try.prog 122 #[(Value.slice A0 n0 c0), (Value.string s1)] h2_ fun v4_ h5_ => ∃ x6_, v4_ = (Value.int .i64 x6_) ∧ splitB (decide (x6_ < (0 : Int))) (Run Try.prog 123 #[(Value.slice A0 n0 c0), (Value.func (.func 124) #[] #[])] h5_ fun v7_ h8_ => ∃ x9_, v7_ = (Value.int .i64 x9_) ∧ f84.j0 R A0 n0 c0 s1 x9_ h8_) (f84.j0 R A0 n0 c0 s1 x6_ h5_)))
set_option maxRecDepth 100000 in
theorem f84.run {R : Value → Heap → Prop} {A0 : Option Addr} {n0 : Nat} {c0 : Nat} {s1 : ByteArray} {h : Heap} (H : f84.runT R A0 n0 c0 s1 h) : Run Try.prog 84 #[(Value.slice A0 n0 c0), (Value.string s1)] h R :=
  run_of mixed Try.func84 (by kernel_rfl) (by kernel_rfl) f84.good (Eq.mpr (show (Fwd Try.prog f84.T f84.kp Try.f84 R [] (mkFr (argL [(Value.slice A0 n0 c0), (Value.string s1)] 0)) h) = (f84.runT R A0 n0 c0 s1 h) by kernel_rfl) H)

/-! ### roadstead/blob.held: function 126 -/
def f126.T : Tab := { sh := tSh, tup := tTup, keep := [], plan := [] }
def f126.kp : Keep := []
theorem f126.good : goodCode Try.prog f126.T (rootOf Try.f126) = true := by kernel_rfl
set_option maxRecDepth 100000 in
theorem f126.ok : calleeOk Try.prog 126 = true := by kernel_rfl
set_option maxRecDepth 100000 in
def f126.runT (R : Value → Heap → Prop) (A0 : Option Addr) (n0 : Nat) (c0 : Nat) (x1 : Int) (h : Heap) : Prop :=
  Run Try.prog 89 #[(Value.slice A0 n0 c0)] h fun v1_ h2_ => ∃ x3_, v1_ = (Value.int .i64 x3_) ∧ splitB (x3_ == (0 : Int)) (splitB (decide (x1 < (0 : Int))) (R (Value.int .i64 (4 : Int)) h2_) (splitB (decide (x1 ≥ ((n0 : Nat) : Int))) (R (Value.int .i64 (4 : Int)) h2_) (ptrOk A0 fun a4_ => 0 ≤ x1 ∧ x1 < ((n0 : Nat) : Int) ∧ (∃ v5_, ldv false 1 h2_ (Addr.add (Addr.add a4_ (Int.toNat x1 * 2)) 1) = some v5_ ∧ ∃ x6_, v5_ = (Value.int .i64 x6_) ∧ splitB (x6_ == (0 : Int)) (R (Value.int .i64 (4 : Int)) h2_) (R (Value.int .i64 x3_) h2_))))) (R (Value.int .i64 x3_) h2_)
set_option maxRecDepth 100000 in
theorem f126.run {R : Value → Heap → Prop} {A0 : Option Addr} {n0 : Nat} {c0 : Nat} {x1 : Int} {h : Heap} (H : f126.runT R A0 n0 c0 x1 h) : Run Try.prog 126 #[(Value.slice A0 n0 c0), (Value.int .i64 x1)] h R :=
  run_of mixed Try.func126 (by kernel_rfl) (by kernel_rfl) f126.good (Eq.mpr (show (Fwd Try.prog f126.T f126.kp Try.f126 R [] (mkFr (argL [(Value.slice A0 n0 c0), (Value.int .i64 x1)] 0)) h) = (f126.runT R A0 n0 c0 x1 h) by kernel_rfl) H)

/-! ### roadstead/blob.Get: function 85 -/
def f85.T : Tab := { sh := tSh, tup := tTup, keep := [], plan := [] }
def f85.kp : Keep := []
theorem f85.good : goodCode Try.prog f85.T (rootOf Try.f85) = true := by kernel_rfl
set_option maxRecDepth 100000 in
theorem f85.ok : calleeOk Try.prog 85 = true := by kernel_rfl
set_option maxRecDepth 100000 in
def f85.runT (R : Value → Heap → Prop) (A0 : Option Addr) (n0 : Nat) (c0 : Nat) (x1 : Int) (h : Heap) : Prop :=
  Run Try.prog 126 #[(Value.slice A0 n0 c0), (Value.int .i64 x1)] h fun v1_ h2_ => ∃ x3_, v1_ = (Value.int .i64 x3_) ∧ splitB (x3_ != (0 : Int)) (R (Value.tuple #[(Value.string (ByteArray.mk #[])), (Value.int .i64 x3_)]) h2_) (ptrOk A0 fun a4_ => 0 ≤ x1 ∧ x1 < ((n0 : Nat) : Int) ∧ (∃ v5_, ldv false 1 h2_ (Addr.add a4_ (Int.toNat x1 * 2)) = some v5_ ∧ ∃ s6_, v5_ = (Value.string s6_) ∧ R (Value.tuple #[(Value.string s6_), (Value.int .i64 (0 : Int))]) h2_))
set_option maxRecDepth 100000 in
theorem f85.run {R : Value → Heap → Prop} {A0 : Option Addr} {n0 : Nat} {c0 : Nat} {x1 : Int} {h : Heap} (H : f85.runT R A0 n0 c0 x1 h) : Run Try.prog 85 #[(Value.slice A0 n0 c0), (Value.int .i64 x1)] h R :=
  run_of mixed Try.func85 (by kernel_rfl) (by kernel_rfl) f85.good (Eq.mpr (show (Fwd Try.prog f85.T f85.kp Try.f85 R [] (mkFr (argL [(Value.slice A0 n0 c0), (Value.int .i64 x1)] 0)) h) = (f85.runT R A0 n0 c0 x1 h) by kernel_rfl) H)

/-! ### roadstead/blob.Let: function 86 -/
def f86.T : Tab := { sh := tSh, tup := tTup, keep := [], plan := [(8, (.take 0 (.take 1 (.take 2 (.take 3 (.take 4 (.take 7 (.take 5 (.take 6 (.take 8 (.take 9 .done)))))))))))] }
def f86.kp : Keep := [([true, true, true, true], [1, 8])]
theorem f86.good : goodCode Try.prog f86.T (rootOf Try.f86) = true := by kernel_rfl
set_option maxRecDepth 100000 in
theorem f86.ok : calleeOk Try.prog 86 = true := by kernel_rfl
def f86.j0 (R : Value → Heap → Prop) (x1 : Int) (A8 : Option Addr) (n8 : Nat) (c8 : Nat) (h : Heap) : Prop := Pt Try.prog Try.f86 R [true, true, true, true] (mkFr [(1, (Value.int .i64 x1)), (8, (Value.slice A8 n8 c8))]) h
set_option maxRecDepth 100000 in
def f86.j0T (R : Value → Heap → Prop) (x1 : Int) (A8 : Option Addr) (n8 : Nat) (c8 : Nat) (h : Heap) : Prop :=
  ptrOk A8 fun a1_ => 0 ≤ x1 ∧ x1 < ((n8 : Nat) : Int) ∧ (∃ v2_, ldv false 1 h (Addr.add (Addr.add a1_ (Int.toNat x1 * 2)) 1) = some v2_ ∧ ∃ x3_, v2_ = (Value.int .i64 x3_) ∧ R (Value.tuple #[(Value.slice A8 n8 c8), (Value.bool (x3_ == (0 : Int))), (Value.int .i64 (0 : Int))]) h)
set_option maxRecDepth 100000 in
theorem f86.j0_in {R : Value → Heap → Prop} {x1 : Int} {A8 : Option Addr} {n8 : Nat} {c8 : Nat} {h : Heap} (H : f86.j0T R x1 A8 n8 c8 h) : f86.j0 R x1 A8 n8 c8 h :=
  pt_intro mixed f86.good (Eq.mpr (show (Fwd Try.prog f86.T f86.kp Try.f86 R [true, true, true, true] (mkFr [(1, (Value.int .i64 x1)), (8, (Value.slice A8 n8 c8))]) h) = (f86.j0T R x1 A8 n8 c8 h) by kernel_rfl) H)
set_option maxRecDepth 100000 in
def f86.runT (R : Value → Heap → Prop) (A0 : Option Addr) (n0 : Nat) (c0 : Nat) (x1 : Int) (h : Heap) : Prop :=
  Run Try.prog 126 #[(Value.slice A0 n0 c0), (Value.int .i64 x1)] h fun v1_ h2_ => ∃ x3_, v1_ = (Value.int .i64 x3_) ∧ splitB (x3_ != (0 : Int)) (R (Value.tuple #[(Value.slice none 0 0), (Value.bool false), (Value.int .i64 x3_)]) h2_) (Run Try.prog 125 #[(Value.slice A0 n0 c0)] h2_ fun v4_ h5_ => ∃ A6_, ∃ n6_, ∃ c6_, v4_ = (Value.slice A6_ n6_ c6_) ∧ ptrOk A6_ fun a7_ => 0 ≤ x1 ∧ x1 < ((n6_ : Nat) : Int) ∧ (∃ v8_, ldv false 1 h5_ (Addr.add (Addr.add a7_ (Int.toNat x1 * 2)) 1) = some v8_ ∧ ∃ x9_, v8_ = (Value.int .i64 x9_) ∧ ptrOk A6_ fun a10_ => 0 ≤ x1 ∧ x1 < ((n6_ : Nat) : Int) ∧ (∃ h11_, st1 h5_ (Addr.add (Addr.add a10_ (Int.toNat x1 * 2)) 1) (Value.int .i64 (IntKind.wrap .i64 (x9_ - (1 : Int)))) = some h11_ ∧ ptrOk A6_ fun a12_ => 0 ≤ x1 ∧ x1 < ((n6_ : Nat) : Int) ∧ (∃ v13_, ldv false 1 h11_ (Addr.add (Addr.add a12_ (Int.toNat x1 * 2)) 1) = some v13_ ∧ ∃ x14_, v13_ = (Value.int .i64 x14_) ∧ splitB (x14_ == (0 : Int)) (ptrOk A6_ fun a15_ => 0 ≤ x1 ∧ x1 < ((n6_ : Nat) : Int) ∧ (∃ l17_ : List Value, (Value.agg #[(Value.string (ByteArray.mk #[])), (Value.int .i64 (0 : Int))]) = Value.agg l17_.toArray ∧ l17_.length = 2 ∧ ∃ h16_, stH h11_ (Addr.add a15_ (Int.toNat x1 * 2)) l17_ 0 = some h16_ ∧ f86.j0 R x1 A6_ n6_ c6_ h16_)) (f86.j0 R x1 A6_ n6_ c6_ h11_)))))
set_option maxRecDepth 100000 in
theorem f86.run {R : Value → Heap → Prop} {A0 : Option Addr} {n0 : Nat} {c0 : Nat} {x1 : Int} {h : Heap} (H : f86.runT R A0 n0 c0 x1 h) : Run Try.prog 86 #[(Value.slice A0 n0 c0), (Value.int .i64 x1)] h R :=
  run_of mixed Try.func86 (by kernel_rfl) (by kernel_rfl) f86.good (Eq.mpr (show (Fwd Try.prog f86.T f86.kp Try.f86 R [] (mkFr (argL [(Value.slice A0 n0 c0), (Value.int .i64 x1)] 0)) h) = (f86.runT R A0 n0 c0 x1 h) by kernel_rfl) H)

/-! ### roadstead/blob.Size: function 87 -/
def f87.T : Tab := { sh := tSh, tup := tTup, keep := [], plan := [(9, (.take 0 (.take 1 (.take 2 (.take 3 (.take 6 (.take 7 (.take 11 (.take 4 (.take 5 (.take 12 (.take 8 (.take 9 (.take 10 (.take 13 .done)))))))))))))))] }
def f87.kp : Keep := [([false, false, true, false, true, true, true], [7, 8, 9, 17, 18, 19])]
theorem f87.good : goodCode Try.prog f87.T (rootOf Try.f87) = true := by kernel_rfl
set_option maxRecDepth 100000 in
theorem f87.ok : calleeOk Try.prog 87 = true := by kernel_rfl
def f87.l0 (R : Value → Heap → Prop) (x7 : Int) (x8 : Int) (x9 : Int) (A17 : Option Addr) (n17 : Nat) (c17 : Nat) (x18 : Int) (x19 : Int) (h : Heap) : Prop := Pt Try.prog Try.f87 R [false, false, true, false, true, true, true] (mkFr [(7, (Value.int .i64 x7)), (8, (Value.int .i64 x8)), (9, (Value.int .i64 x9)), (17, (Value.slice A17 n17 c17)), (18, (Value.int .i64 x18)), (19, (Value.int .i64 x19))]) h
set_option maxRecDepth 100000 in
def f87.l0T (R : Value → Heap → Prop) (x7 : Int) (x8 : Int) (x9 : Int) (A17 : Option Addr) (n17 : Nat) (c17 : Nat) (x18 : Int) (x19 : Int) (h : Heap) : Prop :=
  splitB (decide (x19 < x18)) (ptrOk A17 fun a1_ => 0 ≤ x19 ∧ x19 < ((n17 : Nat) : Int) ∧ (∃ v2_, ldv true 2 h (Addr.add a1_ (Int.toNat x19 * 2)) = some v2_ ∧ newH h (Obj.cells #[(Value.string (ByteArray.mk #[])), (Value.int .i64 (0 : Int))] 131) fun h3_ => ∃ l5_ : List Value, v2_ = Value.agg l5_.toArray ∧ l5_.length = 2 ∧ ∃ h4_, stH h3_ (⟨Array.size h, 0, none⟩) l5_ 0 = some h4_ ∧ ∃ v6_, ldv false 1 h4_ (Addr.add (⟨Array.size h, 0, none⟩) 1) = some v6_ ∧ ∃ x7_, v6_ = (Value.int .i64 x7_) ∧ splitB (decide (x7_ > (0 : Int))) (∃ v8_, ldv false 1 h4_ (Addr.add (⟨Array.size h, 0, none⟩) 1) = some v8_ ∧ ∃ x9_, v8_ = (Value.int .i64 x9_) ∧ ∃ v10_, ldv false 1 h4_ (⟨Array.size h, 0, none⟩) = some v10_ ∧ ∃ s11_, v10_ = (Value.string s11_) ∧ f87.l0 R (IntKind.wrap .i64 (x7 + (1 : Int))) (IntKind.wrap .i64 (x8 + x9_)) (IntKind.wrap .i64 (x9 + ((ByteArray.size s11_ : Nat) : Int))) A17 n17 c17 x18 (IntKind.wrap .i64 (x19 + (1 : Int))) h4_) (f87.l0 R x7 x8 x9 A17 n17 c17 x18 (IntKind.wrap .i64 (x19 + (1 : Int))) h4_))) (R (Value.tuple #[(Value.int .i64 x7), (Value.int .i64 x8), (Value.int .i64 x9), (Value.int .i64 (0 : Int))]) h)
set_option maxRecDepth 100000 in
theorem f87.l0_in {R : Value → Heap → Prop} {x7 : Int} {x8 : Int} {x9 : Int} {A17 : Option Addr} {n17 : Nat} {c17 : Nat} {x18 : Int} {x19 : Int} {h : Heap} (H : f87.l0T R x7 x8 x9 A17 n17 c17 x18 x19 h) : f87.l0 R x7 x8 x9 A17 n17 c17 x18 x19 h :=
  pt_intro mixed f87.good (Eq.mpr (show (Fwd Try.prog f87.T f87.kp Try.f87 R [false, false, true, false, true, true, true] (mkFr [(7, (Value.int .i64 x7)), (8, (Value.int .i64 x8)), (9, (Value.int .i64 x9)), (17, (Value.slice A17 n17 c17)), (18, (Value.int .i64 x18)), (19, (Value.int .i64 x19))]) h) = (f87.l0T R x7 x8 x9 A17 n17 c17 x18 x19 h) by kernel_rfl) H)
set_option maxRecDepth 100000 in
def f87.runT (R : Value → Heap → Prop) (A0 : Option Addr) (n0 : Nat) (c0 : Nat) (h : Heap) : Prop :=
  Run Try.prog 89 #[(Value.slice A0 n0 c0)] h fun v1_ h2_ => ∃ x3_, v1_ = (Value.int .i64 x3_) ∧ splitB (x3_ != (0 : Int)) (R (Value.tuple #[(Value.int .i64 (0 : Int)), (Value.int .i64 (0 : Int)), (Value.int .i64 (0 : Int)), (Value.int .i64 x3_)]) h2_) (f87.l0 R (0 : Int) (0 : Int) (0 : Int) A0 n0 c0 ((n0 : Nat) : Int) (0 : Int) h2_)
set_option maxRecDepth 100000 in
theorem f87.run {R : Value → Heap → Prop} {A0 : Option Addr} {n0 : Nat} {c0 : Nat} {h : Heap} (H : f87.runT R A0 n0 c0 h) : Run Try.prog 87 #[(Value.slice A0 n0 c0)] h R :=
  run_of mixed Try.func87 (by kernel_rfl) (by kernel_rfl) f87.good (Eq.mpr (show (Fwd Try.prog f87.T f87.kp Try.f87 R [] (mkFr (argL [(Value.slice A0 n0 c0)] 0)) h) = (f87.runT R A0 n0 c0 h) by kernel_rfl) H)

/-! ### roadstead/roadref3.StoreFault: function 88 -/
def f88.T : Tab := { sh := tSh, tup := tTup, keep := [], plan := [] }
def f88.kp : Keep := [([false, false, true, false, true, true, true], [3, 10, 11, 12]), ([true, true, false, false, true, true, false, false, true, false, true, true, true], [3, 5, 10, 11, 12, 21, 22, 23, 24, 27, 28, 29, 30, 31, 32, 33, 34])]
theorem f88.good : goodCode Try.prog f88.T (rootOf Try.f88) = true := by kernel_rfl
set_option maxRecDepth 100000 in
theorem f88.ok : calleeOk Try.prog 88 = true := by kernel_rfl
def f88.l0 (R : Value → Heap → Prop) (v3 : Value) (A10 : Option Addr) (n10 : Nat) (c10 : Nat) (x11 : Int) (x12 : Int) (h : Heap) : Prop := Pt Try.prog Try.f88 R [false, false, true, false, true, true, true] (mkFr [(3, v3), (10, (Value.slice A10 n10 c10)), (11, (Value.int .i64 x11)), (12, (Value.int .i64 x12))]) h
def f88.j0 (R : Value → Heap → Prop) (v3 : Value) (a5 : Addr) (A10 : Option Addr) (n10 : Nat) (c10 : Nat) (x11 : Int) (x12 : Int) (a21 : Addr) (x22 : Int) (b23 : Bool) (b24 : Bool) (a27 : Addr) (x28 : Int) (b29 : Bool) (b30 : Bool) (v31 : Value) (v32 : Value) (v33 : Value) (b34 : Bool) (h : Heap) : Prop := Pt Try.prog Try.f88 R [true, true, false, false, true, true, false, false, true, false, true, true, true] (mkFr [(3, v3), (5, (Value.pointer (some a5))), (10, (Value.slice A10 n10 c10)), (11, (Value.int .i64 x11)), (12, (Value.int .i64 x12)), (21, (Value.pointer (some a21))), (22, (Value.int .i64 x22)), (23, (Value.bool b23)), (24, (Value.bool b24)), (27, (Value.pointer (some a27))), (28, (Value.int .i64 x28)), (29, (Value.bool b29)), (30, (Value.bool b30)), (31, v31), (32, v32), (33, v33), (34, (Value.bool b34))]) h
set_option maxRecDepth 100000 in
def f88.l0T (R : Value → Heap → Prop) (v3 : Value) (A10 : Option Addr) (n10 : Nat) (c10 : Nat) (x11 : Int) (x12 : Int) (h : Heap) : Prop :=
  splitB (decide (x12 < x11)) (ptrOk A10 fun a1_ => 0 ≤ x12 ∧ x12 < ((n10 : Nat) : Int) ∧ (∃ v2_, ldv true 2 h (Addr.add a1_ (Int.toNat x12 * 2)) = some v2_ ∧ newH h (Obj.cells #[(Value.string (ByteArray.mk #[])), (Value.int .i64 (0 : Int))] 131) fun h3_ => ∃ l5_ : List Value, v2_ = Value.agg l5_.toArray ∧ l5_.length = 2 ∧ ∃ h4_, stH h3_ (⟨Array.size h, 0, none⟩) l5_ 0 = some h4_ ∧ ∃ v6_, ldv false 1 h4_ (⟨Array.size h, 0, none⟩) = some v6_ ∧ ∃ s7_, v6_ = (Value.string s7_) ∧ splitB (decide (((ByteArray.size s7_ : Nat) : Int) > (64 : Int))) (R (Value.int .i64 (1 : Int)) h4_) (∃ v8_, ldv false 1 h4_ (Addr.add (⟨Array.size h, 0, none⟩) 1) = some v8_ ∧ ∃ x9_, v8_ = (Value.int .i64 x9_) ∧ Run Try.prog 30 #[(Value.int .i64 x9_), (Value.int .i64 (0 : Int)), (Value.int .i64 (1000 : Int))] h4_ fun v10_ h11_ => ∃ b12_, v10_ = (Value.bool b12_) ∧ splitB (!b12_) (R (Value.int .i64 (1 : Int)) h11_) (∃ v13_, ldv false 1 h11_ (Addr.add (⟨Array.size h, 0, none⟩) 1) = some v13_ ∧ ∃ x14_, v13_ = (Value.int .i64 x14_) ∧ splitB (x14_ == (0 : Int)) (∃ v15_, ldv false 1 h11_ (⟨Array.size h, 0, none⟩) = some v15_ ∧ ∃ s16_, v15_ = (Value.string s16_) ∧ splitB (!(ByteArray.toList s16_ == ByteArray.toList (ByteArray.mk #[]))) (R (Value.int .i64 (1 : Int)) h11_) (f88.j0 R v3 (⟨Array.size h, 0, none⟩) A10 n10 c10 x11 x12 (Addr.add (⟨Array.size h, 0, none⟩) 1) x9_ b12_ (!b12_) (Addr.add (⟨Array.size h, 0, none⟩) 1) x14_ (x14_ == (0 : Int)) true (Value.pointer (some ⟨Array.size h, 0, none⟩)) (Value.string s16_) (Value.bool (!(ByteArray.toList s16_ == ByteArray.toList (ByteArray.mk #[])))) (!(ByteArray.toList s16_ == ByteArray.toList (ByteArray.mk #[]))) h11_)) (f88.j0 R v3 (⟨Array.size h, 0, none⟩) A10 n10 c10 x11 x12 (Addr.add (⟨Array.size h, 0, none⟩) 1) x9_ b12_ (!b12_) (Addr.add (⟨Array.size h, 0, none⟩) 1) x14_ (x14_ == (0 : Int)) false (Value.tuple #[]) (Value.tuple #[]) (Value.tuple #[]) false h11_))))) (R (Value.int .i64 (0 : Int)) h)
set_option maxRecDepth 100000 in
theorem f88.l0_in {R : Value → Heap → Prop} {v3 : Value} {A10 : Option Addr} {n10 : Nat} {c10 : Nat} {x11 : Int} {x12 : Int} {h : Heap} (H : f88.l0T R v3 A10 n10 c10 x11 x12 h) : f88.l0 R v3 A10 n10 c10 x11 x12 h :=
  pt_intro mixed f88.good (Eq.mpr (show (Fwd Try.prog f88.T f88.kp Try.f88 R [false, false, true, false, true, true, true] (mkFr [(3, v3), (10, (Value.slice A10 n10 c10)), (11, (Value.int .i64 x11)), (12, (Value.int .i64 x12))]) h) = (f88.l0T R v3 A10 n10 c10 x11 x12 h) by kernel_rfl) H)
set_option maxRecDepth 100000 in
def f88.j0T (R : Value → Heap → Prop) (v3 : Value) (a5 : Addr) (A10 : Option Addr) (n10 : Nat) (c10 : Nat) (x11 : Int) (x12 : Int) (a21 : Addr) (x22 : Int) (b23 : Bool) (b24 : Bool) (a27 : Addr) (x28 : Int) (b29 : Bool) (b30 : Bool) (v31 : Value) (v32 : Value) (v33 : Value) (b34 : Bool) (h : Heap) : Prop :=
  ∃ v1_, ldv false 1 h (Addr.add a5 1) = some v1_ ∧ ∃ x2_, v1_ = (Value.int .i64 x2_) ∧ splitB (decide (x2_ > (0 : Int))) (∃ v3_, ldv false 1 h a5 = some v3_ ∧ ∃ s4_, v3_ = (Value.string s4_) ∧ Gen Try.prog (Instr.lookup 191 v3 (Value.string s4_) false) h fun v5_ h6_ => ∃ b7_, v5_ = (Value.bool b7_) ∧ splitB b7_ (R (Value.int .i64 (5 : Int)) h6_) (∃ v8_, ldv false 1 h6_ a5 = some v8_ ∧ ∃ s9_, v8_ = (Value.string s9_) ∧ Hwp Try.prog (Instr.mapUpdate 191 v3 (Value.string s9_) (Value.bool true)) h6_ fun _ h10_ => f88.l0 R v3 A10 n10 c10 x11 (IntKind.wrap .i64 (x12 + (1 : Int))) h10_)) (f88.l0 R v3 A10 n10 c10 x11 (IntKind.wrap .i64 (x12 + (1 : Int))) h)
set_option maxRecDepth 100000 in
theorem f88.j0_in {R : Value → Heap → Prop} {v3 : Value} {a5 : Addr} {A10 : Option Addr} {n10 : Nat} {c10 : Nat} {x11 : Int} {x12 : Int} {a21 : Addr} {x22 : Int} {b23 : Bool} {b24 : Bool} {a27 : Addr} {x28 : Int} {b29 : Bool} {b30 : Bool} {v31 : Value} {v32 : Value} {v33 : Value} {b34 : Bool} {h : Heap} (H : f88.j0T R v3 a5 A10 n10 c10 x11 x12 a21 x22 b23 b24 a27 x28 b29 b30 v31 v32 v33 b34 h) : f88.j0 R v3 a5 A10 n10 c10 x11 x12 a21 x22 b23 b24 a27 x28 b29 b30 v31 v32 v33 b34 h :=
  pt_intro mixed f88.good (Eq.mpr (show (Fwd Try.prog f88.T f88.kp Try.f88 R [true, true, false, false, true, true, false, false, true, false, true, true, true] (mkFr [(3, v3), (5, (Value.pointer (some a5))), (10, (Value.slice A10 n10 c10)), (11, (Value.int .i64 x11)), (12, (Value.int .i64 x12)), (21, (Value.pointer (some a21))), (22, (Value.int .i64 x22)), (23, (Value.bool b23)), (24, (Value.bool b24)), (27, (Value.pointer (some a27))), (28, (Value.int .i64 x28)), (29, (Value.bool b29)), (30, (Value.bool b30)), (31, v31), (32, v32), (33, v33), (34, (Value.bool b34))]) h) = (f88.j0T R v3 a5 A10 n10 c10 x11 x12 a21 x22 b23 b24 a27 x28 b29 b30 v31 v32 v33 b34 h) by kernel_rfl) H)
set_option maxRecDepth 100000 in
def f88.runT (R : Value → Heap → Prop) (A0 : Option Addr) (n0 : Nat) (c0 : Nat) (h : Heap) : Prop :=
  splitB (decide (((n0 : Nat) : Int) > (60 : Int))) (R (Value.int .i64 (2 : Int)) h) (Gen Try.prog (Instr.makeMap 191 none) h fun v1_ h2_ => f88.l0 R v1_ A0 n0 c0 ((n0 : Nat) : Int) (0 : Int) h2_)
set_option maxRecDepth 100000 in
theorem f88.run {R : Value → Heap → Prop} {A0 : Option Addr} {n0 : Nat} {c0 : Nat} {h : Heap} (H : f88.runT R A0 n0 c0 h) : Run Try.prog 88 #[(Value.slice A0 n0 c0)] h R :=
  run_of mixed Try.func88 (by kernel_rfl) (by kernel_rfl) f88.good (Eq.mpr (show (Fwd Try.prog f88.T f88.kp Try.f88 R [] (mkFr (argL [(Value.slice A0 n0 c0)] 0)) h) = (f88.runT R A0 n0 c0 h) by kernel_rfl) H)

/-! ### roadstead/roadref3.SameStore: function 90 -/
def f90.T : Tab := { sh := tSh, tup := tTup, keep := [], plan := [(6, (.take 0 (.take 1 (.take 2 (.take 4 (.take 5 (.take 6 (.take 3 (.take 7 (.eff false 8 .done))))))))))] }
def f90.kp : Keep := [([false, false, true, false, true, true], [0, 1, 12, 13])]
theorem f90.good : goodCode Try.prog f90.T (rootOf Try.f90) = true := by kernel_rfl
set_option maxRecDepth 100000 in
theorem f90.ok : calleeOk Try.prog 90 = true := by kernel_rfl
def f90.l0 (R : Value → Heap → Prop) (A0 : Option Addr) (n0 : Nat) (c0 : Nat) (A1 : Option Addr) (n1 : Nat) (c1 : Nat) (x12 : Int) (x13 : Int) (h : Heap) : Prop := Pt Try.prog Try.f90 R [false, false, true, false, true, true] (mkFr [(0, (Value.slice A0 n0 c0)), (1, (Value.slice A1 n1 c1)), (12, (Value.int .i64 x12)), (13, (Value.int .i64 x13))]) h
set_option maxRecDepth 100000 in
def f90.l0T (R : Value → Heap → Prop) (A0 : Option Addr) (n0 : Nat) (c0 : Nat) (A1 : Option Addr) (n1 : Nat) (c1 : Nat) (x12 : Int) (x13 : Int) (h : Heap) : Prop :=
  splitB (decide (x13 < x12)) (ptrOk A0 fun a1_ => 0 ≤ x13 ∧ x13 < ((n0 : Nat) : Int) ∧ (ptrOk A1 fun a2_ => 0 ≤ x13 ∧ x13 < ((n1 : Nat) : Int) ∧ (∃ v3_, ldv true 2 h (Addr.add a1_ (Int.toNat x13 * 2)) = some v3_ ∧ ∃ v4_, ldv true 2 h (Addr.add a2_ (Int.toNat x13 * 2)) = some v4_ ∧ Gen Try.prog (do eqGuard .neq 131 (.tmp 19) (.tmp 23) v3_ v4_; binOp .neq 131 v3_ v4_) h fun v5_ h6_ => ∃ b7_, v5_ = Value.bool b7_ ∧ splitB b7_ (R (Value.bool false) h6_) (f90.l0 R A0 n0 c0 A1 n1 c1 x12 (IntKind.wrap .i64 (x13 + (1 : Int))) h6_)))) (R (Value.bool true) h)
set_option maxRecDepth 100000 in
theorem f90.l0_in {R : Value → Heap → Prop} {A0 : Option Addr} {n0 : Nat} {c0 : Nat} {A1 : Option Addr} {n1 : Nat} {c1 : Nat} {x12 : Int} {x13 : Int} {h : Heap} (H : f90.l0T R A0 n0 c0 A1 n1 c1 x12 x13 h) : f90.l0 R A0 n0 c0 A1 n1 c1 x12 x13 h :=
  pt_intro mixed f90.good (Eq.mpr (show (Fwd Try.prog f90.T f90.kp Try.f90 R [false, false, true, false, true, true] (mkFr [(0, (Value.slice A0 n0 c0)), (1, (Value.slice A1 n1 c1)), (12, (Value.int .i64 x12)), (13, (Value.int .i64 x13))]) h) = (f90.l0T R A0 n0 c0 A1 n1 c1 x12 x13 h) by kernel_rfl) H)
set_option maxRecDepth 100000 in
def f90.runT (R : Value → Heap → Prop) (A0 : Option Addr) (n0 : Nat) (c0 : Nat) (A1 : Option Addr) (n1 : Nat) (c1 : Nat) (h : Heap) : Prop :=
  splitB (((n0 : Nat) : Int) != ((n1 : Nat) : Int)) (R (Value.bool false) h) (f90.l0 R A0 n0 c0 A1 n1 c1 ((n0 : Nat) : Int) (0 : Int) h)
set_option maxRecDepth 100000 in
theorem f90.run {R : Value → Heap → Prop} {A0 : Option Addr} {n0 : Nat} {c0 : Nat} {A1 : Option Addr} {n1 : Nat} {c1 : Nat} {h : Heap} (H : f90.runT R A0 n0 c0 A1 n1 c1 h) : Run Try.prog 90 #[(Value.slice A0 n0 c0), (Value.slice A1 n1 c1)] h R :=
  run_of mixed Try.func90 (by kernel_rfl) (by kernel_rfl) f90.good (Eq.mpr (show (Fwd Try.prog f90.T f90.kp Try.f90 R [] (mkFr (argL [(Value.slice A0 n0 c0), (Value.slice A1 n1 c1)] 0)) h) = (f90.runT R A0 n0 c0 A1 n1 c1 h) by kernel_rfl) H)

/-! ### roadstead/roadref3.StoreWith: function 91 -/
def f91.T : Tab := { sh := tSh, tup := tTup, keep := [], plan := [] }
def f91.kp : Keep := []
theorem f91.good : goodCode Try.prog f91.T (rootOf Try.f91) = true := by kernel_rfl
set_option maxRecDepth 100000 in
theorem f91.ok : calleeOk Try.prog 91 = true := by kernel_rfl
set_option maxRecDepth 100000 in
def f91.runT (R : Value → Heap → Prop) (A0 : Option Addr) (n0 : Nat) (c0 : Nat) (x1 : Int) (v2 : Value) (h : Heap) : Prop :=
  newH h (Obj.cells ((v2).cells) 131) fun h1_ => AppW 131 2 24 #[(Value.string (ByteArray.mk #[])), (Value.int .i64 (0 : Int))] none 0 0 (Value.slice A0 n0 c0) h1_ fun v2_ h3_ => ∃ A4_, ∃ n4_, ∃ c4_, v2_ = (Value.slice A4_ n4_ c4_) ∧ splitB (x1 == ((n4_ : Nat) : Int)) (∃ v5_, ldv true 2 h3_ (⟨Array.size h, 0, none⟩) = some v5_ ∧ ∃ l6_ : List Value, v5_ = Value.agg l6_.toArray ∧ l6_.length = 2 ∧ (newH h3_ (Obj.cells ((List.take 0 ([(Value.string (ByteArray.mk #[])), (Value.int .i64 (0 : Int))]) ++ l6_ ++ List.drop 2 ([(Value.string (ByteArray.mk #[])), (Value.int .i64 (0 : Int))])).toArray) 131) fun h7_ => AppW 131 2 24 #[(Value.string (ByteArray.mk #[])), (Value.int .i64 (0 : Int))] A4_ n4_ c4_ (Value.slice (some ⟨Array.size h3_, 0, none⟩) 1 1) h7_ fun v8_ h9_ => ∃ A10_, ∃ n10_, ∃ c10_, v8_ = (Value.slice A10_ n10_ c10_) ∧ R (Value.slice A10_ n10_ c10_) h9_)) (∃ v11_, ldv true 2 h3_ (⟨Array.size h, 0, none⟩) = some v11_ ∧ ptrOk A4_ fun a12_ => 0 ≤ x1 ∧ x1 < ((n4_ : Nat) : Int) ∧ (∃ l14_ : List Value, v11_ = Value.agg l14_.toArray ∧ l14_.length = 2 ∧ ∃ h13_, stH h3_ (Addr.add a12_ (Int.toNat x1 * 2)) l14_ 0 = some h13_ ∧ R (Value.slice A4_ n4_ c4_) h13_))
set_option maxRecDepth 100000 in
theorem f91.run {R : Value → Heap → Prop} {A0 : Option Addr} {n0 : Nat} {c0 : Nat} {x1 : Int} {v2 : Value} {h : Heap} (H : f91.runT R A0 n0 c0 x1 v2 h) : Run Try.prog 91 #[(Value.slice A0 n0 c0), (Value.int .i64 x1), v2] h R :=
  run_of mixed Try.func91 (by kernel_rfl) (by kernel_rfl) f91.good (Eq.mpr (show (Fwd Try.prog f91.T f91.kp Try.f91 R [] (mkFr (argL [(Value.slice A0 n0 c0), (Value.int .i64 x1), v2] 0)) h) = (f91.runT R A0 n0 c0 x1 v2 h) by kernel_rfl) H)

end Go.Proofs.Ytbpfmlgnlcfbcaa.Fw
