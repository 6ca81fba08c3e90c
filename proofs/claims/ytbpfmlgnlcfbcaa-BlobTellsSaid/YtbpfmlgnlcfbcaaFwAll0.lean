/- The forward texts of functions of the given program, each with its proof by the kernel. Printed by a program of this session. -/
import Derived.Test.YtbpfmlgnlcfbcaaHwT
namespace Go.Proofs.Ytbpfmlgnlcfbcaa.Fw
open Go Go.Hw Go.Proofs
set_option linter.unusedVariables false

/-! ### roadstead/fence.NewStore: function 15 -/
def f15.T : Tab := { sh := tSh, tup := tTup, keep := [], plan := [] }
def f15.kp : Keep := []
theorem f15.good : goodCode Try.prog f15.T (rootOf Try.f15) = true := by kernel_rfl
set_option maxRecDepth 100000 in
theorem f15.ok : calleeOk Try.prog 15 = true := by kernel_rfl
set_option maxRecDepth 100000 in
def f15.runT (R : Value → Heap → Prop)  (h : Heap) : Prop :=
  newH h (Obj.cells #[(Value.int .i64 (0 : Int)), (Value.int .i64 (0 : Int)), (Value.int .i64 (0 : Int))] 164) fun h1_ => R (Value.pointer (some ⟨Array.size h, 0, none⟩)) h1_
set_option maxRecDepth 100000 in
theorem f15.run {R : Value → Heap → Prop}  {h : Heap} (H : f15.runT R  h) : Run Try.prog 15 #[] h R :=
  run_of mixed Try.func15 (by kernel_rfl) (by kernel_rfl) f15.good (Eq.mpr (show (Fwd Try.prog f15.T f15.kp Try.f15 R [] (mkFr (argL [] 0)) h) = (f15.runT R  h) by kernel_rfl) H)

/-! ### (*roadstead/fence.Store).Put: function 16 -/
def f16.T : Tab := { sh := tSh, tup := tTup, keep := [], plan := [] }
def f16.kp : Keep := []
theorem f16.good : goodCode Try.prog f16.T (rootOf Try.f16) = true := by kernel_rfl
set_option maxRecDepth 100000 in
theorem f16.ok : calleeOk Try.prog 16 = true := by kernel_rfl
set_option maxRecDepth 100000 in
def f16.runT (R : Value → Heap → Prop) (a0 : Addr) (x1 : Int) (x2 : Int) (h : Heap) : Prop :=
  splitB (decide (x1 < (1 : Int))) (R (Value.int .i64 (1 : Int)) h) (∃ v1_, ldv false 1 h a0 = some v1_ ∧ ∃ x2_, v1_ = (Value.int .i64 x2_) ∧ splitB (decide (x1 < x2_)) (∃ v3_, ldv false 1 h (Addr.add a0 2) = some v3_ ∧ ∃ x4_, v3_ = (Value.int .i64 x4_) ∧ ∃ h5_, st1 h (Addr.add a0 2) (Value.int .i64 (IntKind.wrap .i64 (x4_ + (1 : Int)))) = some h5_ ∧ R (Value.int .i64 (23 : Int)) h5_) (∃ h6_, st1 h a0 (Value.int .i64 x1) = some h6_ ∧ ∃ h7_, st1 h6_ (Addr.add a0 1) (Value.int .i64 x2) = some h7_ ∧ R (Value.int .i64 (0 : Int)) h7_))
set_option maxRecDepth 100000 in
theorem f16.run {R : Value → Heap → Prop} {a0 : Addr} {x1 : Int} {x2 : Int} {h : Heap} (H : f16.runT R a0 x1 x2 h) : Run Try.prog 16 #[(Value.pointer (some a0)), (Value.int .i64 x1), (Value.int .i64 x2)] h R :=
  run_of mixed Try.func16 (by kernel_rfl) (by kernel_rfl) f16.good (Eq.mpr (show (Fwd Try.prog f16.T f16.kp Try.f16 R [] (mkFr (argL [(Value.pointer (some a0)), (Value.int .i64 x1), (Value.int .i64 x2)] 0)) h) = (f16.runT R a0 x1 x2 h) by kernel_rfl) H)

/-! ### roadstead/roadlaw4.at: function 17 -/
def f17.T : Tab := { sh := tSh, tup := tTup, keep := [], plan := [] }
def f17.kp : Keep := []
theorem f17.good : goodCode Try.prog f17.T (rootOf Try.f17) = true := by kernel_rfl
set_option maxRecDepth 100000 in
theorem f17.ok : calleeOk Try.prog 17 = true := by kernel_rfl
set_option maxRecDepth 100000 in
def f17.runT (R : Value → Heap → Prop) (A0 : Option Addr) (n0 : Nat) (c0 : Nat) (x1 : Int) (h : Heap) : Prop :=
  splitB (decide (x1 < ((n0 : Nat) : Int))) (ptrOk A0 fun a1_ => 0 ≤ x1 ∧ x1 < ((n0 : Nat) : Int) ∧ (∃ v2_, ldv false 1 h (Addr.add a1_ (Int.toNat x1 * 1)) = some v2_ ∧ ∃ x3_, v2_ = (Value.int .i64 x3_) ∧ R (Value.int .i64 x3_) h)) (R (Value.int .i64 (0 : Int)) h)
set_option maxRecDepth 100000 in
theorem f17.run {R : Value → Heap → Prop} {A0 : Option Addr} {n0 : Nat} {c0 : Nat} {x1 : Int} {h : Heap} (H : f17.runT R A0 n0 c0 x1 h) : Run Try.prog 17 #[(Value.slice A0 n0 c0), (Value.int .i64 x1)] h R :=
  run_of mixed Try.func17 (by kernel_rfl) (by kernel_rfl) f17.good (Eq.mpr (show (Fwd Try.prog f17.T f17.kp Try.f17 R [] (mkFr (argL [(Value.slice A0 n0 c0), (Value.int .i64 x1)] 0)) h) = (f17.runT R A0 n0 c0 x1 h) by kernel_rfl) H)

/-! ### (*roadstead/fence.Store).Get: function 18 -/
def f18.T : Tab := { sh := tSh, tup := tTup, keep := [], plan := [(1, (.take 0 (.take 1 (.take 2 (.take 4 (.take 5 (.take 6 (.take 8 (.take 9 (.take 10 (.take 3 (.take 12 (.take 7 (.take 13 (.take 11 (.take 14 .done))))))))))))))))] }
def f18.kp : Keep := []
theorem f18.good : goodCode Try.prog f18.T (rootOf Try.f18) = true := by kernel_rfl
set_option maxRecDepth 100000 in
theorem f18.ok : calleeOk Try.prog 18 = true := by kernel_rfl
set_option maxRecDepth 100000 in
def f18.runT (R : Value → Heap → Prop) (a0 : Addr) (h : Heap) : Prop :=
  ∃ v1_, ldv false 1 h (Addr.add a0 1) = some v1_ ∧ ∃ x2_, v1_ = (Value.int .i64 x2_) ∧ ∃ v3_, ldv false 1 h a0 = some v3_ ∧ ∃ x4_, v3_ = (Value.int .i64 x4_) ∧ ∃ v5_, ldv false 1 h (Addr.add a0 2) = some v5_ ∧ ∃ x6_, v5_ = (Value.int .i64 x6_) ∧ R (Value.tuple #[(Value.int .i64 x2_), (Value.int .i64 x4_), (Value.int .i64 x6_)]) h
set_option maxRecDepth 100000 in
theorem f18.run {R : Value → Heap → Prop} {a0 : Addr} {h : Heap} (H : f18.runT R a0 h) : Run Try.prog 18 #[(Value.pointer (some a0))] h R :=
  run_of mixed Try.func18 (by kernel_rfl) (by kernel_rfl) f18.good (Eq.mpr (show (Fwd Try.prog f18.T f18.kp Try.f18 R [] (mkFr (argL [(Value.pointer (some a0))] 0)) h) = (f18.runT R a0 h) by kernel_rfl) H)

/-! ### roadstead/roadlaw4.FenceStores: function 3 -/
def f3.T : Tab := { sh := tSh, tup := tTup, keep := [], plan := [] }
def f3.kp : Keep := [([true, true, true], [0]), ([false, false, true, false, true, true, true, true, true], [3, 4, 5, 6, 34, 35, 36]), ([true, true, true, true, false, false, true, true, false, false, true, false, true, true, true, true, true], [3, 4, 5, 6, 9, 10, 11, 34, 35, 36])]
theorem f3.good : goodCode Try.prog f3.T (rootOf Try.f3) = true := by kernel_rfl
set_option maxRecDepth 100000 in
theorem f3.ok : calleeOk Try.prog 3 = true := by kernel_rfl
def f3.j0 (R : Value → Heap → Prop) (A0 : Option Addr) (n0 : Nat) (c0 : Nat) (h : Heap) : Prop := Pt Try.prog Try.f3 R [true, true, true] (mkFr [(0, (Value.slice A0 n0 c0))]) h
def f3.l0 (R : Value → Heap → Prop) (p3 : Option Addr) (x4 : Int) (x5 : Int) (x6 : Int) (A34 : Option Addr) (n34 : Nat) (c34 : Nat) (x35 : Int) (x36 : Int) (h : Heap) : Prop := Pt Try.prog Try.f3 R [false, false, true, false, true, true, true, true, true] (mkFr [(3, (Value.pointer p3)), (4, (Value.int .i64 x4)), (5, (Value.int .i64 x5)), (6, (Value.int .i64 x6)), (34, (Value.slice A34 n34 c34)), (35, (Value.int .i64 x35)), (36, (Value.int .i64 x36))]) h
def f3.j1 (R : Value → Heap → Prop) (p3 : Option Addr) (x4 : Int) (x5 : Int) (x6 : Int) (x9 : Int) (x10 : Int) (x11 : Int) (A34 : Option Addr) (n34 : Nat) (c34 : Nat) (x35 : Int) (x36 : Int) (h : Heap) : Prop := Pt Try.prog Try.f3 R [true, true, true, true, false, false, true, true, false, false, true, false, true, true, true, true, true] (mkFr [(3, (Value.pointer p3)), (4, (Value.int .i64 x4)), (5, (Value.int .i64 x5)), (6, (Value.int .i64 x6)), (9, (Value.int .i64 x9)), (10, (Value.int .i64 x10)), (11, (Value.int .i64 x11)), (34, (Value.slice A34 n34 c34)), (35, (Value.int .i64 x35)), (36, (Value.int .i64 x36))]) h
set_option maxRecDepth 100000 in
def f3.j0T (R : Value → Heap → Prop) (A0 : Option Addr) (n0 : Nat) (c0 : Nat) (h : Heap) : Prop :=
  Run Try.prog 15 #[] h fun v1_ h2_ => ∃ p3_, v1_ = (Value.pointer p3_) ∧ f3.l0 R p3_ (0 : Int) (0 : Int) (0 : Int) A0 n0 c0 ((n0 : Nat) : Int) (0 : Int) h2_
set_option maxRecDepth 100000 in
theorem f3.j0_in {R : Value → Heap → Prop} {A0 : Option Addr} {n0 : Nat} {c0 : Nat} {h : Heap} (H : f3.j0T R A0 n0 c0 h) : f3.j0 R A0 n0 c0 h :=
  pt_intro mixed f3.good (Eq.mpr (show (Fwd Try.prog f3.T f3.kp Try.f3 R [true, true, true] (mkFr [(0, (Value.slice A0 n0 c0))]) h) = (f3.j0T R A0 n0 c0 h) by kernel_rfl) H)
set_option maxRecDepth 100000 in
def f3.l0T (R : Value → Heap → Prop) (p3 : Option Addr) (x4 : Int) (x5 : Int) (x6 : Int) (A34 : Option Addr) (n34 : Nat) (c34 : Nat) (x35 : Int) (x36 : Int) (h : Heap) : Prop :=
  splitB (decide (x36 < x35)) (ptrOk A34 fun a1_ => 0 ≤ x36 ∧ x36 < ((n34 : Nat) : Int) ∧ (∃ v2_, ldv false 1 h (Addr.add a1_ (Int.toNat x36 * 1)) = some v2_ ∧ ∃ A3_, ∃ n3_, ∃ c3_, v2_ = (Value.slice A3_ n3_ c3_) ∧ Run Try.prog 17 #[(Value.slice A3_ n3_ c3_), (Value.int .i64 (0 : Int))] h fun v4_ h5_ => ∃ x6_, v4_ = (Value.int .i64 x6_) ∧ Run Try.prog 17 #[(Value.slice A3_ n3_ c3_), (Value.int .i64 (1 : Int))] h5_ fun v7_ h8_ => ∃ x9_, v7_ = (Value.int .i64 x9_) ∧ splitB (decide (x6_ < (1 : Int))) (f3.j1 R p3 x4 x5 x6 x6_ x9_ (1 : Int) A34 n34 c34 x35 x36 h8_) (splitB (decide (x6_ < x5)) (f3.j1 R p3 x4 x5 (IntKind.wrap .i64 (x6 + (1 : Int))) x6_ x9_ (23 : Int) A34 n34 c34 x35 x36 h8_) (f3.j1 R p3 x9_ x6_ x6 x6_ x9_ (0 : Int) A34 n34 c34 x35 x36 h8_)))) (R (Value.bool true) h)
set_option maxRecDepth 100000 in
theorem f3.l0_in {R : Value → Heap → Prop} {p3 : Option Addr} {x4 : Int} {x5 : Int} {x6 : Int} {A34 : Option Addr} {n34 : Nat} {c34 : Nat} {x35 : Int} {x36 : Int} {h : Heap} (H : f3.l0T R p3 x4 x5 x6 A34 n34 c34 x35 x36 h) : f3.l0 R p3 x4 x5 x6 A34 n34 c34 x35 x36 h :=
  pt_intro mixed f3.good (Eq.mpr (show (Fwd Try.prog f3.T f3.kp Try.f3 R [false, false, true, false, true, true, true, true, true] (mkFr [(3, (Value.pointer p3)), (4, (Value.int .i64 x4)), (5, (Value.int .i64 x5)), (6, (Value.int .i64 x6)), (34, (Value.slice A34 n34 c34)), (35, (Value.int .i64 x35)), (36, (Value.int .i64 x36))]) h) = (f3.l0T R p3 x4 x5 x6 A34 n34 c34 x35 x36 h) by kernel_rfl) H)
set_option maxRecDepth 100000 in
def f3.j1T (R : Value → Heap → Prop) (p3 : Option Addr) (x4 : Int) (x5 : Int) (x6 : Int) (x9 : Int) (x10 : Int) (x11 : Int) (A34 : Option Addr) (n34 : Nat) (c34 : Nat) (x35 : Int) (x36 : Int) (h : Heap) : Prop :=
  Run Try.prog 16 #[(Value.pointer p3), (Value.int .i64 x9), (Value.int .i64 x10)] h fun v1_ h2_ => ∃ x3_, v1_ = (Value.int .i64 x3_) ∧ splitB (x3_ != x11) (R (Value.bool false) h2_) (Run Try.prog 18 #[(Value.pointer p3)] h2_ fun v4_ h5_ => ∃ x6_, ∃ x7_, ∃ x8_, v4_ = (Value.tuple #[(Value.int .i64 x6_), (Value.int .i64 x7_), (Value.int .i64 x8_)]) ∧ splitB (x6_ != x4) (R (Value.bool false) h5_) (splitB (x7_ != x5) (R (Value.bool false) h5_) (splitB (x8_ != x6) (R (Value.bool false) h5_) (f3.l0 R p3 x4 x5 x6 A34 n34 c34 x35 (IntKind.wrap .i64 (x36 + (1 : Int))) h5_))))
set_option maxRecDepth 100000 in
theorem f3.j1_in {R : Value → Heap → Prop} {p3 : Option Addr} {x4 : Int} {x5 : Int} {x6 : Int} {x9 : Int} {x10 : Int} {x11 : Int} {A34 : Option Addr} {n34 : Nat} {c34 : Nat} {x35 : Int} {x36 : Int} {h : Heap} (H : f3.j1T R p3 x4 x5 x6 x9 x10 x11 A34 n34 c34 x35 x36 h) : f3.j1 R p3 x4 x5 x6 x9 x10 x11 A34 n34 c34 x35 x36 h :=
  pt_intro mixed f3.good (Eq.mpr (show (Fwd Try.prog f3.T f3.kp Try.f3 R [true, true, true, true, false, false, true, true, false, false, true, false, true, true, true, true, true] (mkFr [(3, (Value.pointer p3)), (4, (Value.int .i64 x4)), (5, (Value.int .i64 x5)), (6, (Value.int .i64 x6)), (9, (Value.int .i64 x9)), (10, (Value.int .i64 x10)), (11, (Value.int .i64 x11)), (34, (Value.slice A34 n34 c34)), (35, (Value.int .i64 x35)), (36, (Value.int .i64 x36))]) h) = (f3.j1T R p3 x4 x5 x6 x9 x10 x11 A34 n34 c34 x35 x36 h) by kernel_rfl) H)
set_option maxRecDepth 100000 in
def f3.runT (R : Value → Heap → Prop) (A0 : Option Addr) (n0 : Nat) (c0 : Nat) (h : Heap) : Prop :=
  Run Try.prog 15 #[] h fun v1_ h2_ => ∃ p3_, v1_ = (Value.pointer p3_) ∧ splitB (Option.isNone p3_) (R (Value.bool false) h2_) (Run Try.prog 16 #[(Value.pointer p3_), (Value.int .i64 (5 : Int)), (Value.int .i64 (7 : Int))] h2_ fun v4_ h5_ => ∃ x6_, v4_ = (Value.int .i64 x6_) ∧ splitB (x6_ != (0 : Int)) (R (Value.bool false) h5_) (Run Try.prog 16 #[(Value.pointer p3_), (Value.int .i64 (4 : Int)), (Value.int .i64 (8 : Int))] h5_ fun v7_ h8_ => ∃ x9_, v7_ = (Value.int .i64 x9_) ∧ splitB (x9_ != (23 : Int)) (R (Value.bool false) h8_) (Run Try.prog 16 #[(Value.pointer p3_), (Value.int .i64 (0 : Int)), (Value.int .i64 (1 : Int))] h8_ fun v10_ h11_ => ∃ x12_, v10_ = (Value.int .i64 x12_) ∧ splitB (x12_ != (1 : Int)) (R (Value.bool false) h11_) (f3.j0 R A0 n0 c0 h11_))))
set_option maxRecDepth 100000 in
theorem f3.run {R : Value → Heap → Prop} {A0 : Option Addr} {n0 : Nat} {c0 : Nat} {h : Heap} (H : f3.runT R A0 n0 c0 h) : Run Try.prog 3 #[(Value.slice A0 n0 c0)] h R :=
  run_of mixed Try.func3 (by kernel_rfl) (by kernel_rfl) f3.good (Eq.mpr (show (Fwd Try.prog f3.T f3.kp Try.f3 R [] (mkFr (argL [(Value.slice A0 n0 c0)] 0)) h) = (f3.runT R A0 n0 c0 h) by kernel_rfl) H)

/-! ### roadstead/shrink.Number: function 19 -/
def f19.T : Tab := { sh := tSh, tup := tTup, keep := [], plan := [] }
def f19.kp : Keep := [([true, false, true], [0, 1, 14]), ([true, true], [0, 1]), ([false, false, false, true, true, true, true], [1, 6, 7])]
theorem f19.good : goodCode Try.prog f19.T (rootOf Try.f19) = true := by kernel_rfl
set_option maxRecDepth 100000 in
theorem f19.ok : calleeOk Try.prog 19 = true := by kernel_rfl
def f19.j1 (R : Value → Heap → Prop) (x0 : Int) (v1 : Value) (b14 : Bool) (h : Heap) : Prop := Pt Try.prog Try.f19 R [true, false, true] (mkFr [(0, (Value.int .i64 x0)), (1, v1), (14, (Value.bool b14))]) h
def f19.j0 (R : Value → Heap → Prop) (x0 : Int) (v1 : Value) (h : Heap) : Prop := Pt Try.prog Try.f19 R [true, true] (mkFr [(0, (Value.int .i64 x0)), (1, v1)]) h
def f19.l0 (R : Value → Heap → Prop) (v1 : Value) (x6 : Int) (x7 : Int) (h : Heap) : Prop := Pt Try.prog Try.f19 R [false, false, false, true, true, true, true] (mkFr [(1, v1), (6, (Value.int .i64 x6)), (7, (Value.int .i64 x7))]) h
set_option maxRecDepth 100000 in
def f19.j1T (R : Value → Heap → Prop) (x0 : Int) (v1 : Value) (b14 : Bool) (h : Heap) : Prop :=
  splitB b14 (R (Value.tuple #[(Value.int .i64 (0 : Int)), (Value.int .i64 (1 : Int))]) h) (f19.j0 R x0 v1 h)
set_option maxRecDepth 100000 in
theorem f19.j1_in {R : Value → Heap → Prop} {x0 : Int} {v1 : Value} {b14 : Bool} {h : Heap} (H : f19.j1T R x0 v1 b14 h) : f19.j1 R x0 v1 b14 h :=
  pt_intro mixed f19.good (Eq.mpr (show (Fwd Try.prog f19.T f19.kp Try.f19 R [true, false, true] (mkFr [(0, (Value.int .i64 x0)), (1, v1), (14, (Value.bool b14))]) h) = (f19.j1T R x0 v1 b14 h) by kernel_rfl) H)
set_option maxRecDepth 100000 in
def f19.j0T (R : Value → Heap → Prop) (x0 : Int) (v1 : Value) (h : Heap) : Prop :=
  CallF Try.prog v1 [(Value.int .i64 x0)] h fun v1_ h2_ => ∃ b3_, v1_ = (Value.bool b3_) ∧ splitB (!b3_) (R (Value.tuple #[(Value.int .i64 (0 : Int)), (Value.int .i64 (4 : Int))]) h2_) (f19.l0 R v1 (0 : Int) x0 h2_)
set_option maxRecDepth 100000 in
theorem f19.j0_in {R : Value → Heap → Prop} {x0 : Int} {v1 : Value} {h : Heap} (H : f19.j0T R x0 v1 h) : f19.j0 R x0 v1 h :=
  pt_intro mixed f19.good (Eq.mpr (show (Fwd Try.prog f19.T f19.kp Try.f19 R [true, true] (mkFr [(0, (Value.int .i64 x0)), (1, v1)]) h) = (f19.j0T R x0 v1 h) by kernel_rfl) H)
set_option maxRecDepth 100000 in
def f19.l0T (R : Value → Heap → Prop) (v1 : Value) (x6 : Int) (x7 : Int) (h : Heap) : Prop :=
  splitB (decide (x6 < x7)) ((2 : Int) ≠ 0 ∧ (CallF Try.prog v1 [(Value.int .i64 (IntKind.wrap .i64 (Int.tdiv (IntKind.wrap .i64 (x6 + x7)) (2 : Int))))] h fun v1_ h2_ => ∃ b3_, v1_ = (Value.bool b3_) ∧ splitB b3_ (f19.l0 R v1 x6 (IntKind.wrap .i64 (Int.tdiv (IntKind.wrap .i64 (x6 + x7)) (2 : Int))) h2_) (f19.l0 R v1 (IntKind.wrap .i64 ((IntKind.wrap .i64 (Int.tdiv (IntKind.wrap .i64 (x6 + x7)) (2 : Int))) + (1 : Int))) x7 h2_))) (R (Value.tuple #[(Value.int .i64 x6), (Value.int .i64 (0 : Int))]) h)
set_option maxRecDepth 100000 in
theorem f19.l0_in {R : Value → Heap → Prop} {v1 : Value} {x6 : Int} {x7 : Int} {h : Heap} (H : f19.l0T R v1 x6 x7 h) : f19.l0 R v1 x6 x7 h :=
  pt_intro mixed f19.good (Eq.mpr (show (Fwd Try.prog f19.T f19.kp Try.f19 R [false, false, false, true, true, true, true] (mkFr [(1, v1), (6, (Value.int .i64 x6)), (7, (Value.int .i64 x7))]) h) = (f19.l0T R v1 x6 x7 h) by kernel_rfl) H)
set_option maxRecDepth 100000 in
def f19.runT (R : Value → Heap → Prop) (x0 : Int) (v1 : Value) (h : Heap) : Prop :=
  splitB (decide (x0 < (0 : Int))) (f19.j1 R x0 v1 true h) (f19.j1 R x0 v1 (decide (x0 > (1099511627776 : Int))) h)
set_option maxRecDepth 100000 in
theorem f19.run {R : Value → Heap → Prop} {x0 : Int} {v1 : Value} {h : Heap} (H : f19.runT R x0 v1 h) : Run Try.prog 19 #[(Value.int .i64 x0), v1] h R :=
  run_of mixed Try.func19 (by kernel_rfl) (by kernel_rfl) f19.good (Eq.mpr (show (Fwd Try.prog f19.T f19.kp Try.f19 R [] (mkFr (argL [(Value.int .i64 x0), v1] 0)) h) = (f19.runT R x0 v1 h) by kernel_rfl) H)

/-! ### roadstead/roadlaw4.ShrinkNumber$1: function 20 -/
def f20.T : Tab := { sh := tSh, tup := tTup, keep := [], plan := [] }
def f20.kp : Keep := []
theorem f20.good : goodCode Try.prog f20.T (rootOf Try.f20) = true := by kernel_rfl
set_option maxRecDepth 100000 in
theorem f20.ok : calleeOk Try.prog 20 = true := by kernel_rfl
set_option maxRecDepth 100000 in
def f20.runT (R : Value → Heap → Prop) (x0 : Int) (h : Heap) : Prop :=
  R (Value.bool (decide (x0 ≥ (37 : Int)))) h
set_option maxRecDepth 100000 in
theorem f20.run {R : Value → Heap → Prop} {x0 : Int} {h : Heap} (H : f20.runT R x0 h) : Run Try.prog 20 #[(Value.int .i64 x0)] h R :=
  run_of mixed Try.func20 (by kernel_rfl) (by kernel_rfl) f20.good (Eq.mpr (show (Fwd Try.prog f20.T f20.kp Try.f20 R [] (mkFr (argL [(Value.int .i64 x0)] 0)) h) = (f20.runT R x0 h) by kernel_rfl) H)

/-! ### roadstead/roadlaw4.ShrinkNumber$2: function 21 -/
def f21.T : Tab := { sh := tSh, tup := tTup, keep := [], plan := [] }
def f21.kp : Keep := []
theorem f21.good : goodCode Try.prog f21.T (rootOf Try.f21) = true := by kernel_rfl
set_option maxRecDepth 100000 in
theorem f21.ok : calleeOk Try.prog 21 = true := by kernel_rfl
set_option maxRecDepth 100000 in
def f21.runT (R : Value → Heap → Prop) (x0 : Int) (a1 : Addr) (a2 : Addr) (a3 : Addr) (h : Heap) : Prop :=
  ∃ v1_, ldv false 1 h a1 = some v1_ ∧ ∃ x2_, v1_ = (Value.int .i64 x2_) ∧ ∃ h3_, st1 h a1 (Value.int .i64 (IntKind.wrap .i64 (x2_ + (1 : Int)))) = some h3_ ∧ ∃ v4_, ldv false 1 h3_ a2 = some v4_ ∧ ∃ x5_, v4_ = (Value.int .i64 x5_) ∧ splitB (decide (x0 ≥ x5_)) (∃ v6_, ldv false 1 h3_ a3 = some v6_ ∧ ∃ x7_, v6_ = (Value.int .i64 x7_) ∧ R (Value.bool (x0 != x7_)) h3_) (R (Value.bool false) h3_)
set_option maxRecDepth 100000 in
theorem f21.run {R : Value → Heap → Prop} {x0 : Int} {a1 : Addr} {a2 : Addr} {a3 : Addr} {h : Heap} (H : f21.runT R x0 a1 a2 a3 h) : Run Try.prog 21 #[(Value.int .i64 x0), (Value.pointer (some a1)), (Value.pointer (some a2)), (Value.pointer (some a3))] h R :=
  run_of mixed Try.func21 (by kernel_rfl) (by kernel_rfl) f21.good (Eq.mpr (show (Fwd Try.prog f21.T f21.kp Try.f21 R [] (mkFr (argL [(Value.int .i64 x0), (Value.pointer (some a1)), (Value.pointer (some a2)), (Value.pointer (some a3))] 0)) h) = (f21.runT R x0 a1 a2 a3 h) by kernel_rfl) H)

/-! ### roadstead/roadlaw4.ShrinkNumber: function 4 -/
def f4.T : Tab := { sh := tSh, tup := tTup, keep := [], plan := [] }
def f4.kp : Keep := [([true, true], [0, 4, 5]), ([true, false, true, true, true, true, true], [0, 4, 5, 9, 11, 12, 35]), ([true, true, true, true, true, true], [0, 4, 5, 9, 11, 12]), ([true, false, true, true, true, true, true, true], [0, 4, 5, 9, 11, 12, 49]), ([true, true, true, true, true, true, true], [0, 4, 5, 9, 11, 12]), ([true, true, true, true, true, true, true, true], [4, 5, 11])]
theorem f4.good : goodCode Try.prog f4.T (rootOf Try.f4) = true := by kernel_rfl
set_option maxRecDepth 100000 in
theorem f4.ok : calleeOk Try.prog 4 = true := by kernel_rfl
def f4.j0 (R : Value → Heap → Prop) (x0 : Int) (a4 : Addr) (a5 : Addr) (h : Heap) : Prop := Pt Try.prog Try.f4 R [true, true] (mkFr [(0, (Value.int .i64 x0)), (4, (Value.pointer (some a4))), (5, (Value.pointer (some a5)))]) h
def f4.j2 (R : Value → Heap → Prop) (x0 : Int) (a4 : Addr) (a5 : Addr) (a9 : Addr) (x11 : Int) (x12 : Int) (b35 : Bool) (h : Heap) : Prop := Pt Try.prog Try.f4 R [true, false, true, true, true, true, true] (mkFr [(0, (Value.int .i64 x0)), (4, (Value.pointer (some a4))), (5, (Value.pointer (some a5))), (9, (Value.pointer (some a9))), (11, (Value.int .i64 x11)), (12, (Value.int .i64 x12)), (35, (Value.bool b35))]) h
def f4.j1 (R : Value → Heap → Prop) (x0 : Int) (a4 : Addr) (a5 : Addr) (a9 : Addr) (x11 : Int) (x12 : Int) (h : Heap) : Prop := Pt Try.prog Try.f4 R [true, true, true, true, true, true] (mkFr [(0, (Value.int .i64 x0)), (4, (Value.pointer (some a4))), (5, (Value.pointer (some a5))), (9, (Value.pointer (some a9))), (11, (Value.int .i64 x11)), (12, (Value.int .i64 x12))]) h
def f4.j4 (R : Value → Heap → Prop) (x0 : Int) (a4 : Addr) (a5 : Addr) (a9 : Addr) (x11 : Int) (x12 : Int) (b49 : Bool) (h : Heap) : Prop := Pt Try.prog Try.f4 R [true, false, true, true, true, true, true, true] (mkFr [(0, (Value.int .i64 x0)), (4, (Value.pointer (some a4))), (5, (Value.pointer (some a5))), (9, (Value.pointer (some a9))), (11, (Value.int .i64 x11)), (12, (Value.int .i64 x12)), (49, (Value.bool b49))]) h
def f4.j3 (R : Value → Heap → Prop) (x0 : Int) (a4 : Addr) (a5 : Addr) (a9 : Addr) (x11 : Int) (x12 : Int) (h : Heap) : Prop := Pt Try.prog Try.f4 R [true, true, true, true, true, true, true] (mkFr [(0, (Value.int .i64 x0)), (4, (Value.pointer (some a4))), (5, (Value.pointer (some a5))), (9, (Value.pointer (some a9))), (11, (Value.int .i64 x11)), (12, (Value.int .i64 x12))]) h
def f4.j5 (R : Value → Heap → Prop) (a4 : Addr) (a5 : Addr) (x11 : Int) (h : Heap) : Prop := Pt Try.prog Try.f4 R [true, true, true, true, true, true, true, true] (mkFr [(4, (Value.pointer (some a4))), (5, (Value.pointer (some a5))), (11, (Value.int .i64 x11))]) h
set_option maxRecDepth 100000 in
def f4.j0T (R : Value → Heap → Prop) (x0 : Int) (a4 : Addr) (a5 : Addr) (h : Heap) : Prop :=
  newH h (Obj.cells #[(Value.int .i64 (0 : Int))] 3) fun h1_ => ∃ h2_, st1 h1_ (⟨Array.size h, 0, none⟩) (Value.int .i64 (0 : Int)) = some h2_ ∧ Run Try.prog 19 #[(Value.int .i64 x0), (Value.func (.func 21) #[] #[(Value.pointer (some ⟨Array.size h, 0, none⟩)), (Value.pointer (some a4)), (Value.pointer (some a5))])] h2_ fun v3_ h4_ => ∃ x5_, ∃ x6_, v3_ = (Value.tuple #[(Value.int .i64 x5_), (Value.int .i64 x6_)]) ∧ splitB (decide (x0 < (0 : Int))) (f4.j2 R x0 a4 a5 (⟨Array.size h, 0, none⟩) x5_ x6_ true h4_) (f4.j2 R x0 a4 a5 (⟨Array.size h, 0, none⟩) x5_ x6_ (decide (x0 > (1099511627776 : Int))) h4_)
set_option maxRecDepth 100000 in
theorem f4.j0_in {R : Value → Heap → Prop} {x0 : Int} {a4 : Addr} {a5 : Addr} {h : Heap} (H : f4.j0T R x0 a4 a5 h) : f4.j0 R x0 a4 a5 h :=
  pt_intro mixed f4.good (Eq.mpr (show (Fwd Try.prog f4.T f4.kp Try.f4 R [true, true] (mkFr [(0, (Value.int .i64 x0)), (4, (Value.pointer (some a4))), (5, (Value.pointer (some a5)))]) h) = (f4.j0T R x0 a4 a5 h) by kernel_rfl) H)
set_option maxRecDepth 100000 in
def f4.j2T (R : Value → Heap → Prop) (x0 : Int) (a4 : Addr) (a5 : Addr) (a9 : Addr) (x11 : Int) (x12 : Int) (b35 : Bool) (h : Heap) : Prop :=
  splitB b35 (splitB (x12 == (1 : Int)) (R (Value.bool (x11 == (0 : Int))) h) (R (Value.bool false) h)) (f4.j1 R x0 a4 a5 a9 x11 x12 h)
set_option maxRecDepth 100000 in
theorem f4.j2_in {R : Value → Heap → Prop} {x0 : Int} {a4 : Addr} {a5 : Addr} {a9 : Addr} {x11 : Int} {x12 : Int} {b35 : Bool} {h : Heap} (H : f4.j2T R x0 a4 a5 a9 x11 x12 b35 h) : f4.j2 R x0 a4 a5 a9 x11 x12 b35 h :=
  pt_intro mixed f4.good (Eq.mpr (show (Fwd Try.prog f4.T f4.kp Try.f4 R [true, false, true, true, true, true, true] (mkFr [(0, (Value.int .i64 x0)), (4, (Value.pointer (some a4))), (5, (Value.pointer (some a5))), (9, (Value.pointer (some a9))), (11, (Value.int .i64 x11)), (12, (Value.int .i64 x12)), (35, (Value.bool b35))]) h) = (f4.j2T R x0 a4 a5 a9 x11 x12 b35 h) by kernel_rfl) H)
set_option maxRecDepth 100000 in
def f4.j1T (R : Value → Heap → Prop) (x0 : Int) (a4 : Addr) (a5 : Addr) (a9 : Addr) (x11 : Int) (x12 : Int) (h : Heap) : Prop :=
  ∃ v1_, ldv false 1 h a4 = some v1_ ∧ ∃ x2_, v1_ = (Value.int .i64 x2_) ∧ splitB (decide (x0 < x2_)) (f4.j4 R x0 a4 a5 a9 x11 x12 true h) (∃ v3_, ldv false 1 h a5 = some v3_ ∧ ∃ x4_, v3_ = (Value.int .i64 x4_) ∧ f4.j4 R x0 a4 a5 a9 x11 x12 (x0 == x4_) h)
set_option maxRecDepth 100000 in
theorem f4.j1_in {R : Value → Heap → Prop} {x0 : Int} {a4 : Addr} {a5 : Addr} {a9 : Addr} {x11 : Int} {x12 : Int} {h : Heap} (H : f4.j1T R x0 a4 a5 a9 x11 x12 h) : f4.j1 R x0 a4 a5 a9 x11 x12 h :=
  pt_intro mixed f4.good (Eq.mpr (show (Fwd Try.prog f4.T f4.kp Try.f4 R [true, true, true, true, true, true] (mkFr [(0, (Value.int .i64 x0)), (4, (Value.pointer (some a4))), (5, (Value.pointer (some a5))), (9, (Value.pointer (some a9))), (11, (Value.int .i64 x11)), (12, (Value.int .i64 x12))]) h) = (f4.j1T R x0 a4 a5 a9 x11 x12 h) by kernel_rfl) H)
set_option maxRecDepth 100000 in
def f4.j4T (R : Value → Heap → Prop) (x0 : Int) (a4 : Addr) (a5 : Addr) (a9 : Addr) (x11 : Int) (x12 : Int) (b49 : Bool) (h : Heap) : Prop :=
  splitB b49 (splitB (x12 == (4 : Int)) (R (Value.bool (x11 == (0 : Int))) h) (R (Value.bool false) h)) (f4.j3 R x0 a4 a5 a9 x11 x12 h)
set_option maxRecDepth 100000 in
theorem f4.j4_in {R : Value → Heap → Prop} {x0 : Int} {a4 : Addr} {a5 : Addr} {a9 : Addr} {x11 : Int} {x12 : Int} {b49 : Bool} {h : Heap} (H : f4.j4T R x0 a4 a5 a9 x11 x12 b49 h) : f4.j4 R x0 a4 a5 a9 x11 x12 b49 h :=
  pt_intro mixed f4.good (Eq.mpr (show (Fwd Try.prog f4.T f4.kp Try.f4 R [true, false, true, true, true, true, true, true] (mkFr [(0, (Value.int .i64 x0)), (4, (Value.pointer (some a4))), (5, (Value.pointer (some a5))), (9, (Value.pointer (some a9))), (11, (Value.int .i64 x11)), (12, (Value.int .i64 x12)), (49, (Value.bool b49))]) h) = (f4.j4T R x0 a4 a5 a9 x11 x12 b49 h) by kernel_rfl) H)
set_option maxRecDepth 100000 in
def f4.j3T (R : Value → Heap → Prop) (x0 : Int) (a4 : Addr) (a5 : Addr) (a9 : Addr) (x11 : Int) (x12 : Int) (h : Heap) : Prop :=
  splitB (x12 != (0 : Int)) (R (Value.bool false) h) (∃ v1_, ldv false 1 h a9 = some v1_ ∧ ∃ x2_, v1_ = (Value.int .i64 x2_) ∧ splitB (decide (x2_ > (100 : Int))) (R (Value.bool false) h) (splitB (decide (x11 < (0 : Int))) (R (Value.bool false) h) (splitB (decide (x11 > x0)) (R (Value.bool false) h) (∃ v3_, ldv false 1 h a4 = some v3_ ∧ ∃ x4_, v3_ = (Value.int .i64 x4_) ∧ splitB (decide (x11 < x4_)) (R (Value.bool false) h) (∃ v5_, ldv false 1 h a5 = some v5_ ∧ ∃ x6_, v5_ = (Value.int .i64 x6_) ∧ splitB (x11 == x6_) (R (Value.bool false) h) (f4.j5 R a4 a5 x11 h))))))
set_option maxRecDepth 100000 in
theorem f4.j3_in {R : Value → Heap → Prop} {x0 : Int} {a4 : Addr} {a5 : Addr} {a9 : Addr} {x11 : Int} {x12 : Int} {h : Heap} (H : f4.j3T R x0 a4 a5 a9 x11 x12 h) : f4.j3 R x0 a4 a5 a9 x11 x12 h :=
  pt_intro mixed f4.good (Eq.mpr (show (Fwd Try.prog f4.T f4.kp Try.f4 R [true, true, true, true, true, true, true] (mkFr [(0, (Value.int .i64 x0)), (4, (Value.pointer (some a4))), (5, (Value.pointer (some a5))), (9, (Value.pointer (some a9))), (11, (Value.int .i64 x11)), (12, (Value.int .i64 x12))]) h) = (f4.j3T R x0 a4 a5 a9 x11 x12 h) by kernel_rfl) H)
set_option maxRecDepth 100000 in
def f4.j5T (R : Value → Heap → Prop) (a4 : Addr) (a5 : Addr) (x11 : Int) (h : Heap) : Prop :=
  splitB (x11 == (0 : Int)) (R (Value.bool true) h) (∃ v1_, ldv false 1 h a4 = some v1_ ∧ ∃ x2_, v1_ = (Value.int .i64 x2_) ∧ splitB (decide ((IntKind.wrap .i64 (x11 - (1 : Int))) < x2_)) (R (Value.bool true) h) (∃ v3_, ldv false 1 h a5 = some v3_ ∧ ∃ x4_, v3_ = (Value.int .i64 x4_) ∧ R (Value.bool ((IntKind.wrap .i64 (x11 - (1 : Int))) == x4_)) h))
set_option maxRecDepth 100000 in
theorem f4.j5_in {R : Value → Heap → Prop} {a4 : Addr} {a5 : Addr} {x11 : Int} {h : Heap} (H : f4.j5T R a4 a5 x11 h) : f4.j5 R a4 a5 x11 h :=
  pt_intro mixed f4.good (Eq.mpr (show (Fwd Try.prog f4.T f4.kp Try.f4 R [true, true, true, true, true, true, true, true] (mkFr [(4, (Value.pointer (some a4))), (5, (Value.pointer (some a5))), (11, (Value.int .i64 x11))]) h) = (f4.j5T R a4 a5 x11 h) by kernel_rfl) H)
set_option maxRecDepth 100000 in
def f4.runT (R : Value → Heap → Prop) (x0 : Int) (x1 : Int) (x2 : Int) (h : Heap) : Prop :=
  newH h (Obj.cells #[(Value.int .i64 x1)] 3) fun h1_ => newH h1_ (Obj.cells #[(Value.int .i64 x2)] 3) fun h2_ => Run Try.prog 19 #[(Value.int .i64 (100 : Int)), (Value.func (.func 20) #[] #[])] h2_ fun v3_ h4_ => ∃ x5_, ∃ x6_, v3_ = (Value.tuple #[(Value.int .i64 x5_), (Value.int .i64 x6_)]) ∧ splitB (x6_ != (0 : Int)) (R (Value.bool false) h4_) (splitB (x5_ != (37 : Int)) (R (Value.bool false) h4_) (f4.j0 R x0 (⟨Array.size h, 0, none⟩) (⟨Array.size h1_, 0, none⟩) h4_))
set_option maxRecDepth 100000 in
theorem f4.run {R : Value → Heap → Prop} {x0 : Int} {x1 : Int} {x2 : Int} {h : Heap} (H : f4.runT R x0 x1 x2 h) : Run Try.prog 4 #[(Value.int .i64 x0), (Value.int .i64 x1), (Value.int .i64 x2)] h R :=
  run_of mixed Try.func4 (by kernel_rfl) (by kernel_rfl) f4.good (Eq.mpr (show (Fwd Try.prog f4.T f4.kp Try.f4 R [] (mkFr (argL [(Value.int .i64 x0), (Value.int .i64 x1), (Value.int .i64 x2)] 0)) h) = (f4.runT R x0 x1 x2 h) by kernel_rfl) H)

/-! ### roadstead/clock.at: function 108 -/
def f108.T : Tab := { sh := tSh, tup := tTup, keep := [], plan := [] }
def f108.kp : Keep := []
theorem f108.good : goodCode Try.prog f108.T (rootOf Try.f108) = true := by kernel_rfl
set_option maxRecDepth 100000 in
theorem f108.ok : calleeOk Try.prog 108 = true := by kernel_rfl
set_option maxRecDepth 100000 in
def f108.runT (R : Value → Heap → Prop) (A0 : Option Addr) (n0 : Nat) (c0 : Nat) (x1 : Int) (h : Heap) : Prop :=
  splitB (decide (x1 < ((n0 : Nat) : Int))) (ptrOk A0 fun a1_ => 0 ≤ x1 ∧ x1 < ((n0 : Nat) : Int) ∧ (∃ v2_, ldv false 1 h (Addr.add a1_ (Int.toNat x1 * 1)) = some v2_ ∧ ∃ x3_, v2_ = (Value.int .i64 x3_) ∧ R (Value.int .i64 x3_) h)) (R (Value.int .i64 (0 : Int)) h)
set_option maxRecDepth 100000 in
theorem f108.run {R : Value → Heap → Prop} {A0 : Option Addr} {n0 : Nat} {c0 : Nat} {x1 : Int} {h : Heap} (H : f108.runT R A0 n0 c0 x1 h) : Run Try.prog 108 #[(Value.slice A0 n0 c0), (Value.int .i64 x1)] h R :=
  run_of mixed Try.func108 (by kernel_rfl) (by kernel_rfl) f108.good (Eq.mpr (show (Fwd Try.prog f108.T f108.kp Try.f108 R [] (mkFr (argL [(Value.slice A0 n0 c0), (Value.int .i64 x1)] 0)) h) = (f108.runT R A0 n0 c0 x1 h) by kernel_rfl) H)

/-! ### roadstead/clock.Less: function 22 -/
def f22.T : Tab := { sh := tSh, tup := tTup, keep := [], plan := [] }
def f22.kp : Keep := [([false, false, true, false, true, true], [0, 1, 5, 11, 12])]
theorem f22.good : goodCode Try.prog f22.T (rootOf Try.f22) = true := by kernel_rfl
set_option maxRecDepth 100000 in
theorem f22.ok : calleeOk Try.prog 22 = true := by kernel_rfl
def f22.l0 (R : Value → Heap → Prop) (A0 : Option Addr) (n0 : Nat) (c0 : Nat) (A1 : Option Addr) (n1 : Nat) (c1 : Nat) (b5 : Bool) (x11 : Int) (x12 : Int) (h : Heap) : Prop := Pt Try.prog Try.f22 R [false, false, true, false, true, true] (mkFr [(0, (Value.slice A0 n0 c0)), (1, (Value.slice A1 n1 c1)), (5, (Value.bool b5)), (11, (Value.int .i64 x11)), (12, (Value.int .i64 x12))]) h
set_option maxRecDepth 100000 in
def f22.l0T (R : Value → Heap → Prop) (A0 : Option Addr) (n0 : Nat) (c0 : Nat) (A1 : Option Addr) (n1 : Nat) (c1 : Nat) (b5 : Bool) (x11 : Int) (x12 : Int) (h : Heap) : Prop :=
  splitB (decide (x12 < x11)) (Run Try.prog 108 #[(Value.slice A0 n0 c0), (Value.int .i64 x12)] h fun v1_ h2_ => ∃ x3_, v1_ = (Value.int .i64 x3_) ∧ Run Try.prog 108 #[(Value.slice A1 n1 c1), (Value.int .i64 x12)] h2_ fun v4_ h5_ => ∃ x6_, v4_ = (Value.int .i64 x6_) ∧ splitB (decide (x3_ > x6_)) (R (Value.bool false) h5_) (splitB b5 (f22.l0 R A0 n0 c0 A1 n1 c1 true x11 (IntKind.wrap .i64 (x12 + (1 : Int))) h5_) (Run Try.prog 108 #[(Value.slice A0 n0 c0), (Value.int .i64 x12)] h5_ fun v7_ h8_ => ∃ x9_, v7_ = (Value.int .i64 x9_) ∧ Run Try.prog 108 #[(Value.slice A1 n1 c1), (Value.int .i64 x12)] h8_ fun v10_ h11_ => ∃ x12_, v10_ = (Value.int .i64 x12_) ∧ f22.l0 R A0 n0 c0 A1 n1 c1 (decide (x9_ < x12_)) x11 (IntKind.wrap .i64 (x12 + (1 : Int))) h11_))) (R (Value.bool b5) h)
set_option maxRecDepth 100000 in
theorem f22.l0_in {R : Value → Heap → Prop} {A0 : Option Addr} {n0 : Nat} {c0 : Nat} {A1 : Option Addr} {n1 : Nat} {c1 : Nat} {b5 : Bool} {x11 : Int} {x12 : Int} {h : Heap} (H : f22.l0T R A0 n0 c0 A1 n1 c1 b5 x11 x12 h) : f22.l0 R A0 n0 c0 A1 n1 c1 b5 x11 x12 h :=
  pt_intro mixed f22.good (Eq.mpr (show (Fwd Try.prog f22.T f22.kp Try.f22 R [false, false, true, false, true, true] (mkFr [(0, (Value.slice A0 n0 c0)), (1, (Value.slice A1 n1 c1)), (5, (Value.bool b5)), (11, (Value.int .i64 x11)), (12, (Value.int .i64 x12))]) h) = (f22.l0T R A0 n0 c0 A1 n1 c1 b5 x11 x12 h) by kernel_rfl) H)
set_option maxRecDepth 100000 in
def f22.runT (R : Value → Heap → Prop) (A0 : Option Addr) (n0 : Nat) (c0 : Nat) (A1 : Option Addr) (n1 : Nat) (c1 : Nat) (h : Heap) : Prop :=
  f22.l0 R A0 n0 c0 A1 n1 c1 false (if ((n1 : Nat) : Int) > ((n0 : Nat) : Int) then ((n1 : Nat) : Int) else ((n0 : Nat) : Int)) (0 : Int) h
set_option maxRecDepth 100000 in
theorem f22.run {R : Value → Heap → Prop} {A0 : Option Addr} {n0 : Nat} {c0 : Nat} {A1 : Option Addr} {n1 : Nat} {c1 : Nat} {h : Heap} (H : f22.runT R A0 n0 c0 A1 n1 c1 h) : Run Try.prog 22 #[(Value.slice A0 n0 c0), (Value.slice A1 n1 c1)] h R :=
  run_of mixed Try.func22 (by kernel_rfl) (by kernel_rfl) f22.good (Eq.mpr (show (Fwd Try.prog f22.T f22.kp Try.f22 R [] (mkFr (argL [(Value.slice A0 n0 c0), (Value.slice A1 n1 c1)] 0)) h) = (f22.runT R A0 n0 c0 A1 n1 c1 h) by kernel_rfl) H)

/-! ### roadstead/clock.Join: function 23 -/
def f23.T : Tab := { sh := tSh, tup := tTup, keep := [], plan := [] }
def f23.kp : Keep := [([false, false, true, false, true, true], [0, 1, 5, 14, 15])]
theorem f23.good : goodCode Try.prog f23.T (rootOf Try.f23) = true := by kernel_rfl
set_option maxRecDepth 100000 in
theorem f23.ok : calleeOk Try.prog 23 = true := by kernel_rfl
def f23.l0 (R : Value → Heap → Prop) (A0 : Option Addr) (n0 : Nat) (c0 : Nat) (A1 : Option Addr) (n1 : Nat) (c1 : Nat) (A5 : Option Addr) (n5 : Nat) (c5 : Nat) (x14 : Int) (x15 : Int) (h : Heap) : Prop := Pt Try.prog Try.f23 R [false, false, true, false, true, true] (mkFr [(0, (Value.slice A0 n0 c0)), (1, (Value.slice A1 n1 c1)), (5, (Value.slice A5 n5 c5)), (14, (Value.int .i64 x14)), (15, (Value.int .i64 x15))]) h
set_option maxRecDepth 100000 in
def f23.l0T (R : Value → Heap → Prop) (A0 : Option Addr) (n0 : Nat) (c0 : Nat) (A1 : Option Addr) (n1 : Nat) (c1 : Nat) (A5 : Option Addr) (n5 : Nat) (c5 : Nat) (x14 : Int) (x15 : Int) (h : Heap) : Prop :=
  splitB (decide (x15 < x14)) (Run Try.prog 108 #[(Value.slice A0 n0 c0), (Value.int .i64 x15)] h fun v1_ h2_ => ∃ x3_, v1_ = (Value.int .i64 x3_) ∧ Run Try.prog 108 #[(Value.slice A1 n1 c1), (Value.int .i64 x15)] h2_ fun v4_ h5_ => ∃ x6_, v4_ = (Value.int .i64 x6_) ∧ ptrOk A5 fun a7_ => 0 ≤ x15 ∧ x15 < ((n5 : Nat) : Int) ∧ (∃ h8_, st1 h5_ (Addr.add a7_ (Int.toNat x15 * 1)) (Value.int .i64 (if x6_ > x3_ then x6_ else x3_)) = some h8_ ∧ f23.l0 R A0 n0 c0 A1 n1 c1 A5 n5 c5 x14 (IntKind.wrap .i64 (x15 + (1 : Int))) h8_)) (R (Value.slice A5 n5 c5) h)
set_option maxRecDepth 100000 in
theorem f23.l0_in {R : Value → Heap → Prop} {A0 : Option Addr} {n0 : Nat} {c0 : Nat} {A1 : Option Addr} {n1 : Nat} {c1 : Nat} {A5 : Option Addr} {n5 : Nat} {c5 : Nat} {x14 : Int} {x15 : Int} {h : Heap} (H : f23.l0T R A0 n0 c0 A1 n1 c1 A5 n5 c5 x14 x15 h) : f23.l0 R A0 n0 c0 A1 n1 c1 A5 n5 c5 x14 x15 h :=
  pt_intro mixed f23.good (Eq.mpr (show (Fwd Try.prog f23.T f23.kp Try.f23 R [false, false, true, false, true, true] (mkFr [(0, (Value.slice A0 n0 c0)), (1, (Value.slice A1 n1 c1)), (5, (Value.slice A5 n5 c5)), (14, (Value.int .i64 x14)), (15, (Value.int .i64 x15))]) h) = (f23.l0T R A0 n0 c0 A1 n1 c1 A5 n5 c5 x14 x15 h) by kernel_rfl) H)
set_option maxRecDepth 100000 in
def f23.runT (R : Value → Heap → Prop) (A0 : Option Addr) (n0 : Nat) (c0 : Nat) (A1 : Option Addr) (n1 : Nat) (c1 : Nat) (h : Heap) : Prop :=
  0 ≤ (if ((n1 : Nat) : Int) > ((n0 : Nat) : Int) then ((n1 : Nat) : Int) else ((n0 : Nat) : Int)) ∧ (if ((n1 : Nat) : Int) > ((n0 : Nat) : Int) then ((n1 : Nat) : Int) else ((n0 : Nat) : Int)) ≤ (if ((n1 : Nat) : Int) > ((n0 : Nat) : Int) then ((n1 : Nat) : Int) else ((n0 : Nat) : Int)) ∧ (if ((n1 : Nat) : Int) > ((n0 : Nat) : Int) then ((n1 : Nat) : Int) else ((n0 : Nat) : Int)) * 8 ≤ 140737488355328 ∧ (if ((n1 : Nat) : Int) > ((n0 : Nat) : Int) then ((n1 : Nat) : Int) else ((n0 : Nat) : Int)) ≤ 9223372036854775807 ∧ (newH h (Obj.cells (mkCells #[(Value.int .i64 (0 : Int))] (Int.toNat (if ((n1 : Nat) : Int) > ((n0 : Nat) : Int) then ((n1 : Nat) : Int) else ((n0 : Nat) : Int)) * 1)) 3) fun h1_ => f23.l0 R A0 n0 c0 A1 n1 c1 (some ⟨Array.size h, 0, none⟩) (Int.toNat (if ((n1 : Nat) : Int) > ((n0 : Nat) : Int) then ((n1 : Nat) : Int) else ((n0 : Nat) : Int))) (Int.toNat (if ((n1 : Nat) : Int) > ((n0 : Nat) : Int) then ((n1 : Nat) : Int) else ((n0 : Nat) : Int))) (((Int.toNat (if ((n1 : Nat) : Int) > ((n0 : Nat) : Int) then ((n1 : Nat) : Int) else ((n0 : Nat) : Int))) : Nat) : Int) (0 : Int) h1_)
set_option maxRecDepth 100000 in
theorem f23.run {R : Value → Heap → Prop} {A0 : Option Addr} {n0 : Nat} {c0 : Nat} {A1 : Option Addr} {n1 : Nat} {c1 : Nat} {h : Heap} (H : f23.runT R A0 n0 c0 A1 n1 c1 h) : Run Try.prog 23 #[(Value.slice A0 n0 c0), (Value.slice A1 n1 c1)] h R :=
  run_of mixed Try.func23 (by kernel_rfl) (by kernel_rfl) f23.good (Eq.mpr (show (Fwd Try.prog f23.T f23.kp Try.f23 R [] (mkFr (argL [(Value.slice A0 n0 c0), (Value.slice A1 n1 c1)] 0)) h) = (f23.runT R A0 n0 c0 A1 n1 c1 h) by kernel_rfl) H)

/-! ### slices.IndexFunc[[]int,int]: function 109 -/
def f109.T : Tab := { sh := tSh, tup := tTup, keep := [], plan := [] }
def f109.kp : Keep := [([false, false, true, false, true], [0, 1, 7, 8])]
theorem f109.good : goodCode Try.prog f109.T (rootOf Try.f109) = true := by kernel_rfl
set_option maxRecDepth 100000 in
theorem f109.ok : calleeOk Try.prog 109 = true := by kernel_rfl
def f109.l0 (R : Value → Heap → Prop) (A0 : Option Addr) (n0 : Nat) (c0 : Nat) (v1 : Value) (x7 : Int) (x8 : Int) (h : Heap) : Prop := Pt Try.prog Try.f109 R [false, false, true, false, true] (mkFr [(0, (Value.slice A0 n0 c0)), (1, v1), (7, (Value.int .i64 x7)), (8, (Value.int .i64 x8))]) h
set_option maxRecDepth 100000 in
def f109.l0T (R : Value → Heap → Prop) (A0 : Option Addr) (n0 : Nat) (c0 : Nat) (v1 : Value) (x7 : Int) (x8 : Int) (h : Heap) : Prop :=
  splitB (decide (x8 < x7)) (ptrOk A0 fun a1_ => 0 ≤ x8 ∧ x8 < ((n0 : Nat) : Int) ∧ (∃ v2_, ldv false 1 h (Addr.add a1_ (Int.toNat x8 * 1)) = some v2_ ∧ ∃ x3_, v2_ = (Value.int .i64 x3_) ∧ CallF Try.prog v1 [(Value.int .i64 x3_)] h fun v4_ h5_ => ∃ b6_, v4_ = (Value.bool b6_) ∧ splitB b6_ (R (Value.int .i64 x8) h5_) (f109.l0 R A0 n0 c0 v1 x7 (IntKind.wrap .i64 (x8 + (1 : Int))) h5_))) (R (Value.int .i64 (-1 : Int)) h)
set_option maxRecDepth 100000 in
theorem f109.l0_in {R : Value → Heap → Prop} {A0 : Option Addr} {n0 : Nat} {c0 : Nat} {v1 : Value} {x7 : Int} {x8 : Int} {h : Heap} (H : f109.l0T R A0 n0 c0 v1 x7 x8 h) : f109.l0 R A0 n0 c0 v1 x7 x8 h :=
  pt_intro mixed f109.good (Eq.mpr (show (Fwd Try.prog f109.T f109.kp Try.f109 R [false, false, true, false, true] (mkFr [(0, (Value.slice A0 n0 c0)), (1, v1), (7, (Value.int .i64 x7)), (8, (Value.int .i64 x8))]) h) = (f109.l0T R A0 n0 c0 v1 x7 x8 h) by kernel_rfl) H)
set_option maxRecDepth 100000 in
def f109.runT (R : Value → Heap → Prop) (A0 : Option Addr) (n0 : Nat) (c0 : Nat) (v1 : Value) (h : Heap) : Prop :=
  f109.l0 R A0 n0 c0 v1 ((n0 : Nat) : Int) (0 : Int) h
set_option maxRecDepth 100000 in
theorem f109.run {R : Value → Heap → Prop} {A0 : Option Addr} {n0 : Nat} {c0 : Nat} {v1 : Value} {h : Heap} (H : f109.runT R A0 n0 c0 v1 h) : Run Try.prog 109 #[(Value.slice A0 n0 c0), v1] h R :=
  run_of mixed Try.func109 (by kernel_rfl) (by kernel_rfl) f109.good (Eq.mpr (show (Fwd Try.prog f109.T f109.kp Try.f109 R [] (mkFr (argL [(Value.slice A0 n0 c0), v1] 0)) h) = (f109.runT R A0 n0 c0 v1 h) by kernel_rfl) H)

/-! ### slices.ContainsFunc[[]int,int]: function 24 -/
def f24.T : Tab := { sh := tSh, tup := tTup, keep := [], plan := [] }
def f24.kp : Keep := []
theorem f24.good : goodCode Try.prog f24.T (rootOf Try.f24) = true := by kernel_rfl
set_option maxRecDepth 100000 in
theorem f24.ok : calleeOk Try.prog 24 = true := by kernel_rfl
set_option maxRecDepth 100000 in
def f24.runT (R : Value → Heap → Prop) (A0 : Option Addr) (n0 : Nat) (c0 : Nat) (v1 : Value) (h : Heap) : Prop :=
  Run Try.prog 109 #[(Value.slice A0 n0 c0), v1] h fun v1_ h2_ => ∃ x3_, v1_ = (Value.int .i64 x3_) ∧ R (Value.bool (decide (x3_ ≥ (0 : Int)))) h2_
set_option maxRecDepth 100000 in
theorem f24.run {R : Value → Heap → Prop} {A0 : Option Addr} {n0 : Nat} {c0 : Nat} {v1 : Value} {h : Heap} (H : f24.runT R A0 n0 c0 v1 h) : Run Try.prog 24 #[(Value.slice A0 n0 c0), v1] h R :=
  run_of mixed Try.func24 (by kernel_rfl) (by kernel_rfl) f24.good (Eq.mpr (show (Fwd Try.prog f24.T f24.kp Try.f24 R [] (mkFr (argL [(Value.slice A0 n0 c0), v1] 0)) h) = (f24.runT R A0 n0 c0 v1 h) by kernel_rfl) H)

/-! ### roadstead/roadlaw4.ClockJoins$1: function 25 -/
def f25.T : Tab := { sh := tSh, tup := tTup, keep := [], plan := [] }
def f25.kp : Keep := []
theorem f25.good : goodCode Try.prog f25.T (rootOf Try.f25) = true := by kernel_rfl
set_option maxRecDepth 100000 in
theorem f25.ok : calleeOk Try.prog 25 = true := by kernel_rfl
set_option maxRecDepth 100000 in
def f25.runT (R : Value → Heap → Prop) (x0 : Int) (h : Heap) : Prop :=
  R (Value.bool (x0 != (0 : Int))) h
set_option maxRecDepth 100000 in
theorem f25.run {R : Value → Heap → Prop} {x0 : Int} {h : Heap} (H : f25.runT R x0 h) : Run Try.prog 25 #[(Value.int .i64 x0)] h R :=
  run_of mixed Try.func25 (by kernel_rfl) (by kernel_rfl) f25.good (Eq.mpr (show (Fwd Try.prog f25.T f25.kp Try.f25 R [] (mkFr (argL [(Value.int .i64 x0)] 0)) h) = (f25.runT R x0 h) by kernel_rfl) H)

/-! ### roadstead/roadlaw4.ClockJoins: function 5 -/
def f5.T : Tab := { sh := tSh, tup := tTup, keep := [], plan := [] }
def f5.kp : Keep := [([true, true], [0, 1]), ([false, false, true, false, true, true, true, true], [0, 1, 5, 6, 7, 26, 27]), ([true, true, true, true, false, false, true, true, false, false, true, false, true, true, true, true], [0, 1, 5, 6, 7, 9, 10, 26, 27])]
theorem f5.good : goodCode Try.prog f5.T (rootOf Try.f5) = true := by kernel_rfl
set_option maxRecDepth 100000 in
theorem f5.ok : calleeOk Try.prog 5 = true := by kernel_rfl
def f5.j0 (R : Value → Heap → Prop) (A0 : Option Addr) (n0 : Nat) (c0 : Nat) (A1 : Option Addr) (n1 : Nat) (c1 : Nat) (h : Heap) : Prop := Pt Try.prog Try.f5 R [true, true] (mkFr [(0, (Value.slice A0 n0 c0)), (1, (Value.slice A1 n1 c1))]) h
def f5.l0 (R : Value → Heap → Prop) (A0 : Option Addr) (n0 : Nat) (c0 : Nat) (A1 : Option Addr) (n1 : Nat) (c1 : Nat) (A5 : Option Addr) (n5 : Nat) (c5 : Nat) (b6 : Bool) (b7 : Bool) (x26 : Int) (x27 : Int) (h : Heap) : Prop := Pt Try.prog Try.f5 R [false, false, true, false, true, true, true, true] (mkFr [(0, (Value.slice A0 n0 c0)), (1, (Value.slice A1 n1 c1)), (5, (Value.slice A5 n5 c5)), (6, (Value.bool b6)), (7, (Value.bool b7)), (26, (Value.int .i64 x26)), (27, (Value.int .i64 x27))]) h
def f5.j1 (R : Value → Heap → Prop) (A0 : Option Addr) (n0 : Nat) (c0 : Nat) (A1 : Option Addr) (n1 : Nat) (c1 : Nat) (A5 : Option Addr) (n5 : Nat) (c5 : Nat) (b6 : Bool) (b7 : Bool) (x9 : Int) (x10 : Int) (x26 : Int) (x27 : Int) (h : Heap) : Prop := Pt Try.prog Try.f5 R [true, true, true, true, false, false, true, true, false, false, true, false, true, true, true, true] (mkFr [(0, (Value.slice A0 n0 c0)), (1, (Value.slice A1 n1 c1)), (5, (Value.slice A5 n5 c5)), (6, (Value.bool b6)), (7, (Value.bool b7)), (9, (Value.int .i64 x9)), (10, (Value.int .i64 x10)), (26, (Value.int .i64 x26)), (27, (Value.int .i64 x27))]) h
set_option maxRecDepth 100000 in
def f5.j0T (R : Value → Heap → Prop) (A0 : Option Addr) (n0 : Nat) (c0 : Nat) (A1 : Option Addr) (n1 : Nat) (c1 : Nat) (h : Heap) : Prop :=
  Run Try.prog 23 #[(Value.slice A0 n0 c0), (Value.slice A1 n1 c1)] h fun v1_ h2_ => ∃ A3_, ∃ n3_, ∃ c3_, v1_ = (Value.slice A3_ n3_ c3_) ∧ f5.l0 R A0 n0 c0 A1 n1 c1 A3_ n3_ c3_ true false (if ((n1 : Nat) : Int) > ((n0 : Nat) : Int) then ((n1 : Nat) : Int) else ((n0 : Nat) : Int)) (0 : Int) h2_
set_option maxRecDepth 100000 in
theorem f5.j0_in {R : Value → Heap → Prop} {A0 : Option Addr} {n0 : Nat} {c0 : Nat} {A1 : Option Addr} {n1 : Nat} {c1 : Nat} {h : Heap} (H : f5.j0T R A0 n0 c0 A1 n1 c1 h) : f5.j0 R A0 n0 c0 A1 n1 c1 h :=
  pt_intro mixed f5.good (Eq.mpr (show (Fwd Try.prog f5.T f5.kp Try.f5 R [true, true] (mkFr [(0, (Value.slice A0 n0 c0)), (1, (Value.slice A1 n1 c1))]) h) = (f5.j0T R A0 n0 c0 A1 n1 c1 h) by kernel_rfl) H)
set_option maxRecDepth 100000 in
def f5.l0T (R : Value → Heap → Prop) (A0 : Option Addr) (n0 : Nat) (c0 : Nat) (A1 : Option Addr) (n1 : Nat) (c1 : Nat) (A5 : Option Addr) (n5 : Nat) (c5 : Nat) (b6 : Bool) (b7 : Bool) (x26 : Int) (x27 : Int) (h : Heap) : Prop :=
  splitB (decide (x27 < x26)) (Run Try.prog 17 #[(Value.slice A0 n0 c0), (Value.int .i64 x27)] h fun v1_ h2_ => ∃ x3_, v1_ = (Value.int .i64 x3_) ∧ Run Try.prog 17 #[(Value.slice A1 n1 c1), (Value.int .i64 x27)] h2_ fun v4_ h5_ => ∃ x6_, v4_ = (Value.int .i64 x6_) ∧ Run Try.prog 17 #[(Value.slice A5 n5 c5), (Value.int .i64 x27)] h5_ fun v7_ h8_ => ∃ x9_, v7_ = (Value.int .i64 x9_) ∧ splitB (x9_ != (if x6_ > x3_ then x6_ else x3_)) (R (Value.bool false) h8_) (splitB b6 (f5.j1 R A0 n0 c0 A1 n1 c1 A5 n5 c5 (decide (x3_ ≤ x6_)) b7 x3_ x6_ x26 x27 h8_) (f5.j1 R A0 n0 c0 A1 n1 c1 A5 n5 c5 false b7 x3_ x6_ x26 x27 h8_))) (Run Try.prog 22 #[(Value.slice A0 n0 c0), (Value.slice A1 n1 c1)] h fun v10_ h11_ => ∃ b12_, v10_ = (Value.bool b12_) ∧ splitB b6 (splitB (b12_ == b7) (0 ≤ (if (if ((n1 : Nat) : Int) > ((n0 : Nat) : Int) then ((n1 : Nat) : Int) else ((n0 : Nat) : Int)) < ((n5 : Nat) : Int) then (if ((n1 : Nat) : Int) > ((n0 : Nat) : Int) then ((n1 : Nat) : Int) else ((n0 : Nat) : Int)) else ((n5 : Nat) : Int)) ∧ (if (if ((n1 : Nat) : Int) > ((n0 : Nat) : Int) then ((n1 : Nat) : Int) else ((n0 : Nat) : Int)) < ((n5 : Nat) : Int) then (if ((n1 : Nat) : Int) > ((n0 : Nat) : Int) then ((n1 : Nat) : Int) else ((n0 : Nat) : Int)) else ((n5 : Nat) : Int)) ≤ ((n5 : Nat) : Int) ∧ ((n5 : Nat) : Int) ≤ ((c5 : Nat) : Int) ∧ (Run Try.prog 24 #[(Value.slice (sliceA A5 (Int.toNat (if (if ((n1 : Nat) : Int) > ((n0 : Nat) : Int) then ((n1 : Nat) : Int) else ((n0 : Nat) : Int)) < ((n5 : Nat) : Int) then (if ((n1 : Nat) : Int) > ((n0 : Nat) : Int) then ((n1 : Nat) : Int) else ((n0 : Nat) : Int)) else ((n5 : Nat) : Int))) c5 1) (Int.toNat ((n5 : Nat) : Int) - Int.toNat (if (if ((n1 : Nat) : Int) > ((n0 : Nat) : Int) then ((n1 : Nat) : Int) else ((n0 : Nat) : Int)) < ((n5 : Nat) : Int) then (if ((n1 : Nat) : Int) > ((n0 : Nat) : Int) then ((n1 : Nat) : Int) else ((n0 : Nat) : Int)) else ((n5 : Nat) : Int))) (c5 - Int.toNat (if (if ((n1 : Nat) : Int) > ((n0 : Nat) : Int) then ((n1 : Nat) : Int) else ((n0 : Nat) : Int)) < ((n5 : Nat) : Int) then (if ((n1 : Nat) : Int) > ((n0 : Nat) : Int) then ((n1 : Nat) : Int) else ((n0 : Nat) : Int)) else ((n5 : Nat) : Int)))), (Value.func (.func 25) #[] #[])] h11_ fun v13_ h14_ => ∃ b15_, v13_ = (Value.bool b15_) ∧ R (Value.bool (!b15_)) h14_)) (R (Value.bool false) h11_)) (splitB (b12_ == false) (0 ≤ (if (if ((n1 : Nat) : Int) > ((n0 : Nat) : Int) then ((n1 : Nat) : Int) else ((n0 : Nat) : Int)) < ((n5 : Nat) : Int) then (if ((n1 : Nat) : Int) > ((n0 : Nat) : Int) then ((n1 : Nat) : Int) else ((n0 : Nat) : Int)) else ((n5 : Nat) : Int)) ∧ (if (if ((n1 : Nat) : Int) > ((n0 : Nat) : Int) then ((n1 : Nat) : Int) else ((n0 : Nat) : Int)) < ((n5 : Nat) : Int) then (if ((n1 : Nat) : Int) > ((n0 : Nat) : Int) then ((n1 : Nat) : Int) else ((n0 : Nat) : Int)) else ((n5 : Nat) : Int)) ≤ ((n5 : Nat) : Int) ∧ ((n5 : Nat) : Int) ≤ ((c5 : Nat) : Int) ∧ (Run Try.prog 24 #[(Value.slice (sliceA A5 (Int.toNat (if (if ((n1 : Nat) : Int) > ((n0 : Nat) : Int) then ((n1 : Nat) : Int) else ((n0 : Nat) : Int)) < ((n5 : Nat) : Int) then (if ((n1 : Nat) : Int) > ((n0 : Nat) : Int) then ((n1 : Nat) : Int) else ((n0 : Nat) : Int)) else ((n5 : Nat) : Int))) c5 1) (Int.toNat ((n5 : Nat) : Int) - Int.toNat (if (if ((n1 : Nat) : Int) > ((n0 : Nat) : Int) then ((n1 : Nat) : Int) else ((n0 : Nat) : Int)) < ((n5 : Nat) : Int) then (if ((n1 : Nat) : Int) > ((n0 : Nat) : Int) then ((n1 : Nat) : Int) else ((n0 : Nat) : Int)) else ((n5 : Nat) : Int))) (c5 - Int.toNat (if (if ((n1 : Nat) : Int) > ((n0 : Nat) : Int) then ((n1 : Nat) : Int) else ((n0 : Nat) : Int)) < ((n5 : Nat) : Int) then (if ((n1 : Nat) : Int) > ((n0 : Nat) : Int) then ((n1 : Nat) : Int) else ((n0 : Nat) : Int)) else ((n5 : Nat) : Int)))), (Value.func (.func 25) #[] #[])] h11_ fun v16_ h17_ => ∃ b18_, v16_ = (Value.bool b18_) ∧ R (Value.bool (!b18_)) h17_)) (R (Value.bool false) h11_)))
set_option maxRecDepth 100000 in
theorem f5.l0_in {R : Value → Heap → Prop} {A0 : Option Addr} {n0 : Nat} {c0 : Nat} {A1 : Option Addr} {n1 : Nat} {c1 : Nat} {A5 : Option Addr} {n5 : Nat} {c5 : Nat} {b6 : Bool} {b7 : Bool} {x26 : Int} {x27 : Int} {h : Heap} (H : f5.l0T R A0 n0 c0 A1 n1 c1 A5 n5 c5 b6 b7 x26 x27 h) : f5.l0 R A0 n0 c0 A1 n1 c1 A5 n5 c5 b6 b7 x26 x27 h :=
  pt_intro mixed f5.good (Eq.mpr (show (Fwd Try.prog f5.T f5.kp Try.f5 R [false, false, true, false, true, true, true, true] (mkFr [(0, (Value.slice A0 n0 c0)), (1, (Value.slice A1 n1 c1)), (5, (Value.slice A5 n5 c5)), (6, (Value.bool b6)), (7, (Value.bool b7)), (26, (Value.int .i64 x26)), (27, (Value.int .i64 x27))]) h) = (f5.l0T R A0 n0 c0 A1 n1 c1 A5 n5 c5 b6 b7 x26 x27 h) by kernel_rfl) H)
set_option maxRecDepth 100000 in
def f5.j1T (R : Value → Heap → Prop) (A0 : Option Addr) (n0 : Nat) (c0 : Nat) (A1 : Option Addr) (n1 : Nat) (c1 : Nat) (A5 : Option Addr) (n5 : Nat) (c5 : Nat) (b6 : Bool) (b7 : Bool) (x9 : Int) (x10 : Int) (x26 : Int) (x27 : Int) (h : Heap) : Prop :=
  splitB b7 (f5.l0 R A0 n0 c0 A1 n1 c1 A5 n5 c5 b6 true x26 (IntKind.wrap .i64 (x27 + (1 : Int))) h) (f5.l0 R A0 n0 c0 A1 n1 c1 A5 n5 c5 b6 (decide (x9 < x10)) x26 (IntKind.wrap .i64 (x27 + (1 : Int))) h)
set_option maxRecDepth 100000 in
theorem f5.j1_in {R : Value → Heap → Prop} {A0 : Option Addr} {n0 : Nat} {c0 : Nat} {A1 : Option Addr} {n1 : Nat} {c1 : Nat} {A5 : Option Addr} {n5 : Nat} {c5 : Nat} {b6 : Bool} {b7 : Bool} {x9 : Int} {x10 : Int} {x26 : Int} {x27 : Int} {h : Heap} (H : f5.j1T R A0 n0 c0 A1 n1 c1 A5 n5 c5 b6 b7 x9 x10 x26 x27 h) : f5.j1 R A0 n0 c0 A1 n1 c1 A5 n5 c5 b6 b7 x9 x10 x26 x27 h :=
  pt_intro mixed f5.good (Eq.mpr (show (Fwd Try.prog f5.T f5.kp Try.f5 R [true, true, true, true, false, false, true, true, false, false, true, false, true, true, true, true] (mkFr [(0, (Value.slice A0 n0 c0)), (1, (Value.slice A1 n1 c1)), (5, (Value.slice A5 n5 c5)), (6, (Value.bool b6)), (7, (Value.bool b7)), (9, (Value.int .i64 x9)), (10, (Value.int .i64 x10)), (26, (Value.int .i64 x26)), (27, (Value.int .i64 x27))]) h) = (f5.j1T R A0 n0 c0 A1 n1 c1 A5 n5 c5 b6 b7 x9 x10 x26 x27 h) by kernel_rfl) H)
set_option maxRecDepth 100000 in
def f5.runT (R : Value → Heap → Prop) (A0 : Option Addr) (n0 : Nat) (c0 : Nat) (A1 : Option Addr) (n1 : Nat) (c1 : Nat) (h : Heap) : Prop :=
  newH h (Obj.cells #[(Value.int .i64 (0 : Int)), (Value.int .i64 (1 : Int))] 3) fun h1_ => Run Try.prog 22 #[(Value.slice none 0 0), (Value.slice (some ⟨Array.size h, 0, none⟩) 2 2)] h1_ fun v2_ h3_ => ∃ b4_, v2_ = (Value.bool b4_) ∧ splitB (!b4_) (R (Value.bool false) h3_) (newH h3_ (Obj.cells #[(Value.int .i64 (1 : Int))] 3) fun h5_ => newH h5_ (Obj.cells #[(Value.int .i64 (0 : Int)), (Value.int .i64 (5 : Int))] 3) fun h6_ => Run Try.prog 22 #[(Value.slice (some ⟨Array.size h3_, 0, none⟩) 1 1), (Value.slice (some ⟨Array.size h5_, 0, none⟩) 2 2)] h6_ fun v7_ h8_ => ∃ b9_, v7_ = (Value.bool b9_) ∧ splitB b9_ (R (Value.bool false) h8_) (f5.j0 R A0 n0 c0 A1 n1 c1 h8_))
set_option maxRecDepth 100000 in
theorem f5.run {R : Value → Heap → Prop} {A0 : Option Addr} {n0 : Nat} {c0 : Nat} {A1 : Option Addr} {n1 : Nat} {c1 : Nat} {h : Heap} (H : f5.runT R A0 n0 c0 A1 n1 c1 h) : Run Try.prog 5 #[(Value.slice A0 n0 c0), (Value.slice A1 n1 c1)] h R :=
  run_of mixed Try.func5 (by kernel_rfl) (by kernel_rfl) f5.good (Eq.mpr (show (Fwd Try.prog f5.T f5.kp Try.f5 R [] (mkFr (argL [(Value.slice A0 n0 c0), (Value.slice A1 n1 c1)] 0)) h) = (f5.runT R A0 n0 c0 A1 n1 c1 h) by kernel_rfl) H)

/-! ### roadstead/term.Small: function 34 -/
def f34.T : Tab := { sh := tSh, tup := tTup, keep := [], plan := [] }
def f34.kp : Keep := []
theorem f34.good : goodCode Try.prog f34.T (rootOf Try.f34) = true := by kernel_rfl
set_option maxRecDepth 100000 in
theorem f34.ok : calleeOk Try.prog 34 = true := by kernel_rfl
set_option maxRecDepth 100000 in
def f34.runT (R : Value → Heap → Prop) (x0 : Int) (h : Heap) : Prop :=
  splitB (decide (x0 ≥ (-1152921504606846976 : Int))) (R (Value.bool (decide (x0 < (1152921504606846976 : Int)))) h) (R (Value.bool false) h)
set_option maxRecDepth 100000 in
theorem f34.run {R : Value → Heap → Prop} {x0 : Int} {h : Heap} (H : f34.runT R x0 h) : Run Try.prog 34 #[(Value.int .i64 x0)] h R :=
  run_of mixed Try.func34 (by kernel_rfl) (by kernel_rfl) f34.good (Eq.mpr (show (Fwd Try.prog f34.T f34.kp Try.f34 R [] (mkFr (argL [(Value.int .i64 x0)] 0)) h) = (f34.runT R x0 h) by kernel_rfl) H)

/-! ### roadstead/term.Word: function 26 -/
def f26.T : Tab := { sh := tSh, tup := tTup, keep := [], plan := [] }
def f26.kp : Keep := [([true, false, false, false, true], [0, 1, 6]), ([true, true, true, false, false, false, true], [0, 1, 6]), ([true, true, true, true, true, false, false, false, true], [0, 1, 6]), ([true, false, false, true], [0, 1, 6]), ([true, true, true, false, false, true], [49])]
theorem f26.good : goodCode Try.prog f26.T (rootOf Try.f26) = true := by kernel_rfl
set_option maxRecDepth 100000 in
theorem f26.ok : calleeOk Try.prog 26 = true := by kernel_rfl
def f26.j1 (R : Value → Heap → Prop) (x0 : Int) (x1 : Int) (b6 : Bool) (h : Heap) : Prop := Pt Try.prog Try.f26 R [true, false, false, false, true] (mkFr [(0, (Value.int .i64 x0)), (1, (Value.int .i64 x1)), (6, (Value.bool b6))]) h
def f26.j0 (R : Value → Heap → Prop) (x0 : Int) (x1 : Int) (b6 : Bool) (h : Heap) : Prop := Pt Try.prog Try.f26 R [true, false, false, true] (mkFr [(0, (Value.int .i64 x0)), (1, (Value.int .i64 x1)), (6, (Value.bool b6))]) h
def f26.j3 (R : Value → Heap → Prop) (x0 : Int) (x1 : Int) (b6 : Bool) (h : Heap) : Prop := Pt Try.prog Try.f26 R [true, true, true, false, false, false, true] (mkFr [(0, (Value.int .i64 x0)), (1, (Value.int .i64 x1)), (6, (Value.bool b6))]) h
def f26.j2 (R : Value → Heap → Prop) (b49 : Bool) (h : Heap) : Prop := Pt Try.prog Try.f26 R [true, true, true, false, false, true] (mkFr [(49, (Value.bool b49))]) h
def f26.j4 (R : Value → Heap → Prop) (x0 : Int) (x1 : Int) (b6 : Bool) (h : Heap) : Prop := Pt Try.prog Try.f26 R [true, true, true, true, true, false, false, false, true] (mkFr [(0, (Value.int .i64 x0)), (1, (Value.int .i64 x1)), (6, (Value.bool b6))]) h
set_option maxRecDepth 100000 in
def f26.j1T (R : Value → Heap → Prop) (x0 : Int) (x1 : Int) (b6 : Bool) (h : Heap) : Prop :=
  splitB b6 (f26.j0 R x0 x1 b6 h) (splitB (x0 == (2 : Int)) (splitB (x1 == (0 : Int)) (f26.j3 R x0 x1 true h) (f26.j3 R x0 x1 (x1 == (1 : Int)) h)) (f26.j3 R x0 x1 false h))
set_option maxRecDepth 100000 in
theorem f26.j1_in {R : Value → Heap → Prop} {x0 : Int} {x1 : Int} {b6 : Bool} {h : Heap} (H : f26.j1T R x0 x1 b6 h) : f26.j1 R x0 x1 b6 h :=
  pt_intro mixed f26.good (Eq.mpr (show (Fwd Try.prog f26.T f26.kp Try.f26 R [true, false, false, false, true] (mkFr [(0, (Value.int .i64 x0)), (1, (Value.int .i64 x1)), (6, (Value.bool b6))]) h) = (f26.j1T R x0 x1 b6 h) by kernel_rfl) H)
set_option maxRecDepth 100000 in
def f26.j0T (R : Value → Heap → Prop) (x0 : Int) (x1 : Int) (b6 : Bool) (h : Heap) : Prop :=
  splitB b6 (0 ≤ (3 : Int) ∧ (R (Value.tuple #[(Value.int .u64 (bitsI .or .u64 (shlI .u64 (IntKind.wrap .u64 x1) (3 : Int)) (IntKind.wrap .u64 x0))), (Value.int .i64 (0 : Int))]) h)) (splitB (decide (x0 < (0 : Int))) (f26.j2 R true h) (f26.j2 R (decide (x0 > (4 : Int))) h))
set_option maxRecDepth 100000 in
theorem f26.j0_in {R : Value → Heap → Prop} {x0 : Int} {x1 : Int} {b6 : Bool} {h : Heap} (H : f26.j0T R x0 x1 b6 h) : f26.j0 R x0 x1 b6 h :=
  pt_intro mixed f26.good (Eq.mpr (show (Fwd Try.prog f26.T f26.kp Try.f26 R [true, false, false, true] (mkFr [(0, (Value.int .i64 x0)), (1, (Value.int .i64 x1)), (6, (Value.bool b6))]) h) = (f26.j0T R x0 x1 b6 h) by kernel_rfl) H)
set_option maxRecDepth 100000 in
def f26.j3T (R : Value → Heap → Prop) (x0 : Int) (x1 : Int) (b6 : Bool) (h : Heap) : Prop :=
  splitB b6 (f26.j0 R x0 x1 b6 h) (splitB (x0 == (1 : Int)) (Run Try.prog 34 #[(Value.int .i64 x1)] h fun v1_ h2_ => ∃ b3_, v1_ = (Value.bool b3_) ∧ f26.j4 R x0 x1 b3_ h2_) (f26.j4 R x0 x1 false h))
set_option maxRecDepth 100000 in
theorem f26.j3_in {R : Value → Heap → Prop} {x0 : Int} {x1 : Int} {b6 : Bool} {h : Heap} (H : f26.j3T R x0 x1 b6 h) : f26.j3 R x0 x1 b6 h :=
  pt_intro mixed f26.good (Eq.mpr (show (Fwd Try.prog f26.T f26.kp Try.f26 R [true, true, true, false, false, false, true] (mkFr [(0, (Value.int .i64 x0)), (1, (Value.int .i64 x1)), (6, (Value.bool b6))]) h) = (f26.j3T R x0 x1 b6 h) by kernel_rfl) H)
set_option maxRecDepth 100000 in
def f26.j2T (R : Value → Heap → Prop) (b49 : Bool) (h : Heap) : Prop :=
  splitB b49 (R (Value.tuple #[(Value.int .u64 (0 : Int)), (Value.int .i64 (1 : Int))]) h) (R (Value.tuple #[(Value.int .u64 (0 : Int)), (Value.int .i64 (2 : Int))]) h)
set_option maxRecDepth 100000 in
theorem f26.j2_in {R : Value → Heap → Prop} {b49 : Bool} {h : Heap} (H : f26.j2T R b49 h) : f26.j2 R b49 h :=
  pt_intro mixed f26.good (Eq.mpr (show (Fwd Try.prog f26.T f26.kp Try.f26 R [true, true, true, false, false, true] (mkFr [(49, (Value.bool b49))]) h) = (f26.j2T R b49 h) by kernel_rfl) H)
set_option maxRecDepth 100000 in
def f26.j4T (R : Value → Heap → Prop) (x0 : Int) (x1 : Int) (b6 : Bool) (h : Heap) : Prop :=
  splitB b6 (f26.j0 R x0 x1 b6 h) (splitB (x0 == (3 : Int)) (splitB (decide (x1 ≥ (0 : Int))) (f26.j0 R x0 x1 (decide (x1 < (1152921504606846976 : Int))) h) (f26.j0 R x0 x1 false h)) (splitB (x0 == (4 : Int)) (splitB (decide (x1 ≥ (0 : Int))) (f26.j0 R x0 x1 (decide (x1 < (1152921504606846976 : Int))) h) (f26.j0 R x0 x1 false h)) (f26.j0 R x0 x1 false h)))
set_option maxRecDepth 100000 in
theorem f26.j4_in {R : Value → Heap → Prop} {x0 : Int} {x1 : Int} {b6 : Bool} {h : Heap} (H : f26.j4T R x0 x1 b6 h) : f26.j4 R x0 x1 b6 h :=
  pt_intro mixed f26.good (Eq.mpr (show (Fwd Try.prog f26.T f26.kp Try.f26 R [true, true, true, true, true, false, false, false, true] (mkFr [(0, (Value.int .i64 x0)), (1, (Value.int .i64 x1)), (6, (Value.bool b6))]) h) = (f26.j4T R x0 x1 b6 h) by kernel_rfl) H)
set_option maxRecDepth 100000 in
def f26.runT (R : Value → Heap → Prop) (x0 : Int) (x1 : Int) (h : Heap) : Prop :=
  splitB (x0 == (0 : Int)) (f26.j1 R x0 x1 (x1 == (0 : Int)) h) (f26.j1 R x0 x1 false h)
set_option maxRecDepth 100000 in
theorem f26.run {R : Value → Heap → Prop} {x0 : Int} {x1 : Int} {h : Heap} (H : f26.runT R x0 x1 h) : Run Try.prog 26 #[(Value.int .i64 x0), (Value.int .i64 x1)] h R :=
  run_of mixed Try.func26 (by kernel_rfl) (by kernel_rfl) f26.good (Eq.mpr (show (Fwd Try.prog f26.T f26.kp Try.f26 R [] (mkFr (argL [(Value.int .i64 x0), (Value.int .i64 x1)] 0)) h) = (f26.runT R x0 x1 h) by kernel_rfl) H)

/-! ### roadstead/term.Read: function 27 -/
def f27.T : Tab := { sh := tSh, tup := tTup, keep := [], plan := [] }
def f27.kp : Keep := [([true, true, true], [0, 5, 6]), ([true, true, false, true, true, true], [5, 6, 32]), ([true, true, true, true], [5, 6])]
theorem f27.good : goodCode Try.prog f27.T (rootOf Try.f27) = true := by kernel_rfl
set_option maxRecDepth 100000 in
theorem f27.ok : calleeOk Try.prog 27 = true := by kernel_rfl
def f27.j0 (R : Value → Heap → Prop) (x0 : Int) (x5 : Int) (x6 : Int) (h : Heap) : Prop := Pt Try.prog Try.f27 R [true, true, true] (mkFr [(0, (Value.int .u64 x0)), (5, (Value.int .i64 x5)), (6, (Value.int .i64 x6))]) h
def f27.j2 (R : Value → Heap → Prop) (x5 : Int) (x6 : Int) (b32 : Bool) (h : Heap) : Prop := Pt Try.prog Try.f27 R [true, true, false, true, true, true] (mkFr [(5, (Value.int .i64 x5)), (6, (Value.int .i64 x6)), (32, (Value.bool b32))]) h
def f27.j1 (R : Value → Heap → Prop) (x5 : Int) (x6 : Int) (h : Heap) : Prop := Pt Try.prog Try.f27 R [true, true, true, true] (mkFr [(5, (Value.int .i64 x5)), (6, (Value.int .i64 x6))]) h
set_option maxRecDepth 100000 in
def f27.j0T (R : Value → Heap → Prop) (x0 : Int) (x5 : Int) (x6 : Int) (h : Heap) : Prop :=
  Run Try.prog 26 #[(Value.int .i64 x5), (Value.int .i64 x6)] h fun v1_ h2_ => ∃ x3_, ∃ x4_, v1_ = (Value.tuple #[(Value.int .u64 x3_), (Value.int .i64 x4_)]) ∧ splitB (x4_ != (0 : Int)) (f27.j2 R x5 x6 true h2_) (f27.j2 R x5 x6 (x3_ != x0) h2_)
set_option maxRecDepth 100000 in
theorem f27.j0_in {R : Value → Heap → Prop} {x0 : Int} {x5 : Int} {x6 : Int} {h : Heap} (H : f27.j0T R x0 x5 x6 h) : f27.j0 R x0 x5 x6 h :=
  pt_intro mixed f27.good (Eq.mpr (show (Fwd Try.prog f27.T f27.kp Try.f27 R [true, true, true] (mkFr [(0, (Value.int .u64 x0)), (5, (Value.int .i64 x5)), (6, (Value.int .i64 x6))]) h) = (f27.j0T R x0 x5 x6 h) by kernel_rfl) H)
set_option maxRecDepth 100000 in
def f27.j2T (R : Value → Heap → Prop) (x5 : Int) (x6 : Int) (b32 : Bool) (h : Heap) : Prop :=
  splitB b32 (R (Value.tuple #[(Value.int .i64 (0 : Int)), (Value.int .i64 (0 : Int)), (Value.int .i64 (3 : Int))]) h) (f27.j1 R x5 x6 h)
set_option maxRecDepth 100000 in
theorem f27.j2_in {R : Value → Heap → Prop} {x5 : Int} {x6 : Int} {b32 : Bool} {h : Heap} (H : f27.j2T R x5 x6 b32 h) : f27.j2 R x5 x6 b32 h :=
  pt_intro mixed f27.good (Eq.mpr (show (Fwd Try.prog f27.T f27.kp Try.f27 R [true, true, false, true, true, true] (mkFr [(5, (Value.int .i64 x5)), (6, (Value.int .i64 x6)), (32, (Value.bool b32))]) h) = (f27.j2T R x5 x6 b32 h) by kernel_rfl) H)
set_option maxRecDepth 100000 in
def f27.j1T (R : Value → Heap → Prop) (x5 : Int) (x6 : Int) (h : Heap) : Prop :=
  R (Value.tuple #[(Value.int .i64 x5), (Value.int .i64 x6), (Value.int .i64 (0 : Int))]) h
set_option maxRecDepth 100000 in
theorem f27.j1_in {R : Value → Heap → Prop} {x5 : Int} {x6 : Int} {h : Heap} (H : f27.j1T R x5 x6 h) : f27.j1 R x5 x6 h :=
  pt_intro mixed f27.good (Eq.mpr (show (Fwd Try.prog f27.T f27.kp Try.f27 R [true, true, true, true] (mkFr [(5, (Value.int .i64 x5)), (6, (Value.int .i64 x6))]) h) = (f27.j1T R x5 x6 h) by kernel_rfl) H)
set_option maxRecDepth 100000 in
def f27.runT (R : Value → Heap → Prop) (x0 : Int) (h : Heap) : Prop :=
  (8 : Int) ≠ 0 ∧ (0 ≤ (3 : Int) ∧ (splitB ((IntKind.wrap .i64 (Int.tmod x0 (8 : Int))) == (1 : Int)) (0 ≤ (3 : Int) ∧ (f27.j0 R x0 (IntKind.wrap .i64 (Int.tmod x0 (8 : Int))) (shrI .i64 (IntKind.wrap .i64 x0) (3 : Int)) h)) (f27.j0 R x0 (IntKind.wrap .i64 (Int.tmod x0 (8 : Int))) (IntKind.wrap .i64 (shrI .u64 x0 (3 : Int))) h)))
set_option maxRecDepth 100000 in
theorem f27.run {R : Value → Heap → Prop} {x0 : Int} {h : Heap} (H : f27.runT R x0 h) : Run Try.prog 27 #[(Value.int .u64 x0)] h R :=
  run_of mixed Try.func27 (by kernel_rfl) (by kernel_rfl) f27.good (Eq.mpr (show (Fwd Try.prog f27.T f27.kp Try.f27 R [] (mkFr (argL [(Value.int .u64 x0)] 0)) h) = (f27.runT R x0 h) by kernel_rfl) H)

/-! ### roadstead/term.Of: function 28 -/
def f28.T : Tab := { sh := tSh, tup := tTup, keep := [], plan := [] }
def f28.kp : Keep := [([true, true, true], [1, 4]), ([true, false, true, true, true], [1, 4, 29]), ([true, true, true, true], [1, 4])]
theorem f28.good : goodCode Try.prog f28.T (rootOf Try.f28) = true := by kernel_rfl
set_option maxRecDepth 100000 in
theorem f28.ok : calleeOk Try.prog 28 = true := by kernel_rfl
def f28.j0 (R : Value → Heap → Prop) (a1 : Addr) (x4 : Int) (h : Heap) : Prop := Pt Try.prog Try.f28 R [true, true, true] (mkFr [(1, (Value.pointer (some a1))), (4, (Value.int .i64 x4))]) h
def f28.j2 (R : Value → Heap → Prop) (a1 : Addr) (x4 : Int) (b29 : Bool) (h : Heap) : Prop := Pt Try.prog Try.f28 R [true, false, true, true, true] (mkFr [(1, (Value.pointer (some a1))), (4, (Value.int .i64 x4)), (29, (Value.bool b29))]) h
def f28.j1 (R : Value → Heap → Prop) (a1 : Addr) (x4 : Int) (h : Heap) : Prop := Pt Try.prog Try.f28 R [true, true, true, true] (mkFr [(1, (Value.pointer (some a1))), (4, (Value.int .i64 x4))]) h
set_option maxRecDepth 100000 in
def f28.j0T (R : Value → Heap → Prop) (a1 : Addr) (x4 : Int) (h : Heap) : Prop :=
  splitB (decide (x4 < (0 : Int))) (f28.j2 R a1 x4 true h) (∃ v1_, ldv false 1 h (Addr.add a1 2) = some v1_ ∧ ∃ s2_, v1_ = (Value.string s2_) ∧ splitB (!(ByteArray.toList s2_ == ByteArray.toList (ByteArray.mk #[]))) (f28.j2 R a1 x4 true h) (∃ v3_, ldv false 1 h (Addr.add a1 3) = some v3_ ∧ ∃ A4_, ∃ n4_, ∃ c4_, v3_ = (Value.slice A4_ n4_ c4_) ∧ f28.j2 R a1 x4 (decide (((n4_ : Nat) : Int) > (0 : Int))) h))
set_option maxRecDepth 100000 in
theorem f28.j0_in {R : Value → Heap → Prop} {a1 : Addr} {x4 : Int} {h : Heap} (H : f28.j0T R a1 x4 h) : f28.j0 R a1 x4 h :=
  pt_intro mixed f28.good (Eq.mpr (show (Fwd Try.prog f28.T f28.kp Try.f28 R [true, true, true] (mkFr [(1, (Value.pointer (some a1))), (4, (Value.int .i64 x4))]) h) = (f28.j0T R a1 x4 h) by kernel_rfl) H)
set_option maxRecDepth 100000 in
def f28.j2T (R : Value → Heap → Prop) (a1 : Addr) (x4 : Int) (b29 : Bool) (h : Heap) : Prop :=
  splitB b29 (R (Value.tuple #[(Value.int .u64 (0 : Int)), (Value.bool false)]) h) (f28.j1 R a1 x4 h)
set_option maxRecDepth 100000 in
theorem f28.j2_in {R : Value → Heap → Prop} {a1 : Addr} {x4 : Int} {b29 : Bool} {h : Heap} (H : f28.j2T R a1 x4 b29 h) : f28.j2 R a1 x4 b29 h :=
  pt_intro mixed f28.good (Eq.mpr (show (Fwd Try.prog f28.T f28.kp Try.f28 R [true, false, true, true, true] (mkFr [(1, (Value.pointer (some a1))), (4, (Value.int .i64 x4)), (29, (Value.bool b29))]) h) = (f28.j2T R a1 x4 b29 h) by kernel_rfl) H)
set_option maxRecDepth 100000 in
def f28.j1T (R : Value → Heap → Prop) (a1 : Addr) (x4 : Int) (h : Heap) : Prop :=
  ∃ v1_, ldv false 1 h (Addr.add a1 1) = some v1_ ∧ ∃ x2_, v1_ = (Value.int .i64 x2_) ∧ Run Try.prog 26 #[(Value.int .i64 x4), (Value.int .i64 x2_)] h fun v3_ h4_ => ∃ x5_, ∃ x6_, v3_ = (Value.tuple #[(Value.int .u64 x5_), (Value.int .i64 x6_)]) ∧ R (Value.tuple #[(Value.int .u64 x5_), (Value.bool (x6_ == (0 : Int)))]) h4_
set_option maxRecDepth 100000 in
theorem f28.j1_in {R : Value → Heap → Prop} {a1 : Addr} {x4 : Int} {h : Heap} (H : f28.j1T R a1 x4 h) : f28.j1 R a1 x4 h :=
  pt_intro mixed f28.good (Eq.mpr (show (Fwd Try.prog f28.T f28.kp Try.f28 R [true, true, true, true] (mkFr [(1, (Value.pointer (some a1))), (4, (Value.int .i64 x4))]) h) = (f28.j1T R a1 x4 h) by kernel_rfl) H)
set_option maxRecDepth 100000 in
def f28.runT (R : Value → Heap → Prop) (v0 : Value) (h : Heap) : Prop :=
  newH h (Obj.cells ((v0).cells) 42) fun h1_ => ∃ v2_, ldv false 1 h1_ (⟨Array.size h, 0, none⟩) = some v2_ ∧ ∃ x3_, v2_ = (Value.int .i64 x3_) ∧ splitB (x3_ == (1 : Int)) (f28.j0 R (⟨Array.size h, 0, none⟩) (0 : Int) h1_) (splitB (x3_ == (2 : Int)) (f28.j0 R (⟨Array.size h, 0, none⟩) (1 : Int) h1_) (splitB (x3_ == (3 : Int)) (f28.j0 R (⟨Array.size h, 0, none⟩) (2 : Int) h1_) (splitB (x3_ == (6 : Int)) (f28.j0 R (⟨Array.size h, 0, none⟩) (3 : Int) h1_) (f28.j0 R (⟨Array.size h, 0, none⟩) (-1 : Int) h1_))))
set_option maxRecDepth 100000 in
theorem f28.run {R : Value → Heap → Prop} {v0 : Value} {h : Heap} (H : f28.runT R v0 h) : Run Try.prog 28 #[v0] h R :=
  run_of mixed Try.func28 (by kernel_rfl) (by kernel_rfl) f28.good (Eq.mpr (show (Fwd Try.prog f28.T f28.kp Try.f28 R [] (mkFr (argL [v0] 0)) h) = (f28.runT R v0 h) by kernel_rfl) H)

/-! ### roadstead/term.Value: function 29 -/
def f29.T : Tab := { sh := tSh, tup := tTup, keep := [], plan := [] }
def f29.kp : Keep := [([true, false, true, true], [2, 4, 5, 18]), ([true, true, true], [2, 4, 5])]
theorem f29.good : goodCode Try.prog f29.T (rootOf Try.f29) = true := by kernel_rfl
set_option maxRecDepth 100000 in
theorem f29.ok : calleeOk Try.prog 29 = true := by kernel_rfl
def f29.j1 (R : Value → Heap → Prop) (a2 : Addr) (x4 : Int) (x5 : Int) (b18 : Bool) (h : Heap) : Prop := Pt Try.prog Try.f29 R [true, false, true, true] (mkFr [(2, (Value.pointer (some a2))), (4, (Value.int .i64 x4)), (5, (Value.int .i64 x5)), (18, (Value.bool b18))]) h
def f29.j0 (R : Value → Heap → Prop) (a2 : Addr) (x4 : Int) (x5 : Int) (h : Heap) : Prop := Pt Try.prog Try.f29 R [true, true, true] (mkFr [(2, (Value.pointer (some a2))), (4, (Value.int .i64 x4)), (5, (Value.int .i64 x5))]) h
set_option maxRecDepth 100000 in
def f29.j1T (R : Value → Heap → Prop) (a2 : Addr) (x4 : Int) (x5 : Int) (b18 : Bool) (h : Heap) : Prop :=
  splitB b18 (∃ l2_ : List Value, (Value.agg #[(Value.int .i64 (0 : Int)), (Value.int .i64 (0 : Int)), (Value.string (ByteArray.mk #[])), (Value.slice none 0 0)]) = Value.agg l2_.toArray ∧ l2_.length = 4 ∧ ∃ h1_, stH h a2 l2_ 0 = some h1_ ∧ ∃ v3_, ldv true 4 h1_ a2 = some v3_ ∧ R (Value.tuple #[v3_, (Value.bool false)]) h1_) (f29.j0 R a2 x4 x5 h)
set_option maxRecDepth 100000 in
theorem f29.j1_in {R : Value → Heap → Prop} {a2 : Addr} {x4 : Int} {x5 : Int} {b18 : Bool} {h : Heap} (H : f29.j1T R a2 x4 x5 b18 h) : f29.j1 R a2 x4 x5 b18 h :=
  pt_intro mixed f29.good (Eq.mpr (show (Fwd Try.prog f29.T f29.kp Try.f29 R [true, false, true, true] (mkFr [(2, (Value.pointer (some a2))), (4, (Value.int .i64 x4)), (5, (Value.int .i64 x5)), (18, (Value.bool b18))]) h) = (f29.j1T R a2 x4 x5 b18 h) by kernel_rfl) H)
set_option maxRecDepth 100000 in
def f29.j0T (R : Value → Heap → Prop) (a2 : Addr) (x4 : Int) (x5 : Int) (h : Heap) : Prop :=
  0 ≤ x4 ∧ x4 < ((4 : Nat) : Int) ∧ ∃ v1_, fldv false 1 (Int.toNat x4 * 1) (Value.agg #[(Value.int .i64 (1 : Int)), (Value.int .i64 (2 : Int)), (Value.int .i64 (3 : Int)), (Value.int .i64 (6 : Int))]) = some v1_ ∧ (∃ x2_, v1_ = (Value.int .i64 x2_) ∧ ∃ l4_ : List Value, (Value.agg #[(Value.int .i64 x2_), (Value.int .i64 x5), (Value.string (ByteArray.mk #[])), (Value.slice none 0 0)]) = Value.agg l4_.toArray ∧ l4_.length = 4 ∧ ∃ h3_, stH h a2 l4_ 0 = some h3_ ∧ ∃ v5_, ldv true 4 h3_ a2 = some v5_ ∧ R (Value.tuple #[v5_, (Value.bool true)]) h3_)
set_option maxRecDepth 100000 in
theorem f29.j0_in {R : Value → Heap → Prop} {a2 : Addr} {x4 : Int} {x5 : Int} {h : Heap} (H : f29.j0T R a2 x4 x5 h) : f29.j0 R a2 x4 x5 h :=
  pt_intro mixed f29.good (Eq.mpr (show (Fwd Try.prog f29.T f29.kp Try.f29 R [true, true, true] (mkFr [(2, (Value.pointer (some a2))), (4, (Value.int .i64 x4)), (5, (Value.int .i64 x5))]) h) = (f29.j0T R a2 x4 x5 h) by kernel_rfl) H)
set_option maxRecDepth 100000 in
def f29.runT (R : Value → Heap → Prop) (x0 : Int) (h : Heap) : Prop :=
  newH h (Obj.cells #[(Value.int .i64 (0 : Int)), (Value.int .i64 (0 : Int)), (Value.string (ByteArray.mk #[])), (Value.slice none 0 0)] 42) fun h1_ => Run Try.prog 27 #[(Value.int .u64 x0)] h1_ fun v2_ h3_ => ∃ x4_, ∃ x5_, ∃ x6_, v2_ = (Value.tuple #[(Value.int .i64 x4_), (Value.int .i64 x5_), (Value.int .i64 x6_)]) ∧ splitB (x6_ != (0 : Int)) (f29.j1 R (⟨Array.size h, 0, none⟩) x4_ x5_ true h3_) (f29.j1 R (⟨Array.size h, 0, none⟩) x4_ x5_ (x4_ == (4 : Int)) h3_)
set_option maxRecDepth 100000 in
theorem f29.run {R : Value → Heap → Prop} {x0 : Int} {h : Heap} (H : f29.runT R x0 h) : Run Try.prog 29 #[(Value.int .u64 x0)] h R :=
  run_of mixed Try.func29 (by kernel_rfl) (by kernel_rfl) f29.good (Eq.mpr (show (Fwd Try.prog f29.T f29.kp Try.f29 R [] (mkFr (argL [(Value.int .u64 x0)] 0)) h) = (f29.runT R x0 h) by kernel_rfl) H)

/-! ### roadstead/roadref3.In: function 30 -/
def f30.T : Tab := { sh := tSh, tup := tTup, keep := [], plan := [] }
def f30.kp : Keep := []
theorem f30.good : goodCode Try.prog f30.T (rootOf Try.f30) = true := by kernel_rfl
set_option maxRecDepth 100000 in
theorem f30.ok : calleeOk Try.prog 30 = true := by kernel_rfl
set_option maxRecDepth 100000 in
def f30.runT (R : Value → Heap → Prop) (x0 : Int) (x1 : Int) (x2 : Int) (h : Heap) : Prop :=
  splitB (decide (x0 ≥ x1)) (R (Value.bool (decide (x0 ≤ x2))) h) (R (Value.bool false) h)
set_option maxRecDepth 100000 in
theorem f30.run {R : Value → Heap → Prop} {x0 : Int} {x1 : Int} {x2 : Int} {h : Heap} (H : f30.runT R x0 x1 x2 h) : Run Try.prog 30 #[(Value.int .i64 x0), (Value.int .i64 x1), (Value.int .i64 x2)] h R :=
  run_of mixed Try.func30 (by kernel_rfl) (by kernel_rfl) f30.good (Eq.mpr (show (Fwd Try.prog f30.T f30.kp Try.f30 R [] (mkFr (argL [(Value.int .i64 x0), (Value.int .i64 x1), (Value.int .i64 x2)] 0)) h) = (f30.runT R x0 x1 x2 h) by kernel_rfl) H)

/-! ### roadstead/roadref3.TagFits: function 31 -/
def f31.T : Tab := { sh := tSh, tup := tTup, keep := [], plan := [] }
def f31.kp : Keep := [([true, true, true], [0, 1, 5, 6])]
theorem f31.good : goodCode Try.prog f31.T (rootOf Try.f31) = true := by kernel_rfl
set_option maxRecDepth 100000 in
theorem f31.ok : calleeOk Try.prog 31 = true := by kernel_rfl
def f31.j0 (R : Value → Heap → Prop) (x0 : Int) (x1 : Int) (x5 : Int) (x6 : Int) (h : Heap) : Prop := Pt Try.prog Try.f31 R [true, true, true] (mkFr [(0, (Value.int .i64 x0)), (1, (Value.int .i64 x1)), (5, (Value.int .i64 x5)), (6, (Value.int .i64 x6))]) h
set_option maxRecDepth 100000 in
def f31.j0T (R : Value → Heap → Prop) (x0 : Int) (x1 : Int) (x5 : Int) (x6 : Int) (h : Heap) : Prop :=
  Run Try.prog 30 #[(Value.int .i64 x0), (Value.int .i64 (0 : Int)), (Value.int .i64 (4 : Int))] h fun v1_ h2_ => ∃ b3_, v1_ = (Value.bool b3_) ∧ splitB b3_ (Run Try.prog 30 #[(Value.int .i64 x1), (Value.int .i64 x5), (Value.int .i64 x6)] h2_ fun v4_ h5_ => ∃ b6_, v4_ = (Value.bool b6_) ∧ R (Value.bool b6_) h5_) (R (Value.bool false) h2_)
set_option maxRecDepth 100000 in
theorem f31.j0_in {R : Value → Heap → Prop} {x0 : Int} {x1 : Int} {x5 : Int} {x6 : Int} {h : Heap} (H : f31.j0T R x0 x1 x5 x6 h) : f31.j0 R x0 x1 x5 x6 h :=
  pt_intro mixed f31.good (Eq.mpr (show (Fwd Try.prog f31.T f31.kp Try.f31 R [true, true, true] (mkFr [(0, (Value.int .i64 x0)), (1, (Value.int .i64 x1)), (5, (Value.int .i64 x5)), (6, (Value.int .i64 x6))]) h) = (f31.j0T R x0 x1 x5 x6 h) by kernel_rfl) H)
set_option maxRecDepth 100000 in
def f31.runT (R : Value → Heap → Prop) (x0 : Int) (x1 : Int) (h : Heap) : Prop :=
  splitB (x0 == (0 : Int)) (f31.j0 R x0 x1 (0 : Int) (0 : Int) h) (splitB (x0 == (1 : Int)) (f31.j0 R x0 x1 (-1152921504606846976 : Int) (1152921504606846975 : Int) h) (splitB (x0 == (2 : Int)) (f31.j0 R x0 x1 (0 : Int) (1 : Int) h) (f31.j0 R x0 x1 (0 : Int) (1152921504606846975 : Int) h)))
set_option maxRecDepth 100000 in
theorem f31.run {R : Value → Heap → Prop} {x0 : Int} {x1 : Int} {h : Heap} (H : f31.runT R x0 x1 h) : Run Try.prog 31 #[(Value.int .i64 x0), (Value.int .i64 x1)] h R :=
  run_of mixed Try.func31 (by kernel_rfl) (by kernel_rfl) f31.good (Eq.mpr (show (Fwd Try.prog f31.T f31.kp Try.f31 R [] (mkFr (argL [(Value.int .i64 x0), (Value.int .i64 x1)] 0)) h) = (f31.runT R x0 x1 h) by kernel_rfl) H)

/-! ### roadstead/roadref3.TagWord: function 32 -/
def f32.T : Tab := { sh := tSh, tup := tTup, keep := [], plan := [] }
def f32.kp : Keep := []
theorem f32.good : goodCode Try.prog f32.T (rootOf Try.f32) = true := by kernel_rfl
set_option maxRecDepth 100000 in
theorem f32.ok : calleeOk Try.prog 32 = true := by kernel_rfl
set_option maxRecDepth 100000 in
def f32.runT (R : Value → Heap → Prop) (x0 : Int) (x1 : Int) (h : Heap) : Prop :=
  R (Value.int .u64 (IntKind.wrap .u64 ((IntKind.wrap .u64 ((8 : Int) * (IntKind.wrap .u64 x1))) + (IntKind.wrap .u64 x0)))) h
set_option maxRecDepth 100000 in
theorem f32.run {R : Value → Heap → Prop} {x0 : Int} {x1 : Int} {h : Heap} (H : f32.runT R x0 x1 h) : Run Try.prog 32 #[(Value.int .i64 x0), (Value.int .i64 x1)] h R :=
  run_of mixed Try.func32 (by kernel_rfl) (by kernel_rfl) f32.good (Eq.mpr (show (Fwd Try.prog f32.T f32.kp Try.f32 R [] (mkFr (argL [(Value.int .i64 x0), (Value.int .i64 x1)] 0)) h) = (f32.runT R x0 x1 h) by kernel_rfl) H)

/-! ### roadstead/roadref3.TagRead: function 33 -/
def f33.T : Tab := { sh := tSh, tup := tTup, keep := [], plan := [] }
def f33.kp : Keep := [([true, false, true, true, true], [0, 5, 6, 18]), ([true, true, true, true], [0, 5, 6]), ([true, false, true, true, true, true], [5, 6, 31]), ([true, true, true, true, true], [5, 6])]
theorem f33.good : goodCode Try.prog f33.T (rootOf Try.f33) = true := by kernel_rfl
set_option maxRecDepth 100000 in
theorem f33.ok : calleeOk Try.prog 33 = true := by kernel_rfl
def f33.j1 (R : Value → Heap → Prop) (x0 : Int) (x5 : Int) (x6 : Int) (b18 : Bool) (h : Heap) : Prop := Pt Try.prog Try.f33 R [true, false, true, true, true] (mkFr [(0, (Value.int .u64 x0)), (5, (Value.int .i64 x5)), (6, (Value.int .i64 x6)), (18, (Value.bool b18))]) h
def f33.j0 (R : Value → Heap → Prop) (x0 : Int) (x5 : Int) (x6 : Int) (h : Heap) : Prop := Pt Try.prog Try.f33 R [true, true, true, true] (mkFr [(0, (Value.int .u64 x0)), (5, (Value.int .i64 x5)), (6, (Value.int .i64 x6))]) h
def f33.j3 (R : Value → Heap → Prop) (x5 : Int) (x6 : Int) (b31 : Bool) (h : Heap) : Prop := Pt Try.prog Try.f33 R [true, false, true, true, true, true] (mkFr [(5, (Value.int .i64 x5)), (6, (Value.int .i64 x6)), (31, (Value.bool b31))]) h
def f33.j2 (R : Value → Heap → Prop) (x5 : Int) (x6 : Int) (h : Heap) : Prop := Pt Try.prog Try.f33 R [true, true, true, true, true] (mkFr [(5, (Value.int .i64 x5)), (6, (Value.int .i64 x6))]) h
set_option maxRecDepth 100000 in
def f33.j1T (R : Value → Heap → Prop) (x0 : Int) (x5 : Int) (x6 : Int) (b18 : Bool) (h : Heap) : Prop :=
  splitB b18 (f33.j0 R x0 x5 (IntKind.wrap .i64 (x6 - (2305843009213693952 : Int))) h) (f33.j0 R x0 x5 x6 h)
set_option maxRecDepth 100000 in
theorem f33.j1_in {R : Value → Heap → Prop} {x0 : Int} {x5 : Int} {x6 : Int} {b18 : Bool} {h : Heap} (H : f33.j1T R x0 x5 x6 b18 h) : f33.j1 R x0 x5 x6 b18 h :=
  pt_intro mixed f33.good (Eq.mpr (show (Fwd Try.prog f33.T f33.kp Try.f33 R [true, false, true, true, true] (mkFr [(0, (Value.int .u64 x0)), (5, (Value.int .i64 x5)), (6, (Value.int .i64 x6)), (18, (Value.bool b18))]) h) = (f33.j1T R x0 x5 x6 b18 h) by kernel_rfl) H)
set_option maxRecDepth 100000 in
def f33.j0T (R : Value → Heap → Prop) (x0 : Int) (x5 : Int) (x6 : Int) (h : Heap) : Prop :=
  Run Try.prog 31 #[(Value.int .i64 x5), (Value.int .i64 x6)] h fun v1_ h2_ => ∃ b3_, v1_ = (Value.bool b3_) ∧ splitB (!b3_) (f33.j3 R x5 x6 true h2_) (Run Try.prog 32 #[(Value.int .i64 x5), (Value.int .i64 x6)] h2_ fun v4_ h5_ => ∃ x6_, v4_ = (Value.int .u64 x6_) ∧ f33.j3 R x5 x6 (x6_ != x0) h5_)
set_option maxRecDepth 100000 in
theorem f33.j0_in {R : Value → Heap → Prop} {x0 : Int} {x5 : Int} {x6 : Int} {h : Heap} (H : f33.j0T R x0 x5 x6 h) : f33.j0 R x0 x5 x6 h :=
  pt_intro mixed f33.good (Eq.mpr (show (Fwd Try.prog f33.T f33.kp Try.f33 R [true, true, true, true] (mkFr [(0, (Value.int .u64 x0)), (5, (Value.int .i64 x5)), (6, (Value.int .i64 x6))]) h) = (f33.j0T R x0 x5 x6 h) by kernel_rfl) H)
set_option maxRecDepth 100000 in
def f33.j3T (R : Value → Heap → Prop) (x5 : Int) (x6 : Int) (b31 : Bool) (h : Heap) : Prop :=
  splitB b31 (R (Value.tuple #[(Value.int .i64 (0 : Int)), (Value.int .i64 (0 : Int)), (Value.bool false)]) h) (f33.j2 R x5 x6 h)
set_option maxRecDepth 100000 in
theorem f33.j3_in {R : Value → Heap → Prop} {x5 : Int} {x6 : Int} {b31 : Bool} {h : Heap} (H : f33.j3T R x5 x6 b31 h) : f33.j3 R x5 x6 b31 h :=
  pt_intro mixed f33.good (Eq.mpr (show (Fwd Try.prog f33.T f33.kp Try.f33 R [true, false, true, true, true, true] (mkFr [(5, (Value.int .i64 x5)), (6, (Value.int .i64 x6)), (31, (Value.bool b31))]) h) = (f33.j3T R x5 x6 b31 h) by kernel_rfl) H)
set_option maxRecDepth 100000 in
def f33.j2T (R : Value → Heap → Prop) (x5 : Int) (x6 : Int) (h : Heap) : Prop :=
  R (Value.tuple #[(Value.int .i64 x5), (Value.int .i64 x6), (Value.bool true)]) h
set_option maxRecDepth 100000 in
theorem f33.j2_in {R : Value → Heap → Prop} {x5 : Int} {x6 : Int} {h : Heap} (H : f33.j2T R x5 x6 h) : f33.j2 R x5 x6 h :=
  pt_intro mixed f33.good (Eq.mpr (show (Fwd Try.prog f33.T f33.kp Try.f33 R [true, true, true, true, true] (mkFr [(5, (Value.int .i64 x5)), (6, (Value.int .i64 x6))]) h) = (f33.j2T R x5 x6 h) by kernel_rfl) H)
set_option maxRecDepth 100000 in
def f33.runT (R : Value → Heap → Prop) (x0 : Int) (h : Heap) : Prop :=
  (8 : Int) ≠ 0 ∧ ((8 : Int) ≠ 0 ∧ (splitB ((IntKind.wrap .i64 (Int.tmod x0 (8 : Int))) == (1 : Int)) (f33.j1 R x0 (IntKind.wrap .i64 (Int.tmod x0 (8 : Int))) (IntKind.wrap .i64 (IntKind.wrap .u64 (Int.tdiv x0 (8 : Int)))) (decide ((IntKind.wrap .i64 (IntKind.wrap .u64 (Int.tdiv x0 (8 : Int)))) ≥ (1152921504606846976 : Int))) h) (f33.j1 R x0 (IntKind.wrap .i64 (Int.tmod x0 (8 : Int))) (IntKind.wrap .i64 (IntKind.wrap .u64 (Int.tdiv x0 (8 : Int)))) false h)))
set_option maxRecDepth 100000 in
theorem f33.run {R : Value → Heap → Prop} {x0 : Int} {h : Heap} (H : f33.runT R x0 h) : Run Try.prog 33 #[(Value.int .u64 x0)] h R :=
  run_of mixed Try.func33 (by kernel_rfl) (by kernel_rfl) f33.good (Eq.mpr (show (Fwd Try.prog f33.T f33.kp Try.f33 R [] (mkFr (argL [(Value.int .u64 x0)] 0)) h) = (f33.runT R x0 h) by kernel_rfl) H)

/-! ### roadstead/roadref3.valueKinds: function 110 -/
def f110.T : Tab := { sh := tSh, tup := tTup, keep := [], plan := [] }
def f110.kp : Keep := []
theorem f110.good : goodCode Try.prog f110.T (rootOf Try.f110) = true := by kernel_rfl
set_option maxRecDepth 100000 in
theorem f110.ok : calleeOk Try.prog 110 = true := by kernel_rfl
set_option maxRecDepth 100000 in
def f110.runT (R : Value → Heap → Prop)  (h : Heap) : Prop :=
  newH h (Obj.cells #[(Value.int .i64 (0 : Int)), (Value.int .i64 (0 : Int)), (Value.int .i64 (0 : Int)), (Value.int .i64 (0 : Int))] 166) fun h1_ => ∃ l3_ : List Value, (Value.agg #[(Value.int .i64 (1 : Int)), (Value.int .i64 (2 : Int)), (Value.int .i64 (3 : Int)), (Value.int .i64 (6 : Int))]) = Value.agg l3_.toArray ∧ l3_.length = 4 ∧ ∃ h2_, stH h1_ (⟨Array.size h, 0, none⟩) l3_ 0 = some h2_ ∧ ∃ v4_, ldv true 4 h2_ (⟨Array.size h, 0, none⟩) = some v4_ ∧ R v4_ h2_
set_option maxRecDepth 100000 in
theorem f110.run {R : Value → Heap → Prop}  {h : Heap} (H : f110.runT R  h) : Run Try.prog 110 #[] h R :=
  run_of mixed Try.func110 (by kernel_rfl) (by kernel_rfl) f110.good (Eq.mpr (show (Fwd Try.prog f110.T f110.kp Try.f110 R [] (mkFr (argL [] 0)) h) = (f110.runT R  h) by kernel_rfl) H)

/-! ### roadstead/roadref3.WordOf: function 35 -/
def f35.T : Tab := { sh := tSh, tup := tTup, keep := [], plan := [] }
def f35.kp : Keep := [([false, false, true, false, true], [1, 6, 7]), ([true, true, false, false, true, true, false, false, true, false, true], [1, 4, 6, 7, 31])]
theorem f35.good : goodCode Try.prog f35.T (rootOf Try.f35) = true := by kernel_rfl
set_option maxRecDepth 100000 in
theorem f35.ok : calleeOk Try.prog 35 = true := by kernel_rfl
def f35.l0 (R : Value → Heap → Prop) (a1 : Addr) (v6 : Value) (x7 : Int) (h : Heap) : Prop := Pt Try.prog Try.f35 R [false, false, true, false, true] (mkFr [(1, (Value.pointer (some a1))), (6, v6), (7, (Value.int .i64 x7))]) h
def f35.j0 (R : Value → Heap → Prop) (a1 : Addr) (x4 : Int) (v6 : Value) (x7 : Int) (b31 : Bool) (h : Heap) : Prop := Pt Try.prog Try.f35 R [true, true, false, false, true, true, false, false, true, false, true] (mkFr [(1, (Value.pointer (some a1))), (4, (Value.int .i64 x4)), (6, v6), (7, (Value.int .i64 x7)), (31, (Value.bool b31))]) h
set_option maxRecDepth 100000 in
def f35.l0T (R : Value → Heap → Prop) (a1 : Addr) (v6 : Value) (x7 : Int) (h : Heap) : Prop :=
  splitB (decide (x7 < (4 : Int))) (0 ≤ x7 ∧ x7 < ((4 : Nat) : Int) ∧ ∃ v1_, fldv false 1 (Int.toNat x7 * 1) v6 = some v1_ ∧ (∃ x2_, v1_ = (Value.int .i64 x2_) ∧ ∃ v3_, ldv false 1 h a1 = some v3_ ∧ ∃ x4_, v3_ = (Value.int .i64 x4_) ∧ splitB (x4_ == x2_) (∃ v5_, ldv false 1 h (Addr.add a1 2) = some v5_ ∧ ∃ s6_, v5_ = (Value.string s6_) ∧ splitB (ByteArray.toList s6_ == ByteArray.toList (ByteArray.mk #[])) (∃ v7_, ldv false 1 h (Addr.add a1 3) = some v7_ ∧ ∃ A8_, ∃ n8_, ∃ c8_, v7_ = (Value.slice A8_ n8_ c8_) ∧ splitB (((n8_ : Nat) : Int) == (0 : Int)) (∃ v9_, ldv false 1 h (Addr.add a1 1) = some v9_ ∧ ∃ x10_, v9_ = (Value.int .i64 x10_) ∧ Run Try.prog 31 #[(Value.int .i64 x7), (Value.int .i64 x10_)] h fun v11_ h12_ => ∃ b13_, v11_ = (Value.bool b13_) ∧ f35.j0 R a1 x7 v6 x7 b13_ h12_) (f35.j0 R a1 x7 v6 x7 false h)) (f35.j0 R a1 x7 v6 x7 false h)) (f35.j0 R a1 x7 v6 x7 false h))) (R (Value.tuple #[(Value.int .u64 (0 : Int)), (Value.bool false)]) h)
set_option maxRecDepth 100000 in
theorem f35.l0_in {R : Value → Heap → Prop} {a1 : Addr} {v6 : Value} {x7 : Int} {h : Heap} (H : f35.l0T R a1 v6 x7 h) : f35.l0 R a1 v6 x7 h :=
  pt_intro mixed f35.good (Eq.mpr (show (Fwd Try.prog f35.T f35.kp Try.f35 R [false, false, true, false, true] (mkFr [(1, (Value.pointer (some a1))), (6, v6), (7, (Value.int .i64 x7))]) h) = (f35.l0T R a1 v6 x7 h) by kernel_rfl) H)
set_option maxRecDepth 100000 in
def f35.j0T (R : Value → Heap → Prop) (a1 : Addr) (x4 : Int) (v6 : Value) (x7 : Int) (b31 : Bool) (h : Heap) : Prop :=
  splitB b31 (∃ v1_, ldv false 1 h (Addr.add a1 1) = some v1_ ∧ ∃ x2_, v1_ = (Value.int .i64 x2_) ∧ Run Try.prog 32 #[(Value.int .i64 x4), (Value.int .i64 x2_)] h fun v3_ h4_ => ∃ x5_, v3_ = (Value.int .u64 x5_) ∧ R (Value.tuple #[(Value.int .u64 x5_), (Value.bool true)]) h4_) (f35.l0 R a1 v6 (IntKind.wrap .i64 (x7 + (1 : Int))) h)
set_option maxRecDepth 100000 in
theorem f35.j0_in {R : Value → Heap → Prop} {a1 : Addr} {x4 : Int} {v6 : Value} {x7 : Int} {b31 : Bool} {h : Heap} (H : f35.j0T R a1 x4 v6 x7 b31 h) : f35.j0 R a1 x4 v6 x7 b31 h :=
  pt_intro mixed f35.good (Eq.mpr (show (Fwd Try.prog f35.T f35.kp Try.f35 R [true, true, false, false, true, true, false, false, true, false, true] (mkFr [(1, (Value.pointer (some a1))), (4, (Value.int .i64 x4)), (6, v6), (7, (Value.int .i64 x7)), (31, (Value.bool b31))]) h) = (f35.j0T R a1 x4 v6 x7 b31 h) by kernel_rfl) H)
set_option maxRecDepth 100000 in
def f35.runT (R : Value → Heap → Prop) (v0 : Value) (h : Heap) : Prop :=
  newH h (Obj.cells ((v0).cells) 42) fun h1_ => Run Try.prog 110 #[] h1_ fun v2_ h3_ => f35.l0 R (⟨Array.size h, 0, none⟩) v2_ (0 : Int) h3_
set_option maxRecDepth 100000 in
theorem f35.run {R : Value → Heap → Prop} {v0 : Value} {h : Heap} (H : f35.runT R v0 h) : Run Try.prog 35 #[v0] h R :=
  run_of mixed Try.func35 (by kernel_rfl) (by kernel_rfl) f35.good (Eq.mpr (show (Fwd Try.prog f35.T f35.kp Try.f35 R [] (mkFr (argL [v0] 0)) h) = (f35.runT R v0 h) by kernel_rfl) H)

/-! ### roadstead/roadref3.ValueOf: function 36 -/
def f36.T : Tab := { sh := tSh, tup := tTup, keep := [], plan := [] }
def f36.kp : Keep := [([true, false, true, true], [2, 4, 5, 18]), ([true, true, true], [2, 4, 5])]
theorem f36.good : goodCode Try.prog f36.T (rootOf Try.f36) = true := by kernel_rfl
set_option maxRecDepth 100000 in
theorem f36.ok : calleeOk Try.prog 36 = true := by kernel_rfl
def f36.j1 (R : Value → Heap → Prop) (a2 : Addr) (x4 : Int) (x5 : Int) (b18 : Bool) (h : Heap) : Prop := Pt Try.prog Try.f36 R [true, false, true, true] (mkFr [(2, (Value.pointer (some a2))), (4, (Value.int .i64 x4)), (5, (Value.int .i64 x5)), (18, (Value.bool b18))]) h
def f36.j0 (R : Value → Heap → Prop) (a2 : Addr) (x4 : Int) (x5 : Int) (h : Heap) : Prop := Pt Try.prog Try.f36 R [true, true, true] (mkFr [(2, (Value.pointer (some a2))), (4, (Value.int .i64 x4)), (5, (Value.int .i64 x5))]) h
set_option maxRecDepth 100000 in
def f36.j1T (R : Value → Heap → Prop) (a2 : Addr) (x4 : Int) (x5 : Int) (b18 : Bool) (h : Heap) : Prop :=
  splitB b18 (∃ l2_ : List Value, (Value.agg #[(Value.int .i64 (0 : Int)), (Value.int .i64 (0 : Int)), (Value.string (ByteArray.mk #[])), (Value.slice none 0 0)]) = Value.agg l2_.toArray ∧ l2_.length = 4 ∧ ∃ h1_, stH h a2 l2_ 0 = some h1_ ∧ ∃ v3_, ldv true 4 h1_ a2 = some v3_ ∧ R (Value.tuple #[v3_, (Value.bool false)]) h1_) (f36.j0 R a2 x4 x5 h)
set_option maxRecDepth 100000 in
theorem f36.j1_in {R : Value → Heap → Prop} {a2 : Addr} {x4 : Int} {x5 : Int} {b18 : Bool} {h : Heap} (H : f36.j1T R a2 x4 x5 b18 h) : f36.j1 R a2 x4 x5 b18 h :=
  pt_intro mixed f36.good (Eq.mpr (show (Fwd Try.prog f36.T f36.kp Try.f36 R [true, false, true, true] (mkFr [(2, (Value.pointer (some a2))), (4, (Value.int .i64 x4)), (5, (Value.int .i64 x5)), (18, (Value.bool b18))]) h) = (f36.j1T R a2 x4 x5 b18 h) by kernel_rfl) H)
set_option maxRecDepth 100000 in
def f36.j0T (R : Value → Heap → Prop) (a2 : Addr) (x4 : Int) (x5 : Int) (h : Heap) : Prop :=
  Run Try.prog 110 #[] h fun v1_ h2_ => 0 ≤ x4 ∧ x4 < ((4 : Nat) : Int) ∧ ∃ v3_, fldv false 1 (Int.toNat x4 * 1) v1_ = some v3_ ∧ (∃ x4_, v3_ = (Value.int .i64 x4_) ∧ ∃ l6_ : List Value, (Value.agg #[(Value.int .i64 x4_), (Value.int .i64 x5), (Value.string (ByteArray.mk #[])), (Value.slice none 0 0)]) = Value.agg l6_.toArray ∧ l6_.length = 4 ∧ ∃ h5_, stH h2_ a2 l6_ 0 = some h5_ ∧ ∃ v7_, ldv true 4 h5_ a2 = some v7_ ∧ R (Value.tuple #[v7_, (Value.bool true)]) h5_)
set_option maxRecDepth 100000 in
theorem f36.j0_in {R : Value → Heap → Prop} {a2 : Addr} {x4 : Int} {x5 : Int} {h : Heap} (H : f36.j0T R a2 x4 x5 h) : f36.j0 R a2 x4 x5 h :=
  pt_intro mixed f36.good (Eq.mpr (show (Fwd Try.prog f36.T f36.kp Try.f36 R [true, true, true] (mkFr [(2, (Value.pointer (some a2))), (4, (Value.int .i64 x4)), (5, (Value.int .i64 x5))]) h) = (f36.j0T R a2 x4 x5 h) by kernel_rfl) H)
set_option maxRecDepth 100000 in
def f36.runT (R : Value → Heap → Prop) (x0 : Int) (h : Heap) : Prop :=
  newH h (Obj.cells #[(Value.int .i64 (0 : Int)), (Value.int .i64 (0 : Int)), (Value.string (ByteArray.mk #[])), (Value.slice none 0 0)] 42) fun h1_ => Run Try.prog 33 #[(Value.int .u64 x0)] h1_ fun v2_ h3_ => ∃ x4_, ∃ x5_, ∃ b6_, v2_ = (Value.tuple #[(Value.int .i64 x4_), (Value.int .i64 x5_), (Value.bool b6_)]) ∧ splitB (!b6_) (f36.j1 R (⟨Array.size h, 0, none⟩) x4_ x5_ true h3_) (f36.j1 R (⟨Array.size h, 0, none⟩) x4_ x5_ (x4_ == (4 : Int)) h3_)
set_option maxRecDepth 100000 in
theorem f36.run {R : Value → Heap → Prop} {x0 : Int} {h : Heap} (H : f36.runT R x0 h) : Run Try.prog 36 #[(Value.int .u64 x0)] h R :=
  run_of mixed Try.func36 (by kernel_rfl) (by kernel_rfl) f36.good (Eq.mpr (show (Fwd Try.prog f36.T f36.kp Try.f36 R [] (mkFr (argL [(Value.int .u64 x0)] 0)) h) = (f36.runT R x0 h) by kernel_rfl) H)

/-! ### roadstead/roadref3.SameValue: function 37 -/
def f37.T : Tab := { sh := tSh, tup := tTup, keep := [], plan := [(6, (.take 0 (.take 2 (.take 5 (.take 7 (.take 1 (.take 3 (.take 4 (.take 6 (.take 8 (.take 9 (.eff false 10 (.take 11 .done)))))))))))))] }
def f37.kp : Keep := [([true, true], [2, 3]), ([false, false, true, false, true, true], [2, 3, 36, 37])]
theorem f37.good : goodCode Try.prog f37.T (rootOf Try.f37) = true := by kernel_rfl
set_option maxRecDepth 100000 in
theorem f37.ok : calleeOk Try.prog 37 = true := by kernel_rfl
def f37.j0 (R : Value → Heap → Prop) (a2 : Addr) (a3 : Addr) (h : Heap) : Prop := Pt Try.prog Try.f37 R [true, true] (mkFr [(2, (Value.pointer (some a2))), (3, (Value.pointer (some a3)))]) h
def f37.l0 (R : Value → Heap → Prop) (a2 : Addr) (a3 : Addr) (x36 : Int) (x37 : Int) (h : Heap) : Prop := Pt Try.prog Try.f37 R [false, false, true, false, true, true] (mkFr [(2, (Value.pointer (some a2))), (3, (Value.pointer (some a3))), (36, (Value.int .i64 x36)), (37, (Value.int .i64 x37))]) h
set_option maxRecDepth 100000 in
def f37.j0T (R : Value → Heap → Prop) (a2 : Addr) (a3 : Addr) (h : Heap) : Prop :=
  ∃ v1_, ldv false 1 h (Addr.add a2 3) = some v1_ ∧ ∃ A2_, ∃ n2_, ∃ c2_, v1_ = (Value.slice A2_ n2_ c2_) ∧ f37.l0 R a2 a3 ((n2_ : Nat) : Int) (0 : Int) h
set_option maxRecDepth 100000 in
theorem f37.j0_in {R : Value → Heap → Prop} {a2 : Addr} {a3 : Addr} {h : Heap} (H : f37.j0T R a2 a3 h) : f37.j0 R a2 a3 h :=
  pt_intro mixed f37.good (Eq.mpr (show (Fwd Try.prog f37.T f37.kp Try.f37 R [true, true] (mkFr [(2, (Value.pointer (some a2))), (3, (Value.pointer (some a3)))]) h) = (f37.j0T R a2 a3 h) by kernel_rfl) H)
set_option maxRecDepth 100000 in
def f37.l0T (R : Value → Heap → Prop) (a2 : Addr) (a3 : Addr) (x36 : Int) (x37 : Int) (h : Heap) : Prop :=
  splitB (decide (x37 < x36)) (∃ v1_, ldv false 1 h (Addr.add a2 3) = some v1_ ∧ ∃ A2_, ∃ n2_, ∃ c2_, v1_ = (Value.slice A2_ n2_ c2_) ∧ ptrOk A2_ fun a3_ => 0 ≤ x37 ∧ x37 < ((n2_ : Nat) : Int) ∧ (∃ v4_, ldv true 4 h (Addr.add a3_ (Int.toNat x37 * 4)) = some v4_ ∧ ∃ v5_, ldv false 1 h (Addr.add a3 3) = some v5_ ∧ ∃ A6_, ∃ n6_, ∃ c6_, v5_ = (Value.slice A6_ n6_ c6_) ∧ ptrOk A6_ fun a7_ => 0 ≤ x37 ∧ x37 < ((n6_ : Nat) : Int) ∧ (∃ v8_, ldv true 4 h (Addr.add a7_ (Int.toNat x37 * 4)) = some v8_ ∧ Run Try.prog 37 #[v4_, v8_] h fun v9_ h10_ => ∃ b11_, v9_ = (Value.bool b11_) ∧ splitB (!b11_) (R (Value.bool false) h10_) (f37.l0 R a2 a3 x36 (IntKind.wrap .i64 (x37 + (1 : Int))) h10_)))) (R (Value.bool true) h)
set_option maxRecDepth 100000 in
theorem f37.l0_in {R : Value → Heap → Prop} {a2 : Addr} {a3 : Addr} {x36 : Int} {x37 : Int} {h : Heap} (H : f37.l0T R a2 a3 x36 x37 h) : f37.l0 R a2 a3 x36 x37 h :=
  pt_intro mixed f37.good (Eq.mpr (show (Fwd Try.prog f37.T f37.kp Try.f37 R [false, false, true, false, true, true] (mkFr [(2, (Value.pointer (some a2))), (3, (Value.pointer (some a3))), (36, (Value.int .i64 x36)), (37, (Value.int .i64 x37))]) h) = (f37.l0T R a2 a3 x36 x37 h) by kernel_rfl) H)
set_option maxRecDepth 100000 in
def f37.runT (R : Value → Heap → Prop) (v0 : Value) (v1 : Value) (h : Heap) : Prop :=
  newH h (Obj.cells ((v0).cells) 42) fun h1_ => newH h1_ (Obj.cells ((v1).cells) 42) fun h2_ => ∃ v3_, ldv false 1 h2_ (⟨Array.size h, 0, none⟩) = some v3_ ∧ ∃ x4_, v3_ = (Value.int .i64 x4_) ∧ ∃ v5_, ldv false 1 h2_ (⟨Array.size h1_, 0, none⟩) = some v5_ ∧ ∃ x6_, v5_ = (Value.int .i64 x6_) ∧ splitB (x4_ != x6_) (R (Value.bool false) h2_) (∃ v7_, ldv false 1 h2_ (Addr.add (⟨Array.size h, 0, none⟩) 1) = some v7_ ∧ ∃ x8_, v7_ = (Value.int .i64 x8_) ∧ ∃ v9_, ldv false 1 h2_ (Addr.add (⟨Array.size h1_, 0, none⟩) 1) = some v9_ ∧ ∃ x10_, v9_ = (Value.int .i64 x10_) ∧ splitB (x8_ != x10_) (R (Value.bool false) h2_) (∃ v11_, ldv false 1 h2_ (Addr.add (⟨Array.size h, 0, none⟩) 2) = some v11_ ∧ ∃ s12_, v11_ = (Value.string s12_) ∧ ∃ v13_, ldv false 1 h2_ (Addr.add (⟨Array.size h1_, 0, none⟩) 2) = some v13_ ∧ ∃ s14_, v13_ = (Value.string s14_) ∧ splitB (!(ByteArray.toList s12_ == ByteArray.toList s14_)) (R (Value.bool false) h2_) (∃ v15_, ldv false 1 h2_ (Addr.add (⟨Array.size h, 0, none⟩) 3) = some v15_ ∧ ∃ A16_, ∃ n16_, ∃ c16_, v15_ = (Value.slice A16_ n16_ c16_) ∧ ∃ v17_, ldv false 1 h2_ (Addr.add (⟨Array.size h1_, 0, none⟩) 3) = some v17_ ∧ ∃ A18_, ∃ n18_, ∃ c18_, v17_ = (Value.slice A18_ n18_ c18_) ∧ splitB (((n16_ : Nat) : Int) != ((n18_ : Nat) : Int)) (R (Value.bool false) h2_) (f37.j0 R (⟨Array.size h, 0, none⟩) (⟨Array.size h1_, 0, none⟩) h2_))))
set_option maxRecDepth 100000 in
theorem f37.run {R : Value → Heap → Prop} {v0 : Value} {v1 : Value} {h : Heap} (H : f37.runT R v0 v1 h) : Run Try.prog 37 #[v0, v1] h R :=
  run_of mixed Try.func37 (by kernel_rfl) (by kernel_rfl) f37.good (Eq.mpr (show (Fwd Try.prog f37.T f37.kp Try.f37 R [] (mkFr (argL [v0, v1] 0)) h) = (f37.runT R v0 v1 h) by kernel_rfl) H)

/-! ### roadstead/roadlaw3.TermTells: function 6 -/
def f6.T : Tab := { sh := tSh, tup := tTup, keep := [], plan := [] }
def f6.kp : Keep := [([true, true, true, true, true, true], [1, 2, 7, 11, 12, 13, 14, 15, 16, 17]), ([true, true, true, true, true, true, true, true], [2, 7, 14, 15, 16, 17])]
theorem f6.good : goodCode Try.prog f6.T (rootOf Try.f6) = true := by kernel_rfl
set_option maxRecDepth 100000 in
theorem f6.ok : calleeOk Try.prog 6 = true := by kernel_rfl
def f6.j0 (R : Value → Heap → Prop) (x1 : Int) (x2 : Int) (a7 : Addr) (x11 : Int) (x12 : Int) (x13 : Int) (x14 : Int) (b15 : Bool) (a16 : Addr) (b17 : Bool) (h : Heap) : Prop := Pt Try.prog Try.f6 R [true, true, true, true, true, true] (mkFr [(1, (Value.int .i64 x1)), (2, (Value.int .u64 x2)), (7, (Value.pointer (some a7))), (11, (Value.int .i64 x11)), (12, (Value.int .i64 x12)), (13, (Value.int .i64 x13)), (14, (Value.int .u64 x14)), (15, (Value.bool b15)), (16, (Value.pointer (some a16))), (17, (Value.bool b17))]) h
def f6.j1 (R : Value → Heap → Prop) (x2 : Int) (a7 : Addr) (x14 : Int) (b15 : Bool) (a16 : Addr) (b17 : Bool) (h : Heap) : Prop := Pt Try.prog Try.f6 R [true, true, true, true, true, true, true, true] (mkFr [(2, (Value.int .u64 x2)), (7, (Value.pointer (some a7))), (14, (Value.int .u64 x14)), (15, (Value.bool b15)), (16, (Value.pointer (some a16))), (17, (Value.bool b17))]) h
set_option maxRecDepth 100000 in
def f6.j0T (R : Value → Heap → Prop) (x1 : Int) (x2 : Int) (a7 : Addr) (x11 : Int) (x12 : Int) (x13 : Int) (x14 : Int) (b15 : Bool) (a16 : Addr) (b17 : Bool) (h : Heap) : Prop :=
  Run Try.prog 33 #[(Value.int .u64 x2)] h fun v1_ h2_ => ∃ x3_, ∃ x4_, ∃ b5_, v1_ = (Value.tuple #[(Value.int .i64 x3_), (Value.int .i64 x4_), (Value.bool b5_)]) ∧ splitB (x11 != x3_) (R (Value.bool false) h2_) (splitB (x12 != x4_) (R (Value.bool false) h2_) (splitB b5_ (splitB (x13 != (0 : Int)) (R (Value.bool false) h2_) (splitB (!b5_) (splitB (x13 != (3 : Int)) (R (Value.bool false) h2_) (Run Try.prog 34 #[(Value.int .i64 x1)] h2_ fun v6_ h7_ => ∃ b8_, v6_ = (Value.bool b8_) ∧ Run Try.prog 31 #[(Value.int .i64 (1 : Int)), (Value.int .i64 x1)] h7_ fun v9_ h10_ => ∃ b11_, v9_ = (Value.bool b11_) ∧ splitB (!(b8_ == b11_)) (R (Value.bool false) h10_) (f6.j1 R x2 a7 x14 b15 a16 b17 h10_))) (Run Try.prog 34 #[(Value.int .i64 x1)] h2_ fun v12_ h13_ => ∃ b14_, v12_ = (Value.bool b14_) ∧ Run Try.prog 31 #[(Value.int .i64 (1 : Int)), (Value.int .i64 x1)] h13_ fun v15_ h16_ => ∃ b17_, v15_ = (Value.bool b17_) ∧ splitB (!(b14_ == b17_)) (R (Value.bool false) h16_) (f6.j1 R x2 a7 x14 b15 a16 b17 h16_)))) (splitB (!b5_) (splitB (x13 != (3 : Int)) (R (Value.bool false) h2_) (Run Try.prog 34 #[(Value.int .i64 x1)] h2_ fun v18_ h19_ => ∃ b20_, v18_ = (Value.bool b20_) ∧ Run Try.prog 31 #[(Value.int .i64 (1 : Int)), (Value.int .i64 x1)] h19_ fun v21_ h22_ => ∃ b23_, v21_ = (Value.bool b23_) ∧ splitB (!(b20_ == b23_)) (R (Value.bool false) h22_) (f6.j1 R x2 a7 x14 b15 a16 b17 h22_))) (Run Try.prog 34 #[(Value.int .i64 x1)] h2_ fun v24_ h25_ => ∃ b26_, v24_ = (Value.bool b26_) ∧ Run Try.prog 31 #[(Value.int .i64 (1 : Int)), (Value.int .i64 x1)] h25_ fun v27_ h28_ => ∃ b29_, v27_ = (Value.bool b29_) ∧ splitB (!(b26_ == b29_)) (R (Value.bool false) h28_) (f6.j1 R x2 a7 x14 b15 a16 b17 h28_)))))
set_option maxRecDepth 100000 in
theorem f6.j0_in {R : Value → Heap → Prop} {x1 : Int} {x2 : Int} {a7 : Addr} {x11 : Int} {x12 : Int} {x13 : Int} {x14 : Int} {b15 : Bool} {a16 : Addr} {b17 : Bool} {h : Heap} (H : f6.j0T R x1 x2 a7 x11 x12 x13 x14 b15 a16 b17 h) : f6.j0 R x1 x2 a7 x11 x12 x13 x14 b15 a16 b17 h :=
  pt_intro mixed f6.good (Eq.mpr (show (Fwd Try.prog f6.T f6.kp Try.f6 R [true, true, true, true, true, true] (mkFr [(1, (Value.int .i64 x1)), (2, (Value.int .u64 x2)), (7, (Value.pointer (some a7))), (11, (Value.int .i64 x11)), (12, (Value.int .i64 x12)), (13, (Value.int .i64 x13)), (14, (Value.int .u64 x14)), (15, (Value.bool b15)), (16, (Value.pointer (some a16))), (17, (Value.bool b17))]) h) = (f6.j0T R x1 x2 a7 x11 x12 x13 x14 b15 a16 b17 h) by kernel_rfl) H)
set_option maxRecDepth 100000 in
def f6.j1T (R : Value → Heap → Prop) (x2 : Int) (a7 : Addr) (x14 : Int) (b15 : Bool) (a16 : Addr) (b17 : Bool) (h : Heap) : Prop :=
  ∃ v1_, ldv true 4 h a7 = some v1_ ∧ Run Try.prog 35 #[v1_] h fun v2_ h3_ => ∃ x4_, ∃ b5_, v2_ = (Value.tuple #[(Value.int .u64 x4_), (Value.bool b5_)]) ∧ Run Try.prog 36 #[(Value.int .u64 x2)] h3_ fun v6_ h7_ => ∃ v8_, ∃ b9_, v6_ = (Value.tuple #[v8_, (Value.bool b9_)]) ∧ newH h7_ (Obj.cells #[(Value.int .i64 (0 : Int)), (Value.int .i64 (0 : Int)), (Value.string (ByteArray.mk #[])), (Value.slice none 0 0)] 42) fun h10_ => ∃ l12_ : List Value, v8_ = Value.agg l12_.toArray ∧ l12_.length = 4 ∧ ∃ h11_, stH h10_ (⟨Array.size h7_, 0, none⟩) l12_ 0 = some h11_ ∧ splitB (x14 == x4_) (splitB (b15 == b5_) (∃ v13_, ldv true 4 h11_ a16 = some v13_ ∧ ∃ v14_, ldv true 4 h11_ (⟨Array.size h7_, 0, none⟩) = some v14_ ∧ Run Try.prog 37 #[v13_, v14_] h11_ fun v15_ h16_ => ∃ b17_, v15_ = (Value.bool b17_) ∧ splitB b17_ (R (Value.bool (b17 == b9_)) h16_) (R (Value.bool false) h16_)) (R (Value.bool false) h11_)) (R (Value.bool false) h11_)
set_option maxRecDepth 100000 in
theorem f6.j1_in {R : Value → Heap → Prop} {x2 : Int} {a7 : Addr} {x14 : Int} {b15 : Bool} {a16 : Addr} {b17 : Bool} {h : Heap} (H : f6.j1T R x2 a7 x14 b15 a16 b17 h) : f6.j1 R x2 a7 x14 b15 a16 b17 h :=
  pt_intro mixed f6.good (Eq.mpr (show (Fwd Try.prog f6.T f6.kp Try.f6 R [true, true, true, true, true, true, true, true] (mkFr [(2, (Value.int .u64 x2)), (7, (Value.pointer (some a7))), (14, (Value.int .u64 x14)), (15, (Value.bool b15)), (16, (Value.pointer (some a16))), (17, (Value.bool b17))]) h) = (f6.j1T R x2 a7 x14 b15 a16 b17 h) by kernel_rfl) H)
set_option maxRecDepth 100000 in
def f6.runT (R : Value → Heap → Prop) (x0 : Int) (x1 : Int) (x2 : Int) (v3 : Value) (h : Heap) : Prop :=
  newH h (Obj.cells ((v3).cells) 42) fun h1_ => Run Try.prog 26 #[(Value.int .i64 x0), (Value.int .i64 x1)] h1_ fun v2_ h3_ => ∃ x4_, ∃ x5_, v2_ = (Value.tuple #[(Value.int .u64 x4_), (Value.int .i64 x5_)]) ∧ Run Try.prog 27 #[(Value.int .u64 x2)] h3_ fun v6_ h7_ => ∃ x8_, ∃ x9_, ∃ x10_, v6_ = (Value.tuple #[(Value.int .i64 x8_), (Value.int .i64 x9_), (Value.int .i64 x10_)]) ∧ ∃ v11_, ldv true 4 h7_ (⟨Array.size h, 0, none⟩) = some v11_ ∧ Run Try.prog 28 #[v11_] h7_ fun v12_ h13_ => ∃ x14_, ∃ b15_, v12_ = (Value.tuple #[(Value.int .u64 x14_), (Value.bool b15_)]) ∧ Run Try.prog 29 #[(Value.int .u64 x2)] h13_ fun v16_ h17_ => ∃ v18_, ∃ b19_, v16_ = (Value.tuple #[v18_, (Value.bool b19_)]) ∧ newH h17_ (Obj.cells #[(Value.int .i64 (0 : Int)), (Value.int .i64 (0 : Int)), (Value.string (ByteArray.mk #[])), (Value.slice none 0 0)] 42) fun h20_ => ∃ l22_ : List Value, v18_ = Value.agg l22_.toArray ∧ l22_.length = 4 ∧ ∃ h21_, stH h20_ (⟨Array.size h17_, 0, none⟩) l22_ 0 = some h21_ ∧ Run Try.prog 30 #[(Value.int .i64 x0), (Value.int .i64 (0 : Int)), (Value.int .i64 (4 : Int))] h21_ fun v23_ h24_ => ∃ b25_, v23_ = (Value.bool b25_) ∧ splitB (!b25_) (splitB (x4_ != (0 : Int)) (R (Value.bool false) h24_) (splitB (x5_ != (1 : Int)) (R (Value.bool false) h24_) (f6.j0 R x1 x2 (⟨Array.size h, 0, none⟩) x8_ x9_ x10_ x14_ b15_ (⟨Array.size h17_, 0, none⟩) b19_ h24_))) (Run Try.prog 31 #[(Value.int .i64 x0), (Value.int .i64 x1)] h24_ fun v26_ h27_ => ∃ b28_, v26_ = (Value.bool b28_) ∧ splitB (!b28_) (splitB (x4_ != (0 : Int)) (R (Value.bool false) h27_) (splitB (x5_ != (2 : Int)) (R (Value.bool false) h27_) (f6.j0 R x1 x2 (⟨Array.size h, 0, none⟩) x8_ x9_ x10_ x14_ b15_ (⟨Array.size h17_, 0, none⟩) b19_ h27_))) (Run Try.prog 32 #[(Value.int .i64 x0), (Value.int .i64 x1)] h27_ fun v29_ h30_ => ∃ x31_, v29_ = (Value.int .u64 x31_) ∧ splitB (x4_ != x31_) (R (Value.bool false) h30_) (splitB (x5_ != (0 : Int)) (R (Value.bool false) h30_) (f6.j0 R x1 x2 (⟨Array.size h, 0, none⟩) x8_ x9_ x10_ x14_ b15_ (⟨Array.size h17_, 0, none⟩) b19_ h30_))))
set_option maxRecDepth 100000 in
theorem f6.run {R : Value → Heap → Prop} {x0 : Int} {x1 : Int} {x2 : Int} {v3 : Value} {h : Heap} (H : f6.runT R x0 x1 x2 v3 h) : Run Try.prog 6 #[(Value.int .i64 x0), (Value.int .i64 x1), (Value.int .u64 x2), v3] h R :=
  run_of mixed Try.func6 (by kernel_rfl) (by kernel_rfl) f6.good (Eq.mpr (show (Fwd Try.prog f6.T f6.kp Try.f6 R [] (mkFr (argL [(Value.int .i64 x0), (Value.int .i64 x1), (Value.int .u64 x2), v3] 0)) h) = (f6.runT R x0 x1 x2 v3 h) by kernel_rfl) H)

/-! ### roadstead/fence.New: function 38 -/
def f38.T : Tab := { sh := tSh, tup := tTup, keep := [], plan := [] }
def f38.kp : Keep := []
theorem f38.good : goodCode Try.prog f38.T (rootOf Try.f38) = true := by kernel_rfl
set_option maxRecDepth 100000 in
theorem f38.ok : calleeOk Try.prog 38 = true := by kernel_rfl
set_option maxRecDepth 100000 in
def f38.runT (R : Value → Heap → Prop)  (h : Heap) : Prop :=
  newH h (Obj.cells #[(Value.int .i64 (0 : Int)), (Value.int .i64 (0 : Int)), (Value.int .i64 (0 : Int)), (Value.int .i64 (0 : Int))] 169) fun h1_ => R (Value.pointer (some ⟨Array.size h, 0, none⟩)) h1_
set_option maxRecDepth 100000 in
theorem f38.run {R : Value → Heap → Prop}  {h : Heap} (H : f38.runT R  h) : Run Try.prog 38 #[] h R :=
  run_of mixed Try.func38 (by kernel_rfl) (by kernel_rfl) f38.good (Eq.mpr (show (Fwd Try.prog f38.T f38.kp Try.f38 R [] (mkFr (argL [] 0)) h) = (f38.runT R  h) by kernel_rfl) H)

/-! ### (*roadstead/fence.Lease).Leave: function 39 -/
def f39.T : Tab := { sh := tSh, tup := tTup, keep := [], plan := [] }
def f39.kp : Keep := [([true, true], [0])]
theorem f39.good : goodCode Try.prog f39.T (rootOf Try.f39) = true := by kernel_rfl
set_option maxRecDepth 100000 in
theorem f39.ok : calleeOk Try.prog 39 = true := by kernel_rfl
def f39.j0 (R : Value → Heap → Prop) (a0 : Addr) (h : Heap) : Prop := Pt Try.prog Try.f39 R [true, true] (mkFr [(0, (Value.pointer (some a0)))]) h
set_option maxRecDepth 100000 in
def f39.j0T (R : Value → Heap → Prop) (a0 : Addr) (h : Heap) : Prop :=
  ∃ h1_, st1 h (Addr.add a0 2) (Value.int .i64 (0 : Int)) = some h1_ ∧ R (Value.int .i64 (0 : Int)) h1_
set_option maxRecDepth 100000 in
theorem f39.j0_in {R : Value → Heap → Prop} {a0 : Addr} {h : Heap} (H : f39.j0T R a0 h) : f39.j0 R a0 h :=
  pt_intro mixed f39.good (Eq.mpr (show (Fwd Try.prog f39.T f39.kp Try.f39 R [true, true] (mkFr [(0, (Value.pointer (some a0)))]) h) = (f39.j0T R a0 h) by kernel_rfl) H)
set_option maxRecDepth 100000 in
def f39.runT (R : Value → Heap → Prop) (a0 : Addr) (x1 : Int) (x2 : Int) (h : Heap) : Prop :=
  ∃ v1_, ldv false 1 h (Addr.add a0 2) = some v1_ ∧ ∃ x2_, v1_ = (Value.int .i64 x2_) ∧ splitB (x2_ != x1) (R (Value.int .i64 (4 : Int)) h) (∃ v3_, ldv false 1 h (Addr.add a0 1) = some v3_ ∧ ∃ x4_, v3_ = (Value.int .i64 x4_) ∧ splitB (x4_ != x2) (R (Value.int .i64 (4 : Int)) h) (splitB (x1 == (0 : Int)) (R (Value.int .i64 (4 : Int)) h) (f39.j0 R a0 h)))
set_option maxRecDepth 100000 in
theorem f39.run {R : Value → Heap → Prop} {a0 : Addr} {x1 : Int} {x2 : Int} {h : Heap} (H : f39.runT R a0 x1 x2 h) : Run Try.prog 39 #[(Value.pointer (some a0)), (Value.int .i64 x1), (Value.int .i64 x2)] h R :=
  run_of mixed Try.func39 (by kernel_rfl) (by kernel_rfl) f39.good (Eq.mpr (show (Fwd Try.prog f39.T f39.kp Try.f39 R [] (mkFr (argL [(Value.pointer (some a0)), (Value.int .i64 x1), (Value.int .i64 x2)] 0)) h) = (f39.runT R a0 x1 x2 h) by kernel_rfl) H)

/-! ### (*roadstead/fence.Lease).Take: function 40 -/
def f40.T : Tab := { sh := tSh, tup := tTup, keep := [], plan := [(3, (.take 0 (.take 1 (.take 2 (.take 3 (.take 4 (.take 5 (.split 5 (.take 6 (.take 7 (.take 8 (.take 10 (.take 11 (.take 12 (.take 9 (.take 13 (.take 14 (.take 15 .done))))))))))))))))))] }
def f40.kp : Keep := [([true, false, true], [0, 1, 2, 21]), ([true, true], [0, 1, 2]), ([true, false, true, true], [0, 1, 2, 37]), ([true, true, true], [0, 1, 2])]
theorem f40.good : goodCode Try.prog f40.T (rootOf Try.f40) = true := by kernel_rfl
set_option maxRecDepth 100000 in
theorem f40.ok : calleeOk Try.prog 40 = true := by kernel_rfl
def f40.j1 (R : Value → Heap → Prop) (a0 : Addr) (x1 : Int) (x2 : Int) (b21 : Bool) (h : Heap) : Prop := Pt Try.prog Try.f40 R [true, false, true] (mkFr [(0, (Value.pointer (some a0))), (1, (Value.int .i64 x1)), (2, (Value.int .i64 x2)), (21, (Value.bool b21))]) h
def f40.j0 (R : Value → Heap → Prop) (a0 : Addr) (x1 : Int) (x2 : Int) (h : Heap) : Prop := Pt Try.prog Try.f40 R [true, true] (mkFr [(0, (Value.pointer (some a0))), (1, (Value.int .i64 x1)), (2, (Value.int .i64 x2))]) h
def f40.j3 (R : Value → Heap → Prop) (a0 : Addr) (x1 : Int) (x2 : Int) (b37 : Bool) (h : Heap) : Prop := Pt Try.prog Try.f40 R [true, false, true, true] (mkFr [(0, (Value.pointer (some a0))), (1, (Value.int .i64 x1)), (2, (Value.int .i64 x2)), (37, (Value.bool b37))]) h
def f40.j2 (R : Value → Heap → Prop) (a0 : Addr) (x1 : Int) (x2 : Int) (h : Heap) : Prop := Pt Try.prog Try.f40 R [true, true, true] (mkFr [(0, (Value.pointer (some a0))), (1, (Value.int .i64 x1)), (2, (Value.int .i64 x2))]) h
set_option maxRecDepth 100000 in
def f40.j1T (R : Value → Heap → Prop) (a0 : Addr) (x1 : Int) (x2 : Int) (b21 : Bool) (h : Heap) : Prop :=
  splitB b21 (R (Value.tuple #[(Value.int .i64 (0 : Int)), (Value.int .i64 (1 : Int))]) h) (f40.j0 R a0 x1 x2 h)
set_option maxRecDepth 100000 in
theorem f40.j1_in {R : Value → Heap → Prop} {a0 : Addr} {x1 : Int} {x2 : Int} {b21 : Bool} {h : Heap} (H : f40.j1T R a0 x1 x2 b21 h) : f40.j1 R a0 x1 x2 b21 h :=
  pt_intro mixed f40.good (Eq.mpr (show (Fwd Try.prog f40.T f40.kp Try.f40 R [true, false, true] (mkFr [(0, (Value.pointer (some a0))), (1, (Value.int .i64 x1)), (2, (Value.int .i64 x2)), (21, (Value.bool b21))]) h) = (f40.j1T R a0 x1 x2 b21 h) by kernel_rfl) H)
set_option maxRecDepth 100000 in
def f40.j0T (R : Value → Heap → Prop) (a0 : Addr) (x1 : Int) (x2 : Int) (h : Heap) : Prop :=
  ∃ v1_, ldv false 1 h (Addr.add a0 2) = some v1_ ∧ ∃ x2_, v1_ = (Value.int .i64 x2_) ∧ splitB (x2_ != (0 : Int)) (∃ v3_, ldv false 1 h a0 = some v3_ ∧ ∃ x4_, v3_ = (Value.int .i64 x4_) ∧ ∃ v5_, ldv false 1 h (Addr.add a0 3) = some v5_ ∧ ∃ x6_, v5_ = (Value.int .i64 x6_) ∧ f40.j3 R a0 x1 x2 (decide (x4_ < x6_)) h) (f40.j3 R a0 x1 x2 false h)
set_option maxRecDepth 100000 in
theorem f40.j0_in {R : Value → Heap → Prop} {a0 : Addr} {x1 : Int} {x2 : Int} {h : Heap} (H : f40.j0T R a0 x1 x2 h) : f40.j0 R a0 x1 x2 h :=
  pt_intro mixed f40.good (Eq.mpr (show (Fwd Try.prog f40.T f40.kp Try.f40 R [true, true] (mkFr [(0, (Value.pointer (some a0))), (1, (Value.int .i64 x1)), (2, (Value.int .i64 x2))]) h) = (f40.j0T R a0 x1 x2 h) by kernel_rfl) H)
set_option maxRecDepth 100000 in
def f40.j3T (R : Value → Heap → Prop) (a0 : Addr) (x1 : Int) (x2 : Int) (b37 : Bool) (h : Heap) : Prop :=
  splitB b37 (R (Value.tuple #[(Value.int .i64 (0 : Int)), (Value.int .i64 (5 : Int))]) h) (f40.j2 R a0 x1 x2 h)
set_option maxRecDepth 100000 in
theorem f40.j3_in {R : Value → Heap → Prop} {a0 : Addr} {x1 : Int} {x2 : Int} {b37 : Bool} {h : Heap} (H : f40.j3T R a0 x1 x2 b37 h) : f40.j3 R a0 x1 x2 b37 h :=
  pt_intro mixed f40.good (Eq.mpr (show (Fwd Try.prog f40.T f40.kp Try.f40 R [true, false, true, true] (mkFr [(0, (Value.pointer (some a0))), (1, (Value.int .i64 x1)), (2, (Value.int .i64 x2)), (37, (Value.bool b37))]) h) = (f40.j3T R a0 x1 x2 b37 h) by kernel_rfl) H)
set_option maxRecDepth 100000 in
def f40.j2T (R : Value → Heap → Prop) (a0 : Addr) (x1 : Int) (x2 : Int) (h : Heap) : Prop :=
  ∃ v1_, ldv false 1 h (Addr.add a0 1) = some v1_ ∧ ∃ x2_, v1_ = (Value.int .i64 x2_) ∧ ∃ h3_, st1 h (Addr.add a0 1) (Value.int .i64 (IntKind.wrap .i64 (x2_ + (1 : Int)))) = some h3_ ∧ ∃ v4_, ldv false 1 h3_ a0 = some v4_ ∧ ∃ x5_, v4_ = (Value.int .i64 x5_) ∧ ∃ h6_, st1 h3_ (Addr.add a0 2) (Value.int .i64 x1) = some h6_ ∧ ∃ h7_, st1 h6_ (Addr.add a0 3) (Value.int .i64 (IntKind.wrap .i64 (x5_ + x2))) = some h7_ ∧ ∃ v8_, ldv false 1 h7_ (Addr.add a0 1) = some v8_ ∧ ∃ x9_, v8_ = (Value.int .i64 x9_) ∧ R (Value.tuple #[(Value.int .i64 x9_), (Value.int .i64 (0 : Int))]) h7_
set_option maxRecDepth 100000 in
theorem f40.j2_in {R : Value → Heap → Prop} {a0 : Addr} {x1 : Int} {x2 : Int} {h : Heap} (H : f40.j2T R a0 x1 x2 h) : f40.j2 R a0 x1 x2 h :=
  pt_intro mixed f40.good (Eq.mpr (show (Fwd Try.prog f40.T f40.kp Try.f40 R [true, true, true] (mkFr [(0, (Value.pointer (some a0))), (1, (Value.int .i64 x1)), (2, (Value.int .i64 x2))]) h) = (f40.j2T R a0 x1 x2 h) by kernel_rfl) H)
set_option maxRecDepth 100000 in
def f40.runT (R : Value → Heap → Prop) (a0 : Addr) (x1 : Int) (x2 : Int) (h : Heap) : Prop :=
  splitB (decide (x1 < (1 : Int))) (f40.j1 R a0 x1 x2 true h) (splitB (decide (x1 > (8 : Int))) (f40.j1 R a0 x1 x2 true h) (splitB (decide (x2 < (1 : Int))) (f40.j1 R a0 x1 x2 true h) (f40.j1 R a0 x1 x2 (decide (x2 > (1000 : Int))) h)))
set_option maxRecDepth 100000 in
theorem f40.run {R : Value → Heap → Prop} {a0 : Addr} {x1 : Int} {x2 : Int} {h : Heap} (H : f40.runT R a0 x1 x2 h) : Run Try.prog 40 #[(Value.pointer (some a0)), (Value.int .i64 x1), (Value.int .i64 x2)] h R :=
  run_of mixed Try.func40 (by kernel_rfl) (by kernel_rfl) f40.good (Eq.mpr (show (Fwd Try.prog f40.T f40.kp Try.f40 R [] (mkFr (argL [(Value.pointer (some a0)), (Value.int .i64 x1), (Value.int .i64 x2)] 0)) h) = (f40.runT R a0 x1 x2 h) by kernel_rfl) H)

/-! ### (*roadstead/roadref4.Lease).Last: function 41 -/
def f41.T : Tab := { sh := tSh, tup := tTup, keep := [], plan := [(1, (.take 0 (.take 1 (.take 2 (.take 4 (.take 5 (.take 6 (.take 3 (.take 7 (.take 8 (.take 9 (.take 10 (.take 11 .done)))))))))))))] }
def f41.kp : Keep := []
theorem f41.good : goodCode Try.prog f41.T (rootOf Try.f41) = true := by kernel_rfl
set_option maxRecDepth 100000 in
theorem f41.ok : calleeOk Try.prog 41 = true := by kernel_rfl
set_option maxRecDepth 100000 in
def f41.runT (R : Value → Heap → Prop) (a0 : Addr) (h : Heap) : Prop :=
  ∃ v1_, ldv false 1 h (Addr.add a0 1) = some v1_ ∧ ∃ A2_, ∃ n2_, ∃ c2_, v1_ = (Value.slice A2_ n2_ c2_) ∧ ∃ v3_, ldv false 1 h (Addr.add a0 1) = some v3_ ∧ ∃ A4_, ∃ n4_, ∃ c4_, v3_ = (Value.slice A4_ n4_ c4_) ∧ ptrOk A2_ fun a5_ => 0 ≤ (IntKind.wrap .i64 (((n4_ : Nat) : Int) - (1 : Int))) ∧ (IntKind.wrap .i64 (((n4_ : Nat) : Int) - (1 : Int))) < ((n2_ : Nat) : Int) ∧ (R (Value.pointer (some (Addr.add a5_ (Int.toNat (IntKind.wrap .i64 (((n4_ : Nat) : Int) - (1 : Int))) * 2)))) h)
set_option maxRecDepth 100000 in
theorem f41.run {R : Value → Heap → Prop} {a0 : Addr} {h : Heap} (H : f41.runT R a0 h) : Run Try.prog 41 #[(Value.pointer (some a0))] h R :=
  run_of mixed Try.func41 (by kernel_rfl) (by kernel_rfl) f41.good (Eq.mpr (show (Fwd Try.prog f41.T f41.kp Try.f41 R [] (mkFr (argL [(Value.pointer (some a0))] 0)) h) = (f41.runT R a0 h) by kernel_rfl) H)

/-! ### (*roadstead/fence.Lease).Tick: function 42 -/
def f42.T : Tab := { sh := tSh, tup := tTup, keep := [], plan := [] }
def f42.kp : Keep := [([true, true], [0, 1])]
theorem f42.good : goodCode Try.prog f42.T (rootOf Try.f42) = true := by kernel_rfl
set_option maxRecDepth 100000 in
theorem f42.ok : calleeOk Try.prog 42 = true := by kernel_rfl
def f42.j0 (R : Value → Heap → Prop) (a0 : Addr) (x1 : Int) (h : Heap) : Prop := Pt Try.prog Try.f42 R [true, true] (mkFr [(0, (Value.pointer (some a0))), (1, (Value.int .i64 x1))]) h
set_option maxRecDepth 100000 in
def f42.j0T (R : Value → Heap → Prop) (a0 : Addr) (x1 : Int) (h : Heap) : Prop :=
  ∃ v1_, ldv false 1 h a0 = some v1_ ∧ ∃ x2_, v1_ = (Value.int .i64 x2_) ∧ splitB (decide ((IntKind.wrap .i64 (x2_ + x1)) > (1099511627776 : Int))) (R (Value.int .i64 (2 : Int)) h) (∃ v3_, ldv false 1 h a0 = some v3_ ∧ ∃ x4_, v3_ = (Value.int .i64 x4_) ∧ ∃ h5_, st1 h a0 (Value.int .i64 (IntKind.wrap .i64 (x4_ + x1))) = some h5_ ∧ R (Value.int .i64 (0 : Int)) h5_)
set_option maxRecDepth 100000 in
theorem f42.j0_in {R : Value → Heap → Prop} {a0 : Addr} {x1 : Int} {h : Heap} (H : f42.j0T R a0 x1 h) : f42.j0 R a0 x1 h :=
  pt_intro mixed f42.good (Eq.mpr (show (Fwd Try.prog f42.T f42.kp Try.f42 R [true, true] (mkFr [(0, (Value.pointer (some a0))), (1, (Value.int .i64 x1))]) h) = (f42.j0T R a0 x1 h) by kernel_rfl) H)
set_option maxRecDepth 100000 in
def f42.runT (R : Value → Heap → Prop) (a0 : Addr) (x1 : Int) (h : Heap) : Prop :=
  splitB (decide (x1 < (0 : Int))) (R (Value.int .i64 (1 : Int)) h) (splitB (decide (x1 > (1000 : Int))) (R (Value.int .i64 (1 : Int)) h) (f42.j0 R a0 x1 h))
set_option maxRecDepth 100000 in
theorem f42.run {R : Value → Heap → Prop} {a0 : Addr} {x1 : Int} {h : Heap} (H : f42.runT R a0 x1 h) : Run Try.prog 42 #[(Value.pointer (some a0)), (Value.int .i64 x1)] h R :=
  run_of mixed Try.func42 (by kernel_rfl) (by kernel_rfl) f42.good (Eq.mpr (show (Fwd Try.prog f42.T f42.kp Try.f42 R [] (mkFr (argL [(Value.pointer (some a0)), (Value.int .i64 x1)] 0)) h) = (f42.runT R a0 x1 h) by kernel_rfl) H)

/-! ### (*roadstead/roadref4.Lease).Had: function 43 -/
def f43.T : Tab := { sh := tSh, tup := tTup, keep := [], plan := [(1, (.take 0 (.take 1 (.take 2 (.take 3 (.take 4 (.take 5 (.take 6 (.split 6 (.take 7 (.quiet true 8 (.take 9 (.take 10 (.take 11 (.take 12 (.take 13 (.take 14 (.split 14 (.take 15 (.take 16 (.take 17 (.take 19 (.take 18 (.quiet true 20 (.take 21 (.take 22 (.take 23 (.take 24 (.take 25 (.take 26 .done))))))))))))))))))))))))))))))] }
def f43.kp : Keep := []
theorem f43.good : goodCode Try.prog f43.T (rootOf Try.f43) = true := by kernel_rfl
set_option maxRecDepth 100000 in
theorem f43.ok : calleeOk Try.prog 43 = true := by kernel_rfl
set_option maxRecDepth 100000 in
def f43.runT (R : Value → Heap → Prop) (a0 : Addr) (h : Heap) : Prop :=
  ∃ v1_, ldv false 1 h (Addr.add a0 1) = some v1_ ∧ ∃ A2_, ∃ n2_, ∃ c2_, v1_ = (Value.slice A2_ n2_ c2_) ∧ splitB (decide (((n2_ : Nat) : Int) > (0 : Int))) (∃ v3_, (Run Try.prog 41 #[(Value.pointer (some a0))] h fun v4_ h5_ => v4_ = v3_ ∧ h5_ = h) ∧ ∃ p6_, v3_ = (Value.pointer p6_) ∧ ptrOk p6_ fun a7_ => ∃ v8_, ldv false 1 h a7_ = some v8_ ∧ ∃ x9_, v8_ = (Value.int .i64 x9_) ∧ splitB (decide (x9_ > (0 : Int))) (∃ v10_, ldv false 1 h a0 = some v10_ ∧ ∃ x11_, v10_ = (Value.int .i64 x11_) ∧ ∃ v12_, (Run Try.prog 41 #[(Value.pointer (some a0))] h fun v13_ h14_ => v13_ = v12_ ∧ h14_ = h) ∧ ∃ p15_, v12_ = (Value.pointer p15_) ∧ ptrOk p15_ fun a16_ => ∃ v17_, ldv false 1 h (Addr.add a16_ 1) = some v17_ ∧ ∃ x18_, v17_ = (Value.int .i64 x18_) ∧ R (Value.bool (decide (x11_ < x18_))) h) (R (Value.bool false) h)) (R (Value.bool false) h)
set_option maxRecDepth 100000 in
theorem f43.run {R : Value → Heap → Prop} {a0 : Addr} {h : Heap} (H : f43.runT R a0 h) : Run Try.prog 43 #[(Value.pointer (some a0))] h R :=
  run_of mixed Try.func43 (by kernel_rfl) (by kernel_rfl) f43.good (Eq.mpr (show (Fwd Try.prog f43.T f43.kp Try.f43 R [] (mkFr (argL [(Value.pointer (some a0))] 0)) h) = (f43.runT R a0 h) by kernel_rfl) H)

/-! ### (*roadstead/fence.Lease).Keep: function 44 -/
def f44.T : Tab := { sh := tSh, tup := tTup, keep := [], plan := [(5, (.take 0 (.take 1 (.take 2 (.take 4 (.take 5 (.take 6 (.take 3 (.take 7 (.take 8 .done)))))))))), (7, (.take 0 (.take 1 (.take 2 (.take 3 (.take 5 (.take 6 (.take 7 (.take 9 (.take 4 (.take 8 (.take 10 (.take 11 (.take 12 (.take 13 (.eff false 14 .done))))))))))))))))] }
def f44.kp : Keep := [([true, true], [0, 1, 2, 3]), ([true, true, true], [0, 3])]
theorem f44.good : goodCode Try.prog f44.T (rootOf Try.f44) = true := by kernel_rfl
set_option maxRecDepth 100000 in
theorem f44.ok : calleeOk Try.prog 44 = true := by kernel_rfl
def f44.j0 (R : Value → Heap → Prop) (a0 : Addr) (x1 : Int) (x2 : Int) (x3 : Int) (h : Heap) : Prop := Pt Try.prog Try.f44 R [true, true] (mkFr [(0, (Value.pointer (some a0))), (1, (Value.int .i64 x1)), (2, (Value.int .i64 x2)), (3, (Value.int .i64 x3))]) h
def f44.j1 (R : Value → Heap → Prop) (a0 : Addr) (x3 : Int) (h : Heap) : Prop := Pt Try.prog Try.f44 R [true, true, true] (mkFr [(0, (Value.pointer (some a0))), (3, (Value.int .i64 x3))]) h
set_option maxRecDepth 100000 in
def f44.j0T (R : Value → Heap → Prop) (a0 : Addr) (x1 : Int) (x2 : Int) (x3 : Int) (h : Heap) : Prop :=
  ∃ v1_, ldv false 1 h (Addr.add a0 2) = some v1_ ∧ ∃ x2_, v1_ = (Value.int .i64 x2_) ∧ splitB (x2_ != x1) (R (Value.int .i64 (4 : Int)) h) (∃ v3_, ldv false 1 h (Addr.add a0 1) = some v3_ ∧ ∃ x4_, v3_ = (Value.int .i64 x4_) ∧ splitB (x4_ != x2) (R (Value.int .i64 (4 : Int)) h) (splitB (x1 == (0 : Int)) (R (Value.int .i64 (4 : Int)) h) (f44.j1 R a0 x3 h)))
set_option maxRecDepth 100000 in
theorem f44.j0_in {R : Value → Heap → Prop} {a0 : Addr} {x1 : Int} {x2 : Int} {x3 : Int} {h : Heap} (H : f44.j0T R a0 x1 x2 x3 h) : f44.j0 R a0 x1 x2 x3 h :=
  pt_intro mixed f44.good (Eq.mpr (show (Fwd Try.prog f44.T f44.kp Try.f44 R [true, true] (mkFr [(0, (Value.pointer (some a0))), (1, (Value.int .i64 x1)), (2, (Value.int .i64 x2)), (3, (Value.int .i64 x3))]) h) = (f44.j0T R a0 x1 x2 x3 h) by kernel_rfl) H)
set_option maxRecDepth 100000 in
def f44.j1T (R : Value → Heap → Prop) (a0 : Addr) (x3 : Int) (h : Heap) : Prop :=
  ∃ v1_, ldv false 1 h a0 = some v1_ ∧ ∃ x2_, v1_ = (Value.int .i64 x2_) ∧ ∃ v3_, ldv false 1 h (Addr.add a0 3) = some v3_ ∧ ∃ x4_, v3_ = (Value.int .i64 x4_) ∧ splitB (decide (x2_ ≥ x4_)) (R (Value.int .i64 (23 : Int)) h) (∃ v5_, ldv false 1 h (Addr.add a0 3) = some v5_ ∧ ∃ x6_, v5_ = (Value.int .i64 x6_) ∧ ∃ v7_, ldv false 1 h a0 = some v7_ ∧ ∃ x8_, v7_ = (Value.int .i64 x8_) ∧ ∃ h9_, st1 h (Addr.add a0 3) (Value.int .i64 (if (IntKind.wrap .i64 (x8_ + x3)) > x6_ then (IntKind.wrap .i64 (x8_ + x3)) else x6_)) = some h9_ ∧ R (Value.int .i64 (0 : Int)) h9_)
set_option maxRecDepth 100000 in
theorem f44.j1_in {R : Value → Heap → Prop} {a0 : Addr} {x3 : Int} {h : Heap} (H : f44.j1T R a0 x3 h) : f44.j1 R a0 x3 h :=
  pt_intro mixed f44.good (Eq.mpr (show (Fwd Try.prog f44.T f44.kp Try.f44 R [true, true, true] (mkFr [(0, (Value.pointer (some a0))), (3, (Value.int .i64 x3))]) h) = (f44.j1T R a0 x3 h) by kernel_rfl) H)
set_option maxRecDepth 100000 in
def f44.runT (R : Value → Heap → Prop) (a0 : Addr) (x1 : Int) (x2 : Int) (x3 : Int) (h : Heap) : Prop :=
  splitB (decide (x3 < (1 : Int))) (R (Value.int .i64 (1 : Int)) h) (splitB (decide (x3 > (1000 : Int))) (R (Value.int .i64 (1 : Int)) h) (f44.j0 R a0 x1 x2 x3 h))
set_option maxRecDepth 100000 in
theorem f44.run {R : Value → Heap → Prop} {a0 : Addr} {x1 : Int} {x2 : Int} {x3 : Int} {h : Heap} (H : f44.runT R a0 x1 x2 x3 h) : Run Try.prog 44 #[(Value.pointer (some a0)), (Value.int .i64 x1), (Value.int .i64 x2), (Value.int .i64 x3)] h R :=
  run_of mixed Try.func44 (by kernel_rfl) (by kernel_rfl) f44.good (Eq.mpr (show (Fwd Try.prog f44.T f44.kp Try.f44 R [] (mkFr (argL [(Value.pointer (some a0)), (Value.int .i64 x1), (Value.int .i64 x2), (Value.int .i64 x3)] 0)) h) = (f44.runT R a0 x1 x2 x3 h) by kernel_rfl) H)

/-! ### (*roadstead/fence.Lease).Who: function 45 -/
def f45.T : Tab := { sh := tSh, tup := tTup, keep := [], plan := [(1, (.take 0 (.take 1 (.take 2 (.take 3 (.take 4 (.take 5 (.split 5 (.take 6 (.take 7 (.take 8 (.take 10 (.take 11 (.take 12 (.take 9 (.take 13 (.take 14 (.take 15 .done)))))))))))))))))), (2, (.take 0 (.take 1 (.take 2 (.take 4 (.take 3 (.take 5 (.take 6 .done)))))))), (3, (.take 0 (.take 1 (.take 2 (.take 4 (.take 5 (.take 6 (.take 8 (.take 9 (.take 10 (.take 12 (.take 13 (.take 14 (.take 3 (.take 17 (.take 7 (.take 18 (.take 11 (.take 15 (.take 16 (.take 19 .done)))))))))))))))))))))] }
def f45.kp : Keep := [([true, false, true], [0, 20]), ([true, true], [0])]
theorem f45.good : goodCode Try.prog f45.T (rootOf Try.f45) = true := by kernel_rfl
set_option maxRecDepth 100000 in
theorem f45.ok : calleeOk Try.prog 45 = true := by kernel_rfl
def f45.j1 (R : Value → Heap → Prop) (a0 : Addr) (b20 : Bool) (h : Heap) : Prop := Pt Try.prog Try.f45 R [true, false, true] (mkFr [(0, (Value.pointer (some a0))), (20, (Value.bool b20))]) h
def f45.j0 (R : Value → Heap → Prop) (a0 : Addr) (h : Heap) : Prop := Pt Try.prog Try.f45 R [true, true] (mkFr [(0, (Value.pointer (some a0)))]) h
set_option maxRecDepth 100000 in
def f45.j1T (R : Value → Heap → Prop) (a0 : Addr) (b20 : Bool) (h : Heap) : Prop :=
  splitB b20 (∃ v1_, ldv false 1 h (Addr.add a0 1) = some v1_ ∧ ∃ x2_, v1_ = (Value.int .i64 x2_) ∧ R (Value.tuple #[(Value.int .i64 (0 : Int)), (Value.int .i64 x2_), (Value.int .i64 (0 : Int))]) h) (f45.j0 R a0 h)
set_option maxRecDepth 100000 in
theorem f45.j1_in {R : Value → Heap → Prop} {a0 : Addr} {b20 : Bool} {h : Heap} (H : f45.j1T R a0 b20 h) : f45.j1 R a0 b20 h :=
  pt_intro mixed f45.good (Eq.mpr (show (Fwd Try.prog f45.T f45.kp Try.f45 R [true, false, true] (mkFr [(0, (Value.pointer (some a0))), (20, (Value.bool b20))]) h) = (f45.j1T R a0 b20 h) by kernel_rfl) H)
set_option maxRecDepth 100000 in
def f45.j0T (R : Value → Heap → Prop) (a0 : Addr) (h : Heap) : Prop :=
  ∃ v1_, ldv false 1 h (Addr.add a0 2) = some v1_ ∧ ∃ x2_, v1_ = (Value.int .i64 x2_) ∧ ∃ v3_, ldv false 1 h (Addr.add a0 1) = some v3_ ∧ ∃ x4_, v3_ = (Value.int .i64 x4_) ∧ ∃ v5_, ldv false 1 h (Addr.add a0 3) = some v5_ ∧ ∃ x6_, v5_ = (Value.int .i64 x6_) ∧ ∃ v7_, ldv false 1 h a0 = some v7_ ∧ ∃ x8_, v7_ = (Value.int .i64 x8_) ∧ R (Value.tuple #[(Value.int .i64 x2_), (Value.int .i64 x4_), (Value.int .i64 (IntKind.wrap .i64 (x6_ - x8_)))]) h
set_option maxRecDepth 100000 in
theorem f45.j0_in {R : Value → Heap → Prop} {a0 : Addr} {h : Heap} (H : f45.j0T R a0 h) : f45.j0 R a0 h :=
  pt_intro mixed f45.good (Eq.mpr (show (Fwd Try.prog f45.T f45.kp Try.f45 R [true, true] (mkFr [(0, (Value.pointer (some a0)))]) h) = (f45.j0T R a0 h) by kernel_rfl) H)
set_option maxRecDepth 100000 in
def f45.runT (R : Value → Heap → Prop) (a0 : Addr) (h : Heap) : Prop :=
  ∃ v1_, ldv false 1 h (Addr.add a0 2) = some v1_ ∧ ∃ x2_, v1_ = (Value.int .i64 x2_) ∧ splitB (x2_ == (0 : Int)) (f45.j1 R a0 true h) (∃ v3_, ldv false 1 h a0 = some v3_ ∧ ∃ x4_, v3_ = (Value.int .i64 x4_) ∧ ∃ v5_, ldv false 1 h (Addr.add a0 3) = some v5_ ∧ ∃ x6_, v5_ = (Value.int .i64 x6_) ∧ f45.j1 R a0 (decide (x4_ ≥ x6_)) h)
set_option maxRecDepth 100000 in
theorem f45.run {R : Value → Heap → Prop} {a0 : Addr} {h : Heap} (H : f45.runT R a0 h) : Run Try.prog 45 #[(Value.pointer (some a0))] h R :=
  run_of mixed Try.func45 (by kernel_rfl) (by kernel_rfl) f45.good (Eq.mpr (show (Fwd Try.prog f45.T f45.kp Try.f45 R [] (mkFr (argL [(Value.pointer (some a0))] 0)) h) = (f45.runT R a0 h) by kernel_rfl) H)

/-! ### roadstead/roadlaw4.FencePlays: function 7 -/
def f7.T : Tab := { sh := tSh, tup := tTup, keep := [], plan := [(26, (.take 0 (.take 1 (.take 2 (.take 3 (.take 5 (.take 6 (.take 7 (.take 8 (.take 10 (.take 4 (.take 9 (.take 11 (.eff true 12 (.eff true 13 (.eff false 14 (.take 15 (.take 16 (.eff false 17 .done))))))))))))))))))), (35, (.take 0 (.take 2 (.take 7 (.take 8 (.take 9 (.take 11 (.take 10 (.take 12 (.quiet false 1 (.quiet false 3 (.take 4 (.take 5 (.take 6 (.take 13 (.take 14 (.take 15 (.eff false 16 .done)))))))))))))))))), (52, (.take 0 (.take 1 (.quiet true 2 (.take 3 (.take 4 (.take 5 (.take 6 (.take 7 (.split 7 (.take 8 (.take 9 (.take 14 (.take 15 (.take 16 (.take 17 (.quiet true 10 (.take 11 (.take 12 (.take 13 (.take 18 (.take 19 (.take 20 .done)))))))))))))))))))))))] }
def f7.kp : Keep := [([true, true, false, true], [0, 3, 27]), ([true, true], [0]), ([false, false, true, false, true, true, true, true], [6, 7, 42, 43, 44]), ([true, true, true, true, false, false, true, true, false, false, true, false, true, true, true, true], [6, 7, 9, 10, 11, 12, 13, 14, 15, 42, 43, 44]), ([true, false, true, false, true, false, true, false, true, true, true, true, false, false, true, true, false, false, true, false, true, true, true, true], [6, 7, 10, 13, 14, 42, 43, 44, 97]), ([true, false, true, true, false, true, true, true, false, true, false, true, true, true, true, false, false, true, true, false, false, true, false, true, true, true, true], [6, 7, 10, 11, 13, 14, 16, 42, 43, 44, 145]), ([true, false, true, false, true, true, true, true, true, false, true, false, true, true, true, true, false, false, true, true, false, false, true, false, true, true, true, true], [6, 7, 12, 13, 14, 15, 42, 43, 44, 186]), ([true, true, true, true, true, false, false, true, true, false, false, true, false, true, true, true, true], [6, 7, 13, 14, 42, 43, 44]), ([true, true, true, true, true, true, true, false, false, true, true, false, false, true, false, true, true, true, true], [6, 7, 17, 19, 42, 43, 44])]
theorem f7.good : goodCode Try.prog f7.T (rootOf Try.f7) = true := by kernel_rfl
set_option maxRecDepth 100000 in
theorem f7.ok : calleeOk Try.prog 7 = true := by kernel_rfl
def f7.j1 (R : Value → Heap → Prop) (A0 : Option Addr) (n0 : Nat) (c0 : Nat) (p3 : Option Addr) (b27 : Bool) (h : Heap) : Prop := Pt Try.prog Try.f7 R [true, true, false, true] (mkFr [(0, (Value.slice A0 n0 c0)), (3, (Value.pointer p3)), (27, (Value.bool b27))]) h
def f7.j0 (R : Value → Heap → Prop) (A0 : Option Addr) (n0 : Nat) (c0 : Nat) (h : Heap) : Prop := Pt Try.prog Try.f7 R [true, true] (mkFr [(0, (Value.slice A0 n0 c0))]) h
def f7.l0 (R : Value → Heap → Prop) (p6 : Option Addr) (a7 : Addr) (A42 : Option Addr) (n42 : Nat) (c42 : Nat) (x43 : Int) (x44 : Int) (h : Heap) : Prop := Pt Try.prog Try.f7 R [false, false, true, false, true, true, true, true] (mkFr [(6, (Value.pointer p6)), (7, (Value.pointer (some a7))), (42, (Value.slice A42 n42 c42)), (43, (Value.int .i64 x43)), (44, (Value.int .i64 x44))]) h
def f7.j2 (R : Value → Heap → Prop) (p6 : Option Addr) (a7 : Addr) (A9 : Option Addr) (n9 : Nat) (c9 : Nat) (x10 : Int) (x11 : Int) (x12 : Int) (x13 : Int) (x14 : Int) (b15 : Bool) (A42 : Option Addr) (n42 : Nat) (c42 : Nat) (x43 : Int) (x44 : Int) (h : Heap) : Prop := Pt Try.prog Try.f7 R [true, true, true, true, false, false, true, true, false, false, true, false, true, true, true, true] (mkFr [(6, (Value.pointer p6)), (7, (Value.pointer (some a7))), (9, (Value.slice A9 n9 c9)), (10, (Value.int .i64 x10)), (11, (Value.int .i64 x11)), (12, (Value.int .i64 x12)), (13, (Value.int .i64 x13)), (14, (Value.int .i64 x14)), (15, (Value.bool b15)), (42, (Value.slice A42 n42 c42)), (43, (Value.int .i64 x43)), (44, (Value.int .i64 x44))]) h
def f7.j5 (R : Value → Heap → Prop) (p6 : Option Addr) (a7 : Addr) (x10 : Int) (x13 : Int) (x14 : Int) (A42 : Option Addr) (n42 : Nat) (c42 : Nat) (x43 : Int) (x44 : Int) (b97 : Bool) (h : Heap) : Prop := Pt Try.prog Try.f7 R [true, false, true, false, true, false, true, false, true, true, true, true, false, false, true, true, false, false, true, false, true, true, true, true] (mkFr [(6, (Value.pointer p6)), (7, (Value.pointer (some a7))), (10, (Value.int .i64 x10)), (13, (Value.int .i64 x13)), (14, (Value.int .i64 x14)), (42, (Value.slice A42 n42 c42)), (43, (Value.int .i64 x43)), (44, (Value.int .i64 x44)), (97, (Value.bool b97))]) h
def f7.j6 (R : Value → Heap → Prop) (p6 : Option Addr) (a7 : Addr) (x10 : Int) (x11 : Int) (x13 : Int) (x14 : Int) (x16 : Int) (A42 : Option Addr) (n42 : Nat) (c42 : Nat) (x43 : Int) (x44 : Int) (b145 : Bool) (h : Heap) : Prop := Pt Try.prog Try.f7 R [true, false, true, true, false, true, true, true, false, true, false, true, true, true, true, false, false, true, true, false, false, true, false, true, true, true, true] (mkFr [(6, (Value.pointer p6)), (7, (Value.pointer (some a7))), (10, (Value.int .i64 x10)), (11, (Value.int .i64 x11)), (13, (Value.int .i64 x13)), (14, (Value.int .i64 x14)), (16, (Value.int .i64 x16)), (42, (Value.slice A42 n42 c42)), (43, (Value.int .i64 x43)), (44, (Value.int .i64 x44)), (145, (Value.bool b145))]) h
def f7.j7 (R : Value → Heap → Prop) (p6 : Option Addr) (a7 : Addr) (x12 : Int) (x13 : Int) (x14 : Int) (b15 : Bool) (A42 : Option Addr) (n42 : Nat) (c42 : Nat) (x43 : Int) (x44 : Int) (b186 : Bool) (h : Heap) : Prop := Pt Try.prog Try.f7 R [true, false, true, false, true, true, true, true, true, false, true, false, true, true, true, true, false, false, true, true, false, false, true, false, true, true, true, true] (mkFr [(6, (Value.pointer p6)), (7, (Value.pointer (some a7))), (12, (Value.int .i64 x12)), (13, (Value.int .i64 x13)), (14, (Value.int .i64 x14)), (15, (Value.bool b15)), (42, (Value.slice A42 n42 c42)), (43, (Value.int .i64 x43)), (44, (Value.int .i64 x44)), (186, (Value.bool b186))]) h
def f7.j3 (R : Value → Heap → Prop) (p6 : Option Addr) (a7 : Addr) (x13 : Int) (x14 : Int) (A42 : Option Addr) (n42 : Nat) (c42 : Nat) (x43 : Int) (x44 : Int) (h : Heap) : Prop := Pt Try.prog Try.f7 R [true, true, true, true, true, false, false, true, true, false, false, true, false, true, true, true, true] (mkFr [(6, (Value.pointer p6)), (7, (Value.pointer (some a7))), (13, (Value.int .i64 x13)), (14, (Value.int .i64 x14)), (42, (Value.slice A42 n42 c42)), (43, (Value.int .i64 x43)), (44, (Value.int .i64 x44))]) h
def f7.j4 (R : Value → Heap → Prop) (p6 : Option Addr) (a7 : Addr) (x17 : Int) (x19 : Int) (A42 : Option Addr) (n42 : Nat) (c42 : Nat) (x43 : Int) (x44 : Int) (h : Heap) : Prop := Pt Try.prog Try.f7 R [true, true, true, true, true, true, true, false, false, true, true, false, false, true, false, true, true, true, true] (mkFr [(6, (Value.pointer p6)), (7, (Value.pointer (some a7))), (17, (Value.int .i64 x17)), (19, (Value.int .i64 x19)), (42, (Value.slice A42 n42 c42)), (43, (Value.int .i64 x43)), (44, (Value.int .i64 x44))]) h
set_option maxRecDepth 100000 in
def f7.j1T (R : Value → Heap → Prop) (A0 : Option Addr) (n0 : Nat) (c0 : Nat) (p3 : Option Addr) (b27 : Bool) (h : Heap) : Prop :=
  splitB b27 (R (Value.bool false) h) (Run Try.prog 40 #[(Value.pointer p3), (Value.int .i64 (3 : Int)), (Value.int .i64 (5 : Int))] h fun v1_ h2_ => ∃ x3_, ∃ x4_, v1_ = (Value.tuple #[(Value.int .i64 x3_), (Value.int .i64 x4_)]) ∧ splitB (x4_ != (0 : Int)) (R (Value.bool false) h2_) (splitB (x3_ != (1 : Int)) (R (Value.bool false) h2_) (f7.j0 R A0 n0 c0 h2_)))
set_option maxRecDepth 100000 in
theorem f7.j1_in {R : Value → Heap → Prop} {A0 : Option Addr} {n0 : Nat} {c0 : Nat} {p3 : Option Addr} {b27 : Bool} {h : Heap} (H : f7.j1T R A0 n0 c0 p3 b27 h) : f7.j1 R A0 n0 c0 p3 b27 h :=
  pt_intro mixed f7.good (Eq.mpr (show (Fwd Try.prog f7.T f7.kp Try.f7 R [true, true, false, true] (mkFr [(0, (Value.slice A0 n0 c0)), (3, (Value.pointer p3)), (27, (Value.bool b27))]) h) = (f7.j1T R A0 n0 c0 p3 b27 h) by kernel_rfl) H)
set_option maxRecDepth 100000 in
def f7.j0T (R : Value → Heap → Prop) (A0 : Option Addr) (n0 : Nat) (c0 : Nat) (h : Heap) : Prop :=
  Run Try.prog 38 #[] h fun v1_ h2_ => ∃ p3_, v1_ = (Value.pointer p3_) ∧ newH h2_ (Obj.cells #[(Value.int .i64 (0 : Int)), (Value.slice none 0 0)] 63) fun h4_ => f7.l0 R p3_ (⟨Array.size h2_, 0, none⟩) A0 n0 c0 ((n0 : Nat) : Int) (0 : Int) h4_
set_option maxRecDepth 100000 in
theorem f7.j0_in {R : Value → Heap → Prop} {A0 : Option Addr} {n0 : Nat} {c0 : Nat} {h : Heap} (H : f7.j0T R A0 n0 c0 h) : f7.j0 R A0 n0 c0 h :=
  pt_intro mixed f7.good (Eq.mpr (show (Fwd Try.prog f7.T f7.kp Try.f7 R [true, true] (mkFr [(0, (Value.slice A0 n0 c0))]) h) = (f7.j0T R A0 n0 c0 h) by kernel_rfl) H)
set_option maxRecDepth 100000 in
def f7.l0T (R : Value → Heap → Prop) (p6 : Option Addr) (a7 : Addr) (A42 : Option Addr) (n42 : Nat) (c42 : Nat) (x43 : Int) (x44 : Int) (h : Heap) : Prop :=
  splitB (decide (x44 < x43)) (ptrOk A42 fun a1_ => 0 ≤ x44 ∧ x44 < ((n42 : Nat) : Int) ∧ (∃ v2_, ldv false 1 h (Addr.add a1_ (Int.toNat x44 * 1)) = some v2_ ∧ ∃ A3_, ∃ n3_, ∃ c3_, v2_ = (Value.slice A3_ n3_ c3_) ∧ Run Try.prog 17 #[(Value.slice A3_ n3_ c3_), (Value.int .i64 (1 : Int))] h fun v4_ h5_ => ∃ x6_, v4_ = (Value.int .i64 x6_) ∧ Run Try.prog 17 #[(Value.slice A3_ n3_ c3_), (Value.int .i64 (2 : Int))] h5_ fun v7_ h8_ => ∃ x9_, v7_ = (Value.int .i64 x9_) ∧ Run Try.prog 17 #[(Value.slice A3_ n3_ c3_), (Value.int .i64 (3 : Int))] h8_ fun v10_ h11_ => ∃ x12_, v10_ = (Value.int .i64 x12_) ∧ ∃ v13_, ldv false 1 h11_ (Addr.add a7 1) = some v13_ ∧ ∃ A14_, ∃ n14_, ∃ c14_, v13_ = (Value.slice A14_ n14_ c14_) ∧ splitB (decide (((n14_ : Nat) : Int) > (0 : Int))) (splitB (decide (x6_ > (0 : Int))) (Run Try.prog 41 #[(Value.pointer (some a7))] h11_ fun v15_ h16_ => ∃ p17_, v15_ = (Value.pointer p17_) ∧ ptrOk p17_ fun a18_ => ∃ v19_, ldv false 1 h16_ a18_ = some v19_ ∧ ∃ x20_, v19_ = (Value.int .i64 x20_) ∧ splitB (x20_ == x6_) (∃ v21_, ldv false 1 h16_ (Addr.add a7 1) = some v21_ ∧ ∃ A22_, ∃ n22_, ∃ c22_, v21_ = (Value.slice A22_ n22_ c22_) ∧ f7.j2 R p6 a7 A3_ n3_ c3_ x6_ x9_ x12_ (0 : Int) (0 : Int) (x9_ == ((n22_ : Nat) : Int)) A42 n42 c42 x43 x44 h16_) (f7.j2 R p6 a7 A3_ n3_ c3_ x6_ x9_ x12_ (0 : Int) (0 : Int) false A42 n42 c42 x43 x44 h16_)) (f7.j2 R p6 a7 A3_ n3_ c3_ x6_ x9_ x12_ (0 : Int) (0 : Int) false A42 n42 c42 x43 x44 h11_)) (f7.j2 R p6 a7 A3_ n3_ c3_ x6_ x9_ x12_ (0 : Int) (0 : Int) false A42 n42 c42 x43 x44 h11_))) (R (Value.bool true) h)
set_option maxRecDepth 100000 in
theorem f7.l0_in {R : Value → Heap → Prop} {p6 : Option Addr} {a7 : Addr} {A42 : Option Addr} {n42 : Nat} {c42 : Nat} {x43 : Int} {x44 : Int} {h : Heap} (H : f7.l0T R p6 a7 A42 n42 c42 x43 x44 h) : f7.l0 R p6 a7 A42 n42 c42 x43 x44 h :=
  pt_intro mixed f7.good (Eq.mpr (show (Fwd Try.prog f7.T f7.kp Try.f7 R [false, false, true, false, true, true, true, true] (mkFr [(6, (Value.pointer p6)), (7, (Value.pointer (some a7))), (42, (Value.slice A42 n42 c42)), (43, (Value.int .i64 x43)), (44, (Value.int .i64 x44))]) h) = (f7.l0T R p6 a7 A42 n42 c42 x43 x44 h) by kernel_rfl) H)
set_option maxRecDepth 100000 in
def f7.j2T (R : Value → Heap → Prop) (p6 : Option Addr) (a7 : Addr) (A9 : Option Addr) (n9 : Nat) (c9 : Nat) (x10 : Int) (x11 : Int) (x12 : Int) (x13 : Int) (x14 : Int) (b15 : Bool) (A42 : Option Addr) (n42 : Nat) (c42 : Nat) (x43 : Int) (x44 : Int) (h : Heap) : Prop :=
  Run Try.prog 17 #[(Value.slice A9 n9 c9), (Value.int .i64 (0 : Int))] h fun v1_ h2_ => ∃ x3_, v1_ = (Value.int .i64 x3_) ∧ splitB (x3_ == (1 : Int)) (Run Try.prog 42 #[(Value.pointer p6), (Value.int .i64 x10)] h2_ fun v4_ h5_ => ∃ x6_, v4_ = (Value.int .i64 x6_) ∧ splitB (decide (x10 < (0 : Int))) (f7.j5 R p6 a7 x10 x6_ x14 A42 n42 c42 x43 x44 true h5_) (f7.j5 R p6 a7 x10 x6_ x14 A42 n42 c42 x43 x44 (decide (x10 > (1000 : Int))) h5_)) (splitB (x3_ == (2 : Int)) (Run Try.prog 40 #[(Value.pointer p6), (Value.int .i64 x10), (Value.int .i64 x11)] h2_ fun v7_ h8_ => ∃ x9_, ∃ x10_, v7_ = (Value.tuple #[(Value.int .i64 x9_), (Value.int .i64 x10_)]) ∧ splitB (decide (x10 < (1 : Int))) (f7.j6 R p6 a7 x10 x11 x10_ x14 x9_ A42 n42 c42 x43 x44 true h8_) (splitB (decide (x10 > (8 : Int))) (f7.j6 R p6 a7 x10 x11 x10_ x14 x9_ A42 n42 c42 x43 x44 true h8_) (splitB (decide (x11 < (1 : Int))) (f7.j6 R p6 a7 x10 x11 x10_ x14 x9_ A42 n42 c42 x43 x44 true h8_) (f7.j6 R p6 a7 x10 x11 x10_ x14 x9_ A42 n42 c42 x43 x44 (decide (x11 > (1000 : Int))) h8_)))) (splitB (x3_ == (3 : Int)) (Run Try.prog 44 #[(Value.pointer p6), (Value.int .i64 x10), (Value.int .i64 x11), (Value.int .i64 x12)] h2_ fun v11_ h12_ => ∃ x13_, v11_ = (Value.int .i64 x13_) ∧ splitB (decide (x12 < (1 : Int))) (f7.j7 R p6 a7 x12 x13_ x14 b15 A42 n42 c42 x43 x44 true h12_) (f7.j7 R p6 a7 x12 x13_ x14 b15 A42 n42 c42 x43 x44 (decide (x12 > (1000 : Int))) h12_)) (splitB (x3_ == (4 : Int)) (Run Try.prog 39 #[(Value.pointer p6), (Value.int .i64 x10), (Value.int .i64 x11)] h2_ fun v14_ h15_ => ∃ x16_, v14_ = (Value.int .i64 x16_) ∧ splitB b15 (Run Try.prog 41 #[(Value.pointer (some a7))] h15_ fun v17_ h18_ => ∃ p19_, v17_ = (Value.pointer p19_) ∧ ptrOk p19_ fun a20_ => ∃ h21_, st1 h18_ a20_ (Value.int .i64 (0 : Int)) = some h21_ ∧ f7.j3 R p6 a7 x16_ (0 : Int) A42 n42 c42 x43 x44 h21_) (f7.j3 R p6 a7 x16_ (4 : Int) A42 n42 c42 x43 x44 h15_)) (f7.j3 R p6 a7 x13 x14 A42 n42 c42 x43 x44 h2_))))
set_option maxRecDepth 100000 in
theorem f7.j2_in {R : Value → Heap → Prop} {p6 : Option Addr} {a7 : Addr} {A9 : Option Addr} {n9 : Nat} {c9 : Nat} {x10 : Int} {x11 : Int} {x12 : Int} {x13 : Int} {x14 : Int} {b15 : Bool} {A42 : Option Addr} {n42 : Nat} {c42 : Nat} {x43 : Int} {x44 : Int} {h : Heap} (H : f7.j2T R p6 a7 A9 n9 c9 x10 x11 x12 x13 x14 b15 A42 n42 c42 x43 x44 h) : f7.j2 R p6 a7 A9 n9 c9 x10 x11 x12 x13 x14 b15 A42 n42 c42 x43 x44 h :=
  pt_intro mixed f7.good (Eq.mpr (show (Fwd Try.prog f7.T f7.kp Try.f7 R [true, true, true, true, false, false, true, true, false, false, true, false, true, true, true, true] (mkFr [(6, (Value.pointer p6)), (7, (Value.pointer (some a7))), (9, (Value.slice A9 n9 c9)), (10, (Value.int .i64 x10)), (11, (Value.int .i64 x11)), (12, (Value.int .i64 x12)), (13, (Value.int .i64 x13)), (14, (Value.int .i64 x14)), (15, (Value.bool b15)), (42, (Value.slice A42 n42 c42)), (43, (Value.int .i64 x43)), (44, (Value.int .i64 x44))]) h) = (f7.j2T R p6 a7 A9 n9 c9 x10 x11 x12 x13 x14 b15 A42 n42 c42 x43 x44 h) by kernel_rfl) H)
set_option maxRecDepth 100000 in
def f7.j5T (R : Value → Heap → Prop) (p6 : Option Addr) (a7 : Addr) (x10 : Int) (x13 : Int) (x14 : Int) (A42 : Option Addr) (n42 : Nat) (c42 : Nat) (x43 : Int) (x44 : Int) (b97 : Bool) (h : Heap) : Prop :=
  splitB b97 (f7.j3 R p6 a7 x13 (1 : Int) A42 n42 c42 x43 x44 h) (∃ v1_, ldv false 1 h a7 = some v1_ ∧ ∃ x2_, v1_ = (Value.int .i64 x2_) ∧ splitB (decide ((IntKind.wrap .i64 (x2_ + x10)) > (1099511627776 : Int))) (f7.j3 R p6 a7 x13 (2 : Int) A42 n42 c42 x43 x44 h) (∃ v3_, ldv false 1 h a7 = some v3_ ∧ ∃ x4_, v3_ = (Value.int .i64 x4_) ∧ ∃ h5_, st1 h a7 (Value.int .i64 (IntKind.wrap .i64 (x4_ + x10))) = some h5_ ∧ f7.j3 R p6 a7 x13 x14 A42 n42 c42 x43 x44 h5_))
set_option maxRecDepth 100000 in
theorem f7.j5_in {R : Value → Heap → Prop} {p6 : Option Addr} {a7 : Addr} {x10 : Int} {x13 : Int} {x14 : Int} {A42 : Option Addr} {n42 : Nat} {c42 : Nat} {x43 : Int} {x44 : Int} {b97 : Bool} {h : Heap} (H : f7.j5T R p6 a7 x10 x13 x14 A42 n42 c42 x43 x44 b97 h) : f7.j5 R p6 a7 x10 x13 x14 A42 n42 c42 x43 x44 b97 h :=
  pt_intro mixed f7.good (Eq.mpr (show (Fwd Try.prog f7.T f7.kp Try.f7 R [true, false, true, false, true, false, true, false, true, true, true, true, false, false, true, true, false, false, true, false, true, true, true, true] (mkFr [(6, (Value.pointer p6)), (7, (Value.pointer (some a7))), (10, (Value.int .i64 x10)), (13, (Value.int .i64 x13)), (14, (Value.int .i64 x14)), (42, (Value.slice A42 n42 c42)), (43, (Value.int .i64 x43)), (44, (Value.int .i64 x44)), (97, (Value.bool b97))]) h) = (f7.j5T R p6 a7 x10 x13 x14 A42 n42 c42 x43 x44 b97 h) by kernel_rfl) H)
set_option maxRecDepth 100000 in
def f7.j6T (R : Value → Heap → Prop) (p6 : Option Addr) (a7 : Addr) (x10 : Int) (x11 : Int) (x13 : Int) (x14 : Int) (x16 : Int) (A42 : Option Addr) (n42 : Nat) (c42 : Nat) (x43 : Int) (x44 : Int) (b145 : Bool) (h : Heap) : Prop :=
  splitB b145 (f7.j3 R p6 a7 x13 (1 : Int) A42 n42 c42 x43 x44 h) (Run Try.prog 43 #[(Value.pointer (some a7))] h fun v1_ h2_ => ∃ b3_, v1_ = (Value.bool b3_) ∧ splitB b3_ (f7.j3 R p6 a7 x13 (5 : Int) A42 n42 c42 x43 x44 h2_) (∃ v4_, ldv false 1 h2_ (Addr.add a7 1) = some v4_ ∧ ∃ A5_, ∃ n5_, ∃ c5_, v4_ = (Value.slice A5_ n5_ c5_) ∧ ∃ v6_, ldv false 1 h2_ a7 = some v6_ ∧ ∃ x7_, v6_ = (Value.int .i64 x7_) ∧ Ext h2_ h2_ ∧ (∃ l8_ : List Value, (Value.agg #[(Value.int .i64 x10), (Value.int .i64 (IntKind.wrap .i64 (x7_ + x11)))]) = Value.agg l8_.toArray ∧ l8_.length = 2 ∧ (newH h2_ (Obj.cells ((List.take 0 ([(Value.int .i64 (0 : Int)), (Value.int .i64 (0 : Int))]) ++ l8_ ++ List.drop 2 ([(Value.int .i64 (0 : Int)), (Value.int .i64 (0 : Int))])).toArray) 65) fun h9_ => Ext h2_ h9_ ∧ (AppW 65 2 16 #[(Value.int .i64 (0 : Int)), (Value.int .i64 (0 : Int))] A5_ n5_ c5_ (Value.slice (some ⟨Array.size h2_, 0, none⟩) 1 1) h9_ fun v10_ h11_ => ∃ A12_, ∃ n12_, ∃ c12_, v10_ = (Value.slice A12_ n12_ c12_) ∧ ∃ h13_, st1 h11_ (Addr.add a7 1) (Value.slice A12_ n12_ c12_) = some h13_ ∧ ∃ v14_, ldv false 1 h13_ (Addr.add a7 1) = some v14_ ∧ ∃ A15_, ∃ n15_, ∃ c15_, v14_ = (Value.slice A15_ n15_ c15_) ∧ splitB (x16 != ((n15_ : Nat) : Int)) (R (Value.bool false) h13_) (f7.j3 R p6 a7 x13 x14 A42 n42 c42 x43 x44 h13_))))))
set_option maxRecDepth 100000 in
theorem f7.j6_in {R : Value → Heap → Prop} {p6 : Option Addr} {a7 : Addr} {x10 : Int} {x11 : Int} {x13 : Int} {x14 : Int} {x16 : Int} {A42 : Option Addr} {n42 : Nat} {c42 : Nat} {x43 : Int} {x44 : Int} {b145 : Bool} {h : Heap} (H : f7.j6T R p6 a7 x10 x11 x13 x14 x16 A42 n42 c42 x43 x44 b145 h) : f7.j6 R p6 a7 x10 x11 x13 x14 x16 A42 n42 c42 x43 x44 b145 h :=
  pt_intro mixed f7.good (Eq.mpr (show (Fwd Try.prog f7.T f7.kp Try.f7 R [true, false, true, true, false, true, true, true, false, true, false, true, true, true, true, false, false, true, true, false, false, true, false, true, true, true, true] (mkFr [(6, (Value.pointer p6)), (7, (Value.pointer (some a7))), (10, (Value.int .i64 x10)), (11, (Value.int .i64 x11)), (13, (Value.int .i64 x13)), (14, (Value.int .i64 x14)), (16, (Value.int .i64 x16)), (42, (Value.slice A42 n42 c42)), (43, (Value.int .i64 x43)), (44, (Value.int .i64 x44)), (145, (Value.bool b145))]) h) = (f7.j6T R p6 a7 x10 x11 x13 x14 x16 A42 n42 c42 x43 x44 b145 h) by kernel_rfl) H)
set_option maxRecDepth 100000 in
def f7.j7T (R : Value → Heap → Prop) (p6 : Option Addr) (a7 : Addr) (x12 : Int) (x13 : Int) (x14 : Int) (b15 : Bool) (A42 : Option Addr) (n42 : Nat) (c42 : Nat) (x43 : Int) (x44 : Int) (b186 : Bool) (h : Heap) : Prop :=
  splitB b186 (f7.j3 R p6 a7 x13 (1 : Int) A42 n42 c42 x43 x44 h) (splitB (!b15) (f7.j3 R p6 a7 x13 (4 : Int) A42 n42 c42 x43 x44 h) (Run Try.prog 43 #[(Value.pointer (some a7))] h fun v1_ h2_ => ∃ b3_, v1_ = (Value.bool b3_) ∧ splitB (!b3_) (f7.j3 R p6 a7 x13 (23 : Int) A42 n42 c42 x43 x44 h2_) (∃ v4_, ldv false 1 h2_ a7 = some v4_ ∧ ∃ x5_, v4_ = (Value.int .i64 x5_) ∧ ∃ v6_, (∀ h20_, Ext h2_ h20_ → Run Try.prog 41 #[(Value.pointer (some a7))] h20_ fun v7_ h8_ => v7_ = v6_ ∧ h8_ = h20_) ∧ ∃ p9_, v6_ = (Value.pointer p9_) ∧ ∃ v10_, (∀ h19_, Ext h2_ h19_ → Run Try.prog 41 #[(Value.pointer (some a7))] h19_ fun v11_ h12_ => v11_ = v10_ ∧ h12_ = h19_) ∧ ∃ p13_, v10_ = (Value.pointer p13_) ∧ ptrOk p13_ fun a14_ => ∃ v15_, ldv false 1 h2_ (Addr.add a14_ 1) = some v15_ ∧ ∃ x16_, v15_ = (Value.int .i64 x16_) ∧ ptrOk p9_ fun a17_ => ∃ h18_, st1 h2_ (Addr.add a17_ 1) (Value.int .i64 (if (IntKind.wrap .i64 (x5_ + x12)) > x16_ then (IntKind.wrap .i64 (x5_ + x12)) else x16_)) = some h18_ ∧ f7.j3 R p6 a7 x13 x14 A42 n42 c42 x43 x44 h18_)))
set_option maxRecDepth 100000 in
theorem f7.j7_in {R : Value → Heap → Prop} {p6 : Option Addr} {a7 : Addr} {x12 : Int} {x13 : Int} {x14 : Int} {b15 : Bool} {A42 : Option Addr} {n42 : Nat} {c42 : Nat} {x43 : Int} {x44 : Int} {b186 : Bool} {h : Heap} (H : f7.j7T R p6 a7 x12 x13 x14 b15 A42 n42 c42 x43 x44 b186 h) : f7.j7 R p6 a7 x12 x13 x14 b15 A42 n42 c42 x43 x44 b186 h :=
  pt_intro mixed f7.good (Eq.mpr (show (Fwd Try.prog f7.T f7.kp Try.f7 R [true, false, true, false, true, true, true, true, true, false, true, false, true, true, true, true, false, false, true, true, false, false, true, false, true, true, true, true] (mkFr [(6, (Value.pointer p6)), (7, (Value.pointer (some a7))), (12, (Value.int .i64 x12)), (13, (Value.int .i64 x13)), (14, (Value.int .i64 x14)), (15, (Value.bool b15)), (42, (Value.slice A42 n42 c42)), (43, (Value.int .i64 x43)), (44, (Value.int .i64 x44)), (186, (Value.bool b186))]) h) = (f7.j7T R p6 a7 x12 x13 x14 b15 A42 n42 c42 x43 x44 b186 h) by kernel_rfl) H)
set_option maxRecDepth 100000 in
def f7.j3T (R : Value → Heap → Prop) (p6 : Option Addr) (a7 : Addr) (x13 : Int) (x14 : Int) (A42 : Option Addr) (n42 : Nat) (c42 : Nat) (x43 : Int) (x44 : Int) (h : Heap) : Prop :=
  Run Try.prog 45 #[(Value.pointer p6)] h fun v1_ h2_ => ∃ x3_, ∃ x4_, ∃ x5_, v1_ = (Value.tuple #[(Value.int .i64 x3_), (Value.int .i64 x4_), (Value.int .i64 x5_)]) ∧ splitB (x13 != x14) (R (Value.bool false) h2_) (∃ v6_, ldv false 1 h2_ (Addr.add a7 1) = some v6_ ∧ ∃ A7_, ∃ n7_, ∃ c7_, v6_ = (Value.slice A7_ n7_ c7_) ∧ splitB (x4_ != ((n7_ : Nat) : Int)) (R (Value.bool false) h2_) (f7.j4 R p6 a7 x3_ x5_ A42 n42 c42 x43 x44 h2_))
set_option maxRecDepth 100000 in
theorem f7.j3_in {R : Value → Heap → Prop} {p6 : Option Addr} {a7 : Addr} {x13 : Int} {x14 : Int} {A42 : Option Addr} {n42 : Nat} {c42 : Nat} {x43 : Int} {x44 : Int} {h : Heap} (H : f7.j3T R p6 a7 x13 x14 A42 n42 c42 x43 x44 h) : f7.j3 R p6 a7 x13 x14 A42 n42 c42 x43 x44 h :=
  pt_intro mixed f7.good (Eq.mpr (show (Fwd Try.prog f7.T f7.kp Try.f7 R [true, true, true, true, true, false, false, true, true, false, false, true, false, true, true, true, true] (mkFr [(6, (Value.pointer p6)), (7, (Value.pointer (some a7))), (13, (Value.int .i64 x13)), (14, (Value.int .i64 x14)), (42, (Value.slice A42 n42 c42)), (43, (Value.int .i64 x43)), (44, (Value.int .i64 x44))]) h) = (f7.j3T R p6 a7 x13 x14 A42 n42 c42 x43 x44 h) by kernel_rfl) H)
set_option maxRecDepth 100000 in
def f7.j4T (R : Value → Heap → Prop) (p6 : Option Addr) (a7 : Addr) (x17 : Int) (x19 : Int) (A42 : Option Addr) (n42 : Nat) (c42 : Nat) (x43 : Int) (x44 : Int) (h : Heap) : Prop :=
  Run Try.prog 43 #[(Value.pointer (some a7))] h fun v1_ h2_ => ∃ b3_, v1_ = (Value.bool b3_) ∧ splitB b3_ (∃ v4_, (Run Try.prog 41 #[(Value.pointer (some a7))] h2_ fun v5_ h6_ => v5_ = v4_ ∧ h6_ = h2_) ∧ ∃ p7_, v4_ = (Value.pointer p7_) ∧ ptrOk p7_ fun a8_ => ∃ v9_, ldv false 1 h2_ a8_ = some v9_ ∧ ∃ x10_, v9_ = (Value.int .i64 x10_) ∧ splitB (x17 != x10_) (R (Value.bool false) h2_) (∃ v11_, ldv false 1 h2_ a7 = some v11_ ∧ ∃ x12_, v11_ = (Value.int .i64 x12_) ∧ ∃ v13_, (Run Try.prog 41 #[(Value.pointer (some a7))] h2_ fun v14_ h15_ => v14_ = v13_ ∧ h15_ = h2_) ∧ ∃ p16_, v13_ = (Value.pointer p16_) ∧ ptrOk p16_ fun a17_ => ∃ v18_, ldv false 1 h2_ (Addr.add a17_ 1) = some v18_ ∧ ∃ x19_, v18_ = (Value.int .i64 x19_) ∧ splitB (x19 != (IntKind.wrap .i64 (x19_ - x12_))) (R (Value.bool false) h2_) (f7.l0 R p6 a7 A42 n42 c42 x43 (IntKind.wrap .i64 (x44 + (1 : Int))) h2_))) (splitB (x17 != (0 : Int)) (R (Value.bool false) h2_) (splitB (x19 != (0 : Int)) (R (Value.bool false) h2_) (f7.l0 R p6 a7 A42 n42 c42 x43 (IntKind.wrap .i64 (x44 + (1 : Int))) h2_)))
set_option maxRecDepth 100000 in
theorem f7.j4_in {R : Value → Heap → Prop} {p6 : Option Addr} {a7 : Addr} {x17 : Int} {x19 : Int} {A42 : Option Addr} {n42 : Nat} {c42 : Nat} {x43 : Int} {x44 : Int} {h : Heap} (H : f7.j4T R p6 a7 x17 x19 A42 n42 c42 x43 x44 h) : f7.j4 R p6 a7 x17 x19 A42 n42 c42 x43 x44 h :=
  pt_intro mixed f7.good (Eq.mpr (show (Fwd Try.prog f7.T f7.kp Try.f7 R [true, true, true, true, true, true, true, false, false, true, true, false, false, true, false, true, true, true, true] (mkFr [(6, (Value.pointer p6)), (7, (Value.pointer (some a7))), (17, (Value.int .i64 x17)), (19, (Value.int .i64 x19)), (42, (Value.slice A42 n42 c42)), (43, (Value.int .i64 x43)), (44, (Value.int .i64 x44))]) h) = (f7.j4T R p6 a7 x17 x19 A42 n42 c42 x43 x44 h) by kernel_rfl) H)
set_option maxRecDepth 100000 in
def f7.runT (R : Value → Heap → Prop) (A0 : Option Addr) (n0 : Nat) (c0 : Nat) (h : Heap) : Prop :=
  Run Try.prog 38 #[] h fun v1_ h2_ => ∃ p3_, v1_ = (Value.pointer p3_) ∧ splitB (Option.isNone p3_) (f7.j1 R A0 n0 c0 p3_ true h2_) (Run Try.prog 39 #[(Value.pointer p3_), (Value.int .i64 (1 : Int)), (Value.int .i64 (1 : Int))] h2_ fun v4_ h5_ => ∃ x6_, v4_ = (Value.int .i64 x6_) ∧ f7.j1 R A0 n0 c0 p3_ (x6_ != (4 : Int)) h5_)
set_option maxRecDepth 100000 in
theorem f7.run {R : Value → Heap → Prop} {A0 : Option Addr} {n0 : Nat} {c0 : Nat} {h : Heap} (H : f7.runT R A0 n0 c0 h) : Run Try.prog 7 #[(Value.slice A0 n0 c0)] h R :=
  run_of mixed Try.func7 (by kernel_rfl) (by kernel_rfl) f7.good (Eq.mpr (show (Fwd Try.prog f7.T f7.kp Try.f7 R [] (mkFr (argL [(Value.slice A0 n0 c0)] 0)) h) = (f7.runT R A0 n0 c0 h) by kernel_rfl) H)

/-! ### slices.Clone[[]int,int]: function 51 -/
def f51.T : Tab := { sh := tSh, tup := tTup, keep := [], plan := [] }
def f51.kp : Keep := []
theorem f51.good : goodCode Try.prog f51.T (rootOf Try.f51) = true := by kernel_rfl
set_option maxRecDepth 100000 in
theorem f51.ok : calleeOk Try.prog 51 = true := by kernel_rfl
set_option maxRecDepth 100000 in
def f51.runT (R : Value → Heap → Prop) (A0 : Option Addr) (n0 : Nat) (c0 : Nat) (h : Heap) : Prop :=
  splitB (Option.isNone A0) (R (Value.slice none 0 0) h) (newH h (Obj.cells #[] 3) fun h1_ => AppW 3 1 8 #[(Value.int .i64 (0 : Int))] (some ⟨Array.size h, 0, none⟩) 0 0 (Value.slice A0 n0 c0) h1_ fun v2_ h3_ => ∃ A4_, ∃ n4_, ∃ c4_, v2_ = (Value.slice A4_ n4_ c4_) ∧ R (Value.slice A4_ n4_ c4_) h3_)
set_option maxRecDepth 100000 in
theorem f51.run {R : Value → Heap → Prop} {A0 : Option Addr} {n0 : Nat} {c0 : Nat} {h : Heap} (H : f51.runT R A0 n0 c0 h) : Run Try.prog 51 #[(Value.slice A0 n0 c0)] h R :=
  run_of mixed Try.func51 (by kernel_rfl) (by kernel_rfl) f51.good (Eq.mpr (show (Fwd Try.prog f51.T f51.kp Try.f51 R [] (mkFr (argL [(Value.slice A0 n0 c0)] 0)) h) = (f51.runT R A0 n0 c0 h) by kernel_rfl) H)

/-! ### roadstead/shrink.Each: function 46 -/
def f46.T : Tab := { sh := tSh, tup := tTup, keep := [], plan := [] }
def f46.kp : Keep := [([false, false, true, false, true, true], [0, 1, 16, 17, 18]), ([true, true, false, false, true, true, false, false, true, false, true, true], [0, 1, 16, 17, 18, 27]), ([false, false, true, false, true, true, true, true, true], [1, 8, 9]), ([false, false, true, true, false, true, false, false, true, false, true, true, true, true, true], [1, 8, 9, 38, 39]), ([false, false, true, true, false, false, true, true, false, false, true, true, false, true, false, false, true, false, true, true, true, true, true], [1, 8, 9, 10, 38, 39, 45, 46])]
theorem f46.good : goodCode Try.prog f46.T (rootOf Try.f46) = true := by kernel_rfl
set_option maxRecDepth 100000 in
theorem f46.ok : calleeOk Try.prog 46 = true := by kernel_rfl
def f46.l0 (R : Value → Heap → Prop) (A0 : Option Addr) (n0 : Nat) (c0 : Nat) (v1 : Value) (A16 : Option Addr) (n16 : Nat) (c16 : Nat) (x17 : Int) (x18 : Int) (h : Heap) : Prop := Pt Try.prog Try.f46 R [false, false, true, false, true, true] (mkFr [(0, (Value.slice A0 n0 c0)), (1, v1), (16, (Value.slice A16 n16 c16)), (17, (Value.int .i64 x17)), (18, (Value.int .i64 x18))]) h
def f46.j0 (R : Value → Heap → Prop) (A0 : Option Addr) (n0 : Nat) (c0 : Nat) (v1 : Value) (A16 : Option Addr) (n16 : Nat) (c16 : Nat) (x17 : Int) (x18 : Int) (b27 : Bool) (h : Heap) : Prop := Pt Try.prog Try.f46 R [true, true, false, false, true, true, false, false, true, false, true, true] (mkFr [(0, (Value.slice A0 n0 c0)), (1, v1), (16, (Value.slice A16 n16 c16)), (17, (Value.int .i64 x17)), (18, (Value.int .i64 x18)), (27, (Value.bool b27))]) h
def f46.l1 (R : Value → Heap → Prop) (v1 : Value) (A8 : Option Addr) (n8 : Nat) (c8 : Nat) (b9 : Bool) (h : Heap) : Prop := Pt Try.prog Try.f46 R [false, false, true, false, true, true, true, true, true] (mkFr [(1, v1), (8, (Value.slice A8 n8 c8)), (9, (Value.bool b9))]) h
def f46.l2 (R : Value → Heap → Prop) (v1 : Value) (A8 : Option Addr) (n8 : Nat) (c8 : Nat) (b9 : Bool) (x38 : Int) (x39 : Int) (h : Heap) : Prop := Pt Try.prog Try.f46 R [false, false, true, true, false, true, false, false, true, false, true, true, true, true, true] (mkFr [(1, v1), (8, (Value.slice A8 n8 c8)), (9, (Value.bool b9)), (38, (Value.int .i64 x38)), (39, (Value.int .i64 x39))]) h
def f46.l3 (R : Value → Heap → Prop) (v1 : Value) (A8 : Option Addr) (n8 : Nat) (c8 : Nat) (b9 : Bool) (x10 : Int) (x38 : Int) (x39 : Int) (x45 : Int) (x46 : Int) (h : Heap) : Prop := Pt Try.prog Try.f46 R [false, false, true, true, false, false, true, true, false, false, true, true, false, true, false, false, true, false, true, true, true, true, true] (mkFr [(1, v1), (8, (Value.slice A8 n8 c8)), (9, (Value.bool b9)), (10, (Value.int .i64 x10)), (38, (Value.int .i64 x38)), (39, (Value.int .i64 x39)), (45, (Value.int .i64 x45)), (46, (Value.int .i64 x46))]) h
set_option maxRecDepth 100000 in
def f46.l0T (R : Value → Heap → Prop) (A0 : Option Addr) (n0 : Nat) (c0 : Nat) (v1 : Value) (A16 : Option Addr) (n16 : Nat) (c16 : Nat) (x17 : Int) (x18 : Int) (h : Heap) : Prop :=
  splitB (decide (x18 < x17)) (ptrOk A16 fun a1_ => 0 ≤ x18 ∧ x18 < ((n16 : Nat) : Int) ∧ (∃ v2_, ldv false 1 h (Addr.add a1_ (Int.toNat x18 * 1)) = some v2_ ∧ ∃ x3_, v2_ = (Value.int .i64 x3_) ∧ splitB (decide (x3_ < (0 : Int))) (f46.j0 R A0 n0 c0 v1 A16 n16 c16 x17 x18 true h) (f46.j0 R A0 n0 c0 v1 A16 n16 c16 x17 x18 (decide (x3_ > (1000 : Int))) h))) (Run Try.prog 51 #[(Value.slice A0 n0 c0)] h fun v4_ h5_ => ∃ A6_, ∃ n6_, ∃ c6_, v4_ = (Value.slice A6_ n6_ c6_) ∧ Run Try.prog 51 #[(Value.slice A6_ n6_ c6_)] h5_ fun v7_ h8_ => ∃ A9_, ∃ n9_, ∃ c9_, v7_ = (Value.slice A9_ n9_ c9_) ∧ CallF Try.prog v1 [(Value.slice A9_ n9_ c9_)] h8_ fun v10_ h11_ => ∃ b12_, v10_ = (Value.bool b12_) ∧ splitB (!b12_) (R (Value.tuple #[(Value.slice none 0 0), (Value.int .i64 (4 : Int))]) h11_) (f46.l1 R v1 A6_ n6_ c6_ true h11_))
set_option maxRecDepth 100000 in
theorem f46.l0_in {R : Value → Heap → Prop} {A0 : Option Addr} {n0 : Nat} {c0 : Nat} {v1 : Value} {A16 : Option Addr} {n16 : Nat} {c16 : Nat} {x17 : Int} {x18 : Int} {h : Heap} (H : f46.l0T R A0 n0 c0 v1 A16 n16 c16 x17 x18 h) : f46.l0 R A0 n0 c0 v1 A16 n16 c16 x17 x18 h :=
  pt_intro mixed f46.good (Eq.mpr (show (Fwd Try.prog f46.T f46.kp Try.f46 R [false, false, true, false, true, true] (mkFr [(0, (Value.slice A0 n0 c0)), (1, v1), (16, (Value.slice A16 n16 c16)), (17, (Value.int .i64 x17)), (18, (Value.int .i64 x18))]) h) = (f46.l0T R A0 n0 c0 v1 A16 n16 c16 x17 x18 h) by kernel_rfl) H)
set_option maxRecDepth 100000 in
def f46.j0T (R : Value → Heap → Prop) (A0 : Option Addr) (n0 : Nat) (c0 : Nat) (v1 : Value) (A16 : Option Addr) (n16 : Nat) (c16 : Nat) (x17 : Int) (x18 : Int) (b27 : Bool) (h : Heap) : Prop :=
  splitB b27 (R (Value.tuple #[(Value.slice none 0 0), (Value.int .i64 (1 : Int))]) h) (f46.l0 R A0 n0 c0 v1 A16 n16 c16 x17 (IntKind.wrap .i64 (x18 + (1 : Int))) h)
set_option maxRecDepth 100000 in
theorem f46.j0_in {R : Value → Heap → Prop} {A0 : Option Addr} {n0 : Nat} {c0 : Nat} {v1 : Value} {A16 : Option Addr} {n16 : Nat} {c16 : Nat} {x17 : Int} {x18 : Int} {b27 : Bool} {h : Heap} (H : f46.j0T R A0 n0 c0 v1 A16 n16 c16 x17 x18 b27 h) : f46.j0 R A0 n0 c0 v1 A16 n16 c16 x17 x18 b27 h :=
  pt_intro mixed f46.good (Eq.mpr (show (Fwd Try.prog f46.T f46.kp Try.f46 R [true, true, false, false, true, true, false, false, true, false, true, true] (mkFr [(0, (Value.slice A0 n0 c0)), (1, v1), (16, (Value.slice A16 n16 c16)), (17, (Value.int .i64 x17)), (18, (Value.int .i64 x18)), (27, (Value.bool b27))]) h) = (f46.j0T R A0 n0 c0 v1 A16 n16 c16 x17 x18 b27 h) by kernel_rfl) H)
set_option maxRecDepth 100000 in
def f46.l1T (R : Value → Heap → Prop) (v1 : Value) (A8 : Option Addr) (n8 : Nat) (c8 : Nat) (b9 : Bool) (h : Heap) : Prop :=
  splitB b9 (f46.l2 R v1 A8 n8 c8 false ((n8 : Nat) : Int) (0 : Int) h) (R (Value.tuple #[(Value.slice A8 n8 c8), (Value.int .i64 (0 : Int))]) h)
set_option maxRecDepth 100000 in
theorem f46.l1_in {R : Value → Heap → Prop} {v1 : Value} {A8 : Option Addr} {n8 : Nat} {c8 : Nat} {b9 : Bool} {h : Heap} (H : f46.l1T R v1 A8 n8 c8 b9 h) : f46.l1 R v1 A8 n8 c8 b9 h :=
  pt_intro mixed f46.good (Eq.mpr (show (Fwd Try.prog f46.T f46.kp Try.f46 R [false, false, true, false, true, true, true, true, true] (mkFr [(1, v1), (8, (Value.slice A8 n8 c8)), (9, (Value.bool b9))]) h) = (f46.l1T R v1 A8 n8 c8 b9 h) by kernel_rfl) H)
set_option maxRecDepth 100000 in
def f46.l2T (R : Value → Heap → Prop) (v1 : Value) (A8 : Option Addr) (n8 : Nat) (c8 : Nat) (b9 : Bool) (x38 : Int) (x39 : Int) (h : Heap) : Prop :=
  splitB (decide (x39 < x38)) (ptrOk A8 fun a1_ => 0 ≤ x39 ∧ x39 < ((n8 : Nat) : Int) ∧ (∃ v2_, ldv false 1 h (Addr.add a1_ (Int.toNat x39 * 1)) = some v2_ ∧ ∃ x3_, v2_ = (Value.int .i64 x3_) ∧ f46.l3 R v1 A8 n8 c8 b9 x39 x38 x39 x3_ (0 : Int) h)) (f46.l1 R v1 A8 n8 c8 b9 h)
set_option maxRecDepth 100000 in
theorem f46.l2_in {R : Value → Heap → Prop} {v1 : Value} {A8 : Option Addr} {n8 : Nat} {c8 : Nat} {b9 : Bool} {x38 : Int} {x39 : Int} {h : Heap} (H : f46.l2T R v1 A8 n8 c8 b9 x38 x39 h) : f46.l2 R v1 A8 n8 c8 b9 x38 x39 h :=
  pt_intro mixed f46.good (Eq.mpr (show (Fwd Try.prog f46.T f46.kp Try.f46 R [false, false, true, true, false, true, false, false, true, false, true, true, true, true, true] (mkFr [(1, v1), (8, (Value.slice A8 n8 c8)), (9, (Value.bool b9)), (38, (Value.int .i64 x38)), (39, (Value.int .i64 x39))]) h) = (f46.l2T R v1 A8 n8 c8 b9 x38 x39 h) by kernel_rfl) H)
set_option maxRecDepth 100000 in
def f46.l3T (R : Value → Heap → Prop) (v1 : Value) (A8 : Option Addr) (n8 : Nat) (c8 : Nat) (b9 : Bool) (x10 : Int) (x38 : Int) (x39 : Int) (x45 : Int) (x46 : Int) (h : Heap) : Prop :=
  splitB (decide (x46 < x45)) (Run Try.prog 51 #[(Value.slice A8 n8 c8)] h fun v1_ h2_ => ∃ A3_, ∃ n3_, ∃ c3_, v1_ = (Value.slice A3_ n3_ c3_) ∧ ptrOk A3_ fun a4_ => 0 ≤ x10 ∧ x10 < ((n3_ : Nat) : Int) ∧ (∃ h5_, st1 h2_ (Addr.add a4_ (Int.toNat x10 * 1)) (Value.int .i64 x46) = some h5_ ∧ Run Try.prog 51 #[(Value.slice A3_ n3_ c3_)] h5_ fun v6_ h7_ => ∃ A8_, ∃ n8_, ∃ c8_, v6_ = (Value.slice A8_ n8_ c8_) ∧ CallF Try.prog v1 [(Value.slice A8_ n8_ c8_)] h7_ fun v9_ h10_ => ∃ b11_, v9_ = (Value.bool b11_) ∧ splitB b11_ (f46.l2 R v1 A3_ n3_ c3_ true x38 (IntKind.wrap .i64 (x39 + (1 : Int))) h10_) (f46.l3 R v1 A8 n8 c8 b9 x10 x38 x39 x45 (IntKind.wrap .i64 (x46 + (1 : Int))) h10_))) (f46.l2 R v1 A8 n8 c8 b9 x38 (IntKind.wrap .i64 (x39 + (1 : Int))) h)
set_option maxRecDepth 100000 in
theorem f46.l3_in {R : Value → Heap → Prop} {v1 : Value} {A8 : Option Addr} {n8 : Nat} {c8 : Nat} {b9 : Bool} {x10 : Int} {x38 : Int} {x39 : Int} {x45 : Int} {x46 : Int} {h : Heap} (H : f46.l3T R v1 A8 n8 c8 b9 x10 x38 x39 x45 x46 h) : f46.l3 R v1 A8 n8 c8 b9 x10 x38 x39 x45 x46 h :=
  pt_intro mixed f46.good (Eq.mpr (show (Fwd Try.prog f46.T f46.kp Try.f46 R [false, false, true, true, false, false, true, true, false, false, true, true, false, true, false, false, true, false, true, true, true, true, true] (mkFr [(1, v1), (8, (Value.slice A8 n8 c8)), (9, (Value.bool b9)), (10, (Value.int .i64 x10)), (38, (Value.int .i64 x38)), (39, (Value.int .i64 x39)), (45, (Value.int .i64 x45)), (46, (Value.int .i64 x46))]) h) = (f46.l3T R v1 A8 n8 c8 b9 x10 x38 x39 x45 x46 h) by kernel_rfl) H)
set_option maxRecDepth 100000 in
def f46.runT (R : Value → Heap → Prop) (A0 : Option Addr) (n0 : Nat) (c0 : Nat) (v1 : Value) (h : Heap) : Prop :=
  splitB (decide (((n0 : Nat) : Int) > (200 : Int))) (R (Value.tuple #[(Value.slice none 0 0), (Value.int .i64 (2 : Int))]) h) (f46.l0 R A0 n0 c0 v1 A0 n0 c0 ((n0 : Nat) : Int) (0 : Int) h)
set_option maxRecDepth 100000 in
theorem f46.run {R : Value → Heap → Prop} {A0 : Option Addr} {n0 : Nat} {c0 : Nat} {v1 : Value} {h : Heap} (H : f46.runT R A0 n0 c0 v1 h) : Run Try.prog 46 #[(Value.slice A0 n0 c0), v1] h R :=
  run_of mixed Try.func46 (by kernel_rfl) (by kernel_rfl) f46.good (Eq.mpr (show (Fwd Try.prog f46.T f46.kp Try.f46 R [] (mkFr (argL [(Value.slice A0 n0 c0), v1] 0)) h) = (f46.runT R A0 n0 c0 v1 h) by kernel_rfl) H)

/-! ### roadstead/roadlaw4.ShrinkEach$1: function 47 -/
def f47.T : Tab := { sh := tSh, tup := tTup, keep := [], plan := [] }
def f47.kp : Keep := []
theorem f47.good : goodCode Try.prog f47.T (rootOf Try.f47) = true := by kernel_rfl
set_option maxRecDepth 100000 in
theorem f47.ok : calleeOk Try.prog 47 = true := by kernel_rfl
set_option maxRecDepth 100000 in
def f47.runT (R : Value → Heap → Prop) (A0 : Option Addr) (n0 : Nat) (c0 : Nat) (h : Heap) : Prop :=
  splitB (decide (((n0 : Nat) : Int) > (1 : Int))) (ptrOk A0 fun a1_ => 0 ≤ (1 : Int) ∧ (1 : Int) < ((n0 : Nat) : Int) ∧ (∃ v2_, ldv false 1 h (Addr.add a1_ (Int.toNat (1 : Int) * 1)) = some v2_ ∧ ∃ x3_, v2_ = (Value.int .i64 x3_) ∧ R (Value.bool (decide (x3_ ≥ (4 : Int)))) h)) (R (Value.bool false) h)
set_option maxRecDepth 100000 in
theorem f47.run {R : Value → Heap → Prop} {A0 : Option Addr} {n0 : Nat} {c0 : Nat} {h : Heap} (H : f47.runT R A0 n0 c0 h) : Run Try.prog 47 #[(Value.slice A0 n0 c0)] h R :=
  run_of mixed Try.func47 (by kernel_rfl) (by kernel_rfl) f47.good (Eq.mpr (show (Fwd Try.prog f47.T f47.kp Try.f47 R [] (mkFr (argL [(Value.slice A0 n0 c0)] 0)) h) = (f47.runT R A0 n0 c0 h) by kernel_rfl) H)

/-! ### slices.Equal[[]int,int]: function 48 -/
def f48.T : Tab := { sh := tSh, tup := tTup, keep := [], plan := [(6, (.take 0 (.take 1 (.take 2 (.take 4 (.take 5 (.take 6 (.take 3 (.take 7 (.take 8 .done))))))))))] }
def f48.kp : Keep := [([false, false, true, false, true, true], [0, 1, 12, 13])]
theorem f48.good : goodCode Try.prog f48.T (rootOf Try.f48) = true := by kernel_rfl
set_option maxRecDepth 100000 in
theorem f48.ok : calleeOk Try.prog 48 = true := by kernel_rfl
def f48.l0 (R : Value → Heap → Prop) (A0 : Option Addr) (n0 : Nat) (c0 : Nat) (A1 : Option Addr) (n1 : Nat) (c1 : Nat) (x12 : Int) (x13 : Int) (h : Heap) : Prop := Pt Try.prog Try.f48 R [false, false, true, false, true, true] (mkFr [(0, (Value.slice A0 n0 c0)), (1, (Value.slice A1 n1 c1)), (12, (Value.int .i64 x12)), (13, (Value.int .i64 x13))]) h
set_option maxRecDepth 100000 in
def f48.l0T (R : Value → Heap → Prop) (A0 : Option Addr) (n0 : Nat) (c0 : Nat) (A1 : Option Addr) (n1 : Nat) (c1 : Nat) (x12 : Int) (x13 : Int) (h : Heap) : Prop :=
  splitB (decide (x13 < x12)) (ptrOk A0 fun a1_ => 0 ≤ x13 ∧ x13 < ((n0 : Nat) : Int) ∧ (ptrOk A1 fun a2_ => 0 ≤ x13 ∧ x13 < ((n1 : Nat) : Int) ∧ (∃ v3_, ldv false 1 h (Addr.add a1_ (Int.toNat x13 * 1)) = some v3_ ∧ ∃ x4_, v3_ = (Value.int .i64 x4_) ∧ ∃ v5_, ldv false 1 h (Addr.add a2_ (Int.toNat x13 * 1)) = some v5_ ∧ ∃ x6_, v5_ = (Value.int .i64 x6_) ∧ splitB (x4_ != x6_) (R (Value.bool false) h) (f48.l0 R A0 n0 c0 A1 n1 c1 x12 (IntKind.wrap .i64 (x13 + (1 : Int))) h)))) (R (Value.bool true) h)
set_option maxRecDepth 100000 in
theorem f48.l0_in {R : Value → Heap → Prop} {A0 : Option Addr} {n0 : Nat} {c0 : Nat} {A1 : Option Addr} {n1 : Nat} {c1 : Nat} {x12 : Int} {x13 : Int} {h : Heap} (H : f48.l0T R A0 n0 c0 A1 n1 c1 x12 x13 h) : f48.l0 R A0 n0 c0 A1 n1 c1 x12 x13 h :=
  pt_intro mixed f48.good (Eq.mpr (show (Fwd Try.prog f48.T f48.kp Try.f48 R [false, false, true, false, true, true] (mkFr [(0, (Value.slice A0 n0 c0)), (1, (Value.slice A1 n1 c1)), (12, (Value.int .i64 x12)), (13, (Value.int .i64 x13))]) h) = (f48.l0T R A0 n0 c0 A1 n1 c1 x12 x13 h) by kernel_rfl) H)
set_option maxRecDepth 100000 in
def f48.runT (R : Value → Heap → Prop) (A0 : Option Addr) (n0 : Nat) (c0 : Nat) (A1 : Option Addr) (n1 : Nat) (c1 : Nat) (h : Heap) : Prop :=
  splitB (((n0 : Nat) : Int) != ((n1 : Nat) : Int)) (R (Value.bool false) h) (f48.l0 R A0 n0 c0 A1 n1 c1 ((n0 : Nat) : Int) (0 : Int) h)
set_option maxRecDepth 100000 in
theorem f48.run {R : Value → Heap → Prop} {A0 : Option Addr} {n0 : Nat} {c0 : Nat} {A1 : Option Addr} {n1 : Nat} {c1 : Nat} {h : Heap} (H : f48.runT R A0 n0 c0 A1 n1 c1 h) : Run Try.prog 48 #[(Value.slice A0 n0 c0), (Value.slice A1 n1 c1)] h R :=
  run_of mixed Try.func48 (by kernel_rfl) (by kernel_rfl) f48.good (Eq.mpr (show (Fwd Try.prog f48.T f48.kp Try.f48 R [] (mkFr (argL [(Value.slice A0 n0 c0), (Value.slice A1 n1 c1)] 0)) h) = (f48.runT R A0 n0 c0 A1 n1 c1 h) by kernel_rfl) H)

/-! ### roadstead/roadlaw4.ShrinkEach$2: function 49 -/
def f49.T : Tab := { sh := tSh, tup := tTup, keep := [], plan := [] }
def f49.kp : Keep := [([false, false, true, false, true, true], [1, 2, 5, 8, 9, 10]), ([true, true, false, false, true, true, false, false, true, false, true, true], [1, 2, 5, 7, 8, 9, 10])]
theorem f49.good : goodCode Try.prog f49.T (rootOf Try.f49) = true := by kernel_rfl
set_option maxRecDepth 100000 in
theorem f49.ok : calleeOk Try.prog 49 = true := by kernel_rfl
def f49.l0 (R : Value → Heap → Prop) (a1 : Addr) (a2 : Addr) (x5 : Int) (A8 : Option Addr) (n8 : Nat) (c8 : Nat) (x9 : Int) (x10 : Int) (h : Heap) : Prop := Pt Try.prog Try.f49 R [false, false, true, false, true, true] (mkFr [(1, (Value.pointer (some a1))), (2, (Value.pointer (some a2))), (5, (Value.int .i64 x5)), (8, (Value.slice A8 n8 c8)), (9, (Value.int .i64 x9)), (10, (Value.int .i64 x10))]) h
def f49.j0 (R : Value → Heap → Prop) (a1 : Addr) (a2 : Addr) (x5 : Int) (x7 : Int) (A8 : Option Addr) (n8 : Nat) (c8 : Nat) (x9 : Int) (x10 : Int) (h : Heap) : Prop := Pt Try.prog Try.f49 R [true, true, false, false, true, true, false, false, true, false, true, true] (mkFr [(1, (Value.pointer (some a1))), (2, (Value.pointer (some a2))), (5, (Value.int .i64 x5)), (7, (Value.int .i64 x7)), (8, (Value.slice A8 n8 c8)), (9, (Value.int .i64 x9)), (10, (Value.int .i64 x10))]) h
set_option maxRecDepth 100000 in
def f49.l0T (R : Value → Heap → Prop) (a1 : Addr) (a2 : Addr) (x5 : Int) (A8 : Option Addr) (n8 : Nat) (c8 : Nat) (x9 : Int) (x10 : Int) (h : Heap) : Prop :=
  splitB (decide (x10 < x9)) (ptrOk A8 fun a1_ => 0 ≤ x10 ∧ x10 < ((n8 : Nat) : Int) ∧ (∃ v2_, ldv false 1 h (Addr.add a1_ (Int.toNat x10 * 1)) = some v2_ ∧ ∃ x3_, v2_ = (Value.int .i64 x3_) ∧ splitB (decide (x10 > (0 : Int))) (∃ v4_, ldv false 1 h a1 = some v4_ ∧ ∃ x5_, v4_ = (Value.int .i64 x5_) ∧ f49.j0 R a1 a2 x5 (if x5_ < x3_ then x5_ else x3_) A8 n8 c8 x9 x10 h) (f49.j0 R a1 a2 x5 x3_ A8 n8 c8 x9 x10 h))) (∃ v6_, ldv false 1 h a2 = some v6_ ∧ ∃ x7_, v6_ = (Value.int .i64 x7_) ∧ R (Value.bool (decide (x5 ≥ x7_))) h)
set_option maxRecDepth 100000 in
theorem f49.l0_in {R : Value → Heap → Prop} {a1 : Addr} {a2 : Addr} {x5 : Int} {A8 : Option Addr} {n8 : Nat} {c8 : Nat} {x9 : Int} {x10 : Int} {h : Heap} (H : f49.l0T R a1 a2 x5 A8 n8 c8 x9 x10 h) : f49.l0 R a1 a2 x5 A8 n8 c8 x9 x10 h :=
  pt_intro mixed f49.good (Eq.mpr (show (Fwd Try.prog f49.T f49.kp Try.f49 R [false, false, true, false, true, true] (mkFr [(1, (Value.pointer (some a1))), (2, (Value.pointer (some a2))), (5, (Value.int .i64 x5)), (8, (Value.slice A8 n8 c8)), (9, (Value.int .i64 x9)), (10, (Value.int .i64 x10))]) h) = (f49.l0T R a1 a2 x5 A8 n8 c8 x9 x10 h) by kernel_rfl) H)
set_option maxRecDepth 100000 in
def f49.j0T (R : Value → Heap → Prop) (a1 : Addr) (a2 : Addr) (x5 : Int) (x7 : Int) (A8 : Option Addr) (n8 : Nat) (c8 : Nat) (x9 : Int) (x10 : Int) (h : Heap) : Prop :=
  f49.l0 R a1 a2 (IntKind.wrap .i64 (x5 + x7)) A8 n8 c8 x9 (IntKind.wrap .i64 (x10 + (1 : Int))) h
set_option maxRecDepth 100000 in
theorem f49.j0_in {R : Value → Heap → Prop} {a1 : Addr} {a2 : Addr} {x5 : Int} {x7 : Int} {A8 : Option Addr} {n8 : Nat} {c8 : Nat} {x9 : Int} {x10 : Int} {h : Heap} (H : f49.j0T R a1 a2 x5 x7 A8 n8 c8 x9 x10 h) : f49.j0 R a1 a2 x5 x7 A8 n8 c8 x9 x10 h :=
  pt_intro mixed f49.good (Eq.mpr (show (Fwd Try.prog f49.T f49.kp Try.f49 R [true, true, false, false, true, true, false, false, true, false, true, true] (mkFr [(1, (Value.pointer (some a1))), (2, (Value.pointer (some a2))), (5, (Value.int .i64 x5)), (7, (Value.int .i64 x7)), (8, (Value.slice A8 n8 c8)), (9, (Value.int .i64 x9)), (10, (Value.int .i64 x10))]) h) = (f49.j0T R a1 a2 x5 x7 A8 n8 c8 x9 x10 h) by kernel_rfl) H)
set_option maxRecDepth 100000 in
def f49.runT (R : Value → Heap → Prop) (A0 : Option Addr) (n0 : Nat) (c0 : Nat) (a1 : Addr) (a2 : Addr) (h : Heap) : Prop :=
  f49.l0 R a1 a2 (0 : Int) A0 n0 c0 ((n0 : Nat) : Int) (0 : Int) h
set_option maxRecDepth 100000 in
theorem f49.run {R : Value → Heap → Prop} {A0 : Option Addr} {n0 : Nat} {c0 : Nat} {a1 : Addr} {a2 : Addr} {h : Heap} (H : f49.runT R A0 n0 c0 a1 a2 h) : Run Try.prog 49 #[(Value.slice A0 n0 c0), (Value.pointer (some a1)), (Value.pointer (some a2))] h R :=
  run_of mixed Try.func49 (by kernel_rfl) (by kernel_rfl) f49.good (Eq.mpr (show (Fwd Try.prog f49.T f49.kp Try.f49 R [] (mkFr (argL [(Value.slice A0 n0 c0), (Value.pointer (some a1)), (Value.pointer (some a2))] 0)) h) = (f49.runT R A0 n0 c0 a1 a2 h) by kernel_rfl) H)

/-! ### roadstead/roadlaw4.ShrinkEach$3: function 50 -/
def f50.T : Tab := { sh := tSh, tup := tTup, keep := [], plan := [] }
def f50.kp : Keep := []
theorem f50.good : goodCode Try.prog f50.T (rootOf Try.f50) = true := by kernel_rfl
set_option maxRecDepth 100000 in
theorem f50.ok : calleeOk Try.prog 50 = true := by kernel_rfl
set_option maxRecDepth 100000 in
def f50.runT (R : Value → Heap → Prop) (x0 : Int) (h : Heap) : Prop :=
  splitB (decide (x0 < (0 : Int))) (R (Value.bool true) h) (R (Value.bool (decide (x0 > (1000 : Int)))) h)
set_option maxRecDepth 100000 in
theorem f50.run {R : Value → Heap → Prop} {x0 : Int} {h : Heap} (H : f50.runT R x0 h) : Run Try.prog 50 #[(Value.int .i64 x0)] h R :=
  run_of mixed Try.func50 (by kernel_rfl) (by kernel_rfl) f50.good (Eq.mpr (show (Fwd Try.prog f50.T f50.kp Try.f50 R [] (mkFr (argL [(Value.int .i64 x0)] 0)) h) = (f50.runT R x0 h) by kernel_rfl) H)

/-! ### roadstead/roadlaw4.ShrinkEach: function 8 -/
def f8.T : Tab := { sh := tSh, tup := tTup, keep := [], plan := [(4, (.take 0 (.take 1 (.take 2 (.take 3 (.alt true 4 (.take 5 (.take 6 (.take 7 (.take 8 (.eff false 9 (.eff false 10 .done)))))) (.eff false 9 (.eff true 4 (.take 5 (.take 6 (.take 7 (.take 8 (.eff false 10 .done))))))))))))), (18, (.take 0 (.take 1 (.take 2 (.take 3 (.take 4 (.take 5 (.split 5 (.take 6 (.take 7 (.take 8 (.take 10 (.take 11 (.take 12 (.take 9 (.take 13 (.take 14 (.take 15 .done))))))))))))))))))] }
def f8.kp : Keep := [([true, true], [0, 4, 5]), ([true, true, true, true, true, true, true], [0, 9, 10]), ([false, false, true, false, true, true, true, true, true, true, true], [0, 9, 10, 95, 96]), ([true, true, false, false, true, true, false, false, true, false, true, true, true, true, true, true, true], [0, 9, 10, 12, 95, 96]), ([false, false, true, true, true, false, false, true, true, false, false, true, false, true, true, true, true, true, true, true], [0, 9, 10, 12, 95, 96, 118, 119])]
theorem f8.good : goodCode Try.prog f8.T (rootOf Try.f8) = true := by kernel_rfl
set_option maxRecDepth 100000 in
theorem f8.ok : calleeOk Try.prog 8 = true := by kernel_rfl
def f8.j0 (R : Value → Heap → Prop) (A0 : Option Addr) (n0 : Nat) (c0 : Nat) (a4 : Addr) (a5 : Addr) (h : Heap) : Prop := Pt Try.prog Try.f8 R [true, true] (mkFr [(0, (Value.slice A0 n0 c0)), (4, (Value.pointer (some a4))), (5, (Value.pointer (some a5)))]) h
def f8.j1 (R : Value → Heap → Prop) (A0 : Option Addr) (n0 : Nat) (c0 : Nat) (a9_0 : Addr) (a9_1 : Addr) (A10 : Option Addr) (n10 : Nat) (c10 : Nat) (h : Heap) : Prop := Pt Try.prog Try.f8 R [true, true, true, true, true, true, true] (mkFr [(0, (Value.slice A0 n0 c0)), (9, (Value.func (.func 49) #[] #[(Value.pointer (some a9_0)), (Value.pointer (some a9_1))])), (10, (Value.slice A10 n10 c10))]) h
def f8.l0 (R : Value → Heap → Prop) (A0 : Option Addr) (n0 : Nat) (c0 : Nat) (a9_0 : Addr) (a9_1 : Addr) (A10 : Option Addr) (n10 : Nat) (c10 : Nat) (x95 : Int) (x96 : Int) (h : Heap) : Prop := Pt Try.prog Try.f8 R [false, false, true, false, true, true, true, true, true, true, true] (mkFr [(0, (Value.slice A0 n0 c0)), (9, (Value.func (.func 49) #[] #[(Value.pointer (some a9_0)), (Value.pointer (some a9_1))])), (10, (Value.slice A10 n10 c10)), (95, (Value.int .i64 x95)), (96, (Value.int .i64 x96))]) h
def f8.j2 (R : Value → Heap → Prop) (A0 : Option Addr) (n0 : Nat) (c0 : Nat) (a9_0 : Addr) (a9_1 : Addr) (A10 : Option Addr) (n10 : Nat) (c10 : Nat) (x12 : Int) (x95 : Int) (x96 : Int) (h : Heap) : Prop := Pt Try.prog Try.f8 R [true, true, false, false, true, true, false, false, true, false, true, true, true, true, true, true, true] (mkFr [(0, (Value.slice A0 n0 c0)), (9, (Value.func (.func 49) #[] #[(Value.pointer (some a9_0)), (Value.pointer (some a9_1))])), (10, (Value.slice A10 n10 c10)), (12, (Value.int .i64 x12)), (95, (Value.int .i64 x95)), (96, (Value.int .i64 x96))]) h
def f8.l1 (R : Value → Heap → Prop) (A0 : Option Addr) (n0 : Nat) (c0 : Nat) (a9_0 : Addr) (a9_1 : Addr) (A10 : Option Addr) (n10 : Nat) (c10 : Nat) (x12 : Int) (x95 : Int) (x96 : Int) (x118 : Int) (x119 : Int) (h : Heap) : Prop := Pt Try.prog Try.f8 R [false, false, true, true, true, false, false, true, true, false, false, true, false, true, true, true, true, true, true, true] (mkFr [(0, (Value.slice A0 n0 c0)), (9, (Value.func (.func 49) #[] #[(Value.pointer (some a9_0)), (Value.pointer (some a9_1))])), (10, (Value.slice A10 n10 c10)), (12, (Value.int .i64 x12)), (95, (Value.int .i64 x95)), (96, (Value.int .i64 x96)), (118, (Value.int .i64 x118)), (119, (Value.int .i64 x119))]) h
set_option maxRecDepth 100000 in
def f8.j0T (R : Value → Heap → Prop) (A0 : Option Addr) (n0 : Nat) (c0 : Nat) (a4 : Addr) (a5 : Addr) (h : Heap) : Prop :=
  ∃ v1_, ldv false 1 h a4 = some v1_ ∧ ∃ x2_, v1_ = (Value.int .i64 x2_) ∧ (100 : Int) ≠ 0 ∧ ((∃ v3_, ldv false 1 h a5 = some v3_ ∧ ∃ x4_, v3_ = (Value.int .i64 x4_) ∧ Ext h h ∧ ((9 : Int) ≠ 0 ∧ (∃ h5_, st1 h a4 (Value.int .i64 (IntKind.wrap .i64 (Int.tmod (IntKind.wrap .u64 x2_) (100 : Int)))) = some h5_ ∧ ∃ h6_, st1 h5_ a5 (Value.int .i64 (IntKind.wrap .i64 ((1 : Int) + (IntKind.wrap .i64 (Int.tmod (IntKind.wrap .u64 x4_) (9 : Int)))))) = some h6_ ∧ Run Try.prog 46 #[(Value.slice A0 n0 c0), (Value.func (.func 49) #[] #[(Value.pointer (some a5)), (Value.pointer (some a4))])] h6_ fun v7_ h8_ => ∃ A9_, ∃ n9_, ∃ c9_, ∃ x10_, v7_ = (Value.tuple #[(Value.slice A9_ n9_ c9_), (Value.int .i64 x10_)]) ∧ splitB (decide (((n0 : Nat) : Int) > (200 : Int))) (splitB (x10_ == (2 : Int)) (R (Value.bool (((n9_ : Nat) : Int) == (0 : Int))) h8_) (R (Value.bool false) h8_)) (Run Try.prog 24 #[(Value.slice A0 n0 c0), (Value.func (.func 50) #[] #[])] h8_ fun v11_ h12_ => ∃ b13_, v11_ = (Value.bool b13_) ∧ splitB b13_ (splitB (x10_ == (1 : Int)) (R (Value.bool (((n9_ : Nat) : Int) == (0 : Int))) h12_) (R (Value.bool false) h12_)) (Run Try.prog 51 #[(Value.slice A0 n0 c0)] h12_ fun v14_ h15_ => ∃ A16_, ∃ n16_, ∃ c16_, v14_ = (Value.slice A16_ n16_ c16_) ∧ Run Try.prog 49 #[(Value.slice A16_ n16_ c16_), (Value.pointer (some a5)), (Value.pointer (some a4))] h15_ fun v17_ h18_ => ∃ b19_, v17_ = (Value.bool b19_) ∧ splitB (!b19_) (splitB (x10_ == (4 : Int)) (R (Value.bool (((n9_ : Nat) : Int) == (0 : Int))) h18_) (R (Value.bool false) h18_)) (splitB (x10_ != (0 : Int)) (R (Value.bool false) h18_) (splitB (((n9_ : Nat) : Int) != ((n0 : Nat) : Int)) (R (Value.bool false) h18_) (Run Try.prog 51 #[(Value.slice A9_ n9_ c9_)] h18_ fun v20_ h21_ => ∃ A22_, ∃ n22_, ∃ c22_, v20_ = (Value.slice A22_ n22_ c22_) ∧ Run Try.prog 49 #[(Value.slice A22_ n22_ c22_), (Value.pointer (some a5)), (Value.pointer (some a4))] h21_ fun v23_ h24_ => ∃ b25_, v23_ = (Value.bool b25_) ∧ splitB (!b25_) (R (Value.bool false) h24_) (f8.j1 R A0 n0 c0 a5 a4 A9_ n9_ c9_ h24_))))))))) ∧ (∃ h26_, st1 h a4 (Value.int .i64 (IntKind.wrap .i64 (Int.tmod (IntKind.wrap .u64 x2_) (100 : Int)))) = some h26_ ∧ ∃ v27_, ldv false 1 h26_ a5 = some v27_ ∧ ∃ x28_, v27_ = (Value.int .i64 x28_) ∧ Ext h26_ h26_ ∧ ((9 : Int) ≠ 0 ∧ (∃ h29_, st1 h26_ a5 (Value.int .i64 (IntKind.wrap .i64 ((1 : Int) + (IntKind.wrap .i64 (Int.tmod (IntKind.wrap .u64 x28_) (9 : Int)))))) = some h29_ ∧ Run Try.prog 46 #[(Value.slice A0 n0 c0), (Value.func (.func 49) #[] #[(Value.pointer (some a5)), (Value.pointer (some a4))])] h29_ fun v30_ h31_ => ∃ A32_, ∃ n32_, ∃ c32_, ∃ x33_, v30_ = (Value.tuple #[(Value.slice A32_ n32_ c32_), (Value.int .i64 x33_)]) ∧ splitB (decide (((n0 : Nat) : Int) > (200 : Int))) (splitB (x33_ == (2 : Int)) (R (Value.bool (((n32_ : Nat) : Int) == (0 : Int))) h31_) (R (Value.bool false) h31_)) (Run Try.prog 24 #[(Value.slice A0 n0 c0), (Value.func (.func 50) #[] #[])] h31_ fun v34_ h35_ => ∃ b36_, v34_ = (Value.bool b36_) ∧ splitB b36_ (splitB (x33_ == (1 : Int)) (R (Value.bool (((n32_ : Nat) : Int) == (0 : Int))) h35_) (R (Value.bool false) h35_)) (Run Try.prog 51 #[(Value.slice A0 n0 c0)] h35_ fun v37_ h38_ => ∃ A39_, ∃ n39_, ∃ c39_, v37_ = (Value.slice A39_ n39_ c39_) ∧ Run Try.prog 49 #[(Value.slice A39_ n39_ c39_), (Value.pointer (some a5)), (Value.pointer (some a4))] h38_ fun v40_ h41_ => ∃ b42_, v40_ = (Value.bool b42_) ∧ splitB (!b42_) (splitB (x33_ == (4 : Int)) (R (Value.bool (((n32_ : Nat) : Int) == (0 : Int))) h41_) (R (Value.bool false) h41_)) (splitB (x33_ != (0 : Int)) (R (Value.bool false) h41_) (splitB (((n32_ : Nat) : Int) != ((n0 : Nat) : Int)) (R (Value.bool false) h41_) (Run Try.prog 51 #[(Value.slice A32_ n32_ c32_)] h41_ fun v43_ h44_ => ∃ A45_, ∃ n45_, ∃ c45_, v43_ = (Value.slice A45_ n45_ c45_) ∧ Run Try.prog 49 #[(Value.slice A45_ n45_ c45_), (Value.pointer (some a5)), (Value.pointer (some a4))] h44_ fun v46_ h47_ => ∃ b48_, v46_ = (Value.bool b48_) ∧ splitB (!b48_) (R (Value.bool false) h47_) (f8.j1 R A0 n0 c0 a5 a4 A32_ n32_ c32_ h47_))))))))))
set_option maxRecDepth 100000 in
theorem f8.j0_in {R : Value → Heap → Prop} {A0 : Option Addr} {n0 : Nat} {c0 : Nat} {a4 : Addr} {a5 : Addr} {h : Heap} (H : f8.j0T R A0 n0 c0 a4 a5 h) : f8.j0 R A0 n0 c0 a4 a5 h :=
  pt_intro mixed f8.good (Eq.mpr (show (Fwd Try.prog f8.T f8.kp Try.f8 R [true, true] (mkFr [(0, (Value.slice A0 n0 c0)), (4, (Value.pointer (some a4))), (5, (Value.pointer (some a5)))]) h) = (f8.j0T R A0 n0 c0 a4 a5 h) by kernel_rfl) H)
set_option maxRecDepth 100000 in
def f8.j1T (R : Value → Heap → Prop) (A0 : Option Addr) (n0 : Nat) (c0 : Nat) (a9_0 : Addr) (a9_1 : Addr) (A10 : Option Addr) (n10 : Nat) (c10 : Nat) (h : Heap) : Prop :=
  f8.l0 R A0 n0 c0 a9_0 a9_1 A10 n10 c10 ((n10 : Nat) : Int) (0 : Int) h
set_option maxRecDepth 100000 in
theorem f8.j1_in {R : Value → Heap → Prop} {A0 : Option Addr} {n0 : Nat} {c0 : Nat} {a9_0 : Addr} {a9_1 : Addr} {A10 : Option Addr} {n10 : Nat} {c10 : Nat} {h : Heap} (H : f8.j1T R A0 n0 c0 a9_0 a9_1 A10 n10 c10 h) : f8.j1 R A0 n0 c0 a9_0 a9_1 A10 n10 c10 h :=
  pt_intro mixed f8.good (Eq.mpr (show (Fwd Try.prog f8.T f8.kp Try.f8 R [true, true, true, true, true, true, true] (mkFr [(0, (Value.slice A0 n0 c0)), (9, (Value.func (.func 49) #[] #[(Value.pointer (some a9_0)), (Value.pointer (some a9_1))])), (10, (Value.slice A10 n10 c10))]) h) = (f8.j1T R A0 n0 c0 a9_0 a9_1 A10 n10 c10 h) by kernel_rfl) H)
set_option maxRecDepth 100000 in
def f8.l0T (R : Value → Heap → Prop) (A0 : Option Addr) (n0 : Nat) (c0 : Nat) (a9_0 : Addr) (a9_1 : Addr) (A10 : Option Addr) (n10 : Nat) (c10 : Nat) (x95 : Int) (x96 : Int) (h : Heap) : Prop :=
  splitB (decide (x96 < x95)) (ptrOk A10 fun a1_ => 0 ≤ x96 ∧ x96 < ((n10 : Nat) : Int) ∧ (∃ v2_, ldv false 1 h (Addr.add a1_ (Int.toNat x96 * 1)) = some v2_ ∧ ∃ x3_, v2_ = (Value.int .i64 x3_) ∧ splitB (decide (x3_ < (0 : Int))) (R (Value.bool false) h) (ptrOk A10 fun a4_ => 0 ≤ x96 ∧ x96 < ((n10 : Nat) : Int) ∧ (ptrOk A0 fun a5_ => 0 ≤ x96 ∧ x96 < ((n0 : Nat) : Int) ∧ (∃ v6_, ldv false 1 h (Addr.add a4_ (Int.toNat x96 * 1)) = some v6_ ∧ ∃ x7_, v6_ = (Value.int .i64 x7_) ∧ ∃ v8_, ldv false 1 h (Addr.add a5_ (Int.toNat x96 * 1)) = some v8_ ∧ ∃ x9_, v8_ = (Value.int .i64 x9_) ∧ splitB (decide (x7_ > x9_)) (R (Value.bool false) h) (f8.j2 R A0 n0 c0 a9_0 a9_1 A10 n10 c10 x96 x95 x96 h)))))) (R (Value.bool true) h)
set_option maxRecDepth 100000 in
theorem f8.l0_in {R : Value → Heap → Prop} {A0 : Option Addr} {n0 : Nat} {c0 : Nat} {a9_0 : Addr} {a9_1 : Addr} {A10 : Option Addr} {n10 : Nat} {c10 : Nat} {x95 : Int} {x96 : Int} {h : Heap} (H : f8.l0T R A0 n0 c0 a9_0 a9_1 A10 n10 c10 x95 x96 h) : f8.l0 R A0 n0 c0 a9_0 a9_1 A10 n10 c10 x95 x96 h :=
  pt_intro mixed f8.good (Eq.mpr (show (Fwd Try.prog f8.T f8.kp Try.f8 R [false, false, true, false, true, true, true, true, true, true, true] (mkFr [(0, (Value.slice A0 n0 c0)), (9, (Value.func (.func 49) #[] #[(Value.pointer (some a9_0)), (Value.pointer (some a9_1))])), (10, (Value.slice A10 n10 c10)), (95, (Value.int .i64 x95)), (96, (Value.int .i64 x96))]) h) = (f8.l0T R A0 n0 c0 a9_0 a9_1 A10 n10 c10 x95 x96 h) by kernel_rfl) H)
set_option maxRecDepth 100000 in
def f8.j2T (R : Value → Heap → Prop) (A0 : Option Addr) (n0 : Nat) (c0 : Nat) (a9_0 : Addr) (a9_1 : Addr) (A10 : Option Addr) (n10 : Nat) (c10 : Nat) (x12 : Int) (x95 : Int) (x96 : Int) (h : Heap) : Prop :=
  ptrOk A10 fun a1_ => 0 ≤ x12 ∧ x12 < ((n10 : Nat) : Int) ∧ (∃ v2_, ldv false 1 h (Addr.add a1_ (Int.toNat x12 * 1)) = some v2_ ∧ ∃ x3_, v2_ = (Value.int .i64 x3_) ∧ f8.l1 R A0 n0 c0 a9_0 a9_1 A10 n10 c10 x12 x95 x96 x3_ (0 : Int) h)
set_option maxRecDepth 100000 in
theorem f8.j2_in {R : Value → Heap → Prop} {A0 : Option Addr} {n0 : Nat} {c0 : Nat} {a9_0 : Addr} {a9_1 : Addr} {A10 : Option Addr} {n10 : Nat} {c10 : Nat} {x12 : Int} {x95 : Int} {x96 : Int} {h : Heap} (H : f8.j2T R A0 n0 c0 a9_0 a9_1 A10 n10 c10 x12 x95 x96 h) : f8.j2 R A0 n0 c0 a9_0 a9_1 A10 n10 c10 x12 x95 x96 h :=
  pt_intro mixed f8.good (Eq.mpr (show (Fwd Try.prog f8.T f8.kp Try.f8 R [true, true, false, false, true, true, false, false, true, false, true, true, true, true, true, true, true] (mkFr [(0, (Value.slice A0 n0 c0)), (9, (Value.func (.func 49) #[] #[(Value.pointer (some a9_0)), (Value.pointer (some a9_1))])), (10, (Value.slice A10 n10 c10)), (12, (Value.int .i64 x12)), (95, (Value.int .i64 x95)), (96, (Value.int .i64 x96))]) h) = (f8.j2T R A0 n0 c0 a9_0 a9_1 A10 n10 c10 x12 x95 x96 h) by kernel_rfl) H)
set_option maxRecDepth 100000 in
def f8.l1T (R : Value → Heap → Prop) (A0 : Option Addr) (n0 : Nat) (c0 : Nat) (a9_0 : Addr) (a9_1 : Addr) (A10 : Option Addr) (n10 : Nat) (c10 : Nat) (x12 : Int) (x95 : Int) (x96 : Int) (x118 : Int) (x119 : Int) (h : Heap) : Prop :=
  splitB (decide (x119 < x118)) (Run Try.prog 51 #[(Value.slice A10 n10 c10)] h fun v1_ h2_ => ∃ A3_, ∃ n3_, ∃ c3_, v1_ = (Value.slice A3_ n3_ c3_) ∧ ptrOk A3_ fun a4_ => 0 ≤ x12 ∧ x12 < ((n3_ : Nat) : Int) ∧ (∃ h5_, st1 h2_ (Addr.add a4_ (Int.toNat x12 * 1)) (Value.int .i64 x119) = some h5_ ∧ Run Try.prog 49 #[(Value.slice A3_ n3_ c3_), (Value.pointer (some a9_0)), (Value.pointer (some a9_1))] h5_ fun v6_ h7_ => ∃ b8_, v6_ = (Value.bool b8_) ∧ splitB b8_ (R (Value.bool false) h7_) (f8.l1 R A0 n0 c0 a9_0 a9_1 A10 n10 c10 x12 x95 x96 x118 (IntKind.wrap .i64 (x119 + (1 : Int))) h7_))) (f8.l0 R A0 n0 c0 a9_0 a9_1 A10 n10 c10 x95 (IntKind.wrap .i64 (x96 + (1 : Int))) h)
set_option maxRecDepth 100000 in
theorem f8.l1_in {R : Value → Heap → Prop} {A0 : Option Addr} {n0 : Nat} {c0 : Nat} {a9_0 : Addr} {a9_1 : Addr} {A10 : Option Addr} {n10 : Nat} {c10 : Nat} {x12 : Int} {x95 : Int} {x96 : Int} {x118 : Int} {x119 : Int} {h : Heap} (H : f8.l1T R A0 n0 c0 a9_0 a9_1 A10 n10 c10 x12 x95 x96 x118 x119 h) : f8.l1 R A0 n0 c0 a9_0 a9_1 A10 n10 c10 x12 x95 x96 x118 x119 h :=
  pt_intro mixed f8.good (Eq.mpr (show (Fwd Try.prog f8.T f8.kp Try.f8 R [false, false, true, true, true, false, false, true, true, false, false, true, false, true, true, true, true, true, true, true] (mkFr [(0, (Value.slice A0 n0 c0)), (9, (Value.func (.func 49) #[] #[(Value.pointer (some a9_0)), (Value.pointer (some a9_1))])), (10, (Value.slice A10 n10 c10)), (12, (Value.int .i64 x12)), (95, (Value.int .i64 x95)), (96, (Value.int .i64 x96)), (118, (Value.int .i64 x118)), (119, (Value.int .i64 x119))]) h) = (f8.l1T R A0 n0 c0 a9_0 a9_1 A10 n10 c10 x12 x95 x96 x118 x119 h) by kernel_rfl) H)
set_option maxRecDepth 100000 in
def f8.runT (R : Value → Heap → Prop) (A0 : Option Addr) (n0 : Nat) (c0 : Nat) (x1 : Int) (x2 : Int) (h : Heap) : Prop :=
  newH h (Obj.cells #[(Value.int .i64 x1)] 3) fun h1_ => newH h1_ (Obj.cells #[(Value.int .i64 x2)] 3) fun h2_ => newH h2_ (Obj.cells #[(Value.int .i64 (5 : Int)), (Value.int .i64 (9 : Int))] 3) fun h3_ => Run Try.prog 46 #[(Value.slice (some ⟨Array.size h2_, 0, none⟩) 2 2), (Value.func (.func 47) #[] #[])] h3_ fun v4_ h5_ => ∃ A6_, ∃ n6_, ∃ c6_, ∃ x7_, v4_ = (Value.tuple #[(Value.slice A6_ n6_ c6_), (Value.int .i64 x7_)]) ∧ splitB (x7_ != (0 : Int)) (R (Value.bool false) h5_) (newH h5_ (Obj.cells #[(Value.int .i64 (0 : Int)), (Value.int .i64 (4 : Int))] 3) fun h8_ => Run Try.prog 48 #[(Value.slice A6_ n6_ c6_), (Value.slice (some ⟨Array.size h5_, 0, none⟩) 2 2)] h8_ fun v9_ h10_ => ∃ b11_, v9_ = (Value.bool b11_) ∧ splitB (!b11_) (R (Value.bool false) h10_) (f8.j0 R A0 n0 c0 (⟨Array.size h, 0, none⟩) (⟨Array.size h1_, 0, none⟩) h10_))
set_option maxRecDepth 100000 in
theorem f8.run {R : Value → Heap → Prop} {A0 : Option Addr} {n0 : Nat} {c0 : Nat} {x1 : Int} {x2 : Int} {h : Heap} (H : f8.runT R A0 n0 c0 x1 x2 h) : Run Try.prog 8 #[(Value.slice A0 n0 c0), (Value.int .i64 x1), (Value.int .i64 x2)] h R :=
  run_of mixed Try.func8 (by kernel_rfl) (by kernel_rfl) f8.good (Eq.mpr (show (Fwd Try.prog f8.T f8.kp Try.f8 R [] (mkFr (argL [(Value.slice A0 n0 c0), (Value.int .i64 x1), (Value.int .i64 x2)] 0)) h) = (f8.runT R A0 n0 c0 x1 x2 h) by kernel_rfl) H)

/-! ### slices.IndexFunc[[]roadstead/turn.Job,roadstead/turn.Job]: function 111 -/
def f111.T : Tab := { sh := tSh, tup := tTup, keep := [], plan := [] }
def f111.kp : Keep := [([false, false, true, false, true], [0, 1, 7, 8])]
theorem f111.good : goodCode Try.prog f111.T (rootOf Try.f111) = true := by kernel_rfl
set_option maxRecDepth 100000 in
theorem f111.ok : calleeOk Try.prog 111 = true := by kernel_rfl
def f111.l0 (R : Value → Heap → Prop) (A0 : Option Addr) (n0 : Nat) (c0 : Nat) (v1 : Value) (x7 : Int) (x8 : Int) (h : Heap) : Prop := Pt Try.prog Try.f111 R [false, false, true, false, true] (mkFr [(0, (Value.slice A0 n0 c0)), (1, v1), (7, (Value.int .i64 x7)), (8, (Value.int .i64 x8))]) h
set_option maxRecDepth 100000 in
def f111.l0T (R : Value → Heap → Prop) (A0 : Option Addr) (n0 : Nat) (c0 : Nat) (v1 : Value) (x7 : Int) (x8 : Int) (h : Heap) : Prop :=
  splitB (decide (x8 < x7)) (ptrOk A0 fun a1_ => 0 ≤ x8 ∧ x8 < ((n0 : Nat) : Int) ∧ (∃ v2_, ldv true 2 h (Addr.add a1_ (Int.toNat x8 * 2)) = some v2_ ∧ CallF Try.prog v1 [v2_] h fun v3_ h4_ => ∃ b5_, v3_ = (Value.bool b5_) ∧ splitB b5_ (R (Value.int .i64 x8) h4_) (f111.l0 R A0 n0 c0 v1 x7 (IntKind.wrap .i64 (x8 + (1 : Int))) h4_))) (R (Value.int .i64 (-1 : Int)) h)
set_option maxRecDepth 100000 in
theorem f111.l0_in {R : Value → Heap → Prop} {A0 : Option Addr} {n0 : Nat} {c0 : Nat} {v1 : Value} {x7 : Int} {x8 : Int} {h : Heap} (H : f111.l0T R A0 n0 c0 v1 x7 x8 h) : f111.l0 R A0 n0 c0 v1 x7 x8 h :=
  pt_intro mixed f111.good (Eq.mpr (show (Fwd Try.prog f111.T f111.kp Try.f111 R [false, false, true, false, true] (mkFr [(0, (Value.slice A0 n0 c0)), (1, v1), (7, (Value.int .i64 x7)), (8, (Value.int .i64 x8))]) h) = (f111.l0T R A0 n0 c0 v1 x7 x8 h) by kernel_rfl) H)
set_option maxRecDepth 100000 in
def f111.runT (R : Value → Heap → Prop) (A0 : Option Addr) (n0 : Nat) (c0 : Nat) (v1 : Value) (h : Heap) : Prop :=
  f111.l0 R A0 n0 c0 v1 ((n0 : Nat) : Int) (0 : Int) h
set_option maxRecDepth 100000 in
theorem f111.run {R : Value → Heap → Prop} {A0 : Option Addr} {n0 : Nat} {c0 : Nat} {v1 : Value} {h : Heap} (H : f111.runT R A0 n0 c0 v1 h) : Run Try.prog 111 #[(Value.slice A0 n0 c0), v1] h R :=
  run_of mixed Try.func111 (by kernel_rfl) (by kernel_rfl) f111.good (Eq.mpr (show (Fwd Try.prog f111.T f111.kp Try.f111 R [] (mkFr (argL [(Value.slice A0 n0 c0), v1] 0)) h) = (f111.runT R A0 n0 c0 v1 h) by kernel_rfl) H)

/-! ### slices.ContainsFunc[[]roadstead/turn.Job,roadstead/turn.Job]: function 52 -/
def f52.T : Tab := { sh := tSh, tup := tTup, keep := [], plan := [] }
def f52.kp : Keep := []
theorem f52.good : goodCode Try.prog f52.T (rootOf Try.f52) = true := by kernel_rfl
set_option maxRecDepth 100000 in
theorem f52.ok : calleeOk Try.prog 52 = true := by kernel_rfl
set_option maxRecDepth 100000 in
def f52.runT (R : Value → Heap → Prop) (A0 : Option Addr) (n0 : Nat) (c0 : Nat) (v1 : Value) (h : Heap) : Prop :=
  Run Try.prog 111 #[(Value.slice A0 n0 c0), v1] h fun v1_ h2_ => ∃ x3_, v1_ = (Value.int .i64 x3_) ∧ R (Value.bool (decide (x3_ ≥ (0 : Int)))) h2_
set_option maxRecDepth 100000 in
theorem f52.run {R : Value → Heap → Prop} {A0 : Option Addr} {n0 : Nat} {c0 : Nat} {v1 : Value} {h : Heap} (H : f52.runT R A0 n0 c0 v1 h) : Run Try.prog 52 #[(Value.slice A0 n0 c0), v1] h R :=
  run_of mixed Try.func52 (by kernel_rfl) (by kernel_rfl) f52.good (Eq.mpr (show (Fwd Try.prog f52.T f52.kp Try.f52 R [] (mkFr (argL [(Value.slice A0 n0 c0), v1] 0)) h) = (f52.runT R A0 n0 c0 v1 h) by kernel_rfl) H)

/-! ### roadstead/roadlaw3.TurnPlans$1: function 53 -/
def f53.T : Tab := { sh := tSh, tup := tTup, keep := [], plan := [] }
def f53.kp : Keep := []
theorem f53.good : goodCode Try.prog f53.T (rootOf Try.f53) = true := by kernel_rfl
set_option maxRecDepth 100000 in
theorem f53.ok : calleeOk Try.prog 53 = true := by kernel_rfl
set_option maxRecDepth 100000 in
def f53.runT (R : Value → Heap → Prop) (v0 : Value) (h : Heap) : Prop :=
  newH h (Obj.cells ((v0).cells) 80) fun h1_ => ∃ v2_, ldv false 1 h1_ (Addr.add (⟨Array.size h, 0, none⟩) 1) = some v2_ ∧ ∃ x3_, v2_ = (Value.int .i64 x3_) ∧ splitB (decide (x3_ > (200 : Int))) (∃ v4_, ldv false 1 h1_ (Addr.add (⟨Array.size h, 0, none⟩) 1) = some v4_ ∧ ∃ x5_, v4_ = (Value.int .i64 x5_) ∧ R (Value.bool (decide (x5_ ≤ (10000 : Int)))) h1_) (R (Value.bool false) h1_)
set_option maxRecDepth 100000 in
theorem f53.run {R : Value → Heap → Prop} {v0 : Value} {h : Heap} (H : f53.runT R v0 h) : Run Try.prog 53 #[v0] h R :=
  run_of mixed Try.func53 (by kernel_rfl) (by kernel_rfl) f53.good (Eq.mpr (show (Fwd Try.prog f53.T f53.kp Try.f53 R [] (mkFr (argL [v0] 0)) h) = (f53.runT R v0 h) by kernel_rfl) H)

/-! ### slices.Clone[[]roadstead/turn.Job,roadstead/turn.Job]: function 112 -/
def f112.T : Tab := { sh := tSh, tup := tTup, keep := [], plan := [] }
def f112.kp : Keep := []
theorem f112.good : goodCode Try.prog f112.T (rootOf Try.f112) = true := by kernel_rfl
set_option maxRecDepth 100000 in
theorem f112.ok : calleeOk Try.prog 112 = true := by kernel_rfl
set_option maxRecDepth 100000 in
def f112.runT (R : Value → Heap → Prop) (A0 : Option Addr) (n0 : Nat) (c0 : Nat) (h : Heap) : Prop :=
  splitB (Option.isNone A0) (R (Value.slice none 0 0) h) (newH h (Obj.cells #[] 80) fun h1_ => AppW 80 2 16 #[(Value.int .i64 (0 : Int)), (Value.int .i64 (0 : Int))] (some ⟨Array.size h, 0, none⟩) 0 0 (Value.slice A0 n0 c0) h1_ fun v2_ h3_ => ∃ A4_, ∃ n4_, ∃ c4_, v2_ = (Value.slice A4_ n4_ c4_) ∧ R (Value.slice A4_ n4_ c4_) h3_)
set_option maxRecDepth 100000 in
theorem f112.run {R : Value → Heap → Prop} {A0 : Option Addr} {n0 : Nat} {c0 : Nat} {h : Heap} (H : f112.runT R A0 n0 c0 h) : Run Try.prog 112 #[(Value.slice A0 n0 c0)] h R :=
  run_of mixed Try.func112 (by kernel_rfl) (by kernel_rfl) f112.good (Eq.mpr (show (Fwd Try.prog f112.T f112.kp Try.f112 R [] (mkFr (argL [(Value.slice A0 n0 c0)] 0)) h) = (f112.runT R A0 n0 c0 h) by kernel_rfl) H)

/-! ### roadstead/turn.Plan$1: function 113 -/
def f113.T : Tab := { sh := tSh, tup := tTup, keep := [], plan := [] }
def f113.kp : Keep := []
theorem f113.good : goodCode Try.prog f113.T (rootOf Try.f113) = true := by kernel_rfl
set_option maxRecDepth 100000 in
theorem f113.ok : calleeOk Try.prog 113 = true := by kernel_rfl
set_option maxRecDepth 100000 in
def f113.runT (R : Value → Heap → Prop) (v0 : Value) (a1 : Addr) (h : Heap) : Prop :=
  newH h (Obj.cells ((v0).cells) 80) fun h1_ => ∃ v2_, ldv false 1 h1_ (⟨Array.size h, 0, none⟩) = some v2_ ∧ ∃ x3_, v2_ = (Value.int .i64 x3_) ∧ ∃ v4_, ldv false 1 h1_ a1 = some v4_ ∧ ∃ x5_, v4_ = (Value.int .i64 x5_) ∧ R (Value.bool (x3_ == x5_)) h1_
set_option maxRecDepth 100000 in
theorem f113.run {R : Value → Heap → Prop} {v0 : Value} {a1 : Addr} {h : Heap} (H : f113.runT R v0 a1 h) : Run Try.prog 113 #[v0, (Value.pointer (some a1))] h R :=
  run_of mixed Try.func113 (by kernel_rfl) (by kernel_rfl) f113.good (Eq.mpr (show (Fwd Try.prog f113.T f113.kp Try.f113 R [] (mkFr (argL [v0, (Value.pointer (some a1))] 0)) h) = (f113.runT R v0 a1 h) by kernel_rfl) H)

/-! ### roadstead/turn.Plan: function 54 -/
def f54.T : Tab := { sh := tSh, tup := tTup, keep := [], plan := [] }
def f54.kp : Keep := [([true, true, true, false, false, true], [0, 1, 16]), ([true, true], [0, 1]), ([false, false, true, false, true, true, true], [0, 1, 6, 25, 26, 27]), ([true, false, true, false, false, true, true, false, false, true, false, true, true, true], [0, 1, 6, 7, 8, 25, 26, 27, 39]), ([true, true, false, false, true, true, false, false, true, false, true, true, true], [0, 1, 6, 7, 8, 25, 26, 27]), ([false, false, true, false, true, true, true, true, true], [1, 6, 9, 10])]
theorem f54.good : goodCode Try.prog f54.T (rootOf Try.f54) = true := by kernel_rfl
set_option maxRecDepth 100000 in
theorem f54.ok : calleeOk Try.prog 54 = true := by kernel_rfl
def f54.j1 (R : Value → Heap → Prop) (A0 : Option Addr) (n0 : Nat) (c0 : Nat) (x1 : Int) (b16 : Bool) (h : Heap) : Prop := Pt Try.prog Try.f54 R [true, true, true, false, false, true] (mkFr [(0, (Value.slice A0 n0 c0)), (1, (Value.int .i64 x1)), (16, (Value.bool b16))]) h
def f54.j0 (R : Value → Heap → Prop) (A0 : Option Addr) (n0 : Nat) (c0 : Nat) (x1 : Int) (h : Heap) : Prop := Pt Try.prog Try.f54 R [true, true] (mkFr [(0, (Value.slice A0 n0 c0)), (1, (Value.int .i64 x1))]) h
def f54.l0 (R : Value → Heap → Prop) (A0 : Option Addr) (n0 : Nat) (c0 : Nat) (x1 : Int) (A6 : Option Addr) (n6 : Nat) (c6 : Nat) (A25 : Option Addr) (n25 : Nat) (c25 : Nat) (x26 : Int) (x27 : Int) (h : Heap) : Prop := Pt Try.prog Try.f54 R [false, false, true, false, true, true, true] (mkFr [(0, (Value.slice A0 n0 c0)), (1, (Value.int .i64 x1)), (6, (Value.slice A6 n6 c6)), (25, (Value.slice A25 n25 c25)), (26, (Value.int .i64 x26)), (27, (Value.int .i64 x27))]) h
def f54.j3 (R : Value → Heap → Prop) (A0 : Option Addr) (n0 : Nat) (c0 : Nat) (x1 : Int) (A6 : Option Addr) (n6 : Nat) (c6 : Nat) (x7 : Int) (a8 : Addr) (A25 : Option Addr) (n25 : Nat) (c25 : Nat) (x26 : Int) (x27 : Int) (b39 : Bool) (h : Heap) : Prop := Pt Try.prog Try.f54 R [true, false, true, false, false, true, true, false, false, true, false, true, true, true] (mkFr [(0, (Value.slice A0 n0 c0)), (1, (Value.int .i64 x1)), (6, (Value.slice A6 n6 c6)), (7, (Value.int .i64 x7)), (8, (Value.pointer (some a8))), (25, (Value.slice A25 n25 c25)), (26, (Value.int .i64 x26)), (27, (Value.int .i64 x27)), (39, (Value.bool b39))]) h
def f54.l1 (R : Value → Heap → Prop) (x1 : Int) (A6 : Option Addr) (n6 : Nat) (c6 : Nat) (A9 : Option Addr) (n9 : Nat) (c9 : Nat) (x10 : Int) (h : Heap) : Prop := Pt Try.prog Try.f54 R [false, false, true, false, true, true, true, true, true] (mkFr [(1, (Value.int .i64 x1)), (6, (Value.slice A6 n6 c6)), (9, (Value.slice A9 n9 c9)), (10, (Value.int .i64 x10))]) h
def f54.j2 (R : Value → Heap → Prop) (A0 : Option Addr) (n0 : Nat) (c0 : Nat) (x1 : Int) (A6 : Option Addr) (n6 : Nat) (c6 : Nat) (x7 : Int) (a8 : Addr) (A25 : Option Addr) (n25 : Nat) (c25 : Nat) (x26 : Int) (x27 : Int) (h : Heap) : Prop := Pt Try.prog Try.f54 R [true, true, false, false, true, true, false, false, true, false, true, true, true] (mkFr [(0, (Value.slice A0 n0 c0)), (1, (Value.int .i64 x1)), (6, (Value.slice A6 n6 c6)), (7, (Value.int .i64 x7)), (8, (Value.pointer (some a8))), (25, (Value.slice A25 n25 c25)), (26, (Value.int .i64 x26)), (27, (Value.int .i64 x27))]) h
set_option maxRecDepth 100000 in
def f54.j1T (R : Value → Heap → Prop) (A0 : Option Addr) (n0 : Nat) (c0 : Nat) (x1 : Int) (b16 : Bool) (h : Heap) : Prop :=
  splitB b16 (R (Value.tuple #[(Value.slice none 0 0), (Value.int .i64 (1 : Int))]) h) (f54.j0 R A0 n0 c0 x1 h)
set_option maxRecDepth 100000 in
theorem f54.j1_in {R : Value → Heap → Prop} {A0 : Option Addr} {n0 : Nat} {c0 : Nat} {x1 : Int} {b16 : Bool} {h : Heap} (H : f54.j1T R A0 n0 c0 x1 b16 h) : f54.j1 R A0 n0 c0 x1 b16 h :=
  pt_intro mixed f54.good (Eq.mpr (show (Fwd Try.prog f54.T f54.kp Try.f54 R [true, true, true, false, false, true] (mkFr [(0, (Value.slice A0 n0 c0)), (1, (Value.int .i64 x1)), (16, (Value.bool b16))]) h) = (f54.j1T R A0 n0 c0 x1 b16 h) by kernel_rfl) H)
set_option maxRecDepth 100000 in
def f54.j0T (R : Value → Heap → Prop) (A0 : Option Addr) (n0 : Nat) (c0 : Nat) (x1 : Int) (h : Heap) : Prop :=
  Run Try.prog 112 #[(Value.slice A0 n0 c0)] h fun v1_ h2_ => ∃ A3_, ∃ n3_, ∃ c3_, v1_ = (Value.slice A3_ n3_ c3_) ∧ f54.l0 R A0 n0 c0 x1 A3_ n3_ c3_ A0 n0 c0 ((n0 : Nat) : Int) (0 : Int) h2_
set_option maxRecDepth 100000 in
theorem f54.j0_in {R : Value → Heap → Prop} {A0 : Option Addr} {n0 : Nat} {c0 : Nat} {x1 : Int} {h : Heap} (H : f54.j0T R A0 n0 c0 x1 h) : f54.j0 R A0 n0 c0 x1 h :=
  pt_intro mixed f54.good (Eq.mpr (show (Fwd Try.prog f54.T f54.kp Try.f54 R [true, true] (mkFr [(0, (Value.slice A0 n0 c0)), (1, (Value.int .i64 x1))]) h) = (f54.j0T R A0 n0 c0 x1 h) by kernel_rfl) H)
set_option maxRecDepth 100000 in
def f54.l0T (R : Value → Heap → Prop) (A0 : Option Addr) (n0 : Nat) (c0 : Nat) (x1 : Int) (A6 : Option Addr) (n6 : Nat) (c6 : Nat) (A25 : Option Addr) (n25 : Nat) (c25 : Nat) (x26 : Int) (x27 : Int) (h : Heap) : Prop :=
  splitB (decide (x27 < x26)) (ptrOk A25 fun a1_ => 0 ≤ x27 ∧ x27 < ((n25 : Nat) : Int) ∧ (∃ v2_, ldv true 2 h (Addr.add a1_ (Int.toNat x27 * 2)) = some v2_ ∧ newH h (Obj.cells #[(Value.int .i64 (0 : Int)), (Value.int .i64 (0 : Int))] 80) fun h3_ => ∃ l5_ : List Value, v2_ = Value.agg l5_.toArray ∧ l5_.length = 2 ∧ ∃ h4_, stH h3_ (⟨Array.size h, 0, none⟩) l5_ 0 = some h4_ ∧ ∃ v6_, ldv false 1 h4_ (Addr.add (⟨Array.size h, 0, none⟩) 1) = some v6_ ∧ ∃ x7_, v6_ = (Value.int .i64 x7_) ∧ splitB (decide (x7_ < (1 : Int))) (f54.j3 R A0 n0 c0 x1 A6 n6 c6 x27 (⟨Array.size h, 0, none⟩) A25 n25 c25 x26 x27 true h4_) (∃ v8_, ldv false 1 h4_ (Addr.add (⟨Array.size h, 0, none⟩) 1) = some v8_ ∧ ∃ x9_, v8_ = (Value.int .i64 x9_) ∧ f54.j3 R A0 n0 c0 x1 A6 n6 c6 x27 (⟨Array.size h, 0, none⟩) A25 n25 c25 x26 x27 (decide (x9_ > (10000 : Int))) h4_))) (f54.l1 R x1 A6 n6 c6 none 0 0 (0 : Int) h)
set_option maxRecDepth 100000 in
theorem f54.l0_in {R : Value → Heap → Prop} {A0 : Option Addr} {n0 : Nat} {c0 : Nat} {x1 : Int} {A6 : Option Addr} {n6 : Nat} {c6 : Nat} {A25 : Option Addr} {n25 : Nat} {c25 : Nat} {x26 : Int} {x27 : Int} {h : Heap} (H : f54.l0T R A0 n0 c0 x1 A6 n6 c6 A25 n25 c25 x26 x27 h) : f54.l0 R A0 n0 c0 x1 A6 n6 c6 A25 n25 c25 x26 x27 h :=
  pt_intro mixed f54.good (Eq.mpr (show (Fwd Try.prog f54.T f54.kp Try.f54 R [false, false, true, false, true, true, true] (mkFr [(0, (Value.slice A0 n0 c0)), (1, (Value.int .i64 x1)), (6, (Value.slice A6 n6 c6)), (25, (Value.slice A25 n25 c25)), (26, (Value.int .i64 x26)), (27, (Value.int .i64 x27))]) h) = (f54.l0T R A0 n0 c0 x1 A6 n6 c6 A25 n25 c25 x26 x27 h) by kernel_rfl) H)
set_option maxRecDepth 100000 in
def f54.j3T (R : Value → Heap → Prop) (A0 : Option Addr) (n0 : Nat) (c0 : Nat) (x1 : Int) (A6 : Option Addr) (n6 : Nat) (c6 : Nat) (x7 : Int) (a8 : Addr) (A25 : Option Addr) (n25 : Nat) (c25 : Nat) (x26 : Int) (x27 : Int) (b39 : Bool) (h : Heap) : Prop :=
  splitB b39 (R (Value.tuple #[(Value.slice none 0 0), (Value.int .i64 (1 : Int))]) h) (f54.j2 R A0 n0 c0 x1 A6 n6 c6 x7 a8 A25 n25 c25 x26 x27 h)
set_option maxRecDepth 100000 in
theorem f54.j3_in {R : Value → Heap → Prop} {A0 : Option Addr} {n0 : Nat} {c0 : Nat} {x1 : Int} {A6 : Option Addr} {n6 : Nat} {c6 : Nat} {x7 : Int} {a8 : Addr} {A25 : Option Addr} {n25 : Nat} {c25 : Nat} {x26 : Int} {x27 : Int} {b39 : Bool} {h : Heap} (H : f54.j3T R A0 n0 c0 x1 A6 n6 c6 x7 a8 A25 n25 c25 x26 x27 b39 h) : f54.j3 R A0 n0 c0 x1 A6 n6 c6 x7 a8 A25 n25 c25 x26 x27 b39 h :=
  pt_intro mixed f54.good (Eq.mpr (show (Fwd Try.prog f54.T f54.kp Try.f54 R [true, false, true, false, false, true, true, false, false, true, false, true, true, true] (mkFr [(0, (Value.slice A0 n0 c0)), (1, (Value.int .i64 x1)), (6, (Value.slice A6 n6 c6)), (7, (Value.int .i64 x7)), (8, (Value.pointer (some a8))), (25, (Value.slice A25 n25 c25)), (26, (Value.int .i64 x26)), (27, (Value.int .i64 x27)), (39, (Value.bool b39))]) h) = (f54.j3T R A0 n0 c0 x1 A6 n6 c6 x7 a8 A25 n25 c25 x26 x27 b39 h) by kernel_rfl) H)
set_option maxRecDepth 100000 in
def f54.l1T (R : Value → Heap → Prop) (x1 : Int) (A6 : Option Addr) (n6 : Nat) (c6 : Nat) (A9 : Option Addr) (n9 : Nat) (c9 : Nat) (x10 : Int) (h : Heap) : Prop :=
  splitB (decide (((n6 : Nat) : Int) > (0 : Int))) (ptrOk A6 fun a1_ => 0 ≤ (0 : Int) ∧ (0 : Int) < ((n6 : Nat) : Int) ∧ (∃ v2_, ldv true 2 h (Addr.add a1_ (Int.toNat (0 : Int) * 2)) = some v2_ ∧ newH h (Obj.cells #[(Value.int .i64 (0 : Int)), (Value.int .i64 (0 : Int))] 80) fun h3_ => ∃ l5_ : List Value, v2_ = Value.agg l5_.toArray ∧ l5_.length = 2 ∧ ∃ h4_, stH h3_ (⟨Array.size h, 0, none⟩) l5_ 0 = some h4_ ∧ 0 ≤ (1 : Int) ∧ (1 : Int) ≤ ((n6 : Nat) : Int) ∧ ((n6 : Nat) : Int) ≤ ((c6 : Nat) : Int) ∧ (∃ v6_, ldv false 1 h4_ (Addr.add (⟨Array.size h, 0, none⟩) 1) = some v6_ ∧ ∃ x7_, v6_ = (Value.int .i64 x7_) ∧ ∃ v8_, ldv false 1 h4_ (Addr.add (⟨Array.size h, 0, none⟩) 1) = some v8_ ∧ ∃ x9_, v8_ = (Value.int .i64 x9_) ∧ ∃ h10_, st1 h4_ (Addr.add (⟨Array.size h, 0, none⟩) 1) (Value.int .i64 (IntKind.wrap .i64 (x9_ - x1))) = some h10_ ∧ ∃ v11_, ldv false 1 h10_ (Addr.add (⟨Array.size h, 0, none⟩) 1) = some v11_ ∧ ∃ x12_, v11_ = (Value.int .i64 x12_) ∧ splitB (decide (x12_ > (0 : Int))) (∃ v13_, ldv true 2 h10_ (⟨Array.size h, 0, none⟩) = some v13_ ∧ ∃ l14_ : List Value, v13_ = Value.agg l14_.toArray ∧ l14_.length = 2 ∧ (newH h10_ (Obj.cells ((List.take 0 ([(Value.int .i64 (0 : Int)), (Value.int .i64 (0 : Int))]) ++ l14_ ++ List.drop 2 ([(Value.int .i64 (0 : Int)), (Value.int .i64 (0 : Int))])).toArray) 80) fun h15_ => AppW 80 2 16 #[(Value.int .i64 (0 : Int)), (Value.int .i64 (0 : Int))] (sliceA A6 (Int.toNat (1 : Int)) c6 2) (Int.toNat ((n6 : Nat) : Int) - Int.toNat (1 : Int)) (c6 - Int.toNat (1 : Int)) (Value.slice (some ⟨Array.size h10_, 0, none⟩) 1 1) h15_ fun v16_ h17_ => ∃ A18_, ∃ n18_, ∃ c18_, v16_ = (Value.slice A18_ n18_ c18_) ∧ f54.l1 R x1 A18_ n18_ c18_ A9 n9 c9 (IntKind.wrap .i64 (x10 + (if x1 < x7_ then x1 else x7_))) h17_)) (∃ v19_, ldv false 1 h10_ (⟨Array.size h, 0, none⟩) = some v19_ ∧ ∃ x20_, v19_ = (Value.int .i64 x20_) ∧ ∃ l21_ : List Value, (Value.agg #[(Value.int .i64 x20_), (Value.int .i64 (IntKind.wrap .i64 (x10 + (if x1 < x7_ then x1 else x7_))))]) = Value.agg l21_.toArray ∧ l21_.length = 2 ∧ (newH h10_ (Obj.cells ((List.take 0 ([(Value.int .i64 (0 : Int)), (Value.int .i64 (0 : Int))]) ++ l21_ ++ List.drop 2 ([(Value.int .i64 (0 : Int)), (Value.int .i64 (0 : Int))])).toArray) 80) fun h22_ => AppW 80 2 16 #[(Value.int .i64 (0 : Int)), (Value.int .i64 (0 : Int))] A9 n9 c9 (Value.slice (some ⟨Array.size h10_, 0, none⟩) 1 1) h22_ fun v23_ h24_ => ∃ A25_, ∃ n25_, ∃ c25_, v23_ = (Value.slice A25_ n25_ c25_) ∧ f54.l1 R x1 (sliceA A6 (Int.toNat (1 : Int)) c6 2) (Int.toNat ((n6 : Nat) : Int) - Int.toNat (1 : Int)) (c6 - Int.toNat (1 : Int)) A25_ n25_ c25_ (IntKind.wrap .i64 (x10 + (if x1 < x7_ then x1 else x7_))) h24_))))) (R (Value.tuple #[(Value.slice A9 n9 c9), (Value.int .i64 (0 : Int))]) h)
set_option maxRecDepth 100000 in
theorem f54.l1_in {R : Value → Heap → Prop} {x1 : Int} {A6 : Option Addr} {n6 : Nat} {c6 : Nat} {A9 : Option Addr} {n9 : Nat} {c9 : Nat} {x10 : Int} {h : Heap} (H : f54.l1T R x1 A6 n6 c6 A9 n9 c9 x10 h) : f54.l1 R x1 A6 n6 c6 A9 n9 c9 x10 h :=
  pt_intro mixed f54.good (Eq.mpr (show (Fwd Try.prog f54.T f54.kp Try.f54 R [false, false, true, false, true, true, true, true, true] (mkFr [(1, (Value.int .i64 x1)), (6, (Value.slice A6 n6 c6)), (9, (Value.slice A9 n9 c9)), (10, (Value.int .i64 x10))]) h) = (f54.l1T R x1 A6 n6 c6 A9 n9 c9 x10 h) by kernel_rfl) H)
set_option maxRecDepth 100000 in
def f54.j2T (R : Value → Heap → Prop) (A0 : Option Addr) (n0 : Nat) (c0 : Nat) (x1 : Int) (A6 : Option Addr) (n6 : Nat) (c6 : Nat) (x7 : Int) (a8 : Addr) (A25 : Option Addr) (n25 : Nat) (c25 : Nat) (x26 : Int) (x27 : Int) (h : Heap) : Prop :=
  0 ≤ (0 : Int) ∧ (0 : Int) ≤ x7 ∧ x7 ≤ ((c0 : Nat) : Int) ∧ (Run Try.prog 52 #[(Value.slice (sliceA A0 (Int.toNat (0 : Int)) c0 2) (Int.toNat x7 - Int.toNat (0 : Int)) (c0 - Int.toNat (0 : Int))), (Value.func (.func 113) #[] #[(Value.pointer (some a8))])] h fun v1_ h2_ => ∃ b3_, v1_ = (Value.bool b3_) ∧ splitB b3_ (R (Value.tuple #[(Value.slice none 0 0), (Value.int .i64 (5 : Int))]) h2_) (f54.l0 R A0 n0 c0 x1 A6 n6 c6 A25 n25 c25 x26 (IntKind.wrap .i64 (x27 + (1 : Int))) h2_))
set_option maxRecDepth 100000 in
theorem f54.j2_in {R : Value → Heap → Prop} {A0 : Option Addr} {n0 : Nat} {c0 : Nat} {x1 : Int} {A6 : Option Addr} {n6 : Nat} {c6 : Nat} {x7 : Int} {a8 : Addr} {A25 : Option Addr} {n25 : Nat} {c25 : Nat} {x26 : Int} {x27 : Int} {h : Heap} (H : f54.j2T R A0 n0 c0 x1 A6 n6 c6 x7 a8 A25 n25 c25 x26 x27 h) : f54.j2 R A0 n0 c0 x1 A6 n6 c6 x7 a8 A25 n25 c25 x26 x27 h :=
  pt_intro mixed f54.good (Eq.mpr (show (Fwd Try.prog f54.T f54.kp Try.f54 R [true, true, false, false, true, true, false, false, true, false, true, true, true] (mkFr [(0, (Value.slice A0 n0 c0)), (1, (Value.int .i64 x1)), (6, (Value.slice A6 n6 c6)), (7, (Value.int .i64 x7)), (8, (Value.pointer (some a8))), (25, (Value.slice A25 n25 c25)), (26, (Value.int .i64 x26)), (27, (Value.int .i64 x27))]) h) = (f54.j2T R A0 n0 c0 x1 A6 n6 c6 x7 a8 A25 n25 c25 x26 x27 h) by kernel_rfl) H)
set_option maxRecDepth 100000 in
def f54.runT (R : Value → Heap → Prop) (A0 : Option Addr) (n0 : Nat) (c0 : Nat) (x1 : Int) (h : Heap) : Prop :=
  splitB (decide (((n0 : Nat) : Int) > (100 : Int))) (R (Value.tuple #[(Value.slice none 0 0), (Value.int .i64 (2 : Int))]) h) (splitB (decide (x1 < (1 : Int))) (f54.j1 R A0 n0 c0 x1 true h) (f54.j1 R A0 n0 c0 x1 (decide (x1 > (10000 : Int))) h))
set_option maxRecDepth 100000 in
theorem f54.run {R : Value → Heap → Prop} {A0 : Option Addr} {n0 : Nat} {c0 : Nat} {x1 : Int} {h : Heap} (H : f54.runT R A0 n0 c0 x1 h) : Run Try.prog 54 #[(Value.slice A0 n0 c0), (Value.int .i64 x1)] h R :=
  run_of mixed Try.func54 (by kernel_rfl) (by kernel_rfl) f54.good (Eq.mpr (show (Fwd Try.prog f54.T f54.kp Try.f54 R [] (mkFr (argL [(Value.slice A0 n0 c0), (Value.int .i64 x1)] 0)) h) = (f54.runT R A0 n0 c0 x1 h) by kernel_rfl) H)

/-! ### roadstead/roadlaw3.TurnPlans$2: function 55 -/
def f55.T : Tab := { sh := tSh, tup := tTup, keep := [], plan := [] }
def f55.kp : Keep := []
theorem f55.good : goodCode Try.prog f55.T (rootOf Try.f55) = true := by kernel_rfl
set_option maxRecDepth 100000 in
theorem f55.ok : calleeOk Try.prog 55 = true := by kernel_rfl
set_option maxRecDepth 100000 in
def f55.runT (R : Value → Heap → Prop) (v0 : Value) (a1 : Addr) (h : Heap) : Prop :=
  newH h (Obj.cells ((v0).cells) 80) fun h1_ => ∃ v2_, ldv false 1 h1_ (⟨Array.size h, 0, none⟩) = some v2_ ∧ ∃ x3_, v2_ = (Value.int .i64 x3_) ∧ ∃ v4_, ldv false 1 h1_ a1 = some v4_ ∧ ∃ x5_, v4_ = (Value.int .i64 x5_) ∧ R (Value.bool (x3_ == x5_)) h1_
set_option maxRecDepth 100000 in
theorem f55.run {R : Value → Heap → Prop} {v0 : Value} {a1 : Addr} {h : Heap} (H : f55.runT R v0 a1 h) : Run Try.prog 55 #[v0, (Value.pointer (some a1))] h R :=
  run_of mixed Try.func55 (by kernel_rfl) (by kernel_rfl) f55.good (Eq.mpr (show (Fwd Try.prog f55.T f55.kp Try.f55 R [] (mkFr (argL [v0, (Value.pointer (some a1))] 0)) h) = (f55.runT R v0 a1 h) by kernel_rfl) H)

/-! ### slices.Equal[[]roadstead/turn.Job,roadstead/turn.Job]: function 56 -/
def f56.T : Tab := { sh := tSh, tup := tTup, keep := [], plan := [(6, (.take 0 (.take 1 (.take 2 (.take 4 (.take 5 (.take 6 (.take 3 (.take 7 (.eff false 8 .done))))))))))] }
def f56.kp : Keep := [([false, false, true, false, true, true], [0, 1, 12, 13])]
theorem f56.good : goodCode Try.prog f56.T (rootOf Try.f56) = true := by kernel_rfl
set_option maxRecDepth 100000 in
theorem f56.ok : calleeOk Try.prog 56 = true := by kernel_rfl
def f56.l0 (R : Value → Heap → Prop) (A0 : Option Addr) (n0 : Nat) (c0 : Nat) (A1 : Option Addr) (n1 : Nat) (c1 : Nat) (x12 : Int) (x13 : Int) (h : Heap) : Prop := Pt Try.prog Try.f56 R [false, false, true, false, true, true] (mkFr [(0, (Value.slice A0 n0 c0)), (1, (Value.slice A1 n1 c1)), (12, (Value.int .i64 x12)), (13, (Value.int .i64 x13))]) h
set_option maxRecDepth 100000 in
def f56.l0T (R : Value → Heap → Prop) (A0 : Option Addr) (n0 : Nat) (c0 : Nat) (A1 : Option Addr) (n1 : Nat) (c1 : Nat) (x12 : Int) (x13 : Int) (h : Heap) : Prop :=
  splitB (decide (x13 < x12)) (ptrOk A0 fun a1_ => 0 ≤ x13 ∧ x13 < ((n0 : Nat) : Int) ∧ (ptrOk A1 fun a2_ => 0 ≤ x13 ∧ x13 < ((n1 : Nat) : Int) ∧ (∃ v3_, ldv true 2 h (Addr.add a1_ (Int.toNat x13 * 2)) = some v3_ ∧ ∃ v4_, ldv true 2 h (Addr.add a2_ (Int.toNat x13 * 2)) = some v4_ ∧ Gen Try.prog (do eqGuard .neq 80 (.tmp 19) (.tmp 23) v3_ v4_; binOp .neq 80 v3_ v4_) h fun v5_ h6_ => ∃ b7_, v5_ = Value.bool b7_ ∧ splitB b7_ (R (Value.bool false) h6_) (f56.l0 R A0 n0 c0 A1 n1 c1 x12 (IntKind.wrap .i64 (x13 + (1 : Int))) h6_)))) (R (Value.bool true) h)
set_option maxRecDepth 100000 in
theorem f56.l0_in {R : Value → Heap → Prop} {A0 : Option Addr} {n0 : Nat} {c0 : Nat} {A1 : Option Addr} {n1 : Nat} {c1 : Nat} {x12 : Int} {x13 : Int} {h : Heap} (H : f56.l0T R A0 n0 c0 A1 n1 c1 x12 x13 h) : f56.l0 R A0 n0 c0 A1 n1 c1 x12 x13 h :=
  pt_intro mixed f56.good (Eq.mpr (show (Fwd Try.prog f56.T f56.kp Try.f56 R [false, false, true, false, true, true] (mkFr [(0, (Value.slice A0 n0 c0)), (1, (Value.slice A1 n1 c1)), (12, (Value.int .i64 x12)), (13, (Value.int .i64 x13))]) h) = (f56.l0T R A0 n0 c0 A1 n1 c1 x12 x13 h) by kernel_rfl) H)
set_option maxRecDepth 100000 in
def f56.runT (R : Value → Heap → Prop) (A0 : Option Addr) (n0 : Nat) (c0 : Nat) (A1 : Option Addr) (n1 : Nat) (c1 : Nat) (h : Heap) : Prop :=
  splitB (((n0 : Nat) : Int) != ((n1 : Nat) : Int)) (R (Value.bool false) h) (f56.l0 R A0 n0 c0 A1 n1 c1 ((n0 : Nat) : Int) (0 : Int) h)
set_option maxRecDepth 100000 in
theorem f56.run {R : Value → Heap → Prop} {A0 : Option Addr} {n0 : Nat} {c0 : Nat} {A1 : Option Addr} {n1 : Nat} {c1 : Nat} {h : Heap} (H : f56.runT R A0 n0 c0 A1 n1 c1 h) : Run Try.prog 56 #[(Value.slice A0 n0 c0), (Value.slice A1 n1 c1)] h R :=
  run_of mixed Try.func56 (by kernel_rfl) (by kernel_rfl) f56.good (Eq.mpr (show (Fwd Try.prog f56.T f56.kp Try.f56 R [] (mkFr (argL [(Value.slice A0 n0 c0), (Value.slice A1 n1 c1)] 0)) h) = (f56.runT R A0 n0 c0 A1 n1 c1 h) by kernel_rfl) H)

/-! ### roadstead/roadref3.Planned: function 57 -/
def f57.T : Tab := { sh := tSh, tup := tTup, keep := [], plan := [(11, (.take 0 (.take 1 (.take 3 (.take 4 (.take 5 (.alt true 2 (.eff false 6 (.eff false 7 (.take 8 (.take 9 .done)))) (.eff false 6 (.eff true 2 (.eff false 7 (.take 8 (.take 9 .done))))))))))))] }
def f57.kp : Keep := [([false, false, false, true, true, true, true], [1, 5, 6, 7, 8])]
theorem f57.good : goodCode Try.prog f57.T (rootOf Try.f57) = true := by kernel_rfl
set_option maxRecDepth 100000 in
theorem f57.ok : calleeOk Try.prog 57 = true := by kernel_rfl
def f57.l0 (R : Value → Heap → Prop) (x1 : Int) (A5 : Option Addr) (n5 : Nat) (c5 : Nat) (A6 : Option Addr) (n6 : Nat) (c6 : Nat) (x7 : Int) (x8 : Int) (h : Heap) : Prop := Pt Try.prog Try.f57 R [false, false, false, true, true, true, true] (mkFr [(1, (Value.int .i64 x1)), (5, (Value.slice A5 n5 c5)), (6, (Value.slice A6 n6 c6)), (7, (Value.int .i64 x7)), (8, (Value.int .i64 x8))]) h
set_option maxRecDepth 100000 in
def f57.l0T (R : Value → Heap → Prop) (x1 : Int) (A5 : Option Addr) (n5 : Nat) (c5 : Nat) (A6 : Option Addr) (n6 : Nat) (c6 : Nat) (x7 : Int) (x8 : Int) (h : Heap) : Prop :=
  splitB (decide (((n5 : Nat) : Int) > (0 : Int))) (ptrOk A5 fun a1_ => 0 ≤ (0 : Int) ∧ (0 : Int) < ((n5 : Nat) : Int) ∧ (∃ v2_, ldv false 1 h (Addr.add (Addr.add a1_ (Int.toNat (0 : Int) * 2)) 1) = some v2_ ∧ ∃ x3_, v2_ = (Value.int .i64 x3_) ∧ ptrOk A5 fun a4_ => 0 ≤ (0 : Int) ∧ (0 : Int) < ((n5 : Nat) : Int) ∧ (∃ h5_, st1 h (Addr.add (Addr.add a4_ (Int.toNat (0 : Int) * 2)) 1) (Value.int .i64 (IntKind.wrap .i64 (x3_ - (1 : Int)))) = some h5_ ∧ ptrOk A5 fun a6_ => 0 ≤ (0 : Int) ∧ (0 : Int) < ((n5 : Nat) : Int) ∧ (∃ v7_, ldv false 1 h5_ (Addr.add (Addr.add a6_ (Int.toNat (0 : Int) * 2)) 1) = some v7_ ∧ ∃ x8_, v7_ = (Value.int .i64 x8_) ∧ splitB (x8_ == (0 : Int)) (ptrOk A5 fun a9_ => 0 ≤ (0 : Int) ∧ (0 : Int) < ((n5 : Nat) : Int) ∧ (∃ v10_, ldv false 1 h5_ (Addr.add a9_ (Int.toNat (0 : Int) * 2)) = some v10_ ∧ ∃ x11_, v10_ = (Value.int .i64 x11_) ∧ ∃ l12_ : List Value, (Value.agg #[(Value.int .i64 x11_), (Value.int .i64 (IntKind.wrap .i64 (x7 + (1 : Int))))]) = Value.agg l12_.toArray ∧ l12_.length = 2 ∧ (newH h5_ (Obj.cells ((List.take 0 ([(Value.int .i64 (0 : Int)), (Value.int .i64 (0 : Int))]) ++ l12_ ++ List.drop 2 ([(Value.int .i64 (0 : Int)), (Value.int .i64 (0 : Int))])).toArray) 80) fun h13_ => AppW 80 2 16 #[(Value.int .i64 (0 : Int)), (Value.int .i64 (0 : Int))] A6 n6 c6 (Value.slice (some ⟨Array.size h5_, 0, none⟩) 1 1) h13_ fun v14_ h15_ => ∃ A16_, ∃ n16_, ∃ c16_, v14_ = (Value.slice A16_ n16_ c16_) ∧ 0 ≤ (1 : Int) ∧ (1 : Int) ≤ ((n5 : Nat) : Int) ∧ ((n5 : Nat) : Int) ≤ ((c5 : Nat) : Int) ∧ (f57.l0 R x1 (sliceA A5 (Int.toNat (1 : Int)) c5 2) (Int.toNat ((n5 : Nat) : Int) - Int.toNat (1 : Int)) (c5 - Int.toNat (1 : Int)) A16_ n16_ c16_ (IntKind.wrap .i64 (x7 + (1 : Int))) (0 : Int) h15_)))) (splitB ((IntKind.wrap .i64 (x8 + (1 : Int))) == x1) (0 ≤ (1 : Int) ∧ (1 : Int) ≤ ((n5 : Nat) : Int) ∧ ((n5 : Nat) : Int) ≤ ((c5 : Nat) : Int) ∧ (ptrOk A5 fun a17_ => 0 ≤ (0 : Int) ∧ (0 : Int) < ((n5 : Nat) : Int) ∧ (∃ v18_, ldv true 2 h5_ (Addr.add a17_ (Int.toNat (0 : Int) * 2)) = some v18_ ∧ (AppW 80 2 16 #[(Value.int .i64 (0 : Int)), (Value.int .i64 (0 : Int))] none 0 0 (Value.slice (sliceA A5 (Int.toNat (1 : Int)) c5 2) (Int.toNat ((n5 : Nat) : Int) - Int.toNat (1 : Int)) (c5 - Int.toNat (1 : Int))) h5_ fun v19_ h20_ => ∃ A21_, ∃ n21_, ∃ c21_, v19_ = (Value.slice A21_ n21_ c21_) ∧ Ext h5_ h20_ ∧ (∃ l22_ : List Value, v18_ = Value.agg l22_.toArray ∧ l22_.length = 2 ∧ (newH h20_ (Obj.cells ((List.take 0 ([(Value.int .i64 (0 : Int)), (Value.int .i64 (0 : Int))]) ++ l22_ ++ List.drop 2 ([(Value.int .i64 (0 : Int)), (Value.int .i64 (0 : Int))])).toArray) 80) fun h23_ => AppW 80 2 16 #[(Value.int .i64 (0 : Int)), (Value.int .i64 (0 : Int))] A21_ n21_ c21_ (Value.slice (some ⟨Array.size h20_, 0, none⟩) 1 1) h23_ fun v24_ h25_ => ∃ A26_, ∃ n26_, ∃ c26_, v24_ = (Value.slice A26_ n26_ c26_) ∧ f57.l0 R x1 A26_ n26_ c26_ A6 n6 c6 (IntKind.wrap .i64 (x7 + (1 : Int))) (0 : Int) h25_))) ∧ (∃ l27_ : List Value, v18_ = Value.agg l27_.toArray ∧ l27_.length = 2 ∧ (newH h5_ (Obj.cells ((List.take 0 ([(Value.int .i64 (0 : Int)), (Value.int .i64 (0 : Int))]) ++ l27_ ++ List.drop 2 ([(Value.int .i64 (0 : Int)), (Value.int .i64 (0 : Int))])).toArray) 80) fun h28_ => AppW 80 2 16 #[(Value.int .i64 (0 : Int)), (Value.int .i64 (0 : Int))] none 0 0 (Value.slice (sliceA A5 (Int.toNat (1 : Int)) c5 2) (Int.toNat ((n5 : Nat) : Int) - Int.toNat (1 : Int)) (c5 - Int.toNat (1 : Int))) h28_ fun v29_ h30_ => ∃ A31_, ∃ n31_, ∃ c31_, v29_ = (Value.slice A31_ n31_ c31_) ∧ Ext h28_ h30_ ∧ (AppW 80 2 16 #[(Value.int .i64 (0 : Int)), (Value.int .i64 (0 : Int))] A31_ n31_ c31_ (Value.slice (some ⟨Array.size h5_, 0, none⟩) 1 1) h30_ fun v32_ h33_ => ∃ A34_, ∃ n34_, ∃ c34_, v32_ = (Value.slice A34_ n34_ c34_) ∧ f57.l0 R x1 A34_ n34_ c34_ A6 n6 c6 (IntKind.wrap .i64 (x7 + (1 : Int))) (0 : Int) h33_)))))) (f57.l0 R x1 A5 n5 c5 A6 n6 c6 (IntKind.wrap .i64 (x7 + (1 : Int))) (IntKind.wrap .i64 (x8 + (1 : Int))) h5_)))))) (R (Value.slice A6 n6 c6) h)
set_option maxRecDepth 100000 in
theorem f57.l0_in {R : Value → Heap → Prop} {x1 : Int} {A5 : Option Addr} {n5 : Nat} {c5 : Nat} {A6 : Option Addr} {n6 : Nat} {c6 : Nat} {x7 : Int} {x8 : Int} {h : Heap} (H : f57.l0T R x1 A5 n5 c5 A6 n6 c6 x7 x8 h) : f57.l0 R x1 A5 n5 c5 A6 n6 c6 x7 x8 h :=
  pt_intro mixed f57.good (Eq.mpr (show (Fwd Try.prog f57.T f57.kp Try.f57 R [false, false, false, true, true, true, true] (mkFr [(1, (Value.int .i64 x1)), (5, (Value.slice A5 n5 c5)), (6, (Value.slice A6 n6 c6)), (7, (Value.int .i64 x7)), (8, (Value.int .i64 x8))]) h) = (f57.l0T R x1 A5 n5 c5 A6 n6 c6 x7 x8 h) by kernel_rfl) H)
set_option maxRecDepth 100000 in
def f57.runT (R : Value → Heap → Prop) (A0 : Option Addr) (n0 : Nat) (c0 : Nat) (x1 : Int) (h : Heap) : Prop :=
  AppW 80 2 16 #[(Value.int .i64 (0 : Int)), (Value.int .i64 (0 : Int))] none 0 0 (Value.slice A0 n0 c0) h fun v1_ h2_ => ∃ A3_, ∃ n3_, ∃ c3_, v1_ = (Value.slice A3_ n3_ c3_) ∧ f57.l0 R x1 A3_ n3_ c3_ none 0 0 (0 : Int) (0 : Int) h2_
set_option maxRecDepth 100000 in
theorem f57.run {R : Value → Heap → Prop} {A0 : Option Addr} {n0 : Nat} {c0 : Nat} {x1 : Int} {h : Heap} (H : f57.runT R A0 n0 c0 x1 h) : Run Try.prog 57 #[(Value.slice A0 n0 c0), (Value.int .i64 x1)] h R :=
  run_of mixed Try.func57 (by kernel_rfl) (by kernel_rfl) f57.good (Eq.mpr (show (Fwd Try.prog f57.T f57.kp Try.f57 R [] (mkFr (argL [(Value.slice A0 n0 c0), (Value.int .i64 x1)] 0)) h) = (f57.runT R A0 n0 c0 x1 h) by kernel_rfl) H)

/-! ### roadstead/roadlaw3.TurnPlans: function 9 -/
def f9.T : Tab := { sh := tSh, tup := tTup, keep := [], plan := [] }
def f9.kp : Keep := [([true, true, true, true, true], [0, 1, 5, 6, 7]), ([false, false, true, false, true, true, true, true, true], [0, 1, 5, 6, 7, 26, 27, 28]), ([true, true, false, false, true, true, false, false, true, false, true, true, true, true, true], [0, 1, 5, 6, 7, 8, 9, 26, 27, 28])]
theorem f9.good : goodCode Try.prog f9.T (rootOf Try.f9) = true := by kernel_rfl
set_option maxRecDepth 100000 in
theorem f9.ok : calleeOk Try.prog 9 = true := by kernel_rfl
def f9.j0 (R : Value → Heap → Prop) (A0 : Option Addr) (n0 : Nat) (c0 : Nat) (x1 : Int) (A5 : Option Addr) (n5 : Nat) (c5 : Nat) (x6 : Int) (x7 : Int) (h : Heap) : Prop := Pt Try.prog Try.f9 R [true, true, true, true, true] (mkFr [(0, (Value.slice A0 n0 c0)), (1, (Value.int .i64 x1)), (5, (Value.slice A5 n5 c5)), (6, (Value.int .i64 x6)), (7, (Value.int .i64 x7))]) h
def f9.l0 (R : Value → Heap → Prop) (A0 : Option Addr) (n0 : Nat) (c0 : Nat) (x1 : Int) (A5 : Option Addr) (n5 : Nat) (c5 : Nat) (x6 : Int) (x7 : Int) (A26 : Option Addr) (n26 : Nat) (c26 : Nat) (x27 : Int) (x28 : Int) (h : Heap) : Prop := Pt Try.prog Try.f9 R [false, false, true, false, true, true, true, true, true] (mkFr [(0, (Value.slice A0 n0 c0)), (1, (Value.int .i64 x1)), (5, (Value.slice A5 n5 c5)), (6, (Value.int .i64 x6)), (7, (Value.int .i64 x7)), (26, (Value.slice A26 n26 c26)), (27, (Value.int .i64 x27)), (28, (Value.int .i64 x28))]) h
def f9.j1 (R : Value → Heap → Prop) (A0 : Option Addr) (n0 : Nat) (c0 : Nat) (x1 : Int) (A5 : Option Addr) (n5 : Nat) (c5 : Nat) (x6 : Int) (x7 : Int) (x8 : Int) (a9 : Addr) (A26 : Option Addr) (n26 : Nat) (c26 : Nat) (x27 : Int) (x28 : Int) (h : Heap) : Prop := Pt Try.prog Try.f9 R [true, true, false, false, true, true, false, false, true, false, true, true, true, true, true] (mkFr [(0, (Value.slice A0 n0 c0)), (1, (Value.int .i64 x1)), (5, (Value.slice A5 n5 c5)), (6, (Value.int .i64 x6)), (7, (Value.int .i64 x7)), (8, (Value.int .i64 x8)), (9, (Value.pointer (some a9))), (26, (Value.slice A26 n26 c26)), (27, (Value.int .i64 x27)), (28, (Value.int .i64 x28))]) h
set_option maxRecDepth 100000 in
def f9.j0T (R : Value → Heap → Prop) (A0 : Option Addr) (n0 : Nat) (c0 : Nat) (x1 : Int) (A5 : Option Addr) (n5 : Nat) (c5 : Nat) (x6 : Int) (x7 : Int) (h : Heap) : Prop :=
  f9.l0 R A0 n0 c0 x1 A5 n5 c5 x6 x7 A0 n0 c0 ((n0 : Nat) : Int) (0 : Int) h
set_option maxRecDepth 100000 in
theorem f9.j0_in {R : Value → Heap → Prop} {A0 : Option Addr} {n0 : Nat} {c0 : Nat} {x1 : Int} {A5 : Option Addr} {n5 : Nat} {c5 : Nat} {x6 : Int} {x7 : Int} {h : Heap} (H : f9.j0T R A0 n0 c0 x1 A5 n5 c5 x6 x7 h) : f9.j0 R A0 n0 c0 x1 A5 n5 c5 x6 x7 h :=
  pt_intro mixed f9.good (Eq.mpr (show (Fwd Try.prog f9.T f9.kp Try.f9 R [true, true, true, true, true] (mkFr [(0, (Value.slice A0 n0 c0)), (1, (Value.int .i64 x1)), (5, (Value.slice A5 n5 c5)), (6, (Value.int .i64 x6)), (7, (Value.int .i64 x7))]) h) = (f9.j0T R A0 n0 c0 x1 A5 n5 c5 x6 x7 h) by kernel_rfl) H)
set_option maxRecDepth 100000 in
def f9.l0T (R : Value → Heap → Prop) (A0 : Option Addr) (n0 : Nat) (c0 : Nat) (x1 : Int) (A5 : Option Addr) (n5 : Nat) (c5 : Nat) (x6 : Int) (x7 : Int) (A26 : Option Addr) (n26 : Nat) (c26 : Nat) (x27 : Int) (x28 : Int) (h : Heap) : Prop :=
  splitB (decide (x28 < x27)) (ptrOk A26 fun a1_ => 0 ≤ x28 ∧ x28 < ((n26 : Nat) : Int) ∧ (∃ v2_, ldv true 2 h (Addr.add a1_ (Int.toNat x28 * 2)) = some v2_ ∧ newH h (Obj.cells #[(Value.int .i64 (0 : Int)), (Value.int .i64 (0 : Int))] 80) fun h3_ => ∃ l5_ : List Value, v2_ = Value.agg l5_.toArray ∧ l5_.length = 2 ∧ ∃ h4_, stH h3_ (⟨Array.size h, 0, none⟩) l5_ 0 = some h4_ ∧ splitB (x7 == (0 : Int)) (∃ v6_, ldv false 1 h4_ (Addr.add (⟨Array.size h, 0, none⟩) 1) = some v6_ ∧ ∃ x7_, v6_ = (Value.int .i64 x7_) ∧ Run Try.prog 30 #[(Value.int .i64 x7_), (Value.int .i64 (1 : Int)), (Value.int .i64 (10000 : Int))] h4_ fun v8_ h9_ => ∃ b10_, v8_ = (Value.bool b10_) ∧ splitB (!b10_) (f9.j1 R A0 n0 c0 x1 A5 n5 c5 x6 (1 : Int) x28 (⟨Array.size h, 0, none⟩) A26 n26 c26 x27 x28 h9_) (f9.j1 R A0 n0 c0 x1 A5 n5 c5 x6 x7 x28 (⟨Array.size h, 0, none⟩) A26 n26 c26 x27 x28 h9_)) (f9.j1 R A0 n0 c0 x1 A5 n5 c5 x6 x7 x28 (⟨Array.size h, 0, none⟩) A26 n26 c26 x27 x28 h4_))) (splitB (x7 != (0 : Int)) (splitB (((n5 : Nat) : Int) == (0 : Int)) (R (Value.bool (x6 == x7)) h) (R (Value.bool false) h)) (Run Try.prog 57 #[(Value.slice A0 n0 c0), (Value.int .i64 x1)] h fun v11_ h12_ => ∃ A13_, ∃ n13_, ∃ c13_, v11_ = (Value.slice A13_ n13_ c13_) ∧ Run Try.prog 56 #[(Value.slice A5 n5 c5), (Value.slice A13_ n13_ c13_)] h12_ fun v14_ h15_ => ∃ b16_, v14_ = (Value.bool b16_) ∧ splitB b16_ (R (Value.bool (x6 == (0 : Int))) h15_) (R (Value.bool false) h15_)))
set_option maxRecDepth 100000 in
theorem f9.l0_in {R : Value → Heap → Prop} {A0 : Option Addr} {n0 : Nat} {c0 : Nat} {x1 : Int} {A5 : Option Addr} {n5 : Nat} {c5 : Nat} {x6 : Int} {x7 : Int} {A26 : Option Addr} {n26 : Nat} {c26 : Nat} {x27 : Int} {x28 : Int} {h : Heap} (H : f9.l0T R A0 n0 c0 x1 A5 n5 c5 x6 x7 A26 n26 c26 x27 x28 h) : f9.l0 R A0 n0 c0 x1 A5 n5 c5 x6 x7 A26 n26 c26 x27 x28 h :=
  pt_intro mixed f9.good (Eq.mpr (show (Fwd Try.prog f9.T f9.kp Try.f9 R [false, false, true, false, true, true, true, true, true] (mkFr [(0, (Value.slice A0 n0 c0)), (1, (Value.int .i64 x1)), (5, (Value.slice A5 n5 c5)), (6, (Value.int .i64 x6)), (7, (Value.int .i64 x7)), (26, (Value.slice A26 n26 c26)), (27, (Value.int .i64 x27)), (28, (Value.int .i64 x28))]) h) = (f9.l0T R A0 n0 c0 x1 A5 n5 c5 x6 x7 A26 n26 c26 x27 x28 h) by kernel_rfl) H)
set_option maxRecDepth 100000 in
def f9.j1T (R : Value → Heap → Prop) (A0 : Option Addr) (n0 : Nat) (c0 : Nat) (x1 : Int) (A5 : Option Addr) (n5 : Nat) (c5 : Nat) (x6 : Int) (x7 : Int) (x8 : Int) (a9 : Addr) (A26 : Option Addr) (n26 : Nat) (c26 : Nat) (x27 : Int) (x28 : Int) (h : Heap) : Prop :=
  splitB (x7 == (0 : Int)) (0 ≤ (0 : Int) ∧ (0 : Int) ≤ x8 ∧ x8 ≤ ((c0 : Nat) : Int) ∧ (Run Try.prog 52 #[(Value.slice (sliceA A0 (Int.toNat (0 : Int)) c0 2) (Int.toNat x8 - Int.toNat (0 : Int)) (c0 - Int.toNat (0 : Int))), (Value.func (.func 55) #[] #[(Value.pointer (some a9))])] h fun v1_ h2_ => ∃ b3_, v1_ = (Value.bool b3_) ∧ splitB b3_ (f9.l0 R A0 n0 c0 x1 A5 n5 c5 x6 (5 : Int) A26 n26 c26 x27 (IntKind.wrap .i64 (x28 + (1 : Int))) h2_) (f9.l0 R A0 n0 c0 x1 A5 n5 c5 x6 x7 A26 n26 c26 x27 (IntKind.wrap .i64 (x28 + (1 : Int))) h2_))) (f9.l0 R A0 n0 c0 x1 A5 n5 c5 x6 x7 A26 n26 c26 x27 (IntKind.wrap .i64 (x28 + (1 : Int))) h)
set_option maxRecDepth 100000 in
theorem f9.j1_in {R : Value → Heap → Prop} {A0 : Option Addr} {n0 : Nat} {c0 : Nat} {x1 : Int} {A5 : Option Addr} {n5 : Nat} {c5 : Nat} {x6 : Int} {x7 : Int} {x8 : Int} {a9 : Addr} {A26 : Option Addr} {n26 : Nat} {c26 : Nat} {x27 : Int} {x28 : Int} {h : Heap} (H : f9.j1T R A0 n0 c0 x1 A5 n5 c5 x6 x7 x8 a9 A26 n26 c26 x27 x28 h) : f9.j1 R A0 n0 c0 x1 A5 n5 c5 x6 x7 x8 a9 A26 n26 c26 x27 x28 h :=
  pt_intro mixed f9.good (Eq.mpr (show (Fwd Try.prog f9.T f9.kp Try.f9 R [true, true, false, false, true, true, false, false, true, false, true, true, true, true, true] (mkFr [(0, (Value.slice A0 n0 c0)), (1, (Value.int .i64 x1)), (5, (Value.slice A5 n5 c5)), (6, (Value.int .i64 x6)), (7, (Value.int .i64 x7)), (8, (Value.int .i64 x8)), (9, (Value.pointer (some a9))), (26, (Value.slice A26 n26 c26)), (27, (Value.int .i64 x27)), (28, (Value.int .i64 x28))]) h) = (f9.j1T R A0 n0 c0 x1 A5 n5 c5 x6 x7 x8 a9 A26 n26 c26 x27 x28 h) by kernel_rfl) H)
set_option maxRecDepth 100000 in
def f9.runT (R : Value → Heap → Prop) (A0 : Option Addr) (n0 : Nat) (c0 : Nat) (x1 : Int) (h : Heap) : Prop :=
  Run Try.prog 52 #[(Value.slice A0 n0 c0), (Value.func (.func 53) #[] #[])] h fun v1_ h2_ => ∃ b3_, v1_ = (Value.bool b3_) ∧ splitB b3_ (R (Value.bool true) h2_) (Run Try.prog 54 #[(Value.slice A0 n0 c0), (Value.int .i64 x1)] h2_ fun v4_ h5_ => ∃ A6_, ∃ n6_, ∃ c6_, ∃ x7_, v4_ = (Value.tuple #[(Value.slice A6_ n6_ c6_), (Value.int .i64 x7_)]) ∧ splitB (decide (((n0 : Nat) : Int) > (100 : Int))) (f9.j0 R A0 n0 c0 x1 A6_ n6_ c6_ x7_ (2 : Int) h5_) (Run Try.prog 30 #[(Value.int .i64 x1), (Value.int .i64 (1 : Int)), (Value.int .i64 (10000 : Int))] h5_ fun v8_ h9_ => ∃ b10_, v8_ = (Value.bool b10_) ∧ splitB (!b10_) (f9.j0 R A0 n0 c0 x1 A6_ n6_ c6_ x7_ (1 : Int) h9_) (f9.j0 R A0 n0 c0 x1 A6_ n6_ c6_ x7_ (0 : Int) h9_)))
set_option maxRecDepth 100000 in
theorem f9.run {R : Value → Heap → Prop} {A0 : Option Addr} {n0 : Nat} {c0 : Nat} {x1 : Int} {h : Heap} (H : f9.runT R A0 n0 c0 x1 h) : Run Try.prog 9 #[(Value.slice A0 n0 c0), (Value.int .i64 x1)] h R :=
  run_of mixed Try.func9 (by kernel_rfl) (by kernel_rfl) f9.good (Eq.mpr (show (Fwd Try.prog f9.T f9.kp Try.f9 R [] (mkFr (argL [(Value.slice A0 n0 c0), (Value.int .i64 x1)] 0)) h) = (f9.runT R A0 n0 c0 x1 h) by kernel_rfl) H)

/-! ### roadstead/turn.Check: function 60 -/
def f60.T : Tab := { sh := tSh, tup := tTup, keep := [], plan := [] }
def f60.kp : Keep := [([false, false, true, false, true, true], [0, 8, 9, 10])]
theorem f60.good : goodCode Try.prog f60.T (rootOf Try.f60) = true := by kernel_rfl
set_option maxRecDepth 100000 in
theorem f60.ok : calleeOk Try.prog 60 = true := by kernel_rfl
def f60.l0 (R : Value → Heap → Prop) (A0 : Option Addr) (n0 : Nat) (c0 : Nat) (A8 : Option Addr) (n8 : Nat) (c8 : Nat) (x9 : Int) (x10 : Int) (h : Heap) : Prop := Pt Try.prog Try.f60 R [false, false, true, false, true, true] (mkFr [(0, (Value.slice A0 n0 c0)), (8, (Value.slice A8 n8 c8)), (9, (Value.int .i64 x9)), (10, (Value.int .i64 x10))]) h
set_option maxRecDepth 100000 in
def f60.l0T (R : Value → Heap → Prop) (A0 : Option Addr) (n0 : Nat) (c0 : Nat) (A8 : Option Addr) (n8 : Nat) (c8 : Nat) (x9 : Int) (x10 : Int) (h : Heap) : Prop :=
  splitB (decide (x10 < x9)) (ptrOk A8 fun a1_ => 0 ≤ x10 ∧ x10 < ((n8 : Nat) : Int) ∧ (∃ v2_, ldv false 1 h (Addr.add a1_ (Int.toNat x10 * 1)) = some v2_ ∧ ∃ x3_, v2_ = (Value.int .i64 x3_) ∧ splitB (decide (x10 > (0 : Int))) (ptrOk A0 fun a4_ => 0 ≤ (IntKind.wrap .i64 (x10 - (1 : Int))) ∧ (IntKind.wrap .i64 (x10 - (1 : Int))) < ((n0 : Nat) : Int) ∧ (∃ v5_, ldv false 1 h (Addr.add a4_ (Int.toNat (IntKind.wrap .i64 (x10 - (1 : Int))) * 1)) = some v5_ ∧ ∃ x6_, v5_ = (Value.int .i64 x6_) ∧ splitB (decide (x6_ ≥ x3_)) (R (Value.int .i64 (21 : Int)) h) (f60.l0 R A0 n0 c0 A8 n8 c8 x9 (IntKind.wrap .i64 (x10 + (1 : Int))) h))) (f60.l0 R A0 n0 c0 A8 n8 c8 x9 (IntKind.wrap .i64 (x10 + (1 : Int))) h))) (R (Value.int .i64 (0 : Int)) h)
set_option maxRecDepth 100000 in
theorem f60.l0_in {R : Value → Heap → Prop} {A0 : Option Addr} {n0 : Nat} {c0 : Nat} {A8 : Option Addr} {n8 : Nat} {c8 : Nat} {x9 : Int} {x10 : Int} {h : Heap} (H : f60.l0T R A0 n0 c0 A8 n8 c8 x9 x10 h) : f60.l0 R A0 n0 c0 A8 n8 c8 x9 x10 h :=
  pt_intro mixed f60.good (Eq.mpr (show (Fwd Try.prog f60.T f60.kp Try.f60 R [false, false, true, false, true, true] (mkFr [(0, (Value.slice A0 n0 c0)), (8, (Value.slice A8 n8 c8)), (9, (Value.int .i64 x9)), (10, (Value.int .i64 x10))]) h) = (f60.l0T R A0 n0 c0 A8 n8 c8 x9 x10 h) by kernel_rfl) H)
set_option maxRecDepth 100000 in
def f60.runT (R : Value → Heap → Prop) (A0 : Option Addr) (n0 : Nat) (c0 : Nat) (h : Heap) : Prop :=
  splitB (decide (((n0 : Nat) : Int) > (100 : Int))) (R (Value.int .i64 (2 : Int)) h) (f60.l0 R A0 n0 c0 A0 n0 c0 ((n0 : Nat) : Int) (0 : Int) h)
set_option maxRecDepth 100000 in
theorem f60.run {R : Value → Heap → Prop} {A0 : Option Addr} {n0 : Nat} {c0 : Nat} {h : Heap} (H : f60.runT R A0 n0 c0 h) : Run Try.prog 60 #[(Value.slice A0 n0 c0)] h R :=
  run_of mixed Try.func60 (by kernel_rfl) (by kernel_rfl) f60.good (Eq.mpr (show (Fwd Try.prog f60.T f60.kp Try.f60 R [] (mkFr (argL [(Value.slice A0 n0 c0)] 0)) h) = (f60.runT R A0 n0 c0 h) by kernel_rfl) H)

/-! ### cmp.isNaN[int]: function 134 -/
def f134.T : Tab := { sh := tSh, tup := tTup, keep := [], plan := [] }
def f134.kp : Keep := []
theorem f134.good : goodCode Try.prog f134.T (rootOf Try.f134) = true := by kernel_rfl
set_option maxRecDepth 100000 in
theorem f134.ok : calleeOk Try.prog 134 = true := by kernel_rfl
set_option maxRecDepth 100000 in
def f134.runT (R : Value → Heap → Prop) (x0 : Int) (h : Heap) : Prop :=
  R (Value.bool (x0 != x0)) h
set_option maxRecDepth 100000 in
theorem f134.run {R : Value → Heap → Prop} {x0 : Int} {h : Heap} (H : f134.runT R x0 h) : Run Try.prog 134 #[(Value.int .i64 x0)] h R :=
  run_of mixed Try.func134 (by kernel_rfl) (by kernel_rfl) f134.good (Eq.mpr (show (Fwd Try.prog f134.T f134.kp Try.f134 R [] (mkFr (argL [(Value.int .i64 x0)] 0)) h) = (f134.runT R x0 h) by kernel_rfl) H)

/-! ### cmp.Less[int]: function 130 -/
def f130.T : Tab := { sh := tSh, tup := tTup, keep := [], plan := [] }
def f130.kp : Keep := []
theorem f130.good : goodCode Try.prog f130.T (rootOf Try.f130) = true := by kernel_rfl
set_option maxRecDepth 100000 in
theorem f130.ok : calleeOk Try.prog 130 = true := by kernel_rfl
set_option maxRecDepth 100000 in
def f130.runT (R : Value → Heap → Prop) (x0 : Int) (x1 : Int) (h : Heap) : Prop :=
  Run Try.prog 134 #[(Value.int .i64 x0)] h fun v1_ h2_ => ∃ b3_, v1_ = (Value.bool b3_) ∧ splitB b3_ (Run Try.prog 134 #[(Value.int .i64 x1)] h2_ fun v4_ h5_ => ∃ b6_, v4_ = (Value.bool b6_) ∧ splitB (!b6_) (R (Value.bool true) h5_) (R (Value.bool (decide (x0 < x1))) h5_)) (R (Value.bool (decide (x0 < x1))) h2_)
set_option maxRecDepth 100000 in
theorem f130.run {R : Value → Heap → Prop} {x0 : Int} {x1 : Int} {h : Heap} (H : f130.runT R x0 x1 h) : Run Try.prog 130 #[(Value.int .i64 x0), (Value.int .i64 x1)] h R :=
  run_of mixed Try.func130 (by kernel_rfl) (by kernel_rfl) f130.good (Eq.mpr (show (Fwd Try.prog f130.T f130.kp Try.f130 R [] (mkFr (argL [(Value.int .i64 x0), (Value.int .i64 x1)] 0)) h) = (f130.runT R x0 x1 h) by kernel_rfl) H)

/-! ### slices.isNaN[int]: function 131 -/
def f131.T : Tab := { sh := tSh, tup := tTup, keep := [], plan := [] }
def f131.kp : Keep := []
theorem f131.good : goodCode Try.prog f131.T (rootOf Try.f131) = true := by kernel_rfl
set_option maxRecDepth 100000 in
theorem f131.ok : calleeOk Try.prog 131 = true := by kernel_rfl
set_option maxRecDepth 100000 in
def f131.runT (R : Value → Heap → Prop) (x0 : Int) (h : Heap) : Prop :=
  R (Value.bool (x0 != x0)) h
set_option maxRecDepth 100000 in
theorem f131.run {R : Value → Heap → Prop} {x0 : Int} {h : Heap} (H : f131.runT R x0 h) : Run Try.prog 131 #[(Value.int .i64 x0)] h R :=
  run_of mixed Try.func131 (by kernel_rfl) (by kernel_rfl) f131.good (Eq.mpr (show (Fwd Try.prog f131.T f131.kp Try.f131 R [] (mkFr (argL [(Value.int .i64 x0)] 0)) h) = (f131.runT R x0 h) by kernel_rfl) H)

/-! ### slices.BinarySearch[[]int,int]: function 114 -/
def f114.T : Tab := { sh := tSh, tup := tTup, keep := [], plan := [] }
def f114.kp : Keep := [([false, false, false, true, true, true], [0, 1, 6, 7, 8])]
theorem f114.good : goodCode Try.prog f114.T (rootOf Try.f114) = true := by kernel_rfl
set_option maxRecDepth 100000 in
theorem f114.ok : calleeOk Try.prog 114 = true := by kernel_rfl
def f114.l0 (R : Value → Heap → Prop) (A0 : Option Addr) (n0 : Nat) (c0 : Nat) (x1 : Int) (x6 : Int) (x7 : Int) (x8 : Int) (h : Heap) : Prop := Pt Try.prog Try.f114 R [false, false, false, true, true, true] (mkFr [(0, (Value.slice A0 n0 c0)), (1, (Value.int .i64 x1)), (6, (Value.int .i64 x6)), (7, (Value.int .i64 x7)), (8, (Value.int .i64 x8))]) h
set_option maxRecDepth 100000 in
def f114.l0T (R : Value → Heap → Prop) (A0 : Option Addr) (n0 : Nat) (c0 : Nat) (x1 : Int) (x6 : Int) (x7 : Int) (x8 : Int) (h : Heap) : Prop :=
  splitB (decide (x7 < x8)) (0 ≤ (1 : Int) ∧ (ptrOk A0 fun a1_ => 0 ≤ (IntKind.wrap .i64 (shrI .u64 (IntKind.wrap .u64 (IntKind.wrap .i64 (x7 + x8))) (1 : Int))) ∧ (IntKind.wrap .i64 (shrI .u64 (IntKind.wrap .u64 (IntKind.wrap .i64 (x7 + x8))) (1 : Int))) < ((n0 : Nat) : Int) ∧ (∃ v2_, ldv false 1 h (Addr.add a1_ (Int.toNat (IntKind.wrap .i64 (shrI .u64 (IntKind.wrap .u64 (IntKind.wrap .i64 (x7 + x8))) (1 : Int))) * 1)) = some v2_ ∧ ∃ x3_, v2_ = (Value.int .i64 x3_) ∧ Run Try.prog 130 #[(Value.int .i64 x3_), (Value.int .i64 x1)] h fun v4_ h5_ => ∃ b6_, v4_ = (Value.bool b6_) ∧ splitB b6_ (f114.l0 R A0 n0 c0 x1 x6 (IntKind.wrap .i64 ((IntKind.wrap .i64 (shrI .u64 (IntKind.wrap .u64 (IntKind.wrap .i64 (x7 + x8))) (1 : Int))) + (1 : Int))) x8 h5_) (f114.l0 R A0 n0 c0 x1 x6 x7 (IntKind.wrap .i64 (shrI .u64 (IntKind.wrap .u64 (IntKind.wrap .i64 (x7 + x8))) (1 : Int))) h5_)))) (splitB (decide (x7 < x6)) (ptrOk A0 fun a7_ => 0 ≤ x7 ∧ x7 < ((n0 : Nat) : Int) ∧ (∃ v8_, ldv false 1 h (Addr.add a7_ (Int.toNat x7 * 1)) = some v8_ ∧ ∃ x9_, v8_ = (Value.int .i64 x9_) ∧ splitB (x9_ == x1) (R (Value.tuple #[(Value.int .i64 x7), (Value.bool true)]) h) (ptrOk A0 fun a10_ => 0 ≤ x7 ∧ x7 < ((n0 : Nat) : Int) ∧ (∃ v11_, ldv false 1 h (Addr.add a10_ (Int.toNat x7 * 1)) = some v11_ ∧ ∃ x12_, v11_ = (Value.int .i64 x12_) ∧ Run Try.prog 131 #[(Value.int .i64 x12_)] h fun v13_ h14_ => ∃ b15_, v13_ = (Value.bool b15_) ∧ splitB b15_ (Run Try.prog 131 #[(Value.int .i64 x1)] h14_ fun v16_ h17_ => ∃ b18_, v16_ = (Value.bool b18_) ∧ R (Value.tuple #[(Value.int .i64 x7), (Value.bool b18_)]) h17_) (R (Value.tuple #[(Value.int .i64 x7), (Value.bool false)]) h14_))))) (R (Value.tuple #[(Value.int .i64 x7), (Value.bool false)]) h))
set_option maxRecDepth 100000 in
theorem f114.l0_in {R : Value → Heap → Prop} {A0 : Option Addr} {n0 : Nat} {c0 : Nat} {x1 : Int} {x6 : Int} {x7 : Int} {x8 : Int} {h : Heap} (H : f114.l0T R A0 n0 c0 x1 x6 x7 x8 h) : f114.l0 R A0 n0 c0 x1 x6 x7 x8 h :=
  pt_intro mixed f114.good (Eq.mpr (show (Fwd Try.prog f114.T f114.kp Try.f114 R [false, false, false, true, true, true] (mkFr [(0, (Value.slice A0 n0 c0)), (1, (Value.int .i64 x1)), (6, (Value.int .i64 x6)), (7, (Value.int .i64 x7)), (8, (Value.int .i64 x8))]) h) = (f114.l0T R A0 n0 c0 x1 x6 x7 x8 h) by kernel_rfl) H)
set_option maxRecDepth 100000 in
def f114.runT (R : Value → Heap → Prop) (A0 : Option Addr) (n0 : Nat) (c0 : Nat) (x1 : Int) (h : Heap) : Prop :=
  f114.l0 R A0 n0 c0 x1 ((n0 : Nat) : Int) (0 : Int) ((n0 : Nat) : Int) h
set_option maxRecDepth 100000 in
theorem f114.run {R : Value → Heap → Prop} {A0 : Option Addr} {n0 : Nat} {c0 : Nat} {x1 : Int} {h : Heap} (H : f114.runT R A0 n0 c0 x1 h) : Run Try.prog 114 #[(Value.slice A0 n0 c0), (Value.int .i64 x1)] h R :=
  run_of mixed Try.func114 (by kernel_rfl) (by kernel_rfl) f114.good (Eq.mpr (show (Fwd Try.prog f114.T f114.kp Try.f114 R [] (mkFr (argL [(Value.slice A0 n0 c0), (Value.int .i64 x1)] 0)) h) = (f114.runT R A0 n0 c0 x1 h) by kernel_rfl) H)

/-! ### roadstead/turn.Next: function 58 -/
def f58.T : Tab := { sh := tSh, tup := tTup, keep := [], plan := [] }
def f58.kp : Keep := [([true, true, true, true, true], [0, 7])]
theorem f58.good : goodCode Try.prog f58.T (rootOf Try.f58) = true := by kernel_rfl
set_option maxRecDepth 100000 in
theorem f58.ok : calleeOk Try.prog 58 = true := by kernel_rfl
def f58.j0 (R : Value → Heap → Prop) (A0 : Option Addr) (n0 : Nat) (c0 : Nat) (x7 : Int) (h : Heap) : Prop := Pt Try.prog Try.f58 R [true, true, true, true, true] (mkFr [(0, (Value.slice A0 n0 c0)), (7, (Value.int .i64 x7))]) h
set_option maxRecDepth 100000 in
def f58.j0T (R : Value → Heap → Prop) (A0 : Option Addr) (n0 : Nat) (c0 : Nat) (x7 : Int) (h : Heap) : Prop :=
  ((n0 : Nat) : Int) ≠ 0 ∧ (ptrOk A0 fun a1_ => 0 ≤ (Int.tmod x7 ((n0 : Nat) : Int)) ∧ (Int.tmod x7 ((n0 : Nat) : Int)) < ((n0 : Nat) : Int) ∧ (∃ v2_, ldv false 1 h (Addr.add a1_ (Int.toNat (Int.tmod x7 ((n0 : Nat) : Int)) * 1)) = some v2_ ∧ ∃ x3_, v2_ = (Value.int .i64 x3_) ∧ R (Value.tuple #[(Value.int .i64 x3_), (Value.int .i64 (0 : Int))]) h))
set_option maxRecDepth 100000 in
theorem f58.j0_in {R : Value → Heap → Prop} {A0 : Option Addr} {n0 : Nat} {c0 : Nat} {x7 : Int} {h : Heap} (H : f58.j0T R A0 n0 c0 x7 h) : f58.j0 R A0 n0 c0 x7 h :=
  pt_intro mixed f58.good (Eq.mpr (show (Fwd Try.prog f58.T f58.kp Try.f58 R [true, true, true, true, true] (mkFr [(0, (Value.slice A0 n0 c0)), (7, (Value.int .i64 x7))]) h) = (f58.j0T R A0 n0 c0 x7 h) by kernel_rfl) H)
set_option maxRecDepth 100000 in
def f58.runT (R : Value → Heap → Prop) (A0 : Option Addr) (n0 : Nat) (c0 : Nat) (x1 : Int) (h : Heap) : Prop :=
  Run Try.prog 60 #[(Value.slice A0 n0 c0)] h fun v1_ h2_ => ∃ x3_, v1_ = (Value.int .i64 x3_) ∧ splitB (x3_ != (0 : Int)) (R (Value.tuple #[(Value.int .i64 (0 : Int)), (Value.int .i64 x3_)]) h2_) (splitB (((n0 : Nat) : Int) == (0 : Int)) (R (Value.tuple #[(Value.int .i64 (0 : Int)), (Value.int .i64 (4 : Int))]) h2_) (Run Try.prog 114 #[(Value.slice A0 n0 c0), (Value.int .i64 x1)] h2_ fun v4_ h5_ => ∃ x6_, ∃ b7_, v4_ = (Value.tuple #[(Value.int .i64 x6_), (Value.bool b7_)]) ∧ splitB b7_ (f58.j0 R A0 n0 c0 (IntKind.wrap .i64 (x6_ + (1 : Int))) h5_) (f58.j0 R A0 n0 c0 x6_ h5_)))
set_option maxRecDepth 100000 in
theorem f58.run {R : Value → Heap → Prop} {A0 : Option Addr} {n0 : Nat} {c0 : Nat} {x1 : Int} {h : Heap} (H : f58.runT R A0 n0 c0 x1 h) : Run Try.prog 58 #[(Value.slice A0 n0 c0), (Value.int .i64 x1)] h R :=
  run_of mixed Try.func58 (by kernel_rfl) (by kernel_rfl) f58.good (Eq.mpr (show (Fwd Try.prog f58.T f58.kp Try.f58 R [] (mkFr (argL [(Value.slice A0 n0 c0), (Value.int .i64 x1)] 0)) h) = (f58.runT R A0 n0 c0 x1 h) by kernel_rfl) H)

/-! ### roadstead/roadref3.ReadyFault: function 59 -/
def f59.T : Tab := { sh := tSh, tup := tTup, keep := [], plan := [(6, (.take 0 (.take 1 (.take 2 (.split 2 (.take 3 (.take 4 (.take 5 (.take 7 (.take 8 (.take 9 (.take 10 (.take 6 (.take 11 (.take 12 (.take 13 .done))))))))))))))))] }
def f59.kp : Keep := [([false, false, true, false, true, true], [0, 8, 9])]
theorem f59.good : goodCode Try.prog f59.T (rootOf Try.f59) = true := by kernel_rfl
set_option maxRecDepth 100000 in
theorem f59.ok : calleeOk Try.prog 59 = true := by kernel_rfl
def f59.l0 (R : Value → Heap → Prop) (A0 : Option Addr) (n0 : Nat) (c0 : Nat) (x8 : Int) (x9 : Int) (h : Heap) : Prop := Pt Try.prog Try.f59 R [false, false, true, false, true, true] (mkFr [(0, (Value.slice A0 n0 c0)), (8, (Value.int .i64 x8)), (9, (Value.int .i64 x9))]) h
set_option maxRecDepth 100000 in
def f59.l0T (R : Value → Heap → Prop) (A0 : Option Addr) (n0 : Nat) (c0 : Nat) (x8 : Int) (x9 : Int) (h : Heap) : Prop :=
  splitB (decide (x9 < x8)) (splitB (decide (x9 > (0 : Int))) (ptrOk A0 fun a1_ => 0 ≤ x9 ∧ x9 < ((n0 : Nat) : Int) ∧ (ptrOk A0 fun a2_ => 0 ≤ (IntKind.wrap .i64 (x9 - (1 : Int))) ∧ (IntKind.wrap .i64 (x9 - (1 : Int))) < ((n0 : Nat) : Int) ∧ (∃ v3_, ldv false 1 h (Addr.add a1_ (Int.toNat x9 * 1)) = some v3_ ∧ ∃ x4_, v3_ = (Value.int .i64 x4_) ∧ ∃ v5_, ldv false 1 h (Addr.add a2_ (Int.toNat (IntKind.wrap .i64 (x9 - (1 : Int))) * 1)) = some v5_ ∧ ∃ x6_, v5_ = (Value.int .i64 x6_) ∧ splitB (decide (x4_ ≤ x6_)) (R (Value.int .i64 (21 : Int)) h) (f59.l0 R A0 n0 c0 x8 (IntKind.wrap .i64 (x9 + (1 : Int))) h)))) (f59.l0 R A0 n0 c0 x8 (IntKind.wrap .i64 (x9 + (1 : Int))) h)) (R (Value.int .i64 (0 : Int)) h)
set_option maxRecDepth 100000 in
theorem f59.l0_in {R : Value → Heap → Prop} {A0 : Option Addr} {n0 : Nat} {c0 : Nat} {x8 : Int} {x9 : Int} {h : Heap} (H : f59.l0T R A0 n0 c0 x8 x9 h) : f59.l0 R A0 n0 c0 x8 x9 h :=
  pt_intro mixed f59.good (Eq.mpr (show (Fwd Try.prog f59.T f59.kp Try.f59 R [false, false, true, false, true, true] (mkFr [(0, (Value.slice A0 n0 c0)), (8, (Value.int .i64 x8)), (9, (Value.int .i64 x9))]) h) = (f59.l0T R A0 n0 c0 x8 x9 h) by kernel_rfl) H)
set_option maxRecDepth 100000 in
def f59.runT (R : Value → Heap → Prop) (A0 : Option Addr) (n0 : Nat) (c0 : Nat) (h : Heap) : Prop :=
  splitB (decide (((n0 : Nat) : Int) > (100 : Int))) (R (Value.int .i64 (2 : Int)) h) (f59.l0 R A0 n0 c0 ((n0 : Nat) : Int) (0 : Int) h)
set_option maxRecDepth 100000 in
theorem f59.run {R : Value → Heap → Prop} {A0 : Option Addr} {n0 : Nat} {c0 : Nat} {h : Heap} (H : f59.runT R A0 n0 c0 h) : Run Try.prog 59 #[(Value.slice A0 n0 c0)] h R :=
  run_of mixed Try.func59 (by kernel_rfl) (by kernel_rfl) f59.good (Eq.mpr (show (Fwd Try.prog f59.T f59.kp Try.f59 R [] (mkFr (argL [(Value.slice A0 n0 c0)] 0)) h) = (f59.runT R A0 n0 c0 h) by kernel_rfl) H)

/-! ### roadstead/roadref3.NextOf: function 61 -/
def f61.T : Tab := { sh := tSh, tup := tTup, keep := [], plan := [] }
def f61.kp : Keep := [([false, false, true, false, true], [0, 1, 7, 8, 9])]
theorem f61.good : goodCode Try.prog f61.T (rootOf Try.f61) = true := by kernel_rfl
set_option maxRecDepth 100000 in
theorem f61.ok : calleeOk Try.prog 61 = true := by kernel_rfl
def f61.l0 (R : Value → Heap → Prop) (A0 : Option Addr) (n0 : Nat) (c0 : Nat) (x1 : Int) (A7 : Option Addr) (n7 : Nat) (c7 : Nat) (x8 : Int) (x9 : Int) (h : Heap) : Prop := Pt Try.prog Try.f61 R [false, false, true, false, true] (mkFr [(0, (Value.slice A0 n0 c0)), (1, (Value.int .i64 x1)), (7, (Value.slice A7 n7 c7)), (8, (Value.int .i64 x8)), (9, (Value.int .i64 x9))]) h
set_option maxRecDepth 100000 in
def f61.l0T (R : Value → Heap → Prop) (A0 : Option Addr) (n0 : Nat) (c0 : Nat) (x1 : Int) (A7 : Option Addr) (n7 : Nat) (c7 : Nat) (x8 : Int) (x9 : Int) (h : Heap) : Prop :=
  splitB (decide (x9 < x8)) (ptrOk A7 fun a1_ => 0 ≤ x9 ∧ x9 < ((n7 : Nat) : Int) ∧ (∃ v2_, ldv false 1 h (Addr.add a1_ (Int.toNat x9 * 1)) = some v2_ ∧ ∃ x3_, v2_ = (Value.int .i64 x3_) ∧ splitB (decide (x3_ > x1)) (R (Value.int .i64 x3_) h) (f61.l0 R A0 n0 c0 x1 A7 n7 c7 x8 (IntKind.wrap .i64 (x9 + (1 : Int))) h))) (ptrOk A0 fun a4_ => 0 ≤ (0 : Int) ∧ (0 : Int) < ((n0 : Nat) : Int) ∧ (∃ v5_, ldv false 1 h (Addr.add a4_ (Int.toNat (0 : Int) * 1)) = some v5_ ∧ ∃ x6_, v5_ = (Value.int .i64 x6_) ∧ R (Value.int .i64 x6_) h))
set_option maxRecDepth 100000 in
theorem f61.l0_in {R : Value → Heap → Prop} {A0 : Option Addr} {n0 : Nat} {c0 : Nat} {x1 : Int} {A7 : Option Addr} {n7 : Nat} {c7 : Nat} {x8 : Int} {x9 : Int} {h : Heap} (H : f61.l0T R A0 n0 c0 x1 A7 n7 c7 x8 x9 h) : f61.l0 R A0 n0 c0 x1 A7 n7 c7 x8 x9 h :=
  pt_intro mixed f61.good (Eq.mpr (show (Fwd Try.prog f61.T f61.kp Try.f61 R [false, false, true, false, true] (mkFr [(0, (Value.slice A0 n0 c0)), (1, (Value.int .i64 x1)), (7, (Value.slice A7 n7 c7)), (8, (Value.int .i64 x8)), (9, (Value.int .i64 x9))]) h) = (f61.l0T R A0 n0 c0 x1 A7 n7 c7 x8 x9 h) by kernel_rfl) H)
set_option maxRecDepth 100000 in
def f61.runT (R : Value → Heap → Prop) (A0 : Option Addr) (n0 : Nat) (c0 : Nat) (x1 : Int) (h : Heap) : Prop :=
  f61.l0 R A0 n0 c0 x1 A0 n0 c0 ((n0 : Nat) : Int) (0 : Int) h
set_option maxRecDepth 100000 in
theorem f61.run {R : Value → Heap → Prop} {A0 : Option Addr} {n0 : Nat} {c0 : Nat} {x1 : Int} {h : Heap} (H : f61.runT R A0 n0 c0 x1 h) : Run Try.prog 61 #[(Value.slice A0 n0 c0), (Value.int .i64 x1)] h R :=
  run_of mixed Try.func61 (by kernel_rfl) (by kernel_rfl) f61.good (Eq.mpr (show (Fwd Try.prog f61.T f61.kp Try.f61 R [] (mkFr (argL [(Value.slice A0 n0 c0), (Value.int .i64 x1)] 0)) h) = (f61.runT R A0 n0 c0 x1 h) by kernel_rfl) H)

end Go.Proofs.Ytbpfmlgnlcfbcaa.Fw
