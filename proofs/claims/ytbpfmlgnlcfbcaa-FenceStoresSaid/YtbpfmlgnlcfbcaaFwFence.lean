/- The forward texts of functions of the given program, each with its proof by the kernel. Printed by a program of this session. -/
import Derived.Test.YtbpfmlgnlcfbcaaHwT
namespace Go.Proofs.Ytbpfmlgnlcfbcaa.Fw
open Go Go.Hw Go.Proofs
set_option linter.unusedVariables false

/-! ### roadstead/fence.NewStore: function 15 -/
def f15.T : Tab := { sh := tSh, tup := tTup, keep := [], plan := [] }
def f15.kp : Keep := []
theorem f15.good : goodCode Try.prog f15.T (rootOf Try.f15) = true := by kernel_rfl
set_option maxRecDepth 100000 in
def f15.runT (R : Value → Heap → Prop)  (h : Heap) : Prop :=
  newH h (Obj.cells #[(Value.int .i64 (0 : Int)), (Value.int .i64 (0 : Int)), (Value.int .i64 (0 : Int))] 164) fun h1_ => R (Value.pointer (some ⟨Array.size h, 0, none⟩)) h1_
set_option maxRecDepth 100000 in
theorem f15.run {R : Value → Heap → Prop}  {h : Heap} (H : f15.runT R  h) : Run Try.prog 15 #[] h R :=
  run_of mixed Try.func15 (by kernel_rfl) (by kernel_rfl) f15.good (Eq.mpr (show (Fwd Try.prog f15.T f15.kp Try.f15 R [] (mkFr (argL [] 0)) h) = (f15.runT R  h) by kernel_rfl) H)

/-! ### (*roadstead/fence.Store).Put: function 16 -/
def f16.T : Tab := { sh := tSh, tup := tTup, keep := [], plan := [] }
def f16.kp : Keep := []
theorem f16.good : goodCode Try.prog f16.T (rootOf Try.f16) = true := by kernel_rfl
set_option maxRecDepth 100000 in
def f16.runT (R : Value → Heap → Prop) (a0 : Addr) (x1 : Int) (x2 : Int) (h : Heap) : Prop :=
  splitB (decide (x1 < (1 : Int))) (R (Value.int .i64 (1 : Int)) h) (∃ v1_, ldv false 1 h a0 = some v1_ ∧ ∃ x2_, v1_ = (Value.int .i64 x2_) ∧ splitB (decide (x1 < x2_)) (∃ v3_, ldv false 1 h (Addr.add a0 2) = some v3_ ∧ ∃ x4_, v3_ = (Value.int .i64 x4_) ∧ ∃ h5_, st1 h (Addr.add a0 2) (Value.int .i64 (IntKind.wrap .i64 (x4_ + (1 : Int)))) = some h5_ ∧ R (Value.int .i64 (23 : Int)) h5_) (∃ h6_, st1 h a0 (Value.int .i64 x1) = some h6_ ∧ ∃ h7_, st1 h6_ (Addr.add a0 1) (Value.int .i64 x2) = some h7_ ∧ R (Value.int .i64 (0 : Int)) h7_))
set_option maxRecDepth 100000 in
theorem f16.run {R : Value → Heap → Prop} {a0 : Addr} {x1 : Int} {x2 : Int} {h : Heap} (H : f16.runT R a0 x1 x2 h) : Run Try.prog 16 #[(Value.pointer (some a0)), (Value.int .i64 x1), (Value.int .i64 x2)] h R :=
  run_of mixed Try.func16 (by kernel_rfl) (by kernel_rfl) f16.good (Eq.mpr (show (Fwd Try.prog f16.T f16.kp Try.f16 R [] (mkFr (argL [(Value.pointer (some a0)), (Value.int .i64 x1), (Value.int .i64 x2)] 0)) h) = (f16.runT R a0 x1 x2 h) by kernel_rfl) H)

/-! ### roadstead/roadlaw4.at: function 17 -/
def f17.T : Tab := { sh := tSh, tup := tTup, keep := [], plan := [] }
def f17.kp : Keep := []
theorem f17.good : goodCode Try.prog f17.T (rootOf Try.f17) = true := by kernel_rfl
set_option maxRecDepth 100000 in
def f17.runT (R : Value → Heap → Prop) (A0 : Option Addr) (n0 : Nat) (c0 : Nat) (x1 : Int) (h : Heap) : Prop :=
  splitB (decide (x1 < ((n0 : Nat) : Int))) (ptrOk A0 fun a1_ => 0 ≤ x1 ∧ x1 < ((n0 : Nat) : Int) ∧ (∃ v2_, ldv false 1 h (Addr.add a1_ (Int.toNat x1 * 1)) = some v2_ ∧ ∃ x3_, v2_ = (Value.int .i64 x3_) ∧ R (Value.int .i64 x3_) h)) (R (Value.int .i64 (0 : Int)) h)
set_option maxRecDepth 100000 in
theorem f17.run {R : Value → Heap → Prop} {A0 : Option Addr} {n0 : Nat} {c0 : Nat} {x1 : Int} {h : Heap} (H : f17.runT R A0 n0 c0 x1 h) : Run Try.prog 17 #[(Value.slice A0 n0 c0), (Value.int .i64 x1)] h R :=
  run_of mixed Try.func17 (by kernel_rfl) (by kernel_rfl) f17.good (Eq.mpr (show (Fwd Try.prog f17.T f17.kp Try.f17 R [] (mkFr (argL [(Value.slice A0 n0 c0), (Value.int .i64 x1)] 0)) h) = (f17.runT R A0 n0 c0 x1 h) by kernel_rfl) H)

/-! ### (*roadstead/fence.Store).Get: function 18 -/
def f18.T : Tab := { sh := tSh, tup := tTup, keep := [], plan := [(1, (.take 0 (.take 1 (.take 2 (.take 4 (.take 5 (.take 6 (.take 8 (.take 9 (.take 10 (.take 3 (.take 12 (.take 7 (.take 13 (.take 11 (.take 14 .done))))))))))))))))] }
def f18.kp : Keep := []
theorem f18.good : goodCode Try.prog f18.T (rootOf Try.f18) = true := by kernel_rfl
set_option maxRecDepth 100000 in
def f18.runT (R : Value → Heap → Prop) (a0 : Addr) (h : Heap) : Prop :=
  ∃ v1_, ldv false 1 h (Addr.add a0 1) = some v1_ ∧ ∃ x2_, v1_ = (Value.int .i64 x2_) ∧ ∃ v3_, ldv false 1 h a0 = some v3_ ∧ ∃ x4_, v3_ = (Value.int .i64 x4_) ∧ ∃ v5_, ldv false 1 h (Addr.add a0 2) = some v5_ ∧ ∃ x6_, v5_ = (Value.int .i64 x6_) ∧ R (Value.tuple #[(Value.int .i64 x2_), (Value.int .i64 x4_), (Value.int .i64 x6_)]) h
set_option maxRecDepth 100000 in
theorem f18.run {R : Value → Heap → Prop} {a0 : Addr} {h : Heap} (H : f18.runT R a0 h) : Run Try.prog 18 #[(Value.pointer (some a0))] h R :=
  run_of mixed Try.func18 (by kernel_rfl) (by kernel_rfl) f18.good (Eq.mpr (show (Fwd Try.prog f18.T f18.kp Try.f18 R [] (mkFr (argL [(Value.pointer (some a0))] 0)) h) = (f18.runT R a0 h) by kernel_rfl) H)

/-! ### roadstead/roadlaw4.FenceStores: function 3 -/
def f3.T : Tab := { sh := tSh, tup := tTup, keep := [], plan := [] }
def f3.kp : Keep := [([true, true, true], [0]), ([false, false, true, false, true, true, true, true, true], [3, 4, 5, 6, 34, 35, 36]), ([true, true, true, true, false, false, true, true, false, false, true, false, true, true, true, true, true], [3, 4, 5, 6, 9, 10, 11, 34, 35, 36])]
theorem f3.good : goodCode Try.prog f3.T (rootOf Try.f3) = true := by kernel_rfl
def f3.j0 (R : Value → Heap → Prop) (A0 : Option Addr) (n0 : Nat) (c0 : Nat) (h : Heap) : Prop := Pt Try.prog Try.f3 R [true, true, true] (mkFr [(0, (Value.slice A0 n0 c0))]) h
def f3.l0 (R : Value → Heap → Prop) (p3 : Option Addr) (x4 : Int) (x5 : Int) (x6 : Int) (A34 : Option Addr) (n34 : Nat) (c34 : Nat) (x35 : Int) (x36 : Int) (h : Heap) : Prop := Pt Try.prog Try.f3 R [false, false, true, false, true, true, true, true, true] (mkFr [(3, (Value.pointer p3)), (4, (Value.int .i64 x4)), (5, (Value.int .i64 x5)), (6, (Value.int .i64 x6)), (34, (Value.slice A34 n34 c34)), (35, (Value.int .i64 x35)), (36, (Value.int .i64 x36))]) h
def f3.j1 (R : Value → Heap → Prop) (p3 : Option Addr) (x4 : Int) (x5 : Int) (x6 : Int) (x9 : Int) (x10 : Int) (x11 : Int) (A34 : Option Addr) (n34 : Nat) (c34 : Nat) (x35 : Int) (x36 : Int) (h : Heap) : Prop := Pt Try.prog Try.f3 R [true, true, true, true, false, false, true, true, false, false, true, false, true, true, true, true, true] (mkFr [(3, (Value.pointer p3)), (4, (Value.int .i64 x4)), (5, (Value.int .i64 x5)), (6, (Value.int .i64 x6)), (9, (Value.int .i64 x9)), (10, (Value.int .i64 x10)), (11, (Value.int .i64 x11)), (34, (Value.slice A34 n34 c34)), (35, (Value.int .i64 x35)), (36, (Value.int .i64 x36))]) h
set_option maxRecDepth 100000 in
def f3.j0T (R : Value → Heap → Prop) (A0 : Option Addr) (n0 : Nat) (c0 : Nat) (h : Heap) : Prop :=
  Run Try.prog 15 #[] h fun v1_ h2_ => ∃ p3_, v1_ = (Value.pointer p3_) ∧ f3.l0 R p3_ (0 : Int) (0 : Int) (0 : Int) A0 n0 c0 ((n0 : Nat) : Int) (0 : Int) h2_
set_option maxRecDepth 100000 in
theorem f3.j0_in {R : Value → Heap → Prop} {A0 : Option Addr} {n0 : Nat} {c0 : Nat} {h : Heap} (H : f3.j0T R A0 n0 c0 h) : f3.j0 R A0 n0 c0 h :=
  pt_intro mixed f3.good (Eq.mpr (show (Fwd Try.prog f3.T f3.kp Try.f3 R [true, true, true] (mkFr [(0, (Value.slice A0 n0 c0))]) h) = (f3.j0T R A0 n0 c0 h) by kernel_rfl) H)
set_option maxRecDepth 100000 in
def f3.l0T (R : Value → Heap → Prop) (p3 : Option Addr) (x4 : Int) (x5 : Int) (x6 : Int) (A34 : Option Addr) (n34 : Nat) (c34 : Nat) (x35 : Int) (x36 : Int) (h : Heap) : Prop :=
  splitB (decide (x36 < x35)) (ptrOk A34 fun a1_ => 0 ≤ x36 ∧ x36 < ((n34 : Nat) : Int) ∧ (∃ v2_, ldv false 1 h (Addr.add a1_ (Int.toNat x36 * 1)) = some v2_ ∧ ∃ A3_, ∃ n3_, ∃ c3_, v2_ = (Value.slice A3_ n3_ c3_) ∧ Run Try.prog 17 #[(Value.slice A3_ n3_ c3_), (Value.int .i64 (0 : Int))] h fun v4_ h5_ => ∃ x6_, v4_ = (Value.int .i64 x6_) ∧ Run Try.prog 17 #[(Value.slice A3_ n3_ c3_), (Value.int .i64 (1 : Int))] h5_ fun v7_ h8_ => ∃ x9_, v7_ = (Value.int .i64 x9_) ∧ splitB (decide (x6_ < (1 : Int))) (f3.j1 R p3 x4 x5 x6 x6_ x9_ (1 : Int) A34 n34 c34 x35 x36 h8_) (splitB (decide (x6_ < x5)) (f3.j1 R p3 x4 x5 (IntKind.wrap .i64 (x6 + (1 : Int))) x6_ x9_ (23 : Int) A34 n34 c34 x35 x36 h8_) (f3.j1 R p3 x9_ x6_ x6 x6_ x9_ (0 : Int) A34 n34 c34 x35 x36 h8_)))) (R (Value.bool true) h)
set_option maxRecDepth 100000 in
theorem f3.l0_in {R : Value → Heap → Prop} {p3 : Option Addr} {x4 : Int} {x5 : Int} {x6 : Int} {A34 : Option Addr} {n34 : Nat} {c34 : Nat} {x35 : Int} {x36 : Int} {h : Heap} (H : f3.l0T R p3 x4 x5 x6 A34 n34 c34 x35 x36 h) : f3.l0 R p3 x4 x5 x6 A34 n34 c34 x35 x36 h :=
  pt_intro mixed f3.good (Eq.mpr (show (Fwd Try.prog f3.T f3.kp Try.f3 R [false, false, true, false, true, true, true, true, true] (mkFr [(3, (Value.pointer p3)), (4, (Value.int .i64 x4)), (5, (Value.int .i64 x5)), (6, (Value.int .i64 x6)), (34, (Value.slice A34 n34 c34)), (35, (Value.int .i64 x35)), (36, (Value.int .i64 x36))]) h) = (f3.l0T R p3 x4 x5 x6 A34 n34 c34 x35 x36 h) by kernel_rfl) H)
set_option maxRecDepth 100000 in
def f3.j1T (R : Value → Heap → Prop) (p3 : Option Addr) (x4 : Int) (x5 : Int) (x6 : Int) (x9 : Int) (x10 : Int) (x11 : Int) (A34 : Option Addr) (n34 : Nat) (c34 : Nat) (x35 : Int) (x36 : Int) (h : Heap) : Prop :=
  Run Try.prog 16 #[(Value.pointer p3), (Value.int .i64 x9), (Value.int .i64 x10)] h fun v1_ h2_ => ∃ x3_, v1_ = (Value.int .i64 x3_) ∧ splitB (x3_ != x11) (R (Value.bool false) h2_) (Run Try.prog 18 #[(Value.pointer p3)] h2_ fun v4_ h5_ => ∃ x6_, ∃ x7_, ∃ x8_, v4_ = (Value.tuple #[(Value.int .i64 x6_), (Value.int .i64 x7_), (Value.int .i64 x8_)]) ∧ splitB (x6_ != x4) (R (Value.bool false) h5_) (splitB (x7_ != x5) (R (Value.bool false) h5_) (splitB (x8_ != x6) (R (Value.bool false) h5_) (f3.l0 R p3 x4 x5 x6 A34 n34 c34 x35 (IntKind.wrap .i64 (x36 + (1 : Int))) h5_))))
set_option maxRecDepth 100000 in
theorem f3.j1_in {R : Value → Heap → Prop} {p3 : Option Addr} {x4 : Int} {x5 : Int} {x6 : Int} {x9 : Int} {x10 : Int} {x11 : Int} {A34 : Option Addr} {n34 : Nat} {c34 : Nat} {x35 : Int} {x36 : Int} {h : Heap} (H : f3.j1T R p3 x4 x5 x6 x9 x10 x11 A34 n34 c34 x35 x36 h) : f3.j1 R p3 x4 x5 x6 x9 x10 x11 A34 n34 c34 x35 x36 h :=
  pt_intro mixed f3.good (Eq.mpr (show (Fwd Try.prog f3.T f3.kp Try.f3 R [true, true, true, true, false, false, true, true, false, false, true, false, true, true, true, true, true] (mkFr [(3, (Value.pointer p3)), (4, (Value.int .i64 x4)), (5, (Value.int .i64 x5)), (6, (Value.int .i64 x6)), (9, (Value.int .i64 x9)), (10, (Value.int .i64 x10)), (11, (Value.int .i64 x11)), (34, (Value.slice A34 n34 c34)), (35, (Value.int .i64 x35)), (36, (Value.int .i64 x36))]) h) = (f3.j1T R p3 x4 x5 x6 x9 x10 x11 A34 n34 c34 x35 x36 h) by kernel_rfl) H)
set_option maxRecDepth 100000 in
def f3.runT (R : Value → Heap → Prop) (A0 : Option Addr) (n0 : Nat) (c0 : Nat) (h : Heap) : Prop :=
  Run Try.prog 15 #[] h fun v1_ h2_ => ∃ p3_, v1_ = (Value.pointer p3_) ∧ splitB (Option.isNone p3_) (R (Value.bool false) h2_) (Run Try.prog 16 #[(Value.pointer p3_), (Value.int .i64 (5 : Int)), (Value.int .i64 (7 : Int))] h2_ fun v4_ h5_ => ∃ x6_, v4_ = (Value.int .i64 x6_) ∧ splitB (x6_ != (0 : Int)) (R (Value.bool false) h5_) (Run Try.prog 16 #[(Value.pointer p3_), (Value.int .i64 (4 : Int)), (Value.int .i64 (8 : Int))] h5_ fun v7_ h8_ => ∃ x9_, v7_ = (Value.int .i64 x9_) ∧ splitB (x9_ != (23 : Int)) (R (Value.bool false) h8_) (Run Try.prog 16 #[(Value.pointer p3_), (Value.int .i64 (0 : Int)), (Value.int .i64 (1 : Int))] h8_ fun v10_ h11_ => ∃ x12_, v10_ = (Value.int .i64 x12_) ∧ splitB (x12_ != (1 : Int)) (R (Value.bool false) h11_) (f3.j0 R A0 n0 c0 h11_))))
set_option maxRecDepth 100000 in
theorem f3.run {R : Value → Heap → Prop} {A0 : Option Addr} {n0 : Nat} {c0 : Nat} {h : Heap} (H : f3.runT R A0 n0 c0 h) : Run Try.prog 3 #[(Value.slice A0 n0 c0)] h R :=
  run_of mixed Try.func3 (by kernel_rfl) (by kernel_rfl) f3.good (Eq.mpr (show (Fwd Try.prog f3.T f3.kp Try.f3 R [] (mkFr (argL [(Value.slice A0 n0 c0)] 0)) h) = (f3.runT R A0 n0 c0 h) by kernel_rfl) H)

end Go.Proofs.Ytbpfmlgnlcfbcaa.Fw
