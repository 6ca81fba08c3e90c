/- Part 2: what the law CyclePlays needs, put together out of texts of this session. -/
import Derived.ProofKit
import Derived.OpenShut
import Derived.ShutString
import Derived.ChangeOld
import Derived.Below
import Derived.SizedLaws
import Derived.ChangeArms
import Derived.Laws.StructEq
import Derived.Test.YthnlhffpmlgmfadZCyclePlaysa
section
namespace Go.Proofs.Ythnlhffpmlgmfad.Fw
open Go Go.Hw Go.Proofs
set_option linter.unusedVariables false
def f10.T : Tab := { sh := tSh, tup := tTup, keep := [], plan := [(6, (.take 0 (.take 1 (.take 2 (.take 4 (.take 5 (.take 6 (.take 3 (.take 7 (.take 8 .done))))))))))] }
def f10.kp : Keep := [([false, false, true, false, true, true], [0, 1, 12, 13])]
theorem f10.good : goodCode Try.prog f10.T (rootOf Try.f10) = true := by kernel_rfl
def f10.l0 (R : Value → Heap → Prop) (A0 : Option Addr) (n0 : Nat) (c0 : Nat) (A1 : Option Addr) (n1 : Nat) (c1 : Nat) (x12 : Int) (x13 : Int) (h : Heap) : Prop := Pt Try.prog Try.f10 R [false, false, true, false, true, true] (mkFr [(0, (Value.slice A0 n0 c0)), (1, (Value.slice A1 n1 c1)), (12, (Value.int .i64 x12)), (13, (Value.int .i64 x13))]) h
set_option maxRecDepth 100000 in
def f10.l0T (R : Value → Heap → Prop) (A0 : Option Addr) (n0 : Nat) (c0 : Nat) (A1 : Option Addr) (n1 : Nat) (c1 : Nat) (x12 : Int) (x13 : Int) (h : Heap) : Prop :=
  splitB (decide (x13 < x12)) (ptrOk A0 fun a1_ => 0 ≤ x13 ∧ x13 < ((n0 : Nat) : Int) ∧ (ptrOk A1 fun a2_ => 0 ≤ x13 ∧ x13 < ((n1 : Nat) : Int) ∧ (∃ v3_, ldv false 1 h (Addr.add a1_ (Int.toNat x13 * 1)) = some v3_ ∧ ∃ x4_, v3_ = (Value.int .i64 x4_) ∧ ∃ v5_, ldv false 1 h (Addr.add a2_ (Int.toNat x13 * 1)) = some v5_ ∧ ∃ x6_, v5_ = (Value.int .i64 x6_) ∧ splitB (x4_ != x6_) (R (Value.bool false) h) (f10.l0 R A0 n0 c0 A1 n1 c1 x12 (IntKind.wrap .i64 (x13 + (1 : Int))) h)))) (R (Value.bool true) h)
set_option maxRecDepth 100000 in
theorem f10.l0_in {R : Value → Heap → Prop} {A0 : Option Addr} {n0 : Nat} {c0 : Nat} {A1 : Option Addr} {n1 : Nat} {c1 : Nat} {x12 : Int} {x13 : Int} {h : Heap} (H : f10.l0T R A0 n0 c0 A1 n1 c1 x12 x13 h) : f10.l0 R A0 n0 c0 A1 n1 c1 x12 x13 h :=
  pt_intro mixed f10.good (Eq.mpr (show (Fwd Try.prog f10.T f10.kp Try.f10 R [false, false, true, false, true, true] (mkFr [(0, (Value.slice A0 n0 c0)), (1, (Value.slice A1 n1 c1)), (12, (Value.int .i64 x12)), (13, (Value.int .i64 x13))]) h) = (f10.l0T R A0 n0 c0 A1 n1 c1 x12 x13 h) by kernel_rfl) H)
set_option maxRecDepth 100000 in
def f10.runT (R : Value → Heap → Prop) (A0 : Option Addr) (n0 : Nat) (c0 : Nat) (A1 : Option Addr) (n1 : Nat) (c1 : Nat) (h : Heap) : Prop :=
  splitB (((n0 : Nat) : Int) != ((n1 : Nat) : Int)) (R (Value.bool false) h) (f10.l0 R A0 n0 c0 A1 n1 c1 ((n0 : Nat) : Int) (0 : Int) h)
set_option maxRecDepth 100000 in
theorem f10.run {R : Value → Heap → Prop} {A0 : Option Addr} {n0 : Nat} {c0 : Nat} {A1 : Option Addr} {n1 : Nat} {c1 : Nat} {h : Heap} (H : f10.runT R A0 n0 c0 A1 n1 c1 h) : Run Try.prog 10 #[(Value.slice A0 n0 c0), (Value.slice A1 n1 c1)] h R :=
  run_of mixed Try.func10 (by kernel_rfl) (by kernel_rfl) f10.good (Eq.mpr (show (Fwd Try.prog f10.T f10.kp Try.f10 R [] (mkFr (argL [(Value.slice A0 n0 c0), (Value.slice A1 n1 c1)] 0)) h) = (f10.runT R A0 n0 c0 A1 n1 c1 h) by kernel_rfl) H)
def f21.T : Tab := { sh := tSh, tup := tTup, keep := [], plan := [] }
def f21.kp : Keep := [([false, false, true, false, true], [0, 1, 7, 8])]
theorem f21.good : goodCode Try.prog f21.T (rootOf Try.f21) = true := by kernel_rfl
def f21.l0 (R : Value → Heap → Prop) (A0 : Option Addr) (n0 : Nat) (c0 : Nat) (v1 : Value) (x7 : Int) (x8 : Int) (h : Heap) : Prop := Pt Try.prog Try.f21 R [false, false, true, false, true] (mkFr [(0, (Value.slice A0 n0 c0)), (1, v1), (7, (Value.int .i64 x7)), (8, (Value.int .i64 x8))]) h
set_option maxRecDepth 100000 in
def f21.l0T (R : Value → Heap → Prop) (A0 : Option Addr) (n0 : Nat) (c0 : Nat) (v1 : Value) (x7 : Int) (x8 : Int) (h : Heap) : Prop :=
  splitB (decide (x8 < x7)) (ptrOk A0 fun a1_ => 0 ≤ x8 ∧ x8 < ((n0 : Nat) : Int) ∧ (∃ v2_, ldv true 4 h (Addr.add a1_ (Int.toNat x8 * 4)) = some v2_ ∧ CallF Try.prog v1 [v2_] h fun v3_ h4_ => ∃ b5_, v3_ = (Value.bool b5_) ∧ splitB b5_ (R (Value.int .i64 x8) h4_) (f21.l0 R A0 n0 c0 v1 x7 (IntKind.wrap .i64 (x8 + (1 : Int))) h4_))) (R (Value.int .i64 (-1 : Int)) h)
set_option maxRecDepth 100000 in
theorem f21.l0_in {R : Value → Heap → Prop} {A0 : Option Addr} {n0 : Nat} {c0 : Nat} {v1 : Value} {x7 : Int} {x8 : Int} {h : Heap} (H : f21.l0T R A0 n0 c0 v1 x7 x8 h) : f21.l0 R A0 n0 c0 v1 x7 x8 h :=
  pt_intro mixed f21.good (Eq.mpr (show (Fwd Try.prog f21.T f21.kp Try.f21 R [false, false, true, false, true] (mkFr [(0, (Value.slice A0 n0 c0)), (1, v1), (7, (Value.int .i64 x7)), (8, (Value.int .i64 x8))]) h) = (f21.l0T R A0 n0 c0 v1 x7 x8 h) by kernel_rfl) H)
set_option maxRecDepth 100000 in
def f21.runT (R : Value → Heap → Prop) (A0 : Option Addr) (n0 : Nat) (c0 : Nat) (v1 : Value) (h : Heap) : Prop :=
  f21.l0 R A0 n0 c0 v1 ((n0 : Nat) : Int) (0 : Int) h
set_option maxRecDepth 100000 in
theorem f21.run {R : Value → Heap → Prop} {A0 : Option Addr} {n0 : Nat} {c0 : Nat} {v1 : Value} {h : Heap} (H : f21.runT R A0 n0 c0 v1 h) : Run Try.prog 21 #[(Value.slice A0 n0 c0), v1] h R :=
  run_of mixed Try.func21 (by kernel_rfl) (by kernel_rfl) f21.good (Eq.mpr (show (Fwd Try.prog f21.T f21.kp Try.f21 R [] (mkFr (argL [(Value.slice A0 n0 c0), v1] 0)) h) = (f21.runT R A0 n0 c0 v1 h) by kernel_rfl) H)
def f25.T : Tab := { sh := tSh, tup := tTup, keep := [], plan := [] }
def f25.kp : Keep := []
theorem f25.good : goodCode Try.prog f25.T (rootOf Try.f25) = true := by kernel_rfl
set_option maxRecDepth 100000 in
def f25.runT (R : Value → Heap → Prop) (A0 : Option Addr) (n0 : Nat) (c0 : Nat) (v1 : Value) (h : Heap) : Prop :=
  Run Try.prog 21 #[(Value.slice A0 n0 c0), v1] h fun v1_ h2_ => ∃ x3_, v1_ = (Value.int .i64 x3_) ∧ R (Value.bool (decide (x3_ ≥ (0 : Int)))) h2_
set_option maxRecDepth 100000 in
theorem f25.run {R : Value → Heap → Prop} {A0 : Option Addr} {n0 : Nat} {c0 : Nat} {v1 : Value} {h : Heap} (H : f25.runT R A0 n0 c0 v1 h) : Run Try.prog 25 #[(Value.slice A0 n0 c0), v1] h R :=
  run_of mixed Try.func25 (by kernel_rfl) (by kernel_rfl) f25.good (Eq.mpr (show (Fwd Try.prog f25.T f25.kp Try.f25 R [] (mkFr (argL [(Value.slice A0 n0 c0), v1] 0)) h) = (f25.runT R A0 n0 c0 v1 h) by kernel_rfl) H)
def f77.T : Tab := { sh := tSh, tup := tTup, keep := [], plan := [] }
def f77.kp : Keep := []
theorem f77.good : goodCode Try.prog f77.T (rootOf Try.f77) = true := by kernel_rfl
set_option maxRecDepth 100000 in
theorem f77.ok : calleeOk Try.prog 77 = true := by kernel_rfl
set_option maxRecDepth 100000 in
def f77.runT (R : Value → Heap → Prop) (v0 : Value) (a1 : Addr) (h : Heap) : Prop :=
  newH h (Obj.cells ((v0).cells) 28) fun h1_ => ∃ v2_, ldv false 1 h1_ (⟨Array.size h, 0, none⟩) = some v2_ ∧ ∃ x3_, v2_ = (Value.int .i64 x3_) ∧ ∃ v4_, ldv false 1 h1_ a1 = some v4_ ∧ ∃ x5_, v4_ = (Value.int .i64 x5_) ∧ R (Value.bool (x3_ == x5_)) h1_
set_option maxRecDepth 100000 in
theorem f77.run {R : Value → Heap → Prop} {v0 : Value} {a1 : Addr} {h : Heap} (H : f77.runT R v0 a1 h) : Run Try.prog 77 #[v0, (Value.pointer (some a1))] h R :=
  run_of mixed Try.func77 (by kernel_rfl) (by kernel_rfl) f77.good (Eq.mpr (show (Fwd Try.prog f77.T f77.kp Try.f77 R [] (mkFr (argL [v0, (Value.pointer (some a1))] 0)) h) = (f77.runT R v0 a1 h) by kernel_rfl) H)
def f12.T : Tab := { sh := tSh, tup := tTup, keep := [], plan := [] }
def f12.kp : Keep := [([false, false, true, false, true, true], [0, 8, 9, 10])]
theorem f12.good : goodCode Try.prog f12.T (rootOf Try.f12) = true := by kernel_rfl
def f12.l0 (R : Value → Heap → Prop) (A0 : Option Addr) (n0 : Nat) (c0 : Nat) (A8 : Option Addr) (n8 : Nat) (c8 : Nat) (x9 : Int) (x10 : Int) (h : Heap) : Prop := Pt Try.prog Try.f12 R [false, false, true, false, true, true] (mkFr [(0, (Value.slice A0 n0 c0)), (8, (Value.slice A8 n8 c8)), (9, (Value.int .i64 x9)), (10, (Value.int .i64 x10))]) h
set_option maxRecDepth 100000 in
def f12.l0T (R : Value → Heap → Prop) (A0 : Option Addr) (n0 : Nat) (c0 : Nat) (A8 : Option Addr) (n8 : Nat) (c8 : Nat) (x9 : Int) (x10 : Int) (h : Heap) : Prop :=
  splitB (decide (x10 < x9)) (ptrOk A8 fun a1_ => 0 ≤ x10 ∧ x10 < ((n8 : Nat) : Int) ∧ (∃ v2_, ldv true 4 h (Addr.add a1_ (Int.toNat x10 * 4)) = some v2_ ∧ newH h (Obj.cells #[(Value.int .i64 (0 : Int)), (Value.bool false), (Value.bool false), (Value.slice none 0 0)] 28) fun h3_ => ∃ l5_ : List Value, v2_ = Value.agg l5_.toArray ∧ l5_.length = 4 ∧ ∃ h4_, stH h3_ (⟨Array.size h, 0, none⟩) l5_ 0 = some h4_ ∧ 0 ≤ (0 : Int) ∧ (0 : Int) ≤ x10 ∧ x10 ≤ ((c0 : Nat) : Int) ∧ (Run Try.prog 25 #[(Value.slice (sliceA A0 (Int.toNat (0 : Int)) c0 4) (Int.toNat x10 - Int.toNat (0 : Int)) (c0 - Int.toNat (0 : Int))), (Value.func (.func 77) #[] #[(Value.pointer (some ⟨Array.size h, 0, none⟩))])] h4_ fun v6_ h7_ => ∃ b8_, v6_ = (Value.bool b8_) ∧ splitB b8_ (R (Value.int .i64 (5 : Int)) h7_) (f12.l0 R A0 n0 c0 A8 n8 c8 x9 (IntKind.wrap .i64 (x10 + (1 : Int))) h7_)))) (R (Value.int .i64 (0 : Int)) h)
set_option maxRecDepth 100000 in
theorem f12.l0_in {R : Value → Heap → Prop} {A0 : Option Addr} {n0 : Nat} {c0 : Nat} {A8 : Option Addr} {n8 : Nat} {c8 : Nat} {x9 : Int} {x10 : Int} {h : Heap} (H : f12.l0T R A0 n0 c0 A8 n8 c8 x9 x10 h) : f12.l0 R A0 n0 c0 A8 n8 c8 x9 x10 h :=
  pt_intro mixed f12.good (Eq.mpr (show (Fwd Try.prog f12.T f12.kp Try.f12 R [false, false, true, false, true, true] (mkFr [(0, (Value.slice A0 n0 c0)), (8, (Value.slice A8 n8 c8)), (9, (Value.int .i64 x9)), (10, (Value.int .i64 x10))]) h) = (f12.l0T R A0 n0 c0 A8 n8 c8 x9 x10 h) by kernel_rfl) H)
set_option maxRecDepth 100000 in
def f12.runT (R : Value → Heap → Prop) (A0 : Option Addr) (n0 : Nat) (c0 : Nat) (h : Heap) : Prop :=
  splitB (decide (((n0 : Nat) : Int) > (480 : Int))) (R (Value.int .i64 (2 : Int)) h) (f12.l0 R A0 n0 c0 A0 n0 c0 ((n0 : Nat) : Int) (0 : Int) h)
set_option maxRecDepth 100000 in
theorem f12.run {R : Value → Heap → Prop} {A0 : Option Addr} {n0 : Nat} {c0 : Nat} {h : Heap} (H : f12.runT R A0 n0 c0 h) : Run Try.prog 12 #[(Value.slice A0 n0 c0)] h R :=
  run_of mixed Try.func12 (by kernel_rfl) (by kernel_rfl) f12.good (Eq.mpr (show (Fwd Try.prog f12.T f12.kp Try.f12 R [] (mkFr (argL [(Value.slice A0 n0 c0)] 0)) h) = (f12.runT R A0 n0 c0 h) by kernel_rfl) H)
def f82.T : Tab := { sh := tSh, tup := tTup, keep := [], plan := [] }
def f82.kp : Keep := [([false, false, true, false, true], [0, 1, 7, 8])]
theorem f82.good : goodCode Try.prog f82.T (rootOf Try.f82) = true := by kernel_rfl
def f82.l0 (R : Value → Heap → Prop) (A0 : Option Addr) (n0 : Nat) (c0 : Nat) (x1 : Int) (x7 : Int) (x8 : Int) (h : Heap) : Prop := Pt Try.prog Try.f82 R [false, false, true, false, true] (mkFr [(0, (Value.slice A0 n0 c0)), (1, (Value.int .i64 x1)), (7, (Value.int .i64 x7)), (8, (Value.int .i64 x8))]) h
set_option maxRecDepth 100000 in
def f82.l0T (R : Value → Heap → Prop) (A0 : Option Addr) (n0 : Nat) (c0 : Nat) (x1 : Int) (x7 : Int) (x8 : Int) (h : Heap) : Prop :=
  splitB (decide (x8 < x7)) (ptrOk A0 fun a1_ => 0 ≤ x8 ∧ x8 < ((n0 : Nat) : Int) ∧ (∃ v2_, ldv false 1 h (Addr.add a1_ (Int.toNat x8 * 1)) = some v2_ ∧ ∃ x3_, v2_ = (Value.int .i64 x3_) ∧ splitB (x1 == x3_) (R (Value.int .i64 x8) h) (f82.l0 R A0 n0 c0 x1 x7 (IntKind.wrap .i64 (x8 + (1 : Int))) h))) (R (Value.int .i64 (-1 : Int)) h)
set_option maxRecDepth 100000 in
theorem f82.l0_in {R : Value → Heap → Prop} {A0 : Option Addr} {n0 : Nat} {c0 : Nat} {x1 : Int} {x7 : Int} {x8 : Int} {h : Heap} (H : f82.l0T R A0 n0 c0 x1 x7 x8 h) : f82.l0 R A0 n0 c0 x1 x7 x8 h :=
  pt_intro mixed f82.good (Eq.mpr (show (Fwd Try.prog f82.T f82.kp Try.f82 R [false, false, true, false, true] (mkFr [(0, (Value.slice A0 n0 c0)), (1, (Value.int .i64 x1)), (7, (Value.int .i64 x7)), (8, (Value.int .i64 x8))]) h) = (f82.l0T R A0 n0 c0 x1 x7 x8 h) by kernel_rfl) H)
set_option maxRecDepth 100000 in
def f82.runT (R : Value → Heap → Prop) (A0 : Option Addr) (n0 : Nat) (c0 : Nat) (x1 : Int) (h : Heap) : Prop :=
  f82.l0 R A0 n0 c0 x1 ((n0 : Nat) : Int) (0 : Int) h
set_option maxRecDepth 100000 in
theorem f82.run {R : Value → Heap → Prop} {A0 : Option Addr} {n0 : Nat} {c0 : Nat} {x1 : Int} {h : Heap} (H : f82.runT R A0 n0 c0 x1 h) : Run Try.prog 82 #[(Value.slice A0 n0 c0), (Value.int .i64 x1)] h R :=
  run_of mixed Try.func82 (by kernel_rfl) (by kernel_rfl) f82.good (Eq.mpr (show (Fwd Try.prog f82.T f82.kp Try.f82 R [] (mkFr (argL [(Value.slice A0 n0 c0), (Value.int .i64 x1)] 0)) h) = (f82.runT R A0 n0 c0 x1 h) by kernel_rfl) H)
def f24.T : Tab := { sh := tSh, tup := tTup, keep := [], plan := [] }
def f24.kp : Keep := []
theorem f24.good : goodCode Try.prog f24.T (rootOf Try.f24) = true := by kernel_rfl
set_option maxRecDepth 100000 in
def f24.runT (R : Value → Heap → Prop) (A0 : Option Addr) (n0 : Nat) (c0 : Nat) (x1 : Int) (h : Heap) : Prop :=
  Run Try.prog 82 #[(Value.slice A0 n0 c0), (Value.int .i64 x1)] h fun v1_ h2_ => ∃ x3_, v1_ = (Value.int .i64 x3_) ∧ R (Value.bool (decide (x3_ ≥ (0 : Int)))) h2_
set_option maxRecDepth 100000 in
theorem f24.run {R : Value → Heap → Prop} {A0 : Option Addr} {n0 : Nat} {c0 : Nat} {x1 : Int} {h : Heap} (H : f24.runT R A0 n0 c0 x1 h) : Run Try.prog 24 #[(Value.slice A0 n0 c0), (Value.int .i64 x1)] h R :=
  run_of mixed Try.func24 (by kernel_rfl) (by kernel_rfl) f24.good (Eq.mpr (show (Fwd Try.prog f24.T f24.kp Try.f24 R [] (mkFr (argL [(Value.slice A0 n0 c0), (Value.int .i64 x1)] 0)) h) = (f24.runT R A0 n0 c0 x1 h) by kernel_rfl) H)
def f13.T : Tab := { sh := tSh, tup := tTup, keep := [], plan := [(19, (.take 0 (.take 1 (.take 2 (.take 3 (.take 4 (.take 5 (.split 5 (.take 6 (.take 7 (.take 8 (.take 9 (.take 11 (.take 12 (.take 13 (.take 14 (.take 10 (.take 15 (.eff false 16 (.take 17 .done))))))))))))))))))))] }
def f13.kp : Keep := [([false, false, true, false, true, true], [0, 3, 12, 13, 14]), ([true, true, true, false, false, true, true, false, false, true, false, true, true], [0, 3, 4, 12, 13, 14, 27]), ([false, false, true, false, true, true, true], [0, 3, 33, 34]), ([false, false, true, true, false, false, true, true, false, false, true, false, true, true, true], [0, 3, 6, 33, 34, 38, 39]), ([false, false, true, true, true, false, false, true, true, false, false, true, true, false, false, true, true, false, false, true, false, true, true, true], [0, 3, 6, 7, 33, 34, 38, 39, 49, 50]), ([true, true, false, false, true, true, false, false, true, true, true, false, false, true, true, false, false, true, true, false, false, true, true, false, false, true, false, true, true, true], [0, 3, 6, 7, 8, 33, 34, 38, 39, 49, 50, 70])]
theorem f13.good : goodCode Try.prog f13.T (rootOf Try.f13) = true := by kernel_rfl
def f13.l0 (R : Value → Heap → Prop) (A0 : Option Addr) (n0 : Nat) (c0 : Nat) (A3 : Option Addr) (n3 : Nat) (c3 : Nat) (A12 : Option Addr) (n12 : Nat) (c12 : Nat) (x13 : Int) (x14 : Int) (h : Heap) : Prop := Pt Try.prog Try.f13 R [false, false, true, false, true, true] (mkFr [(0, (Value.slice A0 n0 c0)), (3, (Value.slice A3 n3 c3)), (12, (Value.slice A12 n12 c12)), (13, (Value.int .i64 x13)), (14, (Value.int .i64 x14))]) h
def f13.j0 (R : Value → Heap → Prop) (A0 : Option Addr) (n0 : Nat) (c0 : Nat) (A3 : Option Addr) (n3 : Nat) (c3 : Nat) (x4 : Int) (A12 : Option Addr) (n12 : Nat) (c12 : Nat) (x13 : Int) (x14 : Int) (b27 : Bool) (h : Heap) : Prop := Pt Try.prog Try.f13 R [true, true, true, false, false, true, true, false, false, true, false, true, true] (mkFr [(0, (Value.slice A0 n0 c0)), (3, (Value.slice A3 n3 c3)), (4, (Value.int .i64 x4)), (12, (Value.slice A12 n12 c12)), (13, (Value.int .i64 x13)), (14, (Value.int .i64 x14)), (27, (Value.bool b27))]) h
def f13.l1 (R : Value → Heap → Prop) (A0 : Option Addr) (n0 : Nat) (c0 : Nat) (A3 : Option Addr) (n3 : Nat) (c3 : Nat) (x33 : Int) (x34 : Int) (h : Heap) : Prop := Pt Try.prog Try.f13 R [false, false, true, false, true, true, true] (mkFr [(0, (Value.slice A0 n0 c0)), (3, (Value.slice A3 n3 c3)), (33, (Value.int .i64 x33)), (34, (Value.int .i64 x34))]) h
def f13.l2 (R : Value → Heap → Prop) (A0 : Option Addr) (n0 : Nat) (c0 : Nat) (A3 : Option Addr) (n3 : Nat) (c3 : Nat) (x6 : Int) (x33 : Int) (x34 : Int) (x38 : Int) (x39 : Int) (h : Heap) : Prop := Pt Try.prog Try.f13 R [false, false, true, true, false, false, true, true, false, false, true, false, true, true, true] (mkFr [(0, (Value.slice A0 n0 c0)), (3, (Value.slice A3 n3 c3)), (6, (Value.int .i64 x6)), (33, (Value.int .i64 x33)), (34, (Value.int .i64 x34)), (38, (Value.int .i64 x38)), (39, (Value.int .i64 x39))]) h
def f13.l3 (R : Value → Heap → Prop) (A0 : Option Addr) (n0 : Nat) (c0 : Nat) (A3 : Option Addr) (n3 : Nat) (c3 : Nat) (x6 : Int) (x7 : Int) (x33 : Int) (x34 : Int) (x38 : Int) (x39 : Int) (x49 : Int) (x50 : Int) (h : Heap) : Prop := Pt Try.prog Try.f13 R [false, false, true, true, true, false, false, true, true, false, false, true, true, false, false, true, true, false, false, true, false, true, true, true] (mkFr [(0, (Value.slice A0 n0 c0)), (3, (Value.slice A3 n3 c3)), (6, (Value.int .i64 x6)), (7, (Value.int .i64 x7)), (33, (Value.int .i64 x33)), (34, (Value.int .i64 x34)), (38, (Value.int .i64 x38)), (39, (Value.int .i64 x39)), (49, (Value.int .i64 x49)), (50, (Value.int .i64 x50))]) h
def f13.j1 (R : Value → Heap → Prop) (A0 : Option Addr) (n0 : Nat) (c0 : Nat) (A3 : Option Addr) (n3 : Nat) (c3 : Nat) (x6 : Int) (x7 : Int) (x8 : Int) (x33 : Int) (x34 : Int) (x38 : Int) (x39 : Int) (x49 : Int) (x50 : Int) (b70 : Bool) (h : Heap) : Prop := Pt Try.prog Try.f13 R [true, true, false, false, true, true, false, false, true, true, true, false, false, true, true, false, false, true, true, false, false, true, true, false, false, true, false, true, true, true] (mkFr [(0, (Value.slice A0 n0 c0)), (3, (Value.slice A3 n3 c3)), (6, (Value.int .i64 x6)), (7, (Value.int .i64 x7)), (8, (Value.int .i64 x8)), (33, (Value.int .i64 x33)), (34, (Value.int .i64 x34)), (38, (Value.int .i64 x38)), (39, (Value.int .i64 x39)), (49, (Value.int .i64 x49)), (50, (Value.int .i64 x50)), (70, (Value.bool b70))]) h
set_option maxRecDepth 100000 in
def f13.l0T (R : Value → Heap → Prop) (A0 : Option Addr) (n0 : Nat) (c0 : Nat) (A3 : Option Addr) (n3 : Nat) (c3 : Nat) (A12 : Option Addr) (n12 : Nat) (c12 : Nat) (x13 : Int) (x14 : Int) (h : Heap) : Prop :=
  splitB (decide (x14 < x13)) (ptrOk A12 fun a1_ => 0 ≤ x14 ∧ x14 < ((n12 : Nat) : Int) ∧ (∃ v2_, ldv true 4 h (Addr.add a1_ (Int.toNat x14 * 4)) = some v2_ ∧ newH h (Obj.cells #[(Value.int .i64 (0 : Int)), (Value.bool false), (Value.bool false), (Value.slice none 0 0)] 28) fun h3_ => ∃ l5_ : List Value, v2_ = Value.agg l5_.toArray ∧ l5_.length = 4 ∧ ∃ h4_, stH h3_ (⟨Array.size h, 0, none⟩) l5_ 0 = some h4_ ∧ ptrOk A3 fun a6_ => 0 ≤ x14 ∧ x14 < ((n3 : Nat) : Int) ∧ (∃ h7_, st1 h4_ (Addr.add a6_ (Int.toNat x14 * 1)) (Value.int .i64 (-1 : Int)) = some h7_ ∧ ∃ v8_, ldv false 1 h7_ (Addr.add (⟨Array.size h, 0, none⟩) 2) = some v8_ ∧ ∃ b9_, v8_ = (Value.bool b9_) ∧ splitB b9_ (f13.j0 R A0 n0 c0 A3 n3 c3 x14 A12 n12 c12 x13 x14 true h7_) (∃ v10_, ldv false 1 h7_ (Addr.add (⟨Array.size h, 0, none⟩) 1) = some v10_ ∧ ∃ b11_, v10_ = (Value.bool b11_) ∧ f13.j0 R A0 n0 c0 A3 n3 c3 x14 A12 n12 c12 x13 x14 b11_ h7_)))) (f13.l1 R A0 n0 c0 A3 n3 c3 ((n0 : Nat) : Int) (0 : Int) h)
set_option maxRecDepth 100000 in
theorem f13.l0_in {R : Value → Heap → Prop} {A0 : Option Addr} {n0 : Nat} {c0 : Nat} {A3 : Option Addr} {n3 : Nat} {c3 : Nat} {A12 : Option Addr} {n12 : Nat} {c12 : Nat} {x13 : Int} {x14 : Int} {h : Heap} (H : f13.l0T R A0 n0 c0 A3 n3 c3 A12 n12 c12 x13 x14 h) : f13.l0 R A0 n0 c0 A3 n3 c3 A12 n12 c12 x13 x14 h :=
  pt_intro mixed f13.good (Eq.mpr (show (Fwd Try.prog f13.T f13.kp Try.f13 R [false, false, true, false, true, true] (mkFr [(0, (Value.slice A0 n0 c0)), (3, (Value.slice A3 n3 c3)), (12, (Value.slice A12 n12 c12)), (13, (Value.int .i64 x13)), (14, (Value.int .i64 x14))]) h) = (f13.l0T R A0 n0 c0 A3 n3 c3 A12 n12 c12 x13 x14 h) by kernel_rfl) H)
set_option maxRecDepth 100000 in
def f13.j0T (R : Value → Heap → Prop) (A0 : Option Addr) (n0 : Nat) (c0 : Nat) (A3 : Option Addr) (n3 : Nat) (c3 : Nat) (x4 : Int) (A12 : Option Addr) (n12 : Nat) (c12 : Nat) (x13 : Int) (x14 : Int) (b27 : Bool) (h : Heap) : Prop :=
  splitB b27 (ptrOk A3 fun a1_ => 0 ≤ x4 ∧ x4 < ((n3 : Nat) : Int) ∧ (∃ h2_, st1 h (Addr.add a1_ (Int.toNat x4 * 1)) (Value.int .i64 (0 : Int)) = some h2_ ∧ f13.l0 R A0 n0 c0 A3 n3 c3 A12 n12 c12 x13 (IntKind.wrap .i64 (x14 + (1 : Int))) h2_)) (f13.l0 R A0 n0 c0 A3 n3 c3 A12 n12 c12 x13 (IntKind.wrap .i64 (x14 + (1 : Int))) h)
set_option maxRecDepth 100000 in
theorem f13.j0_in {R : Value → Heap → Prop} {A0 : Option Addr} {n0 : Nat} {c0 : Nat} {A3 : Option Addr} {n3 : Nat} {c3 : Nat} {x4 : Int} {A12 : Option Addr} {n12 : Nat} {c12 : Nat} {x13 : Int} {x14 : Int} {b27 : Bool} {h : Heap} (H : f13.j0T R A0 n0 c0 A3 n3 c3 x4 A12 n12 c12 x13 x14 b27 h) : f13.j0 R A0 n0 c0 A3 n3 c3 x4 A12 n12 c12 x13 x14 b27 h :=
  pt_intro mixed f13.good (Eq.mpr (show (Fwd Try.prog f13.T f13.kp Try.f13 R [true, true, true, false, false, true, true, false, false, true, false, true, true] (mkFr [(0, (Value.slice A0 n0 c0)), (3, (Value.slice A3 n3 c3)), (4, (Value.int .i64 x4)), (12, (Value.slice A12 n12 c12)), (13, (Value.int .i64 x13)), (14, (Value.int .i64 x14)), (27, (Value.bool b27))]) h) = (f13.j0T R A0 n0 c0 A3 n3 c3 x4 A12 n12 c12 x13 x14 b27 h) by kernel_rfl) H)
set_option maxRecDepth 100000 in
def f13.l1T (R : Value → Heap → Prop) (A0 : Option Addr) (n0 : Nat) (c0 : Nat) (A3 : Option Addr) (n3 : Nat) (c3 : Nat) (x33 : Int) (x34 : Int) (h : Heap) : Prop :=
  splitB (decide (x34 < x33)) (f13.l2 R A0 n0 c0 A3 n3 c3 x34 x33 x34 ((n0 : Nat) : Int) (0 : Int) h) (R (Value.slice A3 n3 c3) h)
set_option maxRecDepth 100000 in
theorem f13.l1_in {R : Value → Heap → Prop} {A0 : Option Addr} {n0 : Nat} {c0 : Nat} {A3 : Option Addr} {n3 : Nat} {c3 : Nat} {x33 : Int} {x34 : Int} {h : Heap} (H : f13.l1T R A0 n0 c0 A3 n3 c3 x33 x34 h) : f13.l1 R A0 n0 c0 A3 n3 c3 x33 x34 h :=
  pt_intro mixed f13.good (Eq.mpr (show (Fwd Try.prog f13.T f13.kp Try.f13 R [false, false, true, false, true, true, true] (mkFr [(0, (Value.slice A0 n0 c0)), (3, (Value.slice A3 n3 c3)), (33, (Value.int .i64 x33)), (34, (Value.int .i64 x34))]) h) = (f13.l1T R A0 n0 c0 A3 n3 c3 x33 x34 h) by kernel_rfl) H)
set_option maxRecDepth 100000 in
def f13.l2T (R : Value → Heap → Prop) (A0 : Option Addr) (n0 : Nat) (c0 : Nat) (A3 : Option Addr) (n3 : Nat) (c3 : Nat) (x6 : Int) (x33 : Int) (x34 : Int) (x38 : Int) (x39 : Int) (h : Heap) : Prop :=
  splitB (decide (x39 < x38)) (ptrOk A3 fun a1_ => 0 ≤ x39 ∧ x39 < ((n3 : Nat) : Int) ∧ (∃ v2_, ldv false 1 h (Addr.add a1_ (Int.toNat x39 * 1)) = some v2_ ∧ ∃ x3_, v2_ = (Value.int .i64 x3_) ∧ splitB (x3_ != x6) (f13.l2 R A0 n0 c0 A3 n3 c3 x6 x33 x34 x38 (IntKind.wrap .i64 (x39 + (1 : Int))) h) (f13.l3 R A0 n0 c0 A3 n3 c3 x6 x39 x33 x34 x38 x39 ((n0 : Nat) : Int) (0 : Int) h))) (f13.l1 R A0 n0 c0 A3 n3 c3 x33 (IntKind.wrap .i64 (x34 + (1 : Int))) h)
set_option maxRecDepth 100000 in
theorem f13.l2_in {R : Value → Heap → Prop} {A0 : Option Addr} {n0 : Nat} {c0 : Nat} {A3 : Option Addr} {n3 : Nat} {c3 : Nat} {x6 : Int} {x33 : Int} {x34 : Int} {x38 : Int} {x39 : Int} {h : Heap} (H : f13.l2T R A0 n0 c0 A3 n3 c3 x6 x33 x34 x38 x39 h) : f13.l2 R A0 n0 c0 A3 n3 c3 x6 x33 x34 x38 x39 h :=
  pt_intro mixed f13.good (Eq.mpr (show (Fwd Try.prog f13.T f13.kp Try.f13 R [false, false, true, true, false, false, true, true, false, false, true, false, true, true, true] (mkFr [(0, (Value.slice A0 n0 c0)), (3, (Value.slice A3 n3 c3)), (6, (Value.int .i64 x6)), (33, (Value.int .i64 x33)), (34, (Value.int .i64 x34)), (38, (Value.int .i64 x38)), (39, (Value.int .i64 x39))]) h) = (f13.l2T R A0 n0 c0 A3 n3 c3 x6 x33 x34 x38 x39 h) by kernel_rfl) H)
set_option maxRecDepth 100000 in
def f13.l3T (R : Value → Heap → Prop) (A0 : Option Addr) (n0 : Nat) (c0 : Nat) (A3 : Option Addr) (n3 : Nat) (c3 : Nat) (x6 : Int) (x7 : Int) (x33 : Int) (x34 : Int) (x38 : Int) (x39 : Int) (x49 : Int) (x50 : Int) (h : Heap) : Prop :=
  splitB (decide (x50 < x49)) (ptrOk A3 fun a1_ => 0 ≤ x50 ∧ x50 < ((n3 : Nat) : Int) ∧ (∃ v2_, ldv false 1 h (Addr.add a1_ (Int.toNat x50 * 1)) = some v2_ ∧ ∃ x3_, v2_ = (Value.int .i64 x3_) ∧ splitB (decide (x3_ < (0 : Int))) (ptrOk A0 fun a4_ => 0 ≤ x7 ∧ x7 < ((n0 : Nat) : Int) ∧ (ptrOk A0 fun a5_ => 0 ≤ x50 ∧ x50 < ((n0 : Nat) : Int) ∧ (∃ v6_, ldv false 1 h (Addr.add (Addr.add a4_ (Int.toNat x7 * 4)) 3) = some v6_ ∧ ∃ A7_, ∃ n7_, ∃ c7_, v6_ = (Value.slice A7_ n7_ c7_) ∧ ∃ v8_, ldv false 1 h (Addr.add a5_ (Int.toNat x50 * 4)) = some v8_ ∧ ∃ x9_, v8_ = (Value.int .i64 x9_) ∧ Run Try.prog 24 #[(Value.slice A7_ n7_ c7_), (Value.int .i64 x9_)] h fun v10_ h11_ => ∃ b12_, v10_ = (Value.bool b12_) ∧ f13.j1 R A0 n0 c0 A3 n3 c3 x6 x7 x50 x33 x34 x38 x39 x49 x50 b12_ h11_))) (f13.j1 R A0 n0 c0 A3 n3 c3 x6 x7 x50 x33 x34 x38 x39 x49 x50 false h))) (f13.l2 R A0 n0 c0 A3 n3 c3 x6 x33 x34 x38 (IntKind.wrap .i64 (x39 + (1 : Int))) h)
set_option maxRecDepth 100000 in
theorem f13.l3_in {R : Value → Heap → Prop} {A0 : Option Addr} {n0 : Nat} {c0 : Nat} {A3 : Option Addr} {n3 : Nat} {c3 : Nat} {x6 : Int} {x7 : Int} {x33 : Int} {x34 : Int} {x38 : Int} {x39 : Int} {x49 : Int} {x50 : Int} {h : Heap} (H : f13.l3T R A0 n0 c0 A3 n3 c3 x6 x7 x33 x34 x38 x39 x49 x50 h) : f13.l3 R A0 n0 c0 A3 n3 c3 x6 x7 x33 x34 x38 x39 x49 x50 h :=
  pt_intro mixed f13.good (Eq.mpr (show (Fwd Try.prog f13.T f13.kp Try.f13 R [false, false, true, true, true, false, false, true, true, false, false, true, true, false, false, true, true, false, false, true, false, true, true, true] (mkFr [(0, (Value.slice A0 n0 c0)), (3, (Value.slice A3 n3 c3)), (6, (Value.int .i64 x6)), (7, (Value.int .i64 x7)), (33, (Value.int .i64 x33)), (34, (Value.int .i64 x34)), (38, (Value.int .i64 x38)), (39, (Value.int .i64 x39)), (49, (Value.int .i64 x49)), (50, (Value.int .i64 x50))]) h) = (f13.l3T R A0 n0 c0 A3 n3 c3 x6 x7 x33 x34 x38 x39 x49 x50 h) by kernel_rfl) H)
set_option maxRecDepth 100000 in
def f13.j1T (R : Value → Heap → Prop) (A0 : Option Addr) (n0 : Nat) (c0 : Nat) (A3 : Option Addr) (n3 : Nat) (c3 : Nat) (x6 : Int) (x7 : Int) (x8 : Int) (x33 : Int) (x34 : Int) (x38 : Int) (x39 : Int) (x49 : Int) (x50 : Int) (b70 : Bool) (h : Heap) : Prop :=
  splitB b70 (ptrOk A3 fun a1_ => 0 ≤ x8 ∧ x8 < ((n3 : Nat) : Int) ∧ (∃ h2_, st1 h (Addr.add a1_ (Int.toNat x8 * 1)) (Value.int .i64 (IntKind.wrap .i64 (x6 + (1 : Int)))) = some h2_ ∧ f13.l3 R A0 n0 c0 A3 n3 c3 x6 x7 x33 x34 x38 x39 x49 (IntKind.wrap .i64 (x50 + (1 : Int))) h2_)) (f13.l3 R A0 n0 c0 A3 n3 c3 x6 x7 x33 x34 x38 x39 x49 (IntKind.wrap .i64 (x50 + (1 : Int))) h)
set_option maxRecDepth 100000 in
theorem f13.j1_in {R : Value → Heap → Prop} {A0 : Option Addr} {n0 : Nat} {c0 : Nat} {A3 : Option Addr} {n3 : Nat} {c3 : Nat} {x6 : Int} {x7 : Int} {x8 : Int} {x33 : Int} {x34 : Int} {x38 : Int} {x39 : Int} {x49 : Int} {x50 : Int} {b70 : Bool} {h : Heap} (H : f13.j1T R A0 n0 c0 A3 n3 c3 x6 x7 x8 x33 x34 x38 x39 x49 x50 b70 h) : f13.j1 R A0 n0 c0 A3 n3 c3 x6 x7 x8 x33 x34 x38 x39 x49 x50 b70 h :=
  pt_intro mixed f13.good (Eq.mpr (show (Fwd Try.prog f13.T f13.kp Try.f13 R [true, true, false, false, true, true, false, false, true, true, true, false, false, true, true, false, false, true, true, false, false, true, true, false, false, true, false, true, true, true] (mkFr [(0, (Value.slice A0 n0 c0)), (3, (Value.slice A3 n3 c3)), (6, (Value.int .i64 x6)), (7, (Value.int .i64 x7)), (8, (Value.int .i64 x8)), (33, (Value.int .i64 x33)), (34, (Value.int .i64 x34)), (38, (Value.int .i64 x38)), (39, (Value.int .i64 x39)), (49, (Value.int .i64 x49)), (50, (Value.int .i64 x50)), (70, (Value.bool b70))]) h) = (f13.j1T R A0 n0 c0 A3 n3 c3 x6 x7 x8 x33 x34 x38 x39 x49 x50 b70 h) by kernel_rfl) H)
set_option maxRecDepth 100000 in
def f13.runT (R : Value → Heap → Prop) (A0 : Option Addr) (n0 : Nat) (c0 : Nat) (h : Heap) : Prop :=
  0 ≤ ((n0 : Nat) : Int) ∧ ((n0 : Nat) : Int) ≤ ((n0 : Nat) : Int) ∧ ((n0 : Nat) : Int) * 8 ≤ 140737488355328 ∧ ((n0 : Nat) : Int) ≤ 9223372036854775807 ∧ (newH h (Obj.cells (mkCells #[(Value.int .i64 (0 : Int))] (Int.toNat ((n0 : Nat) : Int) * 1)) 3) fun h1_ => f13.l0 R A0 n0 c0 (some ⟨Array.size h, 0, none⟩) (Int.toNat ((n0 : Nat) : Int)) (Int.toNat ((n0 : Nat) : Int)) A0 n0 c0 ((n0 : Nat) : Int) (0 : Int) h1_)
set_option maxRecDepth 100000 in
theorem f13.run {R : Value → Heap → Prop} {A0 : Option Addr} {n0 : Nat} {c0 : Nat} {h : Heap} (H : f13.runT R A0 n0 c0 h) : Run Try.prog 13 #[(Value.slice A0 n0 c0)] h R :=
  run_of mixed Try.func13 (by kernel_rfl) (by kernel_rfl) f13.good (Eq.mpr (show (Fwd Try.prog f13.T f13.kp Try.f13 R [] (mkFr (argL [(Value.slice A0 n0 c0)] 0)) h) = (f13.runT R A0 n0 c0 h) by kernel_rfl) H)
def f160.T : Tab := { sh := tSh, tup := tTup, keep := [], plan := [] }
def f160.kp : Keep := []
theorem f160.good : goodCode Try.prog f160.T (rootOf Try.f160) = true := by kernel_rfl
set_option maxRecDepth 100000 in
def f160.runT (R : Value → Heap → Prop) (x0 : Int) (h : Heap) : Prop :=
  R (Value.bool (x0 != x0)) h
set_option maxRecDepth 100000 in
theorem f160.run {R : Value → Heap → Prop} {x0 : Int} {h : Heap} (H : f160.runT R x0 h) : Run Try.prog 160 #[(Value.int .i64 x0)] h R :=
  run_of mixed Try.func160 (by kernel_rfl) (by kernel_rfl) f160.good (Eq.mpr (show (Fwd Try.prog f160.T f160.kp Try.f160 R [] (mkFr (argL [(Value.int .i64 x0)] 0)) h) = (f160.runT R x0 h) by kernel_rfl) H)
def f127.T : Tab := { sh := tSh, tup := tTup, keep := [], plan := [] }
def f127.kp : Keep := []
theorem f127.good : goodCode Try.prog f127.T (rootOf Try.f127) = true := by kernel_rfl
set_option maxRecDepth 100000 in
def f127.runT (R : Value → Heap → Prop) (x0 : Int) (x1 : Int) (h : Heap) : Prop :=
  Run Try.prog 160 #[(Value.int .i64 x0)] h fun v1_ h2_ => ∃ b3_, v1_ = (Value.bool b3_) ∧ splitB b3_ (Run Try.prog 160 #[(Value.int .i64 x1)] h2_ fun v4_ h5_ => ∃ b6_, v4_ = (Value.bool b6_) ∧ splitB (!b6_) (R (Value.bool true) h5_) (R (Value.bool (decide (x0 < x1))) h5_)) (R (Value.bool (decide (x0 < x1))) h2_)
set_option maxRecDepth 100000 in
theorem f127.run {R : Value → Heap → Prop} {x0 : Int} {x1 : Int} {h : Heap} (H : f127.runT R x0 x1 h) : Run Try.prog 127 #[(Value.int .i64 x0), (Value.int .i64 x1)] h R :=
  run_of mixed Try.func127 (by kernel_rfl) (by kernel_rfl) f127.good (Eq.mpr (show (Fwd Try.prog f127.T f127.kp Try.f127 R [] (mkFr (argL [(Value.int .i64 x0), (Value.int .i64 x1)] 0)) h) = (f127.runT R x0 x1 h) by kernel_rfl) H)
def f121.T : Tab := { sh := tSh, tup := tTup, keep := [], plan := [(4, (.take 0 (.take 1 (.take 2 (.take 3 (.split 3 (.take 4 (.take 5 (.take 6 (.take 8 (.take 9 (.take 10 (.take 11 (.take 7 (.take 12 (.eff false 13 (.take 14 .done))))))))))))))))), (6, (.take 0 (.take 1 (.take 2 (.take 3 (.take 4 (.take 5 (.take 6 (.take 7 (.take 8 (.take 10 (.take 11 (.take 12 (.take 9 (.take 13 (.take 14 (.eff false 15 (.take 16 (.eff false 17 .done)))))))))))))))))))] }
def f121.kp : Keep := [([false, false, true], [0, 1, 2, 6]), ([false, false, true, false, false, true, false, false, true], [0, 1, 2, 6, 7]), ([true, false, false, true, false, false, true, false, false, true], [0, 1, 2, 6, 7]), ([true, true, false, false, true], [0, 1, 2, 6])]
theorem f121.good : goodCode Try.prog f121.T (rootOf Try.f121) = true := by kernel_rfl
def f121.l0 (R : Value → Heap → Prop) (A0 : Option Addr) (n0 : Nat) (c0 : Nat) (x1 : Int) (x2 : Int) (x6 : Int) (h : Heap) : Prop := Pt Try.prog Try.f121 R [false, false, true] (mkFr [(0, (Value.slice A0 n0 c0)), (1, (Value.int .i64 x1)), (2, (Value.int .i64 x2)), (6, (Value.int .i64 x6))]) h
def f121.l1 (R : Value → Heap → Prop) (A0 : Option Addr) (n0 : Nat) (c0 : Nat) (x1 : Int) (x2 : Int) (x6 : Int) (x7 : Int) (h : Heap) : Prop := Pt Try.prog Try.f121 R [false, false, true, false, false, true, false, false, true] (mkFr [(0, (Value.slice A0 n0 c0)), (1, (Value.int .i64 x1)), (2, (Value.int .i64 x2)), (6, (Value.int .i64 x6)), (7, (Value.int .i64 x7))]) h
def f121.j1 (R : Value → Heap → Prop) (A0 : Option Addr) (n0 : Nat) (c0 : Nat) (x1 : Int) (x2 : Int) (x6 : Int) (x7 : Int) (h : Heap) : Prop := Pt Try.prog Try.f121 R [true, false, false, true, false, false, true, false, false, true] (mkFr [(0, (Value.slice A0 n0 c0)), (1, (Value.int .i64 x1)), (2, (Value.int .i64 x2)), (6, (Value.int .i64 x6)), (7, (Value.int .i64 x7))]) h
def f121.j0 (R : Value → Heap → Prop) (A0 : Option Addr) (n0 : Nat) (c0 : Nat) (x1 : Int) (x2 : Int) (x6 : Int) (h : Heap) : Prop := Pt Try.prog Try.f121 R [true, true, false, false, true] (mkFr [(0, (Value.slice A0 n0 c0)), (1, (Value.int .i64 x1)), (2, (Value.int .i64 x2)), (6, (Value.int .i64 x6))]) h
set_option maxRecDepth 100000 in
def f121.l0T (R : Value → Heap → Prop) (A0 : Option Addr) (n0 : Nat) (c0 : Nat) (x1 : Int) (x2 : Int) (x6 : Int) (h : Heap) : Prop :=
  splitB (decide (x6 < x2)) (f121.l1 R A0 n0 c0 x1 x2 x6 x6 h) (R (Value.tuple #[]) h)
set_option maxRecDepth 100000 in
theorem f121.l0_in {R : Value → Heap → Prop} {A0 : Option Addr} {n0 : Nat} {c0 : Nat} {x1 : Int} {x2 : Int} {x6 : Int} {h : Heap} (H : f121.l0T R A0 n0 c0 x1 x2 x6 h) : f121.l0 R A0 n0 c0 x1 x2 x6 h :=
  pt_intro mixed f121.good (Eq.mpr (show (Fwd Try.prog f121.T f121.kp Try.f121 R [false, false, true] (mkFr [(0, (Value.slice A0 n0 c0)), (1, (Value.int .i64 x1)), (2, (Value.int .i64 x2)), (6, (Value.int .i64 x6))]) h) = (f121.l0T R A0 n0 c0 x1 x2 x6 h) by kernel_rfl) H)
set_option maxRecDepth 100000 in
def f121.l1T (R : Value → Heap → Prop) (A0 : Option Addr) (n0 : Nat) (c0 : Nat) (x1 : Int) (x2 : Int) (x6 : Int) (x7 : Int) (h : Heap) : Prop :=
  splitB (decide (x7 > x1)) (ptrOk A0 fun a1_ => 0 ≤ x7 ∧ x7 < ((n0 : Nat) : Int) ∧ (ptrOk A0 fun a2_ => 0 ≤ (IntKind.wrap .i64 (x7 - (1 : Int))) ∧ (IntKind.wrap .i64 (x7 - (1 : Int))) < ((n0 : Nat) : Int) ∧ (∃ v3_, ldv false 1 h (Addr.add a1_ (Int.toNat x7 * 1)) = some v3_ ∧ ∃ x4_, v3_ = (Value.int .i64 x4_) ∧ ∃ v5_, ldv false 1 h (Addr.add a2_ (Int.toNat (IntKind.wrap .i64 (x7 - (1 : Int))) * 1)) = some v5_ ∧ ∃ x6_, v5_ = (Value.int .i64 x6_) ∧ Run Try.prog 127 #[(Value.int .i64 x4_), (Value.int .i64 x6_)] h fun v7_ h8_ => ∃ b9_, v7_ = (Value.bool b9_) ∧ splitB b9_ (f121.j1 R A0 n0 c0 x1 x2 x6 x7 h8_) (f121.j0 R A0 n0 c0 x1 x2 x6 h8_)))) (f121.j0 R A0 n0 c0 x1 x2 x6 h)
set_option maxRecDepth 100000 in
theorem f121.l1_in {R : Value → Heap → Prop} {A0 : Option Addr} {n0 : Nat} {c0 : Nat} {x1 : Int} {x2 : Int} {x6 : Int} {x7 : Int} {h : Heap} (H : f121.l1T R A0 n0 c0 x1 x2 x6 x7 h) : f121.l1 R A0 n0 c0 x1 x2 x6 x7 h :=
  pt_intro mixed f121.good (Eq.mpr (show (Fwd Try.prog f121.T f121.kp Try.f121 R [false, false, true, false, false, true, false, false, true] (mkFr [(0, (Value.slice A0 n0 c0)), (1, (Value.int .i64 x1)), (2, (Value.int .i64 x2)), (6, (Value.int .i64 x6)), (7, (Value.int .i64 x7))]) h) = (f121.l1T R A0 n0 c0 x1 x2 x6 x7 h) by kernel_rfl) H)
set_option maxRecDepth 100000 in
def f121.j1T (R : Value → Heap → Prop) (A0 : Option Addr) (n0 : Nat) (c0 : Nat) (x1 : Int) (x2 : Int) (x6 : Int) (x7 : Int) (h : Heap) : Prop :=
  ptrOk A0 fun a1_ => 0 ≤ (IntKind.wrap .i64 (x7 - (1 : Int))) ∧ (IntKind.wrap .i64 (x7 - (1 : Int))) < ((n0 : Nat) : Int) ∧ (ptrOk A0 fun a2_ => 0 ≤ x7 ∧ x7 < ((n0 : Nat) : Int) ∧ (∃ v3_, ldv false 1 h (Addr.add a1_ (Int.toNat (IntKind.wrap .i64 (x7 - (1 : Int))) * 1)) = some v3_ ∧ ∃ x4_, v3_ = (Value.int .i64 x4_) ∧ ∃ v5_, ldv false 1 h (Addr.add a2_ (Int.toNat x7 * 1)) = some v5_ ∧ ∃ x6_, v5_ = (Value.int .i64 x6_) ∧ ptrOk A0 fun a7_ => 0 ≤ x7 ∧ x7 < ((n0 : Nat) : Int) ∧ (∃ h8_, st1 h (Addr.add a7_ (Int.toNat x7 * 1)) (Value.int .i64 x4_) = some h8_ ∧ ptrOk A0 fun a9_ => 0 ≤ (IntKind.wrap .i64 (x7 - (1 : Int))) ∧ (IntKind.wrap .i64 (x7 - (1 : Int))) < ((n0 : Nat) : Int) ∧ (∃ h10_, st1 h8_ (Addr.add a9_ (Int.toNat (IntKind.wrap .i64 (x7 - (1 : Int))) * 1)) (Value.int .i64 x6_) = some h10_ ∧ f121.l1 R A0 n0 c0 x1 x2 x6 (IntKind.wrap .i64 (x7 - (1 : Int))) h10_))))
set_option maxRecDepth 100000 in
theorem f121.j1_in {R : Value → Heap → Prop} {A0 : Option Addr} {n0 : Nat} {c0 : Nat} {x1 : Int} {x2 : Int} {x6 : Int} {x7 : Int} {h : Heap} (H : f121.j1T R A0 n0 c0 x1 x2 x6 x7 h) : f121.j1 R A0 n0 c0 x1 x2 x6 x7 h :=
  pt_intro mixed f121.good (Eq.mpr (show (Fwd Try.prog f121.T f121.kp Try.f121 R [true, false, false, true, false, false, true, false, false, true] (mkFr [(0, (Value.slice A0 n0 c0)), (1, (Value.int .i64 x1)), (2, (Value.int .i64 x2)), (6, (Value.int .i64 x6)), (7, (Value.int .i64 x7))]) h) = (f121.j1T R A0 n0 c0 x1 x2 x6 x7 h) by kernel_rfl) H)
set_option maxRecDepth 100000 in
def f121.j0T (R : Value → Heap → Prop) (A0 : Option Addr) (n0 : Nat) (c0 : Nat) (x1 : Int) (x2 : Int) (x6 : Int) (h : Heap) : Prop :=
  f121.l0 R A0 n0 c0 x1 x2 (IntKind.wrap .i64 (x6 + (1 : Int))) h
set_option maxRecDepth 100000 in
theorem f121.j0_in {R : Value → Heap → Prop} {A0 : Option Addr} {n0 : Nat} {c0 : Nat} {x1 : Int} {x2 : Int} {x6 : Int} {h : Heap} (H : f121.j0T R A0 n0 c0 x1 x2 x6 h) : f121.j0 R A0 n0 c0 x1 x2 x6 h :=
  pt_intro mixed f121.good (Eq.mpr (show (Fwd Try.prog f121.T f121.kp Try.f121 R [true, true, false, false, true] (mkFr [(0, (Value.slice A0 n0 c0)), (1, (Value.int .i64 x1)), (2, (Value.int .i64 x2)), (6, (Value.int .i64 x6))]) h) = (f121.j0T R A0 n0 c0 x1 x2 x6 h) by kernel_rfl) H)
set_option maxRecDepth 100000 in
def f121.runT (R : Value → Heap → Prop) (A0 : Option Addr) (n0 : Nat) (c0 : Nat) (x1 : Int) (x2 : Int) (h : Heap) : Prop :=
  f121.l0 R A0 n0 c0 x1 x2 (IntKind.wrap .i64 (x1 + (1 : Int))) h
set_option maxRecDepth 100000 in
theorem f121.run {R : Value → Heap → Prop} {A0 : Option Addr} {n0 : Nat} {c0 : Nat} {x1 : Int} {x2 : Int} {h : Heap} (H : f121.runT R A0 n0 c0 x1 x2 h) : Run Try.prog 121 #[(Value.slice A0 n0 c0), (Value.int .i64 x1), (Value.int .i64 x2)] h R :=
  run_of mixed Try.func121 (by kernel_rfl) (by kernel_rfl) f121.good (Eq.mpr (show (Fwd Try.prog f121.T f121.kp Try.f121 R [] (mkFr (argL [(Value.slice A0 n0 c0), (Value.int .i64 x1), (Value.int .i64 x2)] 0)) h) = (f121.runT R A0 n0 c0 x1 x2 h) by kernel_rfl) H)
def f155.T : Tab := { sh := tSh, tup := tTup, keep := [], plan := [(3, (.take 0 (.take 1 (.take 2 (.take 3 (.take 4 (.split 4 (.take 5 (.take 6 (.take 7 (.take 8 (.take 9 (.take 11 (.take 12 (.take 13 (.take 14 (.take 15 (.take 16 (.take 10 (.take 17 (.eff false 18 (.take 19 .done)))))))))))))))))))))), (5, (.take 0 (.take 1 (.take 2 (.take 3 (.take 4 (.take 6 (.take 7 (.take 8 (.take 9 (.take 10 (.take 5 (.take 11 (.eff false 12 (.take 13 .done))))))))))))))), (6, (.take 0 (.take 1 (.take 2 (.take 3 (.take 4 (.take 5 (.take 6 (.take 7 (.take 8 (.take 9 (.take 10 (.take 11 (.take 12 (.take 14 (.take 15 (.take 16 (.take 17 (.take 18 (.take 13 (.take 19 (.take 20 (.eff false 21 (.take 22 (.eff false 23 .done)))))))))))))))))))))))))] }
def f155.kp : Keep := [([false, false, true], [0, 2, 3, 8]), ([true, false, true, true, false, false, false, true], [0, 2, 3, 8, 9, 36]), ([true, true, true, false, false, false, true], [0, 2, 3, 8, 9])]
theorem f155.good : goodCode Try.prog f155.T (rootOf Try.f155) = true := by kernel_rfl
def f155.l0 (R : Value → Heap → Prop) (A0 : Option Addr) (n0 : Nat) (c0 : Nat) (x2 : Int) (x3 : Int) (x8 : Int) (h : Heap) : Prop := Pt Try.prog Try.f155 R [false, false, true] (mkFr [(0, (Value.slice A0 n0 c0)), (2, (Value.int .i64 x2)), (3, (Value.int .i64 x3)), (8, (Value.int .i64 x8))]) h
def f155.j1 (R : Value → Heap → Prop) (A0 : Option Addr) (n0 : Nat) (c0 : Nat) (x2 : Int) (x3 : Int) (x8 : Int) (x9 : Int) (b36 : Bool) (h : Heap) : Prop := Pt Try.prog Try.f155 R [true, false, true, true, false, false, false, true] (mkFr [(0, (Value.slice A0 n0 c0)), (2, (Value.int .i64 x2)), (3, (Value.int .i64 x3)), (8, (Value.int .i64 x8)), (9, (Value.int .i64 x9)), (36, (Value.bool b36))]) h
def f155.j0 (R : Value → Heap → Prop) (A0 : Option Addr) (n0 : Nat) (c0 : Nat) (x2 : Int) (x3 : Int) (x8 : Int) (x9 : Int) (h : Heap) : Prop := Pt Try.prog Try.f155 R [true, true, true, false, false, false, true] (mkFr [(0, (Value.slice A0 n0 c0)), (2, (Value.int .i64 x2)), (3, (Value.int .i64 x3)), (8, (Value.int .i64 x8)), (9, (Value.int .i64 x9))]) h
set_option maxRecDepth 100000 in
def f155.l0T (R : Value → Heap → Prop) (A0 : Option Addr) (n0 : Nat) (c0 : Nat) (x2 : Int) (x3 : Int) (x8 : Int) (h : Heap) : Prop :=
  splitB (decide ((IntKind.wrap .i64 ((IntKind.wrap .i64 ((2 : Int) * x8)) + (1 : Int))) ≥ x2)) (R (Value.tuple #[]) h) (splitB (decide ((IntKind.wrap .i64 ((IntKind.wrap .i64 ((IntKind.wrap .i64 ((2 : Int) * x8)) + (1 : Int))) + (1 : Int))) < x2)) (ptrOk A0 fun a1_ => 0 ≤ (IntKind.wrap .i64 (x3 + (IntKind.wrap .i64 ((IntKind.wrap .i64 ((2 : Int) * x8)) + (1 : Int))))) ∧ (IntKind.wrap .i64 (x3 + (IntKind.wrap .i64 ((IntKind.wrap .i64 ((2 : Int) * x8)) + (1 : Int))))) < ((n0 : Nat) : Int) ∧ (ptrOk A0 fun a2_ => 0 ≤ (IntKind.wrap .i64 ((IntKind.wrap .i64 (x3 + (IntKind.wrap .i64 ((IntKind.wrap .i64 ((2 : Int) * x8)) + (1 : Int))))) + (1 : Int))) ∧ (IntKind.wrap .i64 ((IntKind.wrap .i64 (x3 + (IntKind.wrap .i64 ((IntKind.wrap .i64 ((2 : Int) * x8)) + (1 : Int))))) + (1 : Int))) < ((n0 : Nat) : Int) ∧ (∃ v3_, ldv false 1 h (Addr.add a1_ (Int.toNat (IntKind.wrap .i64 (x3 + (IntKind.wrap .i64 ((IntKind.wrap .i64 ((2 : Int) * x8)) + (1 : Int))))) * 1)) = some v3_ ∧ ∃ x4_, v3_ = (Value.int .i64 x4_) ∧ ∃ v5_, ldv false 1 h (Addr.add a2_ (Int.toNat (IntKind.wrap .i64 ((IntKind.wrap .i64 (x3 + (IntKind.wrap .i64 ((IntKind.wrap .i64 ((2 : Int) * x8)) + (1 : Int))))) + (1 : Int))) * 1)) = some v5_ ∧ ∃ x6_, v5_ = (Value.int .i64 x6_) ∧ Run Try.prog 127 #[(Value.int .i64 x4_), (Value.int .i64 x6_)] h fun v7_ h8_ => ∃ b9_, v7_ = (Value.bool b9_) ∧ f155.j1 R A0 n0 c0 x2 x3 x8 (IntKind.wrap .i64 ((IntKind.wrap .i64 ((2 : Int) * x8)) + (1 : Int))) b9_ h8_))) (f155.j1 R A0 n0 c0 x2 x3 x8 (IntKind.wrap .i64 ((IntKind.wrap .i64 ((2 : Int) * x8)) + (1 : Int))) false h))
set_option maxRecDepth 100000 in
theorem f155.l0_in {R : Value → Heap → Prop} {A0 : Option Addr} {n0 : Nat} {c0 : Nat} {x2 : Int} {x3 : Int} {x8 : Int} {h : Heap} (H : f155.l0T R A0 n0 c0 x2 x3 x8 h) : f155.l0 R A0 n0 c0 x2 x3 x8 h :=
  pt_intro mixed f155.good (Eq.mpr (show (Fwd Try.prog f155.T f155.kp Try.f155 R [false, false, true] (mkFr [(0, (Value.slice A0 n0 c0)), (2, (Value.int .i64 x2)), (3, (Value.int .i64 x3)), (8, (Value.int .i64 x8))]) h) = (f155.l0T R A0 n0 c0 x2 x3 x8 h) by kernel_rfl) H)
set_option maxRecDepth 100000 in
def f155.j1T (R : Value → Heap → Prop) (A0 : Option Addr) (n0 : Nat) (c0 : Nat) (x2 : Int) (x3 : Int) (x8 : Int) (x9 : Int) (b36 : Bool) (h : Heap) : Prop :=
  splitB b36 (f155.j0 R A0 n0 c0 x2 x3 x8 (IntKind.wrap .i64 (x9 + (1 : Int))) h) (f155.j0 R A0 n0 c0 x2 x3 x8 x9 h)
set_option maxRecDepth 100000 in
theorem f155.j1_in {R : Value → Heap → Prop} {A0 : Option Addr} {n0 : Nat} {c0 : Nat} {x2 : Int} {x3 : Int} {x8 : Int} {x9 : Int} {b36 : Bool} {h : Heap} (H : f155.j1T R A0 n0 c0 x2 x3 x8 x9 b36 h) : f155.j1 R A0 n0 c0 x2 x3 x8 x9 b36 h :=
  pt_intro mixed f155.good (Eq.mpr (show (Fwd Try.prog f155.T f155.kp Try.f155 R [true, false, true, true, false, false, false, true] (mkFr [(0, (Value.slice A0 n0 c0)), (2, (Value.int .i64 x2)), (3, (Value.int .i64 x3)), (8, (Value.int .i64 x8)), (9, (Value.int .i64 x9)), (36, (Value.bool b36))]) h) = (f155.j1T R A0 n0 c0 x2 x3 x8 x9 b36 h) by kernel_rfl) H)
set_option maxRecDepth 100000 in
def f155.j0T (R : Value → Heap → Prop) (A0 : Option Addr) (n0 : Nat) (c0 : Nat) (x2 : Int) (x3 : Int) (x8 : Int) (x9 : Int) (h : Heap) : Prop :=
  ptrOk A0 fun a1_ => 0 ≤ (IntKind.wrap .i64 (x3 + x8)) ∧ (IntKind.wrap .i64 (x3 + x8)) < ((n0 : Nat) : Int) ∧ (ptrOk A0 fun a2_ => 0 ≤ (IntKind.wrap .i64 (x3 + x9)) ∧ (IntKind.wrap .i64 (x3 + x9)) < ((n0 : Nat) : Int) ∧ (∃ v3_, ldv false 1 h (Addr.add a1_ (Int.toNat (IntKind.wrap .i64 (x3 + x8)) * 1)) = some v3_ ∧ ∃ x4_, v3_ = (Value.int .i64 x4_) ∧ ∃ v5_, ldv false 1 h (Addr.add a2_ (Int.toNat (IntKind.wrap .i64 (x3 + x9)) * 1)) = some v5_ ∧ ∃ x6_, v5_ = (Value.int .i64 x6_) ∧ Run Try.prog 127 #[(Value.int .i64 x4_), (Value.int .i64 x6_)] h fun v7_ h8_ => ∃ b9_, v7_ = (Value.bool b9_) ∧ splitB (!b9_) (R (Value.tuple #[]) h8_) (ptrOk A0 fun a10_ => 0 ≤ (IntKind.wrap .i64 (x3 + x9)) ∧ (IntKind.wrap .i64 (x3 + x9)) < ((n0 : Nat) : Int) ∧ (ptrOk A0 fun a11_ => 0 ≤ (IntKind.wrap .i64 (x3 + x8)) ∧ (IntKind.wrap .i64 (x3 + x8)) < ((n0 : Nat) : Int) ∧ (∃ v12_, ldv false 1 h8_ (Addr.add a10_ (Int.toNat (IntKind.wrap .i64 (x3 + x9)) * 1)) = some v12_ ∧ ∃ x13_, v12_ = (Value.int .i64 x13_) ∧ ∃ v14_, ldv false 1 h8_ (Addr.add a11_ (Int.toNat (IntKind.wrap .i64 (x3 + x8)) * 1)) = some v14_ ∧ ∃ x15_, v14_ = (Value.int .i64 x15_) ∧ ptrOk A0 fun a16_ => 0 ≤ (IntKind.wrap .i64 (x3 + x8)) ∧ (IntKind.wrap .i64 (x3 + x8)) < ((n0 : Nat) : Int) ∧ (∃ h17_, st1 h8_ (Addr.add a16_ (Int.toNat (IntKind.wrap .i64 (x3 + x8)) * 1)) (Value.int .i64 x13_) = some h17_ ∧ ptrOk A0 fun a18_ => 0 ≤ (IntKind.wrap .i64 (x3 + x9)) ∧ (IntKind.wrap .i64 (x3 + x9)) < ((n0 : Nat) : Int) ∧ (∃ h19_, st1 h17_ (Addr.add a18_ (Int.toNat (IntKind.wrap .i64 (x3 + x9)) * 1)) (Value.int .i64 x15_) = some h19_ ∧ f155.l0 R A0 n0 c0 x2 x3 x9 h19_)))))))
set_option maxRecDepth 100000 in
theorem f155.j0_in {R : Value → Heap → Prop} {A0 : Option Addr} {n0 : Nat} {c0 : Nat} {x2 : Int} {x3 : Int} {x8 : Int} {x9 : Int} {h : Heap} (H : f155.j0T R A0 n0 c0 x2 x3 x8 x9 h) : f155.j0 R A0 n0 c0 x2 x3 x8 x9 h :=
  pt_intro mixed f155.good (Eq.mpr (show (Fwd Try.prog f155.T f155.kp Try.f155 R [true, true, true, false, false, false, true] (mkFr [(0, (Value.slice A0 n0 c0)), (2, (Value.int .i64 x2)), (3, (Value.int .i64 x3)), (8, (Value.int .i64 x8)), (9, (Value.int .i64 x9))]) h) = (f155.j0T R A0 n0 c0 x2 x3 x8 x9 h) by kernel_rfl) H)
set_option maxRecDepth 100000 in
def f155.runT (R : Value → Heap → Prop) (A0 : Option Addr) (n0 : Nat) (c0 : Nat) (x1 : Int) (x2 : Int) (x3 : Int) (h : Heap) : Prop :=
  f155.l0 R A0 n0 c0 x2 x3 x1 h
set_option maxRecDepth 100000 in
theorem f155.run {R : Value → Heap → Prop} {A0 : Option Addr} {n0 : Nat} {c0 : Nat} {x1 : Int} {x2 : Int} {x3 : Int} {h : Heap} (H : f155.runT R A0 n0 c0 x1 x2 x3 h) : Run Try.prog 155 #[(Value.slice A0 n0 c0), (Value.int .i64 x1), (Value.int .i64 x2), (Value.int .i64 x3)] h R :=
  run_of mixed Try.func155 (by kernel_rfl) (by kernel_rfl) f155.good (Eq.mpr (show (Fwd Try.prog f155.T f155.kp Try.f155 R [] (mkFr (argL [(Value.slice A0 n0 c0), (Value.int .i64 x1), (Value.int .i64 x2), (Value.int .i64 x3)] 0)) h) = (f155.runT R A0 n0 c0 x1 x2 x3 h) by kernel_rfl) H)
def f122.T : Tab := { sh := tSh, tup := tTup, keep := [], plan := [(10, (.take 0 (.take 1 (.take 2 (.take 3 (.take 4 (.take 5 (.take 6 (.take 7 (.take 8 (.take 9 (.take 10 (.take 12 (.take 13 (.take 14 (.take 11 (.take 15 (.take 16 (.eff false 17 (.take 18 (.eff false 19 .done)))))))))))))))))))))] }
def f122.kp : Keep := [([false, false, true, false, true, true, true], [0, 6, 7, 8, 9]), ([false, false, true, true, true, true, true], [0, 6, 7, 10])]
theorem f122.good : goodCode Try.prog f122.T (rootOf Try.f122) = true := by kernel_rfl
def f122.l0 (R : Value → Heap → Prop) (A0 : Option Addr) (n0 : Nat) (c0 : Nat) (x6 : Int) (x7 : Int) (x8 : Int) (x9 : Int) (h : Heap) : Prop := Pt Try.prog Try.f122 R [false, false, true, false, true, true, true] (mkFr [(0, (Value.slice A0 n0 c0)), (6, (Value.int .i64 x6)), (7, (Value.int .i64 x7)), (8, (Value.int .i64 x8)), (9, (Value.int .i64 x9))]) h
def f122.l1 (R : Value → Heap → Prop) (A0 : Option Addr) (n0 : Nat) (c0 : Nat) (x6 : Int) (x7 : Int) (x10 : Int) (h : Heap) : Prop := Pt Try.prog Try.f122 R [false, false, true, true, true, true, true] (mkFr [(0, (Value.slice A0 n0 c0)), (6, (Value.int .i64 x6)), (7, (Value.int .i64 x7)), (10, (Value.int .i64 x10))]) h
set_option maxRecDepth 100000 in
def f122.l0T (R : Value → Heap → Prop) (A0 : Option Addr) (n0 : Nat) (c0 : Nat) (x6 : Int) (x7 : Int) (x8 : Int) (x9 : Int) (h : Heap) : Prop :=
  splitB (decide (x9 ≥ (0 : Int))) (Run Try.prog 155 #[(Value.slice A0 n0 c0), (Value.int .i64 x9), (Value.int .i64 x8), (Value.int .i64 x6)] h fun v1_ h2_ => v1_ = (Value.tuple #[]) ∧ f122.l0 R A0 n0 c0 x6 x7 x8 (IntKind.wrap .i64 (x9 - (1 : Int))) h2_) (f122.l1 R A0 n0 c0 x6 x7 (IntKind.wrap .i64 (x8 - (1 : Int))) h)
set_option maxRecDepth 100000 in
theorem f122.l0_in {R : Value → Heap → Prop} {A0 : Option Addr} {n0 : Nat} {c0 : Nat} {x6 : Int} {x7 : Int} {x8 : Int} {x9 : Int} {h : Heap} (H : f122.l0T R A0 n0 c0 x6 x7 x8 x9 h) : f122.l0 R A0 n0 c0 x6 x7 x8 x9 h :=
  pt_intro mixed f122.good (Eq.mpr (show (Fwd Try.prog f122.T f122.kp Try.f122 R [false, false, true, false, true, true, true] (mkFr [(0, (Value.slice A0 n0 c0)), (6, (Value.int .i64 x6)), (7, (Value.int .i64 x7)), (8, (Value.int .i64 x8)), (9, (Value.int .i64 x9))]) h) = (f122.l0T R A0 n0 c0 x6 x7 x8 x9 h) by kernel_rfl) H)
set_option maxRecDepth 100000 in
def f122.l1T (R : Value → Heap → Prop) (A0 : Option Addr) (n0 : Nat) (c0 : Nat) (x6 : Int) (x7 : Int) (x10 : Int) (h : Heap) : Prop :=
  splitB (decide (x10 ≥ (0 : Int))) (ptrOk A0 fun a1_ => 0 ≤ (IntKind.wrap .i64 (x6 + x10)) ∧ (IntKind.wrap .i64 (x6 + x10)) < ((n0 : Nat) : Int) ∧ (ptrOk A0 fun a2_ => 0 ≤ x6 ∧ x6 < ((n0 : Nat) : Int) ∧ (∃ v3_, ldv false 1 h (Addr.add a1_ (Int.toNat (IntKind.wrap .i64 (x6 + x10)) * 1)) = some v3_ ∧ ∃ x4_, v3_ = (Value.int .i64 x4_) ∧ ∃ v5_, ldv false 1 h (Addr.add a2_ (Int.toNat x6 * 1)) = some v5_ ∧ ∃ x6_, v5_ = (Value.int .i64 x6_) ∧ ptrOk A0 fun a7_ => 0 ≤ x6 ∧ x6 < ((n0 : Nat) : Int) ∧ (∃ h8_, st1 h (Addr.add a7_ (Int.toNat x6 * 1)) (Value.int .i64 x4_) = some h8_ ∧ ptrOk A0 fun a9_ => 0 ≤ (IntKind.wrap .i64 (x6 + x10)) ∧ (IntKind.wrap .i64 (x6 + x10)) < ((n0 : Nat) : Int) ∧ (∃ h10_, st1 h8_ (Addr.add a9_ (Int.toNat (IntKind.wrap .i64 (x6 + x10)) * 1)) (Value.int .i64 x6_) = some h10_ ∧ Run Try.prog 155 #[(Value.slice A0 n0 c0), (Value.int .i64 x7), (Value.int .i64 x10), (Value.int .i64 x6)] h10_ fun v11_ h12_ => v11_ = (Value.tuple #[]) ∧ f122.l1 R A0 n0 c0 x6 x7 (IntKind.wrap .i64 (x10 - (1 : Int))) h12_))))) (R (Value.tuple #[]) h)
set_option maxRecDepth 100000 in
theorem f122.l1_in {R : Value → Heap → Prop} {A0 : Option Addr} {n0 : Nat} {c0 : Nat} {x6 : Int} {x7 : Int} {x10 : Int} {h : Heap} (H : f122.l1T R A0 n0 c0 x6 x7 x10 h) : f122.l1 R A0 n0 c0 x6 x7 x10 h :=
  pt_intro mixed f122.good (Eq.mpr (show (Fwd Try.prog f122.T f122.kp Try.f122 R [false, false, true, true, true, true, true] (mkFr [(0, (Value.slice A0 n0 c0)), (6, (Value.int .i64 x6)), (7, (Value.int .i64 x7)), (10, (Value.int .i64 x10))]) h) = (f122.l1T R A0 n0 c0 x6 x7 x10 h) by kernel_rfl) H)
set_option maxRecDepth 100000 in
def f122.runT (R : Value → Heap → Prop) (A0 : Option Addr) (n0 : Nat) (c0 : Nat) (x1 : Int) (x2 : Int) (h : Heap) : Prop :=
  (2 : Int) ≠ 0 ∧ (f122.l0 R A0 n0 c0 x1 (0 : Int) (IntKind.wrap .i64 (x2 - x1)) (IntKind.wrap .i64 (Int.tdiv (IntKind.wrap .i64 ((IntKind.wrap .i64 (x2 - x1)) - (1 : Int))) (2 : Int))) h)
set_option maxRecDepth 100000 in
theorem f122.run {R : Value → Heap → Prop} {A0 : Option Addr} {n0 : Nat} {c0 : Nat} {x1 : Int} {x2 : Int} {h : Heap} (H : f122.runT R A0 n0 c0 x1 x2 h) : Run Try.prog 122 #[(Value.slice A0 n0 c0), (Value.int .i64 x1), (Value.int .i64 x2)] h R :=
  run_of mixed Try.func122 (by kernel_rfl) (by kernel_rfl) f122.good (Eq.mpr (show (Fwd Try.prog f122.T f122.kp Try.f122 R [] (mkFr (argL [(Value.slice A0 n0 c0), (Value.int .i64 x1), (Value.int .i64 x2)] 0)) h) = (f122.runT R A0 n0 c0 x1 x2 h) by kernel_rfl) H)
def f131.T : Tab := { sh := tSh, tup := tTup, keep := [], plan := [] }
def f131.kp : Keep := [([true, true], [0, 2]), ([true, true, true], [0, 2]), ([true, true, true, true], [0, 2])]
theorem f131.good : goodCode Try.prog f131.T (rootOf Try.f131) = true := by kernel_rfl
def f131.j0 (R : Value → Heap → Prop) (x0 : Int) (x2 : Int) (h : Heap) : Prop := Pt Try.prog Try.f131 R [true, true] (mkFr [(0, (Value.int .u64 x0)), (2, (Value.int .i64 x2))]) h
def f131.j1 (R : Value → Heap → Prop) (x0 : Int) (x2 : Int) (h : Heap) : Prop := Pt Try.prog Try.f131 R [true, true, true] (mkFr [(0, (Value.int .u64 x0)), (2, (Value.int .i64 x2))]) h
def f131.j2 (R : Value → Heap → Prop) (x0 : Int) (x2 : Int) (h : Heap) : Prop := Pt Try.prog Try.f131 R [true, true, true, true] (mkFr [(0, (Value.int .u64 x0)), (2, (Value.int .i64 x2))]) h
set_option maxRecDepth 100000 in
def f131.j0T (R : Value → Heap → Prop) (x0 : Int) (x2 : Int) (h : Heap) : Prop :=
  splitB (decide (x0 ≥ (65536 : Int))) (0 ≤ (16 : Int) ∧ (f131.j1 R (shrI .u64 x0 (16 : Int)) (IntKind.wrap .i64 (x2 + (16 : Int))) h)) (f131.j1 R x0 x2 h)
set_option maxRecDepth 100000 in
theorem f131.j0_in {R : Value → Heap → Prop} {x0 : Int} {x2 : Int} {h : Heap} (H : f131.j0T R x0 x2 h) : f131.j0 R x0 x2 h :=
  pt_intro mixed f131.good (Eq.mpr (show (Fwd Try.prog f131.T f131.kp Try.f131 R [true, true] (mkFr [(0, (Value.int .u64 x0)), (2, (Value.int .i64 x2))]) h) = (f131.j0T R x0 x2 h) by kernel_rfl) H)
set_option maxRecDepth 100000 in
def f131.j1T (R : Value → Heap → Prop) (x0 : Int) (x2 : Int) (h : Heap) : Prop :=
  splitB (decide (x0 ≥ (256 : Int))) (0 ≤ (8 : Int) ∧ (f131.j2 R (shrI .u64 x0 (8 : Int)) (IntKind.wrap .i64 (x2 + (8 : Int))) h)) (f131.j2 R x0 x2 h)
set_option maxRecDepth 100000 in
theorem f131.j1_in {R : Value → Heap → Prop} {x0 : Int} {x2 : Int} {h : Heap} (H : f131.j1T R x0 x2 h) : f131.j1 R x0 x2 h :=
  pt_intro mixed f131.good (Eq.mpr (show (Fwd Try.prog f131.T f131.kp Try.f131 R [true, true, true] (mkFr [(0, (Value.int .u64 x0)), (2, (Value.int .i64 x2))]) h) = (f131.j1T R x0 x2 h) by kernel_rfl) H)
set_option maxRecDepth 100000 in
def f131.j2T (R : Value → Heap → Prop) (x0 : Int) (x2 : Int) (h : Heap) : Prop :=
  0 ≤ (IntKind.wrap .u8 x0) ∧ ∃ y1_, (ByteArray.mk #[0, 1, 2, 2, 3, 3, 3, 3, 4, 4, 4, 4, 4, 4, 4, 4, 5, 5, 5, 5, 5, 5, 5, 5, 5, 5, 5, 5, 5, 5, 5, 5, 6, 6, 6, 6, 6, 6, 6, 6, 6, 6, 6, 6, 6, 6, 6, 6, 6, 6, 6, 6, 6, 6, 6, 6, 6, 6, 6, 6, 6, 6, 6, 6, 7, 7, 7, 7, 7, 7, 7, 7, 7, 7, 7, 7, 7, 7, 7, 7, 7, 7, 7, 7, 7, 7, 7, 7, 7, 7, 7, 7, 7, 7, 7, 7, 7, 7, 7, 7, 7, 7, 7, 7, 7, 7, 7, 7, 7, 7, 7, 7, 7, 7, 7, 7, 7, 7, 7, 7, 7, 7, 7, 7, 7, 7, 7, 7, 8, 8, 8, 8, 8, 8, 8, 8, 8, 8, 8, 8, 8, 8, 8, 8, 8, 8, 8, 8, 8, 8, 8, 8, 8, 8, 8, 8, 8, 8, 8, 8, 8, 8, 8, 8, 8, 8, 8, 8, 8, 8, 8, 8, 8, 8, 8, 8, 8, 8, 8, 8, 8, 8, 8, 8, 8, 8, 8, 8, 8, 8, 8, 8, 8, 8, 8, 8, 8, 8, 8, 8, 8, 8, 8, 8, 8, 8, 8, 8, 8, 8, 8, 8, 8, 8, 8, 8, 8, 8, 8, 8, 8, 8, 8, 8, 8, 8, 8, 8, 8, 8, 8, 8, 8, 8, 8, 8, 8, 8, 8, 8, 8, 8, 8, 8, 8, 8, 8, 8, 8, 8, 8, 8, 8, 8, 8, 8])[Int.toNat (IntKind.wrap .u8 x0)]? = some y1_ ∧ (R (Value.int .i64 (IntKind.wrap .i64 (x2 + (IntKind.wrap .i64 ((UInt8.toNat y1_ : Nat) : Int))))) h)
set_option maxRecDepth 100000 in
theorem f131.j2_in {R : Value → Heap → Prop} {x0 : Int} {x2 : Int} {h : Heap} (H : f131.j2T R x0 x2 h) : f131.j2 R x0 x2 h :=
  pt_intro mixed f131.good (Eq.mpr (show (Fwd Try.prog f131.T f131.kp Try.f131 R [true, true, true, true] (mkFr [(0, (Value.int .u64 x0)), (2, (Value.int .i64 x2))]) h) = (f131.j2T R x0 x2 h) by kernel_rfl) H)
set_option maxRecDepth 100000 in
def f131.runT (R : Value → Heap → Prop) (x0 : Int) (h : Heap) : Prop :=
  splitB (decide (x0 ≥ (4294967296 : Int))) (0 ≤ (32 : Int) ∧ (f131.j0 R (shrI .u64 x0 (32 : Int)) (32 : Int) h)) (f131.j0 R x0 (0 : Int) h)
set_option maxRecDepth 100000 in
theorem f131.run {R : Value → Heap → Prop} {x0 : Int} {h : Heap} (H : f131.runT R x0 h) : Run Try.prog 131 #[(Value.int .u64 x0)] h R :=
  run_of mixed Try.func131 (by kernel_rfl) (by kernel_rfl) f131.good (Eq.mpr (show (Fwd Try.prog f131.T f131.kp Try.f131 R [] (mkFr (argL [(Value.int .u64 x0)] 0)) h) = (f131.runT R x0 h) by kernel_rfl) H)
def f79.T : Tab := { sh := tSh, tup := tTup, keep := [], plan := [] }
def f79.kp : Keep := []
theorem f79.good : goodCode Try.prog f79.T (rootOf Try.f79) = true := by kernel_rfl
set_option maxRecDepth 100000 in
def f79.runT (R : Value → Heap → Prop) (x0 : Int) (h : Heap) : Prop :=
  Run Try.prog 131 #[(Value.int .u64 x0)] h fun v1_ h2_ => ∃ x3_, v1_ = (Value.int .i64 x3_) ∧ R (Value.int .i64 x3_) h2_
set_option maxRecDepth 100000 in
theorem f79.run {R : Value → Heap → Prop} {x0 : Int} {h : Heap} (H : f79.runT R x0 h) : Run Try.prog 79 #[(Value.int .u64 x0)] h R :=
  run_of mixed Try.func79 (by kernel_rfl) (by kernel_rfl) f79.good (Eq.mpr (show (Fwd Try.prog f79.T f79.kp Try.f79 R [] (mkFr (argL [(Value.int .u64 x0)] 0)) h) = (f79.runT R x0 h) by kernel_rfl) H)
def f156.T : Tab := { sh := tSh, tup := tTup, keep := [], plan := [] }
def f156.kp : Keep := []
theorem f156.good : goodCode Try.prog f156.T (rootOf Try.f156) = true := by kernel_rfl
set_option maxRecDepth 100000 in
def f156.runT (R : Value → Heap → Prop) (x0 : Int) (h : Heap) : Prop :=
  Run Try.prog 79 #[(Value.int .u64 (IntKind.wrap .u64 x0))] h fun v1_ h2_ => ∃ x3_, v1_ = (Value.int .i64 x3_) ∧ 0 ≤ x3_ ∧ (R (Value.int .u64 (shlI .u64 (1 : Int) x3_)) h2_)
set_option maxRecDepth 100000 in
theorem f156.run {R : Value → Heap → Prop} {x0 : Int} {h : Heap} (H : f156.runT R x0 h) : Run Try.prog 156 #[(Value.int .i64 x0)] h R :=
  run_of mixed Try.func156 (by kernel_rfl) (by kernel_rfl) f156.good (Eq.mpr (show (Fwd Try.prog f156.T f156.kp Try.f156 R [] (mkFr (argL [(Value.int .i64 x0)] 0)) h) = (f156.runT R x0 h) by kernel_rfl) H)
def f157.T : Tab := { sh := tSh, tup := tTup, keep := [], plan := [(1, (.take 0 (.take 1 (.take 3 (.take 4 (.take 2 (.take 5 (.take 6 (.take 7 (.take 8 (.eff false 9 .done))))))))))), (2, (.take 0 (.take 1 (.take 3 (.take 4 (.take 2 (.take 5 (.take 6 (.take 7 (.take 8 (.eff false 9 .done))))))))))), (3, (.take 0 (.take 1 (.take 3 (.take 4 (.take 2 (.take 5 (.take 6 (.take 7 (.take 8 (.eff false 9 .done)))))))))))] }
def f157.kp : Keep := []
theorem f157.good : goodCode Try.prog f157.T (rootOf Try.f157) = true := by kernel_rfl
set_option maxRecDepth 100000 in
def f157.runT (R : Value → Heap → Prop) (a0 : Addr) (h : Heap) : Prop :=
  ∃ v1_, ldv false 1 h a0 = some v1_ ∧ ∃ x2_, v1_ = (Value.int .u64 x2_) ∧ ∃ v3_, ldv false 1 h a0 = some v3_ ∧ ∃ x4_, v3_ = (Value.int .u64 x4_) ∧ 0 ≤ (13 : Int) ∧ (∃ h5_, st1 h a0 (Value.int .u64 (bitsI .xor .u64 x2_ (shlI .u64 x4_ (13 : Int)))) = some h5_ ∧ ∃ v6_, ldv false 1 h5_ a0 = some v6_ ∧ ∃ x7_, v6_ = (Value.int .u64 x7_) ∧ ∃ v8_, ldv false 1 h5_ a0 = some v8_ ∧ ∃ x9_, v8_ = (Value.int .u64 x9_) ∧ 0 ≤ (7 : Int) ∧ (∃ h10_, st1 h5_ a0 (Value.int .u64 (bitsI .xor .u64 x7_ (shrI .u64 x9_ (7 : Int)))) = some h10_ ∧ ∃ v11_, ldv false 1 h10_ a0 = some v11_ ∧ ∃ x12_, v11_ = (Value.int .u64 x12_) ∧ ∃ v13_, ldv false 1 h10_ a0 = some v13_ ∧ ∃ x14_, v13_ = (Value.int .u64 x14_) ∧ 0 ≤ (17 : Int) ∧ (∃ h15_, st1 h10_ a0 (Value.int .u64 (bitsI .xor .u64 x12_ (shlI .u64 x14_ (17 : Int)))) = some h15_ ∧ ∃ v16_, ldv false 1 h15_ a0 = some v16_ ∧ ∃ x17_, v16_ = (Value.int .u64 x17_) ∧ R (Value.int .u64 x17_) h15_)))
set_option maxRecDepth 100000 in
theorem f157.run {R : Value → Heap → Prop} {a0 : Addr} {h : Heap} (H : f157.runT R a0 h) : Run Try.prog 157 #[(Value.pointer (some a0))] h R :=
  run_of mixed Try.func157 (by kernel_rfl) (by kernel_rfl) f157.good (Eq.mpr (show (Fwd Try.prog f157.T f157.kp Try.f157 R [] (mkFr (argL [(Value.pointer (some a0))] 0)) h) = (f157.runT R a0 h) by kernel_rfl) H)
def f123.T : Tab := { sh := tSh, tup := tTup, keep := [], plan := [(10, (.take 0 (.take 1 (.take 2 (.take 3 (.take 4 (.take 5 (.take 6 (.take 7 (.take 8 (.take 9 (.take 10 (.take 12 (.take 13 (.take 14 (.take 11 (.take 15 (.take 16 (.eff false 17 (.take 18 (.eff false 19 .done)))))))))))))))))))))] }
def f123.kp : Keep := [([false, false, true, true, true, false, true, true], [0, 1, 6, 7, 8, 9]), ([true, true, false, false, true, false, false, true, true, true, false, true, true], [0, 1, 6, 7, 8, 9, 10]), ([true, true, false, false, true, true, true, false, true, true], [0, 1, 6, 7, 8, 9])]
theorem f123.good : goodCode Try.prog f123.T (rootOf Try.f123) = true := by kernel_rfl
def f123.l0 (R : Value → Heap → Prop) (A0 : Option Addr) (n0 : Nat) (c0 : Nat) (x1 : Int) (x6 : Int) (a7 : Addr) (x8 : Int) (x9 : Int) (h : Heap) : Prop := Pt Try.prog Try.f123 R [false, false, true, true, true, false, true, true] (mkFr [(0, (Value.slice A0 n0 c0)), (1, (Value.int .i64 x1)), (6, (Value.int .i64 x6)), (7, (Value.pointer (some a7))), (8, (Value.int .u64 x8)), (9, (Value.int .i64 x9))]) h
def f123.j1 (R : Value → Heap → Prop) (A0 : Option Addr) (n0 : Nat) (c0 : Nat) (x1 : Int) (x6 : Int) (a7 : Addr) (x8 : Int) (x9 : Int) (x10 : Int) (h : Heap) : Prop := Pt Try.prog Try.f123 R [true, true, false, false, true, false, false, true, true, true, false, true, true] (mkFr [(0, (Value.slice A0 n0 c0)), (1, (Value.int .i64 x1)), (6, (Value.int .i64 x6)), (7, (Value.pointer (some a7))), (8, (Value.int .u64 x8)), (9, (Value.int .i64 x9)), (10, (Value.int .i64 x10))]) h
def f123.j0 (R : Value → Heap → Prop) (A0 : Option Addr) (n0 : Nat) (c0 : Nat) (x1 : Int) (x6 : Int) (a7 : Addr) (x8 : Int) (x9 : Int) (h : Heap) : Prop := Pt Try.prog Try.f123 R [true, true, false, false, true, true, true, false, true, true] (mkFr [(0, (Value.slice A0 n0 c0)), (1, (Value.int .i64 x1)), (6, (Value.int .i64 x6)), (7, (Value.pointer (some a7))), (8, (Value.int .u64 x8)), (9, (Value.int .i64 x9))]) h
set_option maxRecDepth 100000 in
def f123.l0T (R : Value → Heap → Prop) (A0 : Option Addr) (n0 : Nat) (c0 : Nat) (x1 : Int) (x6 : Int) (a7 : Addr) (x8 : Int) (x9 : Int) (h : Heap) : Prop :=
  (4 : Int) ≠ 0 ∧ (splitB (decide (x9 ≤ (IntKind.wrap .i64 ((IntKind.wrap .i64 (x1 + (IntKind.wrap .i64 ((IntKind.wrap .i64 (Int.tdiv x6 (4 : Int))) * (2 : Int))))) + (1 : Int))))) (Run Try.prog 157 #[(Value.pointer (some a7))] h fun v1_ h2_ => ∃ x3_, v1_ = (Value.int .u64 x3_) ∧ splitB (decide ((IntKind.wrap .i64 (bitsI .and .u64 x3_ (IntKind.wrap .u64 (x8 - (1 : Int))))) ≥ x6)) (f123.j1 R A0 n0 c0 x1 x6 a7 x8 x9 (IntKind.wrap .i64 ((IntKind.wrap .i64 (bitsI .and .u64 x3_ (IntKind.wrap .u64 (x8 - (1 : Int))))) - x6)) h2_) (f123.j1 R A0 n0 c0 x1 x6 a7 x8 x9 (IntKind.wrap .i64 (bitsI .and .u64 x3_ (IntKind.wrap .u64 (x8 - (1 : Int))))) h2_)) (R (Value.tuple #[]) h))
set_option maxRecDepth 100000 in
theorem f123.l0_in {R : Value → Heap → Prop} {A0 : Option Addr} {n0 : Nat} {c0 : Nat} {x1 : Int} {x6 : Int} {a7 : Addr} {x8 : Int} {x9 : Int} {h : Heap} (H : f123.l0T R A0 n0 c0 x1 x6 a7 x8 x9 h) : f123.l0 R A0 n0 c0 x1 x6 a7 x8 x9 h :=
  pt_intro mixed f123.good (Eq.mpr (show (Fwd Try.prog f123.T f123.kp Try.f123 R [false, false, true, true, true, false, true, true] (mkFr [(0, (Value.slice A0 n0 c0)), (1, (Value.int .i64 x1)), (6, (Value.int .i64 x6)), (7, (Value.pointer (some a7))), (8, (Value.int .u64 x8)), (9, (Value.int .i64 x9))]) h) = (f123.l0T R A0 n0 c0 x1 x6 a7 x8 x9 h) by kernel_rfl) H)
set_option maxRecDepth 100000 in
def f123.j1T (R : Value → Heap → Prop) (A0 : Option Addr) (n0 : Nat) (c0 : Nat) (x1 : Int) (x6 : Int) (a7 : Addr) (x8 : Int) (x9 : Int) (x10 : Int) (h : Heap) : Prop :=
  ptrOk A0 fun a1_ => 0 ≤ (IntKind.wrap .i64 (x1 + x10)) ∧ (IntKind.wrap .i64 (x1 + x10)) < ((n0 : Nat) : Int) ∧ (ptrOk A0 fun a2_ => 0 ≤ x9 ∧ x9 < ((n0 : Nat) : Int) ∧ (∃ v3_, ldv false 1 h (Addr.add a1_ (Int.toNat (IntKind.wrap .i64 (x1 + x10)) * 1)) = some v3_ ∧ ∃ x4_, v3_ = (Value.int .i64 x4_) ∧ ∃ v5_, ldv false 1 h (Addr.add a2_ (Int.toNat x9 * 1)) = some v5_ ∧ ∃ x6_, v5_ = (Value.int .i64 x6_) ∧ ptrOk A0 fun a7_ => 0 ≤ x9 ∧ x9 < ((n0 : Nat) : Int) ∧ (∃ h8_, st1 h (Addr.add a7_ (Int.toNat x9 * 1)) (Value.int .i64 x4_) = some h8_ ∧ ptrOk A0 fun a9_ => 0 ≤ (IntKind.wrap .i64 (x1 + x10)) ∧ (IntKind.wrap .i64 (x1 + x10)) < ((n0 : Nat) : Int) ∧ (∃ h10_, st1 h8_ (Addr.add a9_ (Int.toNat (IntKind.wrap .i64 (x1 + x10)) * 1)) (Value.int .i64 x6_) = some h10_ ∧ f123.j0 R A0 n0 c0 x1 x6 a7 x8 x9 h10_))))
set_option maxRecDepth 100000 in
theorem f123.j1_in {R : Value → Heap → Prop} {A0 : Option Addr} {n0 : Nat} {c0 : Nat} {x1 : Int} {x6 : Int} {a7 : Addr} {x8 : Int} {x9 : Int} {x10 : Int} {h : Heap} (H : f123.j1T R A0 n0 c0 x1 x6 a7 x8 x9 x10 h) : f123.j1 R A0 n0 c0 x1 x6 a7 x8 x9 x10 h :=
  pt_intro mixed f123.good (Eq.mpr (show (Fwd Try.prog f123.T f123.kp Try.f123 R [true, true, false, false, true, false, false, true, true, true, false, true, true] (mkFr [(0, (Value.slice A0 n0 c0)), (1, (Value.int .i64 x1)), (6, (Value.int .i64 x6)), (7, (Value.pointer (some a7))), (8, (Value.int .u64 x8)), (9, (Value.int .i64 x9)), (10, (Value.int .i64 x10))]) h) = (f123.j1T R A0 n0 c0 x1 x6 a7 x8 x9 x10 h) by kernel_rfl) H)
set_option maxRecDepth 100000 in
def f123.j0T (R : Value → Heap → Prop) (A0 : Option Addr) (n0 : Nat) (c0 : Nat) (x1 : Int) (x6 : Int) (a7 : Addr) (x8 : Int) (x9 : Int) (h : Heap) : Prop :=
  f123.l0 R A0 n0 c0 x1 x6 a7 x8 (IntKind.wrap .i64 (x9 + (1 : Int))) h
set_option maxRecDepth 100000 in
theorem f123.j0_in {R : Value → Heap → Prop} {A0 : Option Addr} {n0 : Nat} {c0 : Nat} {x1 : Int} {x6 : Int} {a7 : Addr} {x8 : Int} {x9 : Int} {h : Heap} (H : f123.j0T R A0 n0 c0 x1 x6 a7 x8 x9 h) : f123.j0 R A0 n0 c0 x1 x6 a7 x8 x9 h :=
  pt_intro mixed f123.good (Eq.mpr (show (Fwd Try.prog f123.T f123.kp Try.f123 R [true, true, false, false, true, true, true, false, true, true] (mkFr [(0, (Value.slice A0 n0 c0)), (1, (Value.int .i64 x1)), (6, (Value.int .i64 x6)), (7, (Value.pointer (some a7))), (8, (Value.int .u64 x8)), (9, (Value.int .i64 x9))]) h) = (f123.j0T R A0 n0 c0 x1 x6 a7 x8 x9 h) by kernel_rfl) H)
set_option maxRecDepth 100000 in
def f123.runT (R : Value → Heap → Prop) (A0 : Option Addr) (n0 : Nat) (c0 : Nat) (x1 : Int) (x2 : Int) (h : Heap) : Prop :=
  splitB (decide ((IntKind.wrap .i64 (x2 - x1)) ≥ (8 : Int))) (newH h (Obj.cells #[(Value.int .u64 (0 : Int))] 223) fun h1_ => ∃ h2_, st1 h1_ (⟨Array.size h, 0, none⟩) (Value.int .u64 (IntKind.wrap .u64 (IntKind.wrap .i64 (x2 - x1)))) = some h2_ ∧ Run Try.prog 156 #[(Value.int .i64 (IntKind.wrap .i64 (x2 - x1)))] h2_ fun v3_ h4_ => ∃ x5_, v3_ = (Value.int .u64 x5_) ∧ (4 : Int) ≠ 0 ∧ (f123.l0 R A0 n0 c0 x1 (IntKind.wrap .i64 (x2 - x1)) (⟨Array.size h, 0, none⟩) x5_ (IntKind.wrap .i64 ((IntKind.wrap .i64 (x1 + (IntKind.wrap .i64 ((IntKind.wrap .i64 (Int.tdiv (IntKind.wrap .i64 (x2 - x1)) (4 : Int))) * (2 : Int))))) - (1 : Int))) h4_)) (R (Value.tuple #[]) h)
set_option maxRecDepth 100000 in
theorem f123.run {R : Value → Heap → Prop} {A0 : Option Addr} {n0 : Nat} {c0 : Nat} {x1 : Int} {x2 : Int} {h : Heap} (H : f123.runT R A0 n0 c0 x1 x2 h) : Run Try.prog 123 #[(Value.slice A0 n0 c0), (Value.int .i64 x1), (Value.int .i64 x2)] h R :=
  run_of mixed Try.func123 (by kernel_rfl) (by kernel_rfl) f123.good (Eq.mpr (show (Fwd Try.prog f123.T f123.kp Try.f123 R [] (mkFr (argL [(Value.slice A0 n0 c0), (Value.int .i64 x1), (Value.int .i64 x2)] 0)) h) = (f123.runT R A0 n0 c0 x1 x2 h) by kernel_rfl) H)
def f184.T : Tab := { sh := tSh, tup := tTup, keep := [], plan := [(1, (.take 0 (.take 1 (.take 2 (.take 4 (.take 5 (.take 6 (.take 3 (.take 7 (.eff false 8 .done))))))))))] }
def f184.kp : Keep := []
theorem f184.good : goodCode Try.prog f184.T (rootOf Try.f184) = true := by kernel_rfl
set_option maxRecDepth 100000 in
def f184.runT (R : Value → Heap → Prop) (A0 : Option Addr) (n0 : Nat) (c0 : Nat) (x1 : Int) (x2 : Int) (a3 : Addr) (h : Heap) : Prop :=
  ptrOk A0 fun a1_ => 0 ≤ x2 ∧ x2 < ((n0 : Nat) : Int) ∧ (ptrOk A0 fun a2_ => 0 ≤ x1 ∧ x1 < ((n0 : Nat) : Int) ∧ (∃ v3_, ldv false 1 h (Addr.add a1_ (Int.toNat x2 * 1)) = some v3_ ∧ ∃ x4_, v3_ = (Value.int .i64 x4_) ∧ ∃ v5_, ldv false 1 h (Addr.add a2_ (Int.toNat x1 * 1)) = some v5_ ∧ ∃ x6_, v5_ = (Value.int .i64 x6_) ∧ Run Try.prog 127 #[(Value.int .i64 x4_), (Value.int .i64 x6_)] h fun v7_ h8_ => ∃ b9_, v7_ = (Value.bool b9_) ∧ splitB b9_ (∃ v10_, ldv false 1 h8_ a3 = some v10_ ∧ ∃ x11_, v10_ = (Value.int .i64 x11_) ∧ ∃ h12_, st1 h8_ a3 (Value.int .i64 (IntKind.wrap .i64 (x11_ + (1 : Int)))) = some h12_ ∧ R (Value.tuple #[(Value.int .i64 x2), (Value.int .i64 x1)]) h12_) (R (Value.tuple #[(Value.int .i64 x1), (Value.int .i64 x2)]) h8_)))
set_option maxRecDepth 100000 in
theorem f184.run {R : Value → Heap → Prop} {A0 : Option Addr} {n0 : Nat} {c0 : Nat} {x1 : Int} {x2 : Int} {a3 : Addr} {h : Heap} (H : f184.runT R A0 n0 c0 x1 x2 a3 h) : Run Try.prog 184 #[(Value.slice A0 n0 c0), (Value.int .i64 x1), (Value.int .i64 x2), (Value.pointer (some a3))] h R :=
  run_of mixed Try.func184 (by kernel_rfl) (by kernel_rfl) f184.good (Eq.mpr (show (Fwd Try.prog f184.T f184.kp Try.f184 R [] (mkFr (argL [(Value.slice A0 n0 c0), (Value.int .i64 x1), (Value.int .i64 x2), (Value.pointer (some a3))] 0)) h) = (f184.runT R A0 n0 c0 x1 x2 a3 h) by kernel_rfl) H)
def f159.T : Tab := { sh := tSh, tup := tTup, keep := [], plan := [] }
def f159.kp : Keep := []
theorem f159.good : goodCode Try.prog f159.T (rootOf Try.f159) = true := by kernel_rfl
set_option maxRecDepth 100000 in
def f159.runT (R : Value → Heap → Prop) (A0 : Option Addr) (n0 : Nat) (c0 : Nat) (x1 : Int) (x2 : Int) (x3 : Int) (a4 : Addr) (h : Heap) : Prop :=
  Run Try.prog 184 #[(Value.slice A0 n0 c0), (Value.int .i64 x1), (Value.int .i64 x2), (Value.pointer (some a4))] h fun v1_ h2_ => ∃ x3_, ∃ x4_, v1_ = (Value.tuple #[(Value.int .i64 x3_), (Value.int .i64 x4_)]) ∧ Run Try.prog 184 #[(Value.slice A0 n0 c0), (Value.int .i64 x4_), (Value.int .i64 x3), (Value.pointer (some a4))] h2_ fun v5_ h6_ => ∃ x7_, ∃ x8_, v5_ = (Value.tuple #[(Value.int .i64 x7_), (Value.int .i64 x8_)]) ∧ Run Try.prog 184 #[(Value.slice A0 n0 c0), (Value.int .i64 x3_), (Value.int .i64 x7_), (Value.pointer (some a4))] h6_ fun v9_ h10_ => ∃ x11_, ∃ x12_, v9_ = (Value.tuple #[(Value.int .i64 x11_), (Value.int .i64 x12_)]) ∧ R (Value.int .i64 x12_) h10_
set_option maxRecDepth 100000 in
theorem f159.run {R : Value → Heap → Prop} {A0 : Option Addr} {n0 : Nat} {c0 : Nat} {x1 : Int} {x2 : Int} {x3 : Int} {a4 : Addr} {h : Heap} (H : f159.runT R A0 n0 c0 x1 x2 x3 a4 h) : Run Try.prog 159 #[(Value.slice A0 n0 c0), (Value.int .i64 x1), (Value.int .i64 x2), (Value.int .i64 x3), (Value.pointer (some a4))] h R :=
  run_of mixed Try.func159 (by kernel_rfl) (by kernel_rfl) f159.good (Eq.mpr (show (Fwd Try.prog f159.T f159.kp Try.f159 R [] (mkFr (argL [(Value.slice A0 n0 c0), (Value.int .i64 x1), (Value.int .i64 x2), (Value.int .i64 x3), (Value.pointer (some a4))] 0)) h) = (f159.runT R A0 n0 c0 x1 x2 x3 a4 h) by kernel_rfl) H)
def f158.T : Tab := { sh := tSh, tup := tTup, keep := [], plan := [] }
def f158.kp : Keep := []
theorem f158.good : goodCode Try.prog f158.T (rootOf Try.f158) = true := by kernel_rfl
set_option maxRecDepth 100000 in
def f158.runT (R : Value → Heap → Prop) (A0 : Option Addr) (n0 : Nat) (c0 : Nat) (x1 : Int) (a2 : Addr) (h : Heap) : Prop :=
  Run Try.prog 159 #[(Value.slice A0 n0 c0), (Value.int .i64 (IntKind.wrap .i64 (x1 - (1 : Int)))), (Value.int .i64 x1), (Value.int .i64 (IntKind.wrap .i64 (x1 + (1 : Int)))), (Value.pointer (some a2))] h fun v1_ h2_ => ∃ x3_, v1_ = (Value.int .i64 x3_) ∧ R (Value.int .i64 x3_) h2_
set_option maxRecDepth 100000 in
theorem f158.run {R : Value → Heap → Prop} {A0 : Option Addr} {n0 : Nat} {c0 : Nat} {x1 : Int} {a2 : Addr} {h : Heap} (H : f158.runT R A0 n0 c0 x1 a2 h) : Run Try.prog 158 #[(Value.slice A0 n0 c0), (Value.int .i64 x1), (Value.pointer (some a2))] h R :=
  run_of mixed Try.func158 (by kernel_rfl) (by kernel_rfl) f158.good (Eq.mpr (show (Fwd Try.prog f158.T f158.kp Try.f158 R [] (mkFr (argL [(Value.slice A0 n0 c0), (Value.int .i64 x1), (Value.pointer (some a2))] 0)) h) = (f158.runT R A0 n0 c0 x1 a2 h) by kernel_rfl) H)
def f124.T : Tab := { sh := tSh, tup := tTup, keep := [], plan := [] }
def f124.kp : Keep := [([true, false, true, false, true, true, true, true, true, true], [0, 9, 10, 11, 12]), ([true, true, true, true, true, true, true], [9, 11])]
theorem f124.good : goodCode Try.prog f124.T (rootOf Try.f124) = true := by kernel_rfl
def f124.j1 (R : Value → Heap → Prop) (A0 : Option Addr) (n0 : Nat) (c0 : Nat) (a9 : Addr) (x10 : Int) (x11 : Int) (x12 : Int) (h : Heap) : Prop := Pt Try.prog Try.f124 R [true, false, true, false, true, true, true, true, true, true] (mkFr [(0, (Value.slice A0 n0 c0)), (9, (Value.pointer (some a9))), (10, (Value.int .i64 x10)), (11, (Value.int .i64 x11)), (12, (Value.int .i64 x12))]) h
def f124.j0 (R : Value → Heap → Prop) (a9 : Addr) (x11 : Int) (h : Heap) : Prop := Pt Try.prog Try.f124 R [true, true, true, true, true, true, true] (mkFr [(9, (Value.pointer (some a9))), (11, (Value.int .i64 x11))]) h
set_option maxRecDepth 100000 in
def f124.j1T (R : Value → Heap → Prop) (A0 : Option Addr) (n0 : Nat) (c0 : Nat) (a9 : Addr) (x10 : Int) (x11 : Int) (x12 : Int) (h : Heap) : Prop :=
  Run Try.prog 159 #[(Value.slice A0 n0 c0), (Value.int .i64 x10), (Value.int .i64 x11), (Value.int .i64 x12), (Value.pointer (some a9))] h fun v1_ h2_ => ∃ x3_, v1_ = (Value.int .i64 x3_) ∧ f124.j0 R a9 x3_ h2_
set_option maxRecDepth 100000 in
theorem f124.j1_in {R : Value → Heap → Prop} {A0 : Option Addr} {n0 : Nat} {c0 : Nat} {a9 : Addr} {x10 : Int} {x11 : Int} {x12 : Int} {h : Heap} (H : f124.j1T R A0 n0 c0 a9 x10 x11 x12 h) : f124.j1 R A0 n0 c0 a9 x10 x11 x12 h :=
  pt_intro mixed f124.good (Eq.mpr (show (Fwd Try.prog f124.T f124.kp Try.f124 R [true, false, true, false, true, true, true, true, true, true] (mkFr [(0, (Value.slice A0 n0 c0)), (9, (Value.pointer (some a9))), (10, (Value.int .i64 x10)), (11, (Value.int .i64 x11)), (12, (Value.int .i64 x12))]) h) = (f124.j1T R A0 n0 c0 a9 x10 x11 x12 h) by kernel_rfl) H)
set_option maxRecDepth 100000 in
def f124.j0T (R : Value → Heap → Prop) (a9 : Addr) (x11 : Int) (h : Heap) : Prop :=
  ∃ v1_, ldv false 1 h a9 = some v1_ ∧ ∃ x2_, v1_ = (Value.int .i64 x2_) ∧ splitB (x2_ == (0 : Int)) (R (Value.tuple #[(Value.int .i64 x11), (Value.int .i64 (1 : Int))]) h) (splitB (x2_ == (12 : Int)) (R (Value.tuple #[(Value.int .i64 x11), (Value.int .i64 (2 : Int))]) h) (R (Value.tuple #[(Value.int .i64 x11), (Value.int .i64 (0 : Int))]) h))
set_option maxRecDepth 100000 in
theorem f124.j0_in {R : Value → Heap → Prop} {a9 : Addr} {x11 : Int} {h : Heap} (H : f124.j0T R a9 x11 h) : f124.j0 R a9 x11 h :=
  pt_intro mixed f124.good (Eq.mpr (show (Fwd Try.prog f124.T f124.kp Try.f124 R [true, true, true, true, true, true, true] (mkFr [(9, (Value.pointer (some a9))), (11, (Value.int .i64 x11))]) h) = (f124.j0T R a9 x11 h) by kernel_rfl) H)
set_option maxRecDepth 100000 in
def f124.runT (R : Value → Heap → Prop) (A0 : Option Addr) (n0 : Nat) (c0 : Nat) (x1 : Int) (x2 : Int) (h : Heap) : Prop :=
  newH h (Obj.cells #[(Value.int .i64 (0 : Int))] 3) fun h1_ => (4 : Int) ≠ 0 ∧ ((4 : Int) ≠ 0 ∧ ((4 : Int) ≠ 0 ∧ (splitB (decide ((IntKind.wrap .i64 (x2 - x1)) ≥ (8 : Int))) (splitB (decide ((IntKind.wrap .i64 (x2 - x1)) ≥ (50 : Int))) (Run Try.prog 158 #[(Value.slice A0 n0 c0), (Value.int .i64 (IntKind.wrap .i64 (x1 + (IntKind.wrap .i64 ((IntKind.wrap .i64 (Int.tdiv (IntKind.wrap .i64 (x2 - x1)) (4 : Int))) * (1 : Int)))))), (Value.pointer (some ⟨Array.size h, 0, none⟩))] h1_ fun v2_ h3_ => ∃ x4_, v2_ = (Value.int .i64 x4_) ∧ Run Try.prog 158 #[(Value.slice A0 n0 c0), (Value.int .i64 (IntKind.wrap .i64 (x1 + (IntKind.wrap .i64 ((IntKind.wrap .i64 (Int.tdiv (IntKind.wrap .i64 (x2 - x1)) (4 : Int))) * (2 : Int)))))), (Value.pointer (some ⟨Array.size h, 0, none⟩))] h3_ fun v5_ h6_ => ∃ x7_, v5_ = (Value.int .i64 x7_) ∧ Run Try.prog 158 #[(Value.slice A0 n0 c0), (Value.int .i64 (IntKind.wrap .i64 (x1 + (IntKind.wrap .i64 ((IntKind.wrap .i64 (Int.tdiv (IntKind.wrap .i64 (x2 - x1)) (4 : Int))) * (3 : Int)))))), (Value.pointer (some ⟨Array.size h, 0, none⟩))] h6_ fun v8_ h9_ => ∃ x10_, v8_ = (Value.int .i64 x10_) ∧ f124.j1 R A0 n0 c0 (⟨Array.size h, 0, none⟩) x4_ x7_ x10_ h9_) (f124.j1 R A0 n0 c0 (⟨Array.size h, 0, none⟩) (IntKind.wrap .i64 (x1 + (IntKind.wrap .i64 ((IntKind.wrap .i64 (Int.tdiv (IntKind.wrap .i64 (x2 - x1)) (4 : Int))) * (1 : Int))))) (IntKind.wrap .i64 (x1 + (IntKind.wrap .i64 ((IntKind.wrap .i64 (Int.tdiv (IntKind.wrap .i64 (x2 - x1)) (4 : Int))) * (2 : Int))))) (IntKind.wrap .i64 (x1 + (IntKind.wrap .i64 ((IntKind.wrap .i64 (Int.tdiv (IntKind.wrap .i64 (x2 - x1)) (4 : Int))) * (3 : Int))))) h1_)) (f124.j0 R (⟨Array.size h, 0, none⟩) (IntKind.wrap .i64 (x1 + (IntKind.wrap .i64 ((IntKind.wrap .i64 (Int.tdiv (IntKind.wrap .i64 (x2 - x1)) (4 : Int))) * (2 : Int))))) h1_))))
set_option maxRecDepth 100000 in
theorem f124.run {R : Value → Heap → Prop} {A0 : Option Addr} {n0 : Nat} {c0 : Nat} {x1 : Int} {x2 : Int} {h : Heap} (H : f124.runT R A0 n0 c0 x1 x2 h) : Run Try.prog 124 #[(Value.slice A0 n0 c0), (Value.int .i64 x1), (Value.int .i64 x2)] h R :=
  run_of mixed Try.func124 (by kernel_rfl) (by kernel_rfl) f124.good (Eq.mpr (show (Fwd Try.prog f124.T f124.kp Try.f124 R [] (mkFr (argL [(Value.slice A0 n0 c0), (Value.int .i64 x1), (Value.int .i64 x2)] 0)) h) = (f124.runT R A0 n0 c0 x1 x2 h) by kernel_rfl) H)
def f125.T : Tab := { sh := tSh, tup := tTup, keep := [], plan := [(3, (.take 0 (.take 1 (.take 2 (.take 3 (.take 4 (.take 5 (.take 6 (.take 8 (.take 9 (.take 10 (.take 7 (.take 11 (.take 12 (.eff false 13 (.take 14 (.eff false 15 .done)))))))))))))))))] }
def f125.kp : Keep := [([false, false, true, true], [0, 6, 7])]
theorem f125.good : goodCode Try.prog f125.T (rootOf Try.f125) = true := by kernel_rfl
def f125.l0 (R : Value → Heap → Prop) (A0 : Option Addr) (n0 : Nat) (c0 : Nat) (x6 : Int) (x7 : Int) (h : Heap) : Prop := Pt Try.prog Try.f125 R [false, false, true, true] (mkFr [(0, (Value.slice A0 n0 c0)), (6, (Value.int .i64 x6)), (7, (Value.int .i64 x7))]) h
set_option maxRecDepth 100000 in
def f125.l0T (R : Value → Heap → Prop) (A0 : Option Addr) (n0 : Nat) (c0 : Nat) (x6 : Int) (x7 : Int) (h : Heap) : Prop :=
  splitB (decide (x6 < x7)) (ptrOk A0 fun a1_ => 0 ≤ x7 ∧ x7 < ((n0 : Nat) : Int) ∧ (ptrOk A0 fun a2_ => 0 ≤ x6 ∧ x6 < ((n0 : Nat) : Int) ∧ (∃ v3_, ldv false 1 h (Addr.add a1_ (Int.toNat x7 * 1)) = some v3_ ∧ ∃ x4_, v3_ = (Value.int .i64 x4_) ∧ ∃ v5_, ldv false 1 h (Addr.add a2_ (Int.toNat x6 * 1)) = some v5_ ∧ ∃ x6_, v5_ = (Value.int .i64 x6_) ∧ ptrOk A0 fun a7_ => 0 ≤ x6 ∧ x6 < ((n0 : Nat) : Int) ∧ (∃ h8_, st1 h (Addr.add a7_ (Int.toNat x6 * 1)) (Value.int .i64 x4_) = some h8_ ∧ ptrOk A0 fun a9_ => 0 ≤ x7 ∧ x7 < ((n0 : Nat) : Int) ∧ (∃ h10_, st1 h8_ (Addr.add a9_ (Int.toNat x7 * 1)) (Value.int .i64 x6_) = some h10_ ∧ f125.l0 R A0 n0 c0 (IntKind.wrap .i64 (x6 + (1 : Int))) (IntKind.wrap .i64 (x7 - (1 : Int))) h10_))))) (R (Value.tuple #[]) h)
set_option maxRecDepth 100000 in
theorem f125.l0_in {R : Value → Heap → Prop} {A0 : Option Addr} {n0 : Nat} {c0 : Nat} {x6 : Int} {x7 : Int} {h : Heap} (H : f125.l0T R A0 n0 c0 x6 x7 h) : f125.l0 R A0 n0 c0 x6 x7 h :=
  pt_intro mixed f125.good (Eq.mpr (show (Fwd Try.prog f125.T f125.kp Try.f125 R [false, false, true, true] (mkFr [(0, (Value.slice A0 n0 c0)), (6, (Value.int .i64 x6)), (7, (Value.int .i64 x7))]) h) = (f125.l0T R A0 n0 c0 x6 x7 h) by kernel_rfl) H)
set_option maxRecDepth 100000 in
def f125.runT (R : Value → Heap → Prop) (A0 : Option Addr) (n0 : Nat) (c0 : Nat) (x1 : Int) (x2 : Int) (h : Heap) : Prop :=
  f125.l0 R A0 n0 c0 x1 (IntKind.wrap .i64 (x2 - (1 : Int))) h
set_option maxRecDepth 100000 in
theorem f125.run {R : Value → Heap → Prop} {A0 : Option Addr} {n0 : Nat} {c0 : Nat} {x1 : Int} {x2 : Int} {h : Heap} (H : f125.runT R A0 n0 c0 x1 x2 h) : Run Try.prog 125 #[(Value.slice A0 n0 c0), (Value.int .i64 x1), (Value.int .i64 x2)] h R :=
  run_of mixed Try.func125 (by kernel_rfl) (by kernel_rfl) f125.good (Eq.mpr (show (Fwd Try.prog f125.T f125.kp Try.f125 R [] (mkFr (argL [(Value.slice A0 n0 c0), (Value.int .i64 x1), (Value.int .i64 x2)] 0)) h) = (f125.runT R A0 n0 c0 x1 x2 h) by kernel_rfl) H)
def f126.T : Tab := { sh := tSh, tup := tTup, keep := [], plan := [(5, (.take 0 (.take 1 (.take 2 (.take 3 (.split 3 (.take 4 (.take 5 (.take 6 (.take 8 (.take 9 (.take 10 (.take 11 (.take 7 (.take 12 (.eff false 13 (.take 14 (.take 15 .done)))))))))))))))))), (11, (.take 0 (.take 1 (.take 2 (.take 3 (.take 4 (.take 5 (.take 6 (.take 7 (.take 8 (.take 10 (.take 11 (.take 12 (.take 9 (.take 13 (.take 14 (.eff false 15 (.take 16 (.eff false 17 .done))))))))))))))))))), (16, (.take 0 (.take 1 (.take 2 (.take 4 (.take 5 (.take 6 (.take 7 (.take 3 (.take 8 (.eff false 9 (.take 10 .done)))))))))))), (17, (.take 0 (.take 1 (.take 2 (.take 3 (.take 4 (.take 5 (.take 6 (.take 7 (.take 8 (.take 10 (.take 11 (.take 12 (.take 9 (.take 13 (.take 14 (.eff false 15 (.take 16 (.eff false 17 .done))))))))))))))))))), (22, (.take 0 (.take 1 (.take 2 (.take 4 (.take 5 (.take 6 (.take 7 (.take 3 (.take 8 (.eff false 9 (.take 10 .done)))))))))))), (23, (.take 0 (.take 1 (.take 2 (.take 3 (.take 4 (.take 5 (.take 6 (.take 7 (.take 8 (.take 10 (.take 11 (.take 12 (.take 9 (.take 13 (.take 14 (.eff false 15 (.take 16 (.eff false 17 .done)))))))))))))))))))] }
def f126.kp : Keep := [([false, false, true, false, true, true], [0, 1, 2, 7, 8]), ([false, false, false, false, false, true, false, false, true, false, true, true], [0, 1, 2, 7, 8]), ([true, false, false, false, false, false, true, false, false, true, false, true, true], [0, 1, 2, 7, 8]), ([true, false, false, true, false, false, true, false, true, true], [0, 1, 2, 7, 8]), ([false, false, true, false, true, false, true, true, true, true, false, false, true, false, false, true, false, true, true], [0, 1, 2, 7, 8, 9]), ([true, true, true, true, true, false, false, true, false, false, true, false, true, true], [0, 1, 2, 7, 8]), ([false, false, true, false, true, true, true, true, true, true, false, false, true, false, false, true, false, true, true], [0, 1, 2, 7, 8, 10]), ([true, true, false, false, true, false, true, true], [0, 1, 2, 7, 8])]
theorem f126.good : goodCode Try.prog f126.T (rootOf Try.f126) = true := by kernel_rfl
def f126.l0 (R : Value → Heap → Prop) (A0 : Option Addr) (n0 : Nat) (c0 : Nat) (x1 : Int) (x2 : Int) (x7 : Int) (x8 : Int) (h : Heap) : Prop := Pt Try.prog Try.f126 R [false, false, true, false, true, true] (mkFr [(0, (Value.slice A0 n0 c0)), (1, (Value.int .i64 x1)), (2, (Value.int .i64 x2)), (7, (Value.int .i64 x7)), (8, (Value.int .i64 x8))]) h
def f126.l1 (R : Value → Heap → Prop) (A0 : Option Addr) (n0 : Nat) (c0 : Nat) (x1 : Int) (x2 : Int) (x7 : Int) (x8 : Int) (h : Heap) : Prop := Pt Try.prog Try.f126 R [false, false, false, false, false, true, false, false, true, false, true, true] (mkFr [(0, (Value.slice A0 n0 c0)), (1, (Value.int .i64 x1)), (2, (Value.int .i64 x2)), (7, (Value.int .i64 x7)), (8, (Value.int .i64 x8))]) h
def f126.j2 (R : Value → Heap → Prop) (A0 : Option Addr) (n0 : Nat) (c0 : Nat) (x1 : Int) (x2 : Int) (x7 : Int) (x8 : Int) (h : Heap) : Prop := Pt Try.prog Try.f126 R [true, false, false, false, false, false, true, false, false, true, false, true, true] (mkFr [(0, (Value.slice A0 n0 c0)), (1, (Value.int .i64 x1)), (2, (Value.int .i64 x2)), (7, (Value.int .i64 x7)), (8, (Value.int .i64 x8))]) h
def f126.j1 (R : Value → Heap → Prop) (A0 : Option Addr) (n0 : Nat) (c0 : Nat) (x1 : Int) (x2 : Int) (x7 : Int) (x8 : Int) (h : Heap) : Prop := Pt Try.prog Try.f126 R [true, false, false, true, false, false, true, false, true, true] (mkFr [(0, (Value.slice A0 n0 c0)), (1, (Value.int .i64 x1)), (2, (Value.int .i64 x2)), (7, (Value.int .i64 x7)), (8, (Value.int .i64 x8))]) h
def f126.l2 (R : Value → Heap → Prop) (A0 : Option Addr) (n0 : Nat) (c0 : Nat) (x1 : Int) (x2 : Int) (x7 : Int) (x8 : Int) (x9 : Int) (h : Heap) : Prop := Pt Try.prog Try.f126 R [false, false, true, false, true, false, true, true, true, true, false, false, true, false, false, true, false, true, true] (mkFr [(0, (Value.slice A0 n0 c0)), (1, (Value.int .i64 x1)), (2, (Value.int .i64 x2)), (7, (Value.int .i64 x7)), (8, (Value.int .i64 x8)), (9, (Value.int .i64 x9))]) h
def f126.j3 (R : Value → Heap → Prop) (A0 : Option Addr) (n0 : Nat) (c0 : Nat) (x1 : Int) (x2 : Int) (x7 : Int) (x8 : Int) (h : Heap) : Prop := Pt Try.prog Try.f126 R [true, true, true, true, true, false, false, true, false, false, true, false, true, true] (mkFr [(0, (Value.slice A0 n0 c0)), (1, (Value.int .i64 x1)), (2, (Value.int .i64 x2)), (7, (Value.int .i64 x7)), (8, (Value.int .i64 x8))]) h
def f126.l3 (R : Value → Heap → Prop) (A0 : Option Addr) (n0 : Nat) (c0 : Nat) (x1 : Int) (x2 : Int) (x7 : Int) (x8 : Int) (x10 : Int) (h : Heap) : Prop := Pt Try.prog Try.f126 R [false, false, true, false, true, true, true, true, true, true, false, false, true, false, false, true, false, true, true] (mkFr [(0, (Value.slice A0 n0 c0)), (1, (Value.int .i64 x1)), (2, (Value.int .i64 x2)), (7, (Value.int .i64 x7)), (8, (Value.int .i64 x8)), (10, (Value.int .i64 x10))]) h
def f126.j0 (R : Value → Heap → Prop) (A0 : Option Addr) (n0 : Nat) (c0 : Nat) (x1 : Int) (x2 : Int) (x7 : Int) (x8 : Int) (h : Heap) : Prop := Pt Try.prog Try.f126 R [true, true, false, false, true, false, true, true] (mkFr [(0, (Value.slice A0 n0 c0)), (1, (Value.int .i64 x1)), (2, (Value.int .i64 x2)), (7, (Value.int .i64 x7)), (8, (Value.int .i64 x8))]) h
set_option maxRecDepth 100000 in
def f126.l0T (R : Value → Heap → Prop) (A0 : Option Addr) (n0 : Nat) (c0 : Nat) (x1 : Int) (x2 : Int) (x7 : Int) (x8 : Int) (h : Heap) : Prop :=
  splitB (decide (x8 < (5 : Int))) (f126.l1 R A0 n0 c0 x1 x2 x7 x8 h) (R (Value.bool false) h)
set_option maxRecDepth 100000 in
theorem f126.l0_in {R : Value → Heap → Prop} {A0 : Option Addr} {n0 : Nat} {c0 : Nat} {x1 : Int} {x2 : Int} {x7 : Int} {x8 : Int} {h : Heap} (H : f126.l0T R A0 n0 c0 x1 x2 x7 x8 h) : f126.l0 R A0 n0 c0 x1 x2 x7 x8 h :=
  pt_intro mixed f126.good (Eq.mpr (show (Fwd Try.prog f126.T f126.kp Try.f126 R [false, false, true, false, true, true] (mkFr [(0, (Value.slice A0 n0 c0)), (1, (Value.int .i64 x1)), (2, (Value.int .i64 x2)), (7, (Value.int .i64 x7)), (8, (Value.int .i64 x8))]) h) = (f126.l0T R A0 n0 c0 x1 x2 x7 x8 h) by kernel_rfl) H)
set_option maxRecDepth 100000 in
def f126.l1T (R : Value → Heap → Prop) (A0 : Option Addr) (n0 : Nat) (c0 : Nat) (x1 : Int) (x2 : Int) (x7 : Int) (x8 : Int) (h : Heap) : Prop :=
  splitB (decide (x7 < x2)) (ptrOk A0 fun a1_ => 0 ≤ x7 ∧ x7 < ((n0 : Nat) : Int) ∧ (ptrOk A0 fun a2_ => 0 ≤ (IntKind.wrap .i64 (x7 - (1 : Int))) ∧ (IntKind.wrap .i64 (x7 - (1 : Int))) < ((n0 : Nat) : Int) ∧ (∃ v3_, ldv false 1 h (Addr.add a1_ (Int.toNat x7 * 1)) = some v3_ ∧ ∃ x4_, v3_ = (Value.int .i64 x4_) ∧ ∃ v5_, ldv false 1 h (Addr.add a2_ (Int.toNat (IntKind.wrap .i64 (x7 - (1 : Int))) * 1)) = some v5_ ∧ ∃ x6_, v5_ = (Value.int .i64 x6_) ∧ Run Try.prog 127 #[(Value.int .i64 x4_), (Value.int .i64 x6_)] h fun v7_ h8_ => ∃ b9_, v7_ = (Value.bool b9_) ∧ splitB (!b9_) (f126.j2 R A0 n0 c0 x1 x2 x7 x8 h8_) (f126.j1 R A0 n0 c0 x1 x2 x7 x8 h8_)))) (f126.j1 R A0 n0 c0 x1 x2 x7 x8 h)
set_option maxRecDepth 100000 in
theorem f126.l1_in {R : Value → Heap → Prop} {A0 : Option Addr} {n0 : Nat} {c0 : Nat} {x1 : Int} {x2 : Int} {x7 : Int} {x8 : Int} {h : Heap} (H : f126.l1T R A0 n0 c0 x1 x2 x7 x8 h) : f126.l1 R A0 n0 c0 x1 x2 x7 x8 h :=
  pt_intro mixed f126.good (Eq.mpr (show (Fwd Try.prog f126.T f126.kp Try.f126 R [false, false, false, false, false, true, false, false, true, false, true, true] (mkFr [(0, (Value.slice A0 n0 c0)), (1, (Value.int .i64 x1)), (2, (Value.int .i64 x2)), (7, (Value.int .i64 x7)), (8, (Value.int .i64 x8))]) h) = (f126.l1T R A0 n0 c0 x1 x2 x7 x8 h) by kernel_rfl) H)
set_option maxRecDepth 100000 in
def f126.j2T (R : Value → Heap → Prop) (A0 : Option Addr) (n0 : Nat) (c0 : Nat) (x1 : Int) (x2 : Int) (x7 : Int) (x8 : Int) (h : Heap) : Prop :=
  f126.l1 R A0 n0 c0 x1 x2 (IntKind.wrap .i64 (x7 + (1 : Int))) x8 h
set_option maxRecDepth 100000 in
theorem f126.j2_in {R : Value → Heap → Prop} {A0 : Option Addr} {n0 : Nat} {c0 : Nat} {x1 : Int} {x2 : Int} {x7 : Int} {x8 : Int} {h : Heap} (H : f126.j2T R A0 n0 c0 x1 x2 x7 x8 h) : f126.j2 R A0 n0 c0 x1 x2 x7 x8 h :=
  pt_intro mixed f126.good (Eq.mpr (show (Fwd Try.prog f126.T f126.kp Try.f126 R [true, false, false, false, false, false, true, false, false, true, false, true, true] (mkFr [(0, (Value.slice A0 n0 c0)), (1, (Value.int .i64 x1)), (2, (Value.int .i64 x2)), (7, (Value.int .i64 x7)), (8, (Value.int .i64 x8))]) h) = (f126.j2T R A0 n0 c0 x1 x2 x7 x8 h) by kernel_rfl) H)
set_option maxRecDepth 100000 in
def f126.j1T (R : Value → Heap → Prop) (A0 : Option Addr) (n0 : Nat) (c0 : Nat) (x1 : Int) (x2 : Int) (x7 : Int) (x8 : Int) (h : Heap) : Prop :=
  splitB (x7 == x2) (R (Value.bool true) h) (splitB (decide ((IntKind.wrap .i64 (x2 - x1)) < (50 : Int))) (R (Value.bool false) h) (ptrOk A0 fun a1_ => 0 ≤ (IntKind.wrap .i64 (x7 - (1 : Int))) ∧ (IntKind.wrap .i64 (x7 - (1 : Int))) < ((n0 : Nat) : Int) ∧ (ptrOk A0 fun a2_ => 0 ≤ x7 ∧ x7 < ((n0 : Nat) : Int) ∧ (∃ v3_, ldv false 1 h (Addr.add a1_ (Int.toNat (IntKind.wrap .i64 (x7 - (1 : Int))) * 1)) = some v3_ ∧ ∃ x4_, v3_ = (Value.int .i64 x4_) ∧ ∃ v5_, ldv false 1 h (Addr.add a2_ (Int.toNat x7 * 1)) = some v5_ ∧ ∃ x6_, v5_ = (Value.int .i64 x6_) ∧ ptrOk A0 fun a7_ => 0 ≤ x7 ∧ x7 < ((n0 : Nat) : Int) ∧ (∃ h8_, st1 h (Addr.add a7_ (Int.toNat x7 * 1)) (Value.int .i64 x4_) = some h8_ ∧ ptrOk A0 fun a9_ => 0 ≤ (IntKind.wrap .i64 (x7 - (1 : Int))) ∧ (IntKind.wrap .i64 (x7 - (1 : Int))) < ((n0 : Nat) : Int) ∧ (∃ h10_, st1 h8_ (Addr.add a9_ (Int.toNat (IntKind.wrap .i64 (x7 - (1 : Int))) * 1)) (Value.int .i64 x6_) = some h10_ ∧ splitB (decide ((IntKind.wrap .i64 (x7 - x1)) ≥ (2 : Int))) (f126.l2 R A0 n0 c0 x1 x2 x7 x8 (IntKind.wrap .i64 (x7 - (1 : Int))) h10_) (f126.j3 R A0 n0 c0 x1 x2 x7 x8 h10_)))))))
set_option maxRecDepth 100000 in
theorem f126.j1_in {R : Value → Heap → Prop} {A0 : Option Addr} {n0 : Nat} {c0 : Nat} {x1 : Int} {x2 : Int} {x7 : Int} {x8 : Int} {h : Heap} (H : f126.j1T R A0 n0 c0 x1 x2 x7 x8 h) : f126.j1 R A0 n0 c0 x1 x2 x7 x8 h :=
  pt_intro mixed f126.good (Eq.mpr (show (Fwd Try.prog f126.T f126.kp Try.f126 R [true, false, false, true, false, false, true, false, true, true] (mkFr [(0, (Value.slice A0 n0 c0)), (1, (Value.int .i64 x1)), (2, (Value.int .i64 x2)), (7, (Value.int .i64 x7)), (8, (Value.int .i64 x8))]) h) = (f126.j1T R A0 n0 c0 x1 x2 x7 x8 h) by kernel_rfl) H)
set_option maxRecDepth 100000 in
def f126.l2T (R : Value → Heap → Prop) (A0 : Option Addr) (n0 : Nat) (c0 : Nat) (x1 : Int) (x2 : Int) (x7 : Int) (x8 : Int) (x9 : Int) (h : Heap) : Prop :=
  splitB (decide (x9 ≥ (1 : Int))) (ptrOk A0 fun a1_ => 0 ≤ x9 ∧ x9 < ((n0 : Nat) : Int) ∧ (ptrOk A0 fun a2_ => 0 ≤ (IntKind.wrap .i64 (x9 - (1 : Int))) ∧ (IntKind.wrap .i64 (x9 - (1 : Int))) < ((n0 : Nat) : Int) ∧ (∃ v3_, ldv false 1 h (Addr.add a1_ (Int.toNat x9 * 1)) = some v3_ ∧ ∃ x4_, v3_ = (Value.int .i64 x4_) ∧ ∃ v5_, ldv false 1 h (Addr.add a2_ (Int.toNat (IntKind.wrap .i64 (x9 - (1 : Int))) * 1)) = some v5_ ∧ ∃ x6_, v5_ = (Value.int .i64 x6_) ∧ Run Try.prog 127 #[(Value.int .i64 x4_), (Value.int .i64 x6_)] h fun v7_ h8_ => ∃ b9_, v7_ = (Value.bool b9_) ∧ splitB (!b9_) (f126.j3 R A0 n0 c0 x1 x2 x7 x8 h8_) (ptrOk A0 fun a10_ => 0 ≤ (IntKind.wrap .i64 (x9 - (1 : Int))) ∧ (IntKind.wrap .i64 (x9 - (1 : Int))) < ((n0 : Nat) : Int) ∧ (ptrOk A0 fun a11_ => 0 ≤ x9 ∧ x9 < ((n0 : Nat) : Int) ∧ (∃ v12_, ldv false 1 h8_ (Addr.add a10_ (Int.toNat (IntKind.wrap .i64 (x9 - (1 : Int))) * 1)) = some v12_ ∧ ∃ x13_, v12_ = (Value.int .i64 x13_) ∧ ∃ v14_, ldv false 1 h8_ (Addr.add a11_ (Int.toNat x9 * 1)) = some v14_ ∧ ∃ x15_, v14_ = (Value.int .i64 x15_) ∧ ptrOk A0 fun a16_ => 0 ≤ x9 ∧ x9 < ((n0 : Nat) : Int) ∧ (∃ h17_, st1 h8_ (Addr.add a16_ (Int.toNat x9 * 1)) (Value.int .i64 x13_) = some h17_ ∧ ptrOk A0 fun a18_ => 0 ≤ (IntKind.wrap .i64 (x9 - (1 : Int))) ∧ (IntKind.wrap .i64 (x9 - (1 : Int))) < ((n0 : Nat) : Int) ∧ (∃ h19_, st1 h17_ (Addr.add a18_ (Int.toNat (IntKind.wrap .i64 (x9 - (1 : Int))) * 1)) (Value.int .i64 x15_) = some h19_ ∧ f126.l2 R A0 n0 c0 x1 x2 x7 x8 (IntKind.wrap .i64 (x9 - (1 : Int))) h19_)))))))) (f126.j3 R A0 n0 c0 x1 x2 x7 x8 h)
set_option maxRecDepth 100000 in
theorem f126.l2_in {R : Value → Heap → Prop} {A0 : Option Addr} {n0 : Nat} {c0 : Nat} {x1 : Int} {x2 : Int} {x7 : Int} {x8 : Int} {x9 : Int} {h : Heap} (H : f126.l2T R A0 n0 c0 x1 x2 x7 x8 x9 h) : f126.l2 R A0 n0 c0 x1 x2 x7 x8 x9 h :=
  pt_intro mixed f126.good (Eq.mpr (show (Fwd Try.prog f126.T f126.kp Try.f126 R [false, false, true, false, true, false, true, true, true, true, false, false, true, false, false, true, false, true, true] (mkFr [(0, (Value.slice A0 n0 c0)), (1, (Value.int .i64 x1)), (2, (Value.int .i64 x2)), (7, (Value.int .i64 x7)), (8, (Value.int .i64 x8)), (9, (Value.int .i64 x9))]) h) = (f126.l2T R A0 n0 c0 x1 x2 x7 x8 x9 h) by kernel_rfl) H)
set_option maxRecDepth 100000 in
def f126.j3T (R : Value → Heap → Prop) (A0 : Option Addr) (n0 : Nat) (c0 : Nat) (x1 : Int) (x2 : Int) (x7 : Int) (x8 : Int) (h : Heap) : Prop :=
  splitB (decide ((IntKind.wrap .i64 (x2 - x7)) ≥ (2 : Int))) (f126.l3 R A0 n0 c0 x1 x2 x7 x8 (IntKind.wrap .i64 (x7 + (1 : Int))) h) (f126.j0 R A0 n0 c0 x1 x2 x7 x8 h)
set_option maxRecDepth 100000 in
theorem f126.j3_in {R : Value → Heap → Prop} {A0 : Option Addr} {n0 : Nat} {c0 : Nat} {x1 : Int} {x2 : Int} {x7 : Int} {x8 : Int} {h : Heap} (H : f126.j3T R A0 n0 c0 x1 x2 x7 x8 h) : f126.j3 R A0 n0 c0 x1 x2 x7 x8 h :=
  pt_intro mixed f126.good (Eq.mpr (show (Fwd Try.prog f126.T f126.kp Try.f126 R [true, true, true, true, true, false, false, true, false, false, true, false, true, true] (mkFr [(0, (Value.slice A0 n0 c0)), (1, (Value.int .i64 x1)), (2, (Value.int .i64 x2)), (7, (Value.int .i64 x7)), (8, (Value.int .i64 x8))]) h) = (f126.j3T R A0 n0 c0 x1 x2 x7 x8 h) by kernel_rfl) H)
set_option maxRecDepth 100000 in
def f126.l3T (R : Value → Heap → Prop) (A0 : Option Addr) (n0 : Nat) (c0 : Nat) (x1 : Int) (x2 : Int) (x7 : Int) (x8 : Int) (x10 : Int) (h : Heap) : Prop :=
  splitB (decide (x10 < x2)) (ptrOk A0 fun a1_ => 0 ≤ x10 ∧ x10 < ((n0 : Nat) : Int) ∧ (ptrOk A0 fun a2_ => 0 ≤ (IntKind.wrap .i64 (x10 - (1 : Int))) ∧ (IntKind.wrap .i64 (x10 - (1 : Int))) < ((n0 : Nat) : Int) ∧ (∃ v3_, ldv false 1 h (Addr.add a1_ (Int.toNat x10 * 1)) = some v3_ ∧ ∃ x4_, v3_ = (Value.int .i64 x4_) ∧ ∃ v5_, ldv false 1 h (Addr.add a2_ (Int.toNat (IntKind.wrap .i64 (x10 - (1 : Int))) * 1)) = some v5_ ∧ ∃ x6_, v5_ = (Value.int .i64 x6_) ∧ Run Try.prog 127 #[(Value.int .i64 x4_), (Value.int .i64 x6_)] h fun v7_ h8_ => ∃ b9_, v7_ = (Value.bool b9_) ∧ splitB (!b9_) (f126.j0 R A0 n0 c0 x1 x2 x7 x8 h8_) (ptrOk A0 fun a10_ => 0 ≤ (IntKind.wrap .i64 (x10 - (1 : Int))) ∧ (IntKind.wrap .i64 (x10 - (1 : Int))) < ((n0 : Nat) : Int) ∧ (ptrOk A0 fun a11_ => 0 ≤ x10 ∧ x10 < ((n0 : Nat) : Int) ∧ (∃ v12_, ldv false 1 h8_ (Addr.add a10_ (Int.toNat (IntKind.wrap .i64 (x10 - (1 : Int))) * 1)) = some v12_ ∧ ∃ x13_, v12_ = (Value.int .i64 x13_) ∧ ∃ v14_, ldv false 1 h8_ (Addr.add a11_ (Int.toNat x10 * 1)) = some v14_ ∧ ∃ x15_, v14_ = (Value.int .i64 x15_) ∧ ptrOk A0 fun a16_ => 0 ≤ x10 ∧ x10 < ((n0 : Nat) : Int) ∧ (∃ h17_, st1 h8_ (Addr.add a16_ (Int.toNat x10 * 1)) (Value.int .i64 x13_) = some h17_ ∧ ptrOk A0 fun a18_ => 0 ≤ (IntKind.wrap .i64 (x10 - (1 : Int))) ∧ (IntKind.wrap .i64 (x10 - (1 : Int))) < ((n0 : Nat) : Int) ∧ (∃ h19_, st1 h17_ (Addr.add a18_ (Int.toNat (IntKind.wrap .i64 (x10 - (1 : Int))) * 1)) (Value.int .i64 x15_) = some h19_ ∧ f126.l3 R A0 n0 c0 x1 x2 x7 x8 (IntKind.wrap .i64 (x10 + (1 : Int))) h19_)))))))) (f126.j0 R A0 n0 c0 x1 x2 x7 x8 h)
set_option maxRecDepth 100000 in
theorem f126.l3_in {R : Value → Heap → Prop} {A0 : Option Addr} {n0 : Nat} {c0 : Nat} {x1 : Int} {x2 : Int} {x7 : Int} {x8 : Int} {x10 : Int} {h : Heap} (H : f126.l3T R A0 n0 c0 x1 x2 x7 x8 x10 h) : f126.l3 R A0 n0 c0 x1 x2 x7 x8 x10 h :=
  pt_intro mixed f126.good (Eq.mpr (show (Fwd Try.prog f126.T f126.kp Try.f126 R [false, false, true, false, true, true, true, true, true, true, false, false, true, false, false, true, false, true, true] (mkFr [(0, (Value.slice A0 n0 c0)), (1, (Value.int .i64 x1)), (2, (Value.int .i64 x2)), (7, (Value.int .i64 x7)), (8, (Value.int .i64 x8)), (10, (Value.int .i64 x10))]) h) = (f126.l3T R A0 n0 c0 x1 x2 x7 x8 x10 h) by kernel_rfl) H)
set_option maxRecDepth 100000 in
def f126.j0T (R : Value → Heap → Prop) (A0 : Option Addr) (n0 : Nat) (c0 : Nat) (x1 : Int) (x2 : Int) (x7 : Int) (x8 : Int) (h : Heap) : Prop :=
  f126.l0 R A0 n0 c0 x1 x2 x7 (IntKind.wrap .i64 (x8 + (1 : Int))) h
set_option maxRecDepth 100000 in
theorem f126.j0_in {R : Value → Heap → Prop} {A0 : Option Addr} {n0 : Nat} {c0 : Nat} {x1 : Int} {x2 : Int} {x7 : Int} {x8 : Int} {h : Heap} (H : f126.j0T R A0 n0 c0 x1 x2 x7 x8 h) : f126.j0 R A0 n0 c0 x1 x2 x7 x8 h :=
  pt_intro mixed f126.good (Eq.mpr (show (Fwd Try.prog f126.T f126.kp Try.f126 R [true, true, false, false, true, false, true, true] (mkFr [(0, (Value.slice A0 n0 c0)), (1, (Value.int .i64 x1)), (2, (Value.int .i64 x2)), (7, (Value.int .i64 x7)), (8, (Value.int .i64 x8))]) h) = (f126.j0T R A0 n0 c0 x1 x2 x7 x8 h) by kernel_rfl) H)
set_option maxRecDepth 100000 in
def f126.runT (R : Value → Heap → Prop) (A0 : Option Addr) (n0 : Nat) (c0 : Nat) (x1 : Int) (x2 : Int) (h : Heap) : Prop :=
  f126.l0 R A0 n0 c0 x1 x2 (IntKind.wrap .i64 (x1 + (1 : Int))) (0 : Int) h
set_option maxRecDepth 100000 in
theorem f126.run {R : Value → Heap → Prop} {A0 : Option Addr} {n0 : Nat} {c0 : Nat} {x1 : Int} {x2 : Int} {h : Heap} (H : f126.runT R A0 n0 c0 x1 x2 h) : Run Try.prog 126 #[(Value.slice A0 n0 c0), (Value.int .i64 x1), (Value.int .i64 x2)] h R :=
  run_of mixed Try.func126 (by kernel_rfl) (by kernel_rfl) f126.good (Eq.mpr (show (Fwd Try.prog f126.T f126.kp Try.f126 R [] (mkFr (argL [(Value.slice A0 n0 c0), (Value.int .i64 x1), (Value.int .i64 x2)] 0)) h) = (f126.runT R A0 n0 c0 x1 x2 h) by kernel_rfl) H)
def f128.T : Tab := { sh := tSh, tup := tTup, keep := [], plan := [(1, (.take 0 (.take 1 (.take 2 (.take 3 (.take 4 (.take 5 (.take 6 (.take 8 (.take 9 (.take 10 (.take 7 (.take 11 (.take 12 (.eff false 13 (.take 14 (.eff false 15 .done))))))))))))))))), (3, (.take 0 (.take 1 (.take 2 (.take 3 (.split 3 (.take 4 (.take 5 (.take 6 (.take 8 (.take 9 (.take 10 (.take 7 (.take 11 (.eff false 12 (.take 13 (.take 14 .done))))))))))))))))), (5, (.take 0 (.take 1 (.take 2 (.take 3 (.split 3 (.take 4 (.take 5 (.take 6 (.take 8 (.take 9 (.take 10 (.take 7 (.take 11 (.eff false 12 (.take 13 .done)))))))))))))))), (8, (.take 0 (.take 1 (.take 2 (.take 3 (.take 4 (.take 5 (.take 6 (.take 8 (.take 9 (.take 10 (.take 7 (.take 11 (.take 12 (.eff false 13 (.take 14 (.eff false 15 .done)))))))))))))))))] }
def f128.kp : Keep := [([false, false, false, true, true, true], [0, 1, 9, 10]), ([false, false, false, false, false, false, false, true, true, true], [0, 1, 9, 10]), ([true, false, false, false, false, false, false, false, true, true, true], [0, 1, 9, 10]), ([true, false, false, false, false, true, true, true], [0, 1, 9, 10]), ([false, false, false, true, false, false, false, false, true, true, true], [0, 1, 9, 10]), ([true, false, false, false, true, false, false, false, false, true, true, true], [0, 1, 9, 10]), ([true, true, false, false, false, false, true, true, true], [0, 1, 9, 10])]
theorem f128.good : goodCode Try.prog f128.T (rootOf Try.f128) = true := by kernel_rfl
def f128.l0 (R : Value → Heap → Prop) (A0 : Option Addr) (n0 : Nat) (c0 : Nat) (x1 : Int) (x9 : Int) (x10 : Int) (h : Heap) : Prop := Pt Try.prog Try.f128 R [false, false, false, true, true, true] (mkFr [(0, (Value.slice A0 n0 c0)), (1, (Value.int .i64 x1)), (9, (Value.int .i64 x9)), (10, (Value.int .i64 x10))]) h
def f128.l1 (R : Value → Heap → Prop) (A0 : Option Addr) (n0 : Nat) (c0 : Nat) (x1 : Int) (x9 : Int) (x10 : Int) (h : Heap) : Prop := Pt Try.prog Try.f128 R [false, false, false, false, false, false, false, true, true, true] (mkFr [(0, (Value.slice A0 n0 c0)), (1, (Value.int .i64 x1)), (9, (Value.int .i64 x9)), (10, (Value.int .i64 x10))]) h
def f128.j2 (R : Value → Heap → Prop) (A0 : Option Addr) (n0 : Nat) (c0 : Nat) (x1 : Int) (x9 : Int) (x10 : Int) (h : Heap) : Prop := Pt Try.prog Try.f128 R [true, false, false, false, false, false, false, false, true, true, true] (mkFr [(0, (Value.slice A0 n0 c0)), (1, (Value.int .i64 x1)), (9, (Value.int .i64 x9)), (10, (Value.int .i64 x10))]) h
def f128.j0 (R : Value → Heap → Prop) (A0 : Option Addr) (n0 : Nat) (c0 : Nat) (x1 : Int) (x9 : Int) (x10 : Int) (h : Heap) : Prop := Pt Try.prog Try.f128 R [true, false, false, false, false, true, true, true] (mkFr [(0, (Value.slice A0 n0 c0)), (1, (Value.int .i64 x1)), (9, (Value.int .i64 x9)), (10, (Value.int .i64 x10))]) h
def f128.l2 (R : Value → Heap → Prop) (A0 : Option Addr) (n0 : Nat) (c0 : Nat) (x1 : Int) (x9 : Int) (x10 : Int) (h : Heap) : Prop := Pt Try.prog Try.f128 R [false, false, false, true, false, false, false, false, true, true, true] (mkFr [(0, (Value.slice A0 n0 c0)), (1, (Value.int .i64 x1)), (9, (Value.int .i64 x9)), (10, (Value.int .i64 x10))]) h
def f128.j3 (R : Value → Heap → Prop) (A0 : Option Addr) (n0 : Nat) (c0 : Nat) (x1 : Int) (x9 : Int) (x10 : Int) (h : Heap) : Prop := Pt Try.prog Try.f128 R [true, false, false, false, true, false, false, false, false, true, true, true] (mkFr [(0, (Value.slice A0 n0 c0)), (1, (Value.int .i64 x1)), (9, (Value.int .i64 x9)), (10, (Value.int .i64 x10))]) h
def f128.j1 (R : Value → Heap → Prop) (A0 : Option Addr) (n0 : Nat) (c0 : Nat) (x1 : Int) (x9 : Int) (x10 : Int) (h : Heap) : Prop := Pt Try.prog Try.f128 R [true, true, false, false, false, false, true, true, true] (mkFr [(0, (Value.slice A0 n0 c0)), (1, (Value.int .i64 x1)), (9, (Value.int .i64 x9)), (10, (Value.int .i64 x10))]) h
set_option maxRecDepth 100000 in
def f128.l0T (R : Value → Heap → Prop) (A0 : Option Addr) (n0 : Nat) (c0 : Nat) (x1 : Int) (x9 : Int) (x10 : Int) (h : Heap) : Prop :=
  f128.l1 R A0 n0 c0 x1 x9 x10 h
set_option maxRecDepth 100000 in
theorem f128.l0_in {R : Value → Heap → Prop} {A0 : Option Addr} {n0 : Nat} {c0 : Nat} {x1 : Int} {x9 : Int} {x10 : Int} {h : Heap} (H : f128.l0T R A0 n0 c0 x1 x9 x10 h) : f128.l0 R A0 n0 c0 x1 x9 x10 h :=
  pt_intro mixed f128.good (Eq.mpr (show (Fwd Try.prog f128.T f128.kp Try.f128 R [false, false, false, true, true, true] (mkFr [(0, (Value.slice A0 n0 c0)), (1, (Value.int .i64 x1)), (9, (Value.int .i64 x9)), (10, (Value.int .i64 x10))]) h) = (f128.l0T R A0 n0 c0 x1 x9 x10 h) by kernel_rfl) H)
set_option maxRecDepth 100000 in
def f128.l1T (R : Value → Heap → Prop) (A0 : Option Addr) (n0 : Nat) (c0 : Nat) (x1 : Int) (x9 : Int) (x10 : Int) (h : Heap) : Prop :=
  splitB (decide (x9 ≤ x10)) (ptrOk A0 fun a1_ => 0 ≤ x1 ∧ x1 < ((n0 : Nat) : Int) ∧ (ptrOk A0 fun a2_ => 0 ≤ x9 ∧ x9 < ((n0 : Nat) : Int) ∧ (∃ v3_, ldv false 1 h (Addr.add a1_ (Int.toNat x1 * 1)) = some v3_ ∧ ∃ x4_, v3_ = (Value.int .i64 x4_) ∧ ∃ v5_, ldv false 1 h (Addr.add a2_ (Int.toNat x9 * 1)) = some v5_ ∧ ∃ x6_, v5_ = (Value.int .i64 x6_) ∧ Run Try.prog 127 #[(Value.int .i64 x4_), (Value.int .i64 x6_)] h fun v7_ h8_ => ∃ b9_, v7_ = (Value.bool b9_) ∧ splitB (!b9_) (f128.j2 R A0 n0 c0 x1 x9 x10 h8_) (f128.j0 R A0 n0 c0 x1 x9 x10 h8_)))) (f128.j0 R A0 n0 c0 x1 x9 x10 h)
set_option maxRecDepth 100000 in
theorem f128.l1_in {R : Value → Heap → Prop} {A0 : Option Addr} {n0 : Nat} {c0 : Nat} {x1 : Int} {x9 : Int} {x10 : Int} {h : Heap} (H : f128.l1T R A0 n0 c0 x1 x9 x10 h) : f128.l1 R A0 n0 c0 x1 x9 x10 h :=
  pt_intro mixed f128.good (Eq.mpr (show (Fwd Try.prog f128.T f128.kp Try.f128 R [false, false, false, false, false, false, false, true, true, true] (mkFr [(0, (Value.slice A0 n0 c0)), (1, (Value.int .i64 x1)), (9, (Value.int .i64 x9)), (10, (Value.int .i64 x10))]) h) = (f128.l1T R A0 n0 c0 x1 x9 x10 h) by kernel_rfl) H)
set_option maxRecDepth 100000 in
def f128.j2T (R : Value → Heap → Prop) (A0 : Option Addr) (n0 : Nat) (c0 : Nat) (x1 : Int) (x9 : Int) (x10 : Int) (h : Heap) : Prop :=
  f128.l1 R A0 n0 c0 x1 (IntKind.wrap .i64 (x9 + (1 : Int))) x10 h
set_option maxRecDepth 100000 in
theorem f128.j2_in {R : Value → Heap → Prop} {A0 : Option Addr} {n0 : Nat} {c0 : Nat} {x1 : Int} {x9 : Int} {x10 : Int} {h : Heap} (H : f128.j2T R A0 n0 c0 x1 x9 x10 h) : f128.j2 R A0 n0 c0 x1 x9 x10 h :=
  pt_intro mixed f128.good (Eq.mpr (show (Fwd Try.prog f128.T f128.kp Try.f128 R [true, false, false, false, false, false, false, false, true, true, true] (mkFr [(0, (Value.slice A0 n0 c0)), (1, (Value.int .i64 x1)), (9, (Value.int .i64 x9)), (10, (Value.int .i64 x10))]) h) = (f128.j2T R A0 n0 c0 x1 x9 x10 h) by kernel_rfl) H)
set_option maxRecDepth 100000 in
def f128.j0T (R : Value → Heap → Prop) (A0 : Option Addr) (n0 : Nat) (c0 : Nat) (x1 : Int) (x9 : Int) (x10 : Int) (h : Heap) : Prop :=
  f128.l2 R A0 n0 c0 x1 x9 x10 h
set_option maxRecDepth 100000 in
theorem f128.j0_in {R : Value → Heap → Prop} {A0 : Option Addr} {n0 : Nat} {c0 : Nat} {x1 : Int} {x9 : Int} {x10 : Int} {h : Heap} (H : f128.j0T R A0 n0 c0 x1 x9 x10 h) : f128.j0 R A0 n0 c0 x1 x9 x10 h :=
  pt_intro mixed f128.good (Eq.mpr (show (Fwd Try.prog f128.T f128.kp Try.f128 R [true, false, false, false, false, true, true, true] (mkFr [(0, (Value.slice A0 n0 c0)), (1, (Value.int .i64 x1)), (9, (Value.int .i64 x9)), (10, (Value.int .i64 x10))]) h) = (f128.j0T R A0 n0 c0 x1 x9 x10 h) by kernel_rfl) H)
set_option maxRecDepth 100000 in
def f128.l2T (R : Value → Heap → Prop) (A0 : Option Addr) (n0 : Nat) (c0 : Nat) (x1 : Int) (x9 : Int) (x10 : Int) (h : Heap) : Prop :=
  splitB (decide (x9 ≤ x10)) (ptrOk A0 fun a1_ => 0 ≤ x1 ∧ x1 < ((n0 : Nat) : Int) ∧ (ptrOk A0 fun a2_ => 0 ≤ x10 ∧ x10 < ((n0 : Nat) : Int) ∧ (∃ v3_, ldv false 1 h (Addr.add a1_ (Int.toNat x1 * 1)) = some v3_ ∧ ∃ x4_, v3_ = (Value.int .i64 x4_) ∧ ∃ v5_, ldv false 1 h (Addr.add a2_ (Int.toNat x10 * 1)) = some v5_ ∧ ∃ x6_, v5_ = (Value.int .i64 x6_) ∧ Run Try.prog 127 #[(Value.int .i64 x4_), (Value.int .i64 x6_)] h fun v7_ h8_ => ∃ b9_, v7_ = (Value.bool b9_) ∧ splitB b9_ (f128.j3 R A0 n0 c0 x1 x9 x10 h8_) (f128.j1 R A0 n0 c0 x1 x9 x10 h8_)))) (f128.j1 R A0 n0 c0 x1 x9 x10 h)
set_option maxRecDepth 100000 in
theorem f128.l2_in {R : Value → Heap → Prop} {A0 : Option Addr} {n0 : Nat} {c0 : Nat} {x1 : Int} {x9 : Int} {x10 : Int} {h : Heap} (H : f128.l2T R A0 n0 c0 x1 x9 x10 h) : f128.l2 R A0 n0 c0 x1 x9 x10 h :=
  pt_intro mixed f128.good (Eq.mpr (show (Fwd Try.prog f128.T f128.kp Try.f128 R [false, false, false, true, false, false, false, false, true, true, true] (mkFr [(0, (Value.slice A0 n0 c0)), (1, (Value.int .i64 x1)), (9, (Value.int .i64 x9)), (10, (Value.int .i64 x10))]) h) = (f128.l2T R A0 n0 c0 x1 x9 x10 h) by kernel_rfl) H)
set_option maxRecDepth 100000 in
def f128.j3T (R : Value → Heap → Prop) (A0 : Option Addr) (n0 : Nat) (c0 : Nat) (x1 : Int) (x9 : Int) (x10 : Int) (h : Heap) : Prop :=
  f128.l2 R A0 n0 c0 x1 x9 (IntKind.wrap .i64 (x10 - (1 : Int))) h
set_option maxRecDepth 100000 in
theorem f128.j3_in {R : Value → Heap → Prop} {A0 : Option Addr} {n0 : Nat} {c0 : Nat} {x1 : Int} {x9 : Int} {x10 : Int} {h : Heap} (H : f128.j3T R A0 n0 c0 x1 x9 x10 h) : f128.j3 R A0 n0 c0 x1 x9 x10 h :=
  pt_intro mixed f128.good (Eq.mpr (show (Fwd Try.prog f128.T f128.kp Try.f128 R [true, false, false, false, true, false, false, false, false, true, true, true] (mkFr [(0, (Value.slice A0 n0 c0)), (1, (Value.int .i64 x1)), (9, (Value.int .i64 x9)), (10, (Value.int .i64 x10))]) h) = (f128.j3T R A0 n0 c0 x1 x9 x10 h) by kernel_rfl) H)
set_option maxRecDepth 100000 in
def f128.j1T (R : Value → Heap → Prop) (A0 : Option Addr) (n0 : Nat) (c0 : Nat) (x1 : Int) (x9 : Int) (x10 : Int) (h : Heap) : Prop :=
  splitB (decide (x9 > x10)) (R (Value.int .i64 x9) h) (ptrOk A0 fun a1_ => 0 ≤ x10 ∧ x10 < ((n0 : Nat) : Int) ∧ (ptrOk A0 fun a2_ => 0 ≤ x9 ∧ x9 < ((n0 : Nat) : Int) ∧ (∃ v3_, ldv false 1 h (Addr.add a1_ (Int.toNat x10 * 1)) = some v3_ ∧ ∃ x4_, v3_ = (Value.int .i64 x4_) ∧ ∃ v5_, ldv false 1 h (Addr.add a2_ (Int.toNat x9 * 1)) = some v5_ ∧ ∃ x6_, v5_ = (Value.int .i64 x6_) ∧ ptrOk A0 fun a7_ => 0 ≤ x9 ∧ x9 < ((n0 : Nat) : Int) ∧ (∃ h8_, st1 h (Addr.add a7_ (Int.toNat x9 * 1)) (Value.int .i64 x4_) = some h8_ ∧ ptrOk A0 fun a9_ => 0 ≤ x10 ∧ x10 < ((n0 : Nat) : Int) ∧ (∃ h10_, st1 h8_ (Addr.add a9_ (Int.toNat x10 * 1)) (Value.int .i64 x6_) = some h10_ ∧ f128.l0 R A0 n0 c0 x1 (IntKind.wrap .i64 (x9 + (1 : Int))) (IntKind.wrap .i64 (x10 - (1 : Int))) h10_)))))
set_option maxRecDepth 100000 in
theorem f128.j1_in {R : Value → Heap → Prop} {A0 : Option Addr} {n0 : Nat} {c0 : Nat} {x1 : Int} {x9 : Int} {x10 : Int} {h : Heap} (H : f128.j1T R A0 n0 c0 x1 x9 x10 h) : f128.j1 R A0 n0 c0 x1 x9 x10 h :=
  pt_intro mixed f128.good (Eq.mpr (show (Fwd Try.prog f128.T f128.kp Try.f128 R [true, true, false, false, false, false, true, true, true] (mkFr [(0, (Value.slice A0 n0 c0)), (1, (Value.int .i64 x1)), (9, (Value.int .i64 x9)), (10, (Value.int .i64 x10))]) h) = (f128.j1T R A0 n0 c0 x1 x9 x10 h) by kernel_rfl) H)
set_option maxRecDepth 100000 in
def f128.runT (R : Value → Heap → Prop) (A0 : Option Addr) (n0 : Nat) (c0 : Nat) (x1 : Int) (x2 : Int) (x3 : Int) (h : Heap) : Prop :=
  ptrOk A0 fun a1_ => 0 ≤ x3 ∧ x3 < ((n0 : Nat) : Int) ∧ (ptrOk A0 fun a2_ => 0 ≤ x1 ∧ x1 < ((n0 : Nat) : Int) ∧ (∃ v3_, ldv false 1 h (Addr.add a1_ (Int.toNat x3 * 1)) = some v3_ ∧ ∃ x4_, v3_ = (Value.int .i64 x4_) ∧ ∃ v5_, ldv false 1 h (Addr.add a2_ (Int.toNat x1 * 1)) = some v5_ ∧ ∃ x6_, v5_ = (Value.int .i64 x6_) ∧ ptrOk A0 fun a7_ => 0 ≤ x1 ∧ x1 < ((n0 : Nat) : Int) ∧ (∃ h8_, st1 h (Addr.add a7_ (Int.toNat x1 * 1)) (Value.int .i64 x4_) = some h8_ ∧ ptrOk A0 fun a9_ => 0 ≤ x3 ∧ x3 < ((n0 : Nat) : Int) ∧ (∃ h10_, st1 h8_ (Addr.add a9_ (Int.toNat x3 * 1)) (Value.int .i64 x6_) = some h10_ ∧ f128.l0 R A0 n0 c0 x1 (IntKind.wrap .i64 (x1 + (1 : Int))) (IntKind.wrap .i64 (x2 - (1 : Int))) h10_))))
set_option maxRecDepth 100000 in
theorem f128.run {R : Value → Heap → Prop} {A0 : Option Addr} {n0 : Nat} {c0 : Nat} {x1 : Int} {x2 : Int} {x3 : Int} {h : Heap} (H : f128.runT R A0 n0 c0 x1 x2 x3 h) : Run Try.prog 128 #[(Value.slice A0 n0 c0), (Value.int .i64 x1), (Value.int .i64 x2), (Value.int .i64 x3)] h R :=
  run_of mixed Try.func128 (by kernel_rfl) (by kernel_rfl) f128.good (Eq.mpr (show (Fwd Try.prog f128.T f128.kp Try.f128 R [] (mkFr (argL [(Value.slice A0 n0 c0), (Value.int .i64 x1), (Value.int .i64 x2), (Value.int .i64 x3)] 0)) h) = (f128.runT R A0 n0 c0 x1 x2 x3 h) by kernel_rfl) H)
def f129.T : Tab := { sh := tSh, tup := tTup, keep := [], plan := [(1, (.take 0 (.take 1 (.take 2 (.take 3 (.take 4 (.take 5 (.take 6 (.take 8 (.take 9 (.take 10 (.take 7 (.take 11 (.take 12 (.eff false 13 (.take 14 (.eff false 15 .done))))))))))))))))), (3, (.take 0 (.take 1 (.take 2 (.take 3 (.split 3 (.take 4 (.take 5 (.take 6 (.take 8 (.take 9 (.take 10 (.take 7 (.take 11 (.eff false 12 (.take 13 .done)))))))))))))))), (5, (.take 0 (.take 1 (.take 2 (.take 3 (.split 3 (.take 4 (.take 5 (.take 6 (.take 8 (.take 9 (.take 10 (.take 7 (.take 11 (.eff false 12 (.take 13 (.take 14 .done))))))))))))))))), (8, (.take 0 (.take 1 (.take 2 (.take 3 (.take 4 (.take 5 (.take 6 (.take 8 (.take 9 (.take 10 (.take 7 (.take 11 (.take 12 (.eff false 13 (.take 14 (.eff false 15 .done))))))))))))))))), (10, (.take 0 (.take 1 (.take 2 (.take 3 (.take 4 (.take 5 (.take 6 (.take 8 (.take 9 (.take 10 (.take 7 (.take 11 (.take 12 (.eff false 13 (.take 14 (.eff false 15 .done))))))))))))))))), (13, (.take 0 (.take 1 (.take 2 (.take 3 (.split 3 (.take 4 (.take 5 (.take 6 (.take 8 (.take 9 (.take 10 (.take 7 (.take 11 (.eff false 12 (.take 13 .done)))))))))))))))), (15, (.take 0 (.take 1 (.take 2 (.take 3 (.split 3 (.take 4 (.take 5 (.take 6 (.take 8 (.take 9 (.take 10 (.take 7 (.take 11 (.eff false 12 (.take 13 (.take 14 .done))))))))))))))))), (18, (.take 0 (.take 1 (.take 2 (.take 3 (.take 4 (.take 5 (.take 6 (.take 8 (.take 9 (.take 10 (.take 7 (.take 11 (.take 12 (.eff false 13 (.take 14 (.eff false 15 .done))))))))))))))))), (21, (.take 0 (.take 1 (.take 2 (.take 3 (.take 4 (.take 5 (.take 6 (.take 8 (.take 9 (.take 10 (.take 7 (.take 11 (.take 12 (.eff false 13 (.take 14 (.eff false 15 .done)))))))))))))))))] }
def f129.kp : Keep := [([false, false, false, true, true, true], [0, 1, 10, 11]), ([true, false, false, false, true, true, true], [0, 1, 10, 11]), ([true, true, true, true], [0, 1, 10, 11]), ([false, false, false, true, true, true, true], [0, 1, 10, 11]), ([true, false, false, false, true, true, true, true], [0, 1, 10, 11]), ([true, true, true, true, true], [0, 1, 10, 11]), ([false, false, false, true, true, true, true, true, true, true, true, true], [0, 1, 10, 11]), ([false, false, false, false, false, false, false, true, true, true, true, true, true, true, true, true], [0, 1, 10, 11]), ([true, false, false, false, false, false, false, false, true, true, true, true, true, true, true, true, true], [0, 1, 10, 11]), ([true, false, false, false, false, true, true, true, true, true, true, true, true, true], [0, 1, 10, 11]), ([false, false, false, true, false, false, false, false, true, true, true, true, true, true, true, true, true], [0, 1, 10, 11]), ([true, false, false, false, true, false, false, false, false, true, true, true, true, true, true, true, true, true], [0, 1, 10, 11]), ([true, true, false, false, false, false, true, true, true, true, true, true, true, true, true], [0, 1, 10, 11]), ([true, true, true, true, true, true, true, true, true, true], [0, 1, 11])]
theorem f129.good : goodCode Try.prog f129.T (rootOf Try.f129) = true := by kernel_rfl
def f129.l0 (R : Value → Heap → Prop) (A0 : Option Addr) (n0 : Nat) (c0 : Nat) (x1 : Int) (x10 : Int) (x11 : Int) (h : Heap) : Prop := Pt Try.prog Try.f129 R [false, false, false, true, true, true] (mkFr [(0, (Value.slice A0 n0 c0)), (1, (Value.int .i64 x1)), (10, (Value.int .i64 x10)), (11, (Value.int .i64 x11))]) h
def f129.j2 (R : Value → Heap → Prop) (A0 : Option Addr) (n0 : Nat) (c0 : Nat) (x1 : Int) (x10 : Int) (x11 : Int) (h : Heap) : Prop := Pt Try.prog Try.f129 R [true, false, false, false, true, true, true] (mkFr [(0, (Value.slice A0 n0 c0)), (1, (Value.int .i64 x1)), (10, (Value.int .i64 x10)), (11, (Value.int .i64 x11))]) h
def f129.j0 (R : Value → Heap → Prop) (A0 : Option Addr) (n0 : Nat) (c0 : Nat) (x1 : Int) (x10 : Int) (x11 : Int) (h : Heap) : Prop := Pt Try.prog Try.f129 R [true, true, true, true] (mkFr [(0, (Value.slice A0 n0 c0)), (1, (Value.int .i64 x1)), (10, (Value.int .i64 x10)), (11, (Value.int .i64 x11))]) h
def f129.l1 (R : Value → Heap → Prop) (A0 : Option Addr) (n0 : Nat) (c0 : Nat) (x1 : Int) (x10 : Int) (x11 : Int) (h : Heap) : Prop := Pt Try.prog Try.f129 R [false, false, false, true, true, true, true] (mkFr [(0, (Value.slice A0 n0 c0)), (1, (Value.int .i64 x1)), (10, (Value.int .i64 x10)), (11, (Value.int .i64 x11))]) h
def f129.j3 (R : Value → Heap → Prop) (A0 : Option Addr) (n0 : Nat) (c0 : Nat) (x1 : Int) (x10 : Int) (x11 : Int) (h : Heap) : Prop := Pt Try.prog Try.f129 R [true, false, false, false, true, true, true, true] (mkFr [(0, (Value.slice A0 n0 c0)), (1, (Value.int .i64 x1)), (10, (Value.int .i64 x10)), (11, (Value.int .i64 x11))]) h
def f129.j1 (R : Value → Heap → Prop) (A0 : Option Addr) (n0 : Nat) (c0 : Nat) (x1 : Int) (x10 : Int) (x11 : Int) (h : Heap) : Prop := Pt Try.prog Try.f129 R [true, true, true, true, true] (mkFr [(0, (Value.slice A0 n0 c0)), (1, (Value.int .i64 x1)), (10, (Value.int .i64 x10)), (11, (Value.int .i64 x11))]) h
def f129.l2 (R : Value → Heap → Prop) (A0 : Option Addr) (n0 : Nat) (c0 : Nat) (x1 : Int) (x10 : Int) (x11 : Int) (h : Heap) : Prop := Pt Try.prog Try.f129 R [false, false, false, true, true, true, true, true, true, true, true, true] (mkFr [(0, (Value.slice A0 n0 c0)), (1, (Value.int .i64 x1)), (10, (Value.int .i64 x10)), (11, (Value.int .i64 x11))]) h
def f129.l3 (R : Value → Heap → Prop) (A0 : Option Addr) (n0 : Nat) (c0 : Nat) (x1 : Int) (x10 : Int) (x11 : Int) (h : Heap) : Prop := Pt Try.prog Try.f129 R [false, false, false, false, false, false, false, true, true, true, true, true, true, true, true, true] (mkFr [(0, (Value.slice A0 n0 c0)), (1, (Value.int .i64 x1)), (10, (Value.int .i64 x10)), (11, (Value.int .i64 x11))]) h
def f129.j7 (R : Value → Heap → Prop) (A0 : Option Addr) (n0 : Nat) (c0 : Nat) (x1 : Int) (x10 : Int) (x11 : Int) (h : Heap) : Prop := Pt Try.prog Try.f129 R [true, false, false, false, false, false, false, false, true, true, true, true, true, true, true, true, true] (mkFr [(0, (Value.slice A0 n0 c0)), (1, (Value.int .i64 x1)), (10, (Value.int .i64 x10)), (11, (Value.int .i64 x11))]) h
def f129.j5 (R : Value → Heap → Prop) (A0 : Option Addr) (n0 : Nat) (c0 : Nat) (x1 : Int) (x10 : Int) (x11 : Int) (h : Heap) : Prop := Pt Try.prog Try.f129 R [true, false, false, false, false, true, true, true, true, true, true, true, true, true] (mkFr [(0, (Value.slice A0 n0 c0)), (1, (Value.int .i64 x1)), (10, (Value.int .i64 x10)), (11, (Value.int .i64 x11))]) h
def f129.l4 (R : Value → Heap → Prop) (A0 : Option Addr) (n0 : Nat) (c0 : Nat) (x1 : Int) (x10 : Int) (x11 : Int) (h : Heap) : Prop := Pt Try.prog Try.f129 R [false, false, false, true, false, false, false, false, true, true, true, true, true, true, true, true, true] (mkFr [(0, (Value.slice A0 n0 c0)), (1, (Value.int .i64 x1)), (10, (Value.int .i64 x10)), (11, (Value.int .i64 x11))]) h
def f129.j8 (R : Value → Heap → Prop) (A0 : Option Addr) (n0 : Nat) (c0 : Nat) (x1 : Int) (x10 : Int) (x11 : Int) (h : Heap) : Prop := Pt Try.prog Try.f129 R [true, false, false, false, true, false, false, false, false, true, true, true, true, true, true, true, true, true] (mkFr [(0, (Value.slice A0 n0 c0)), (1, (Value.int .i64 x1)), (10, (Value.int .i64 x10)), (11, (Value.int .i64 x11))]) h
def f129.j6 (R : Value → Heap → Prop) (A0 : Option Addr) (n0 : Nat) (c0 : Nat) (x1 : Int) (x10 : Int) (x11 : Int) (h : Heap) : Prop := Pt Try.prog Try.f129 R [true, true, false, false, false, false, true, true, true, true, true, true, true, true, true] (mkFr [(0, (Value.slice A0 n0 c0)), (1, (Value.int .i64 x1)), (10, (Value.int .i64 x10)), (11, (Value.int .i64 x11))]) h
def f129.j4 (R : Value → Heap → Prop) (A0 : Option Addr) (n0 : Nat) (c0 : Nat) (x1 : Int) (x11 : Int) (h : Heap) : Prop := Pt Try.prog Try.f129 R [true, true, true, true, true, true, true, true, true, true] (mkFr [(0, (Value.slice A0 n0 c0)), (1, (Value.int .i64 x1)), (11, (Value.int .i64 x11))]) h
set_option maxRecDepth 100000 in
def f129.l0T (R : Value → Heap → Prop) (A0 : Option Addr) (n0 : Nat) (c0 : Nat) (x1 : Int) (x10 : Int) (x11 : Int) (h : Heap) : Prop :=
  splitB (decide (x10 ≤ x11)) (ptrOk A0 fun a1_ => 0 ≤ x10 ∧ x10 < ((n0 : Nat) : Int) ∧ (ptrOk A0 fun a2_ => 0 ≤ x1 ∧ x1 < ((n0 : Nat) : Int) ∧ (∃ v3_, ldv false 1 h (Addr.add a1_ (Int.toNat x10 * 1)) = some v3_ ∧ ∃ x4_, v3_ = (Value.int .i64 x4_) ∧ ∃ v5_, ldv false 1 h (Addr.add a2_ (Int.toNat x1 * 1)) = some v5_ ∧ ∃ x6_, v5_ = (Value.int .i64 x6_) ∧ Run Try.prog 127 #[(Value.int .i64 x4_), (Value.int .i64 x6_)] h fun v7_ h8_ => ∃ b9_, v7_ = (Value.bool b9_) ∧ splitB b9_ (f129.j2 R A0 n0 c0 x1 x10 x11 h8_) (f129.j0 R A0 n0 c0 x1 x10 x11 h8_)))) (f129.j0 R A0 n0 c0 x1 x10 x11 h)
set_option maxRecDepth 100000 in
theorem f129.l0_in {R : Value → Heap → Prop} {A0 : Option Addr} {n0 : Nat} {c0 : Nat} {x1 : Int} {x10 : Int} {x11 : Int} {h : Heap} (H : f129.l0T R A0 n0 c0 x1 x10 x11 h) : f129.l0 R A0 n0 c0 x1 x10 x11 h :=
  pt_intro mixed f129.good (Eq.mpr (show (Fwd Try.prog f129.T f129.kp Try.f129 R [false, false, false, true, true, true] (mkFr [(0, (Value.slice A0 n0 c0)), (1, (Value.int .i64 x1)), (10, (Value.int .i64 x10)), (11, (Value.int .i64 x11))]) h) = (f129.l0T R A0 n0 c0 x1 x10 x11 h) by kernel_rfl) H)
set_option maxRecDepth 100000 in
def f129.j2T (R : Value → Heap → Prop) (A0 : Option Addr) (n0 : Nat) (c0 : Nat) (x1 : Int) (x10 : Int) (x11 : Int) (h : Heap) : Prop :=
  f129.l0 R A0 n0 c0 x1 (IntKind.wrap .i64 (x10 + (1 : Int))) x11 h
set_option maxRecDepth 100000 in
theorem f129.j2_in {R : Value → Heap → Prop} {A0 : Option Addr} {n0 : Nat} {c0 : Nat} {x1 : Int} {x10 : Int} {x11 : Int} {h : Heap} (H : f129.j2T R A0 n0 c0 x1 x10 x11 h) : f129.j2 R A0 n0 c0 x1 x10 x11 h :=
  pt_intro mixed f129.good (Eq.mpr (show (Fwd Try.prog f129.T f129.kp Try.f129 R [true, false, false, false, true, true, true] (mkFr [(0, (Value.slice A0 n0 c0)), (1, (Value.int .i64 x1)), (10, (Value.int .i64 x10)), (11, (Value.int .i64 x11))]) h) = (f129.j2T R A0 n0 c0 x1 x10 x11 h) by kernel_rfl) H)
set_option maxRecDepth 100000 in
def f129.j0T (R : Value → Heap → Prop) (A0 : Option Addr) (n0 : Nat) (c0 : Nat) (x1 : Int) (x10 : Int) (x11 : Int) (h : Heap) : Prop :=
  f129.l1 R A0 n0 c0 x1 x10 x11 h
set_option maxRecDepth 100000 in
theorem f129.j0_in {R : Value → Heap → Prop} {A0 : Option Addr} {n0 : Nat} {c0 : Nat} {x1 : Int} {x10 : Int} {x11 : Int} {h : Heap} (H : f129.j0T R A0 n0 c0 x1 x10 x11 h) : f129.j0 R A0 n0 c0 x1 x10 x11 h :=
  pt_intro mixed f129.good (Eq.mpr (show (Fwd Try.prog f129.T f129.kp Try.f129 R [true, true, true, true] (mkFr [(0, (Value.slice A0 n0 c0)), (1, (Value.int .i64 x1)), (10, (Value.int .i64 x10)), (11, (Value.int .i64 x11))]) h) = (f129.j0T R A0 n0 c0 x1 x10 x11 h) by kernel_rfl) H)
set_option maxRecDepth 100000 in
def f129.l1T (R : Value → Heap → Prop) (A0 : Option Addr) (n0 : Nat) (c0 : Nat) (x1 : Int) (x10 : Int) (x11 : Int) (h : Heap) : Prop :=
  splitB (decide (x10 ≤ x11)) (ptrOk A0 fun a1_ => 0 ≤ x11 ∧ x11 < ((n0 : Nat) : Int) ∧ (ptrOk A0 fun a2_ => 0 ≤ x1 ∧ x1 < ((n0 : Nat) : Int) ∧ (∃ v3_, ldv false 1 h (Addr.add a1_ (Int.toNat x11 * 1)) = some v3_ ∧ ∃ x4_, v3_ = (Value.int .i64 x4_) ∧ ∃ v5_, ldv false 1 h (Addr.add a2_ (Int.toNat x1 * 1)) = some v5_ ∧ ∃ x6_, v5_ = (Value.int .i64 x6_) ∧ Run Try.prog 127 #[(Value.int .i64 x4_), (Value.int .i64 x6_)] h fun v7_ h8_ => ∃ b9_, v7_ = (Value.bool b9_) ∧ splitB (!b9_) (f129.j3 R A0 n0 c0 x1 x10 x11 h8_) (f129.j1 R A0 n0 c0 x1 x10 x11 h8_)))) (f129.j1 R A0 n0 c0 x1 x10 x11 h)
set_option maxRecDepth 100000 in
theorem f129.l1_in {R : Value → Heap → Prop} {A0 : Option Addr} {n0 : Nat} {c0 : Nat} {x1 : Int} {x10 : Int} {x11 : Int} {h : Heap} (H : f129.l1T R A0 n0 c0 x1 x10 x11 h) : f129.l1 R A0 n0 c0 x1 x10 x11 h :=
  pt_intro mixed f129.good (Eq.mpr (show (Fwd Try.prog f129.T f129.kp Try.f129 R [false, false, false, true, true, true, true] (mkFr [(0, (Value.slice A0 n0 c0)), (1, (Value.int .i64 x1)), (10, (Value.int .i64 x10)), (11, (Value.int .i64 x11))]) h) = (f129.l1T R A0 n0 c0 x1 x10 x11 h) by kernel_rfl) H)
set_option maxRecDepth 100000 in
def f129.j3T (R : Value → Heap → Prop) (A0 : Option Addr) (n0 : Nat) (c0 : Nat) (x1 : Int) (x10 : Int) (x11 : Int) (h : Heap) : Prop :=
  f129.l1 R A0 n0 c0 x1 x10 (IntKind.wrap .i64 (x11 - (1 : Int))) h
set_option maxRecDepth 100000 in
theorem f129.j3_in {R : Value → Heap → Prop} {A0 : Option Addr} {n0 : Nat} {c0 : Nat} {x1 : Int} {x10 : Int} {x11 : Int} {h : Heap} (H : f129.j3T R A0 n0 c0 x1 x10 x11 h) : f129.j3 R A0 n0 c0 x1 x10 x11 h :=
  pt_intro mixed f129.good (Eq.mpr (show (Fwd Try.prog f129.T f129.kp Try.f129 R [true, false, false, false, true, true, true, true] (mkFr [(0, (Value.slice A0 n0 c0)), (1, (Value.int .i64 x1)), (10, (Value.int .i64 x10)), (11, (Value.int .i64 x11))]) h) = (f129.j3T R A0 n0 c0 x1 x10 x11 h) by kernel_rfl) H)
set_option maxRecDepth 100000 in
def f129.j1T (R : Value → Heap → Prop) (A0 : Option Addr) (n0 : Nat) (c0 : Nat) (x1 : Int) (x10 : Int) (x11 : Int) (h : Heap) : Prop :=
  splitB (decide (x10 > x11)) (ptrOk A0 fun a1_ => 0 ≤ x1 ∧ x1 < ((n0 : Nat) : Int) ∧ (ptrOk A0 fun a2_ => 0 ≤ x11 ∧ x11 < ((n0 : Nat) : Int) ∧ (∃ v3_, ldv false 1 h (Addr.add a1_ (Int.toNat x1 * 1)) = some v3_ ∧ ∃ x4_, v3_ = (Value.int .i64 x4_) ∧ ∃ v5_, ldv false 1 h (Addr.add a2_ (Int.toNat x11 * 1)) = some v5_ ∧ ∃ x6_, v5_ = (Value.int .i64 x6_) ∧ ptrOk A0 fun a7_ => 0 ≤ x11 ∧ x11 < ((n0 : Nat) : Int) ∧ (∃ h8_, st1 h (Addr.add a7_ (Int.toNat x11 * 1)) (Value.int .i64 x4_) = some h8_ ∧ ptrOk A0 fun a9_ => 0 ≤ x1 ∧ x1 < ((n0 : Nat) : Int) ∧ (∃ h10_, st1 h8_ (Addr.add a9_ (Int.toNat x1 * 1)) (Value.int .i64 x6_) = some h10_ ∧ R (Value.tuple #[(Value.int .i64 x11), (Value.bool true)]) h10_))))) (ptrOk A0 fun a11_ => 0 ≤ x11 ∧ x11 < ((n0 : Nat) : Int) ∧ (ptrOk A0 fun a12_ => 0 ≤ x10 ∧ x10 < ((n0 : Nat) : Int) ∧ (∃ v13_, ldv false 1 h (Addr.add a11_ (Int.toNat x11 * 1)) = some v13_ ∧ ∃ x14_, v13_ = (Value.int .i64 x14_) ∧ ∃ v15_, ldv false 1 h (Addr.add a12_ (Int.toNat x10 * 1)) = some v15_ ∧ ∃ x16_, v15_ = (Value.int .i64 x16_) ∧ ptrOk A0 fun a17_ => 0 ≤ x10 ∧ x10 < ((n0 : Nat) : Int) ∧ (∃ h18_, st1 h (Addr.add a17_ (Int.toNat x10 * 1)) (Value.int .i64 x14_) = some h18_ ∧ ptrOk A0 fun a19_ => 0 ≤ x11 ∧ x11 < ((n0 : Nat) : Int) ∧ (∃ h20_, st1 h18_ (Addr.add a19_ (Int.toNat x11 * 1)) (Value.int .i64 x16_) = some h20_ ∧ f129.l2 R A0 n0 c0 x1 (IntKind.wrap .i64 (x10 + (1 : Int))) (IntKind.wrap .i64 (x11 - (1 : Int))) h20_)))))
set_option maxRecDepth 100000 in
theorem f129.j1_in {R : Value → Heap → Prop} {A0 : Option Addr} {n0 : Nat} {c0 : Nat} {x1 : Int} {x10 : Int} {x11 : Int} {h : Heap} (H : f129.j1T R A0 n0 c0 x1 x10 x11 h) : f129.j1 R A0 n0 c0 x1 x10 x11 h :=
  pt_intro mixed f129.good (Eq.mpr (show (Fwd Try.prog f129.T f129.kp Try.f129 R [true, true, true, true, true] (mkFr [(0, (Value.slice A0 n0 c0)), (1, (Value.int .i64 x1)), (10, (Value.int .i64 x10)), (11, (Value.int .i64 x11))]) h) = (f129.j1T R A0 n0 c0 x1 x10 x11 h) by kernel_rfl) H)
set_option maxRecDepth 100000 in
def f129.l2T (R : Value → Heap → Prop) (A0 : Option Addr) (n0 : Nat) (c0 : Nat) (x1 : Int) (x10 : Int) (x11 : Int) (h : Heap) : Prop :=
  f129.l3 R A0 n0 c0 x1 x10 x11 h
set_option maxRecDepth 100000 in
theorem f129.l2_in {R : Value → Heap → Prop} {A0 : Option Addr} {n0 : Nat} {c0 : Nat} {x1 : Int} {x10 : Int} {x11 : Int} {h : Heap} (H : f129.l2T R A0 n0 c0 x1 x10 x11 h) : f129.l2 R A0 n0 c0 x1 x10 x11 h :=
  pt_intro mixed f129.good (Eq.mpr (show (Fwd Try.prog f129.T f129.kp Try.f129 R [false, false, false, true, true, true, true, true, true, true, true, true] (mkFr [(0, (Value.slice A0 n0 c0)), (1, (Value.int .i64 x1)), (10, (Value.int .i64 x10)), (11, (Value.int .i64 x11))]) h) = (f129.l2T R A0 n0 c0 x1 x10 x11 h) by kernel_rfl) H)
set_option maxRecDepth 100000 in
def f129.l3T (R : Value → Heap → Prop) (A0 : Option Addr) (n0 : Nat) (c0 : Nat) (x1 : Int) (x10 : Int) (x11 : Int) (h : Heap) : Prop :=
  splitB (decide (x10 ≤ x11)) (ptrOk A0 fun a1_ => 0 ≤ x10 ∧ x10 < ((n0 : Nat) : Int) ∧ (ptrOk A0 fun a2_ => 0 ≤ x1 ∧ x1 < ((n0 : Nat) : Int) ∧ (∃ v3_, ldv false 1 h (Addr.add a1_ (Int.toNat x10 * 1)) = some v3_ ∧ ∃ x4_, v3_ = (Value.int .i64 x4_) ∧ ∃ v5_, ldv false 1 h (Addr.add a2_ (Int.toNat x1 * 1)) = some v5_ ∧ ∃ x6_, v5_ = (Value.int .i64 x6_) ∧ Run Try.prog 127 #[(Value.int .i64 x4_), (Value.int .i64 x6_)] h fun v7_ h8_ => ∃ b9_, v7_ = (Value.bool b9_) ∧ splitB b9_ (f129.j7 R A0 n0 c0 x1 x10 x11 h8_) (f129.j5 R A0 n0 c0 x1 x10 x11 h8_)))) (f129.j5 R A0 n0 c0 x1 x10 x11 h)
set_option maxRecDepth 100000 in
theorem f129.l3_in {R : Value → Heap → Prop} {A0 : Option Addr} {n0 : Nat} {c0 : Nat} {x1 : Int} {x10 : Int} {x11 : Int} {h : Heap} (H : f129.l3T R A0 n0 c0 x1 x10 x11 h) : f129.l3 R A0 n0 c0 x1 x10 x11 h :=
  pt_intro mixed f129.good (Eq.mpr (show (Fwd Try.prog f129.T f129.kp Try.f129 R [false, false, false, false, false, false, false, true, true, true, true, true, true, true, true, true] (mkFr [(0, (Value.slice A0 n0 c0)), (1, (Value.int .i64 x1)), (10, (Value.int .i64 x10)), (11, (Value.int .i64 x11))]) h) = (f129.l3T R A0 n0 c0 x1 x10 x11 h) by kernel_rfl) H)
set_option maxRecDepth 100000 in
def f129.j7T (R : Value → Heap → Prop) (A0 : Option Addr) (n0 : Nat) (c0 : Nat) (x1 : Int) (x10 : Int) (x11 : Int) (h : Heap) : Prop :=
  f129.l3 R A0 n0 c0 x1 (IntKind.wrap .i64 (x10 + (1 : Int))) x11 h
set_option maxRecDepth 100000 in
theorem f129.j7_in {R : Value → Heap → Prop} {A0 : Option Addr} {n0 : Nat} {c0 : Nat} {x1 : Int} {x10 : Int} {x11 : Int} {h : Heap} (H : f129.j7T R A0 n0 c0 x1 x10 x11 h) : f129.j7 R A0 n0 c0 x1 x10 x11 h :=
  pt_intro mixed f129.good (Eq.mpr (show (Fwd Try.prog f129.T f129.kp Try.f129 R [true, false, false, false, false, false, false, false, true, true, true, true, true, true, true, true, true] (mkFr [(0, (Value.slice A0 n0 c0)), (1, (Value.int .i64 x1)), (10, (Value.int .i64 x10)), (11, (Value.int .i64 x11))]) h) = (f129.j7T R A0 n0 c0 x1 x10 x11 h) by kernel_rfl) H)
set_option maxRecDepth 100000 in
def f129.j5T (R : Value → Heap → Prop) (A0 : Option Addr) (n0 : Nat) (c0 : Nat) (x1 : Int) (x10 : Int) (x11 : Int) (h : Heap) : Prop :=
  f129.l4 R A0 n0 c0 x1 x10 x11 h
set_option maxRecDepth 100000 in
theorem f129.j5_in {R : Value → Heap → Prop} {A0 : Option Addr} {n0 : Nat} {c0 : Nat} {x1 : Int} {x10 : Int} {x11 : Int} {h : Heap} (H : f129.j5T R A0 n0 c0 x1 x10 x11 h) : f129.j5 R A0 n0 c0 x1 x10 x11 h :=
  pt_intro mixed f129.good (Eq.mpr (show (Fwd Try.prog f129.T f129.kp Try.f129 R [true, false, false, false, false, true, true, true, true, true, true, true, true, true] (mkFr [(0, (Value.slice A0 n0 c0)), (1, (Value.int .i64 x1)), (10, (Value.int .i64 x10)), (11, (Value.int .i64 x11))]) h) = (f129.j5T R A0 n0 c0 x1 x10 x11 h) by kernel_rfl) H)
set_option maxRecDepth 100000 in
def f129.l4T (R : Value → Heap → Prop) (A0 : Option Addr) (n0 : Nat) (c0 : Nat) (x1 : Int) (x10 : Int) (x11 : Int) (h : Heap) : Prop :=
  splitB (decide (x10 ≤ x11)) (ptrOk A0 fun a1_ => 0 ≤ x11 ∧ x11 < ((n0 : Nat) : Int) ∧ (ptrOk A0 fun a2_ => 0 ≤ x1 ∧ x1 < ((n0 : Nat) : Int) ∧ (∃ v3_, ldv false 1 h (Addr.add a1_ (Int.toNat x11 * 1)) = some v3_ ∧ ∃ x4_, v3_ = (Value.int .i64 x4_) ∧ ∃ v5_, ldv false 1 h (Addr.add a2_ (Int.toNat x1 * 1)) = some v5_ ∧ ∃ x6_, v5_ = (Value.int .i64 x6_) ∧ Run Try.prog 127 #[(Value.int .i64 x4_), (Value.int .i64 x6_)] h fun v7_ h8_ => ∃ b9_, v7_ = (Value.bool b9_) ∧ splitB (!b9_) (f129.j8 R A0 n0 c0 x1 x10 x11 h8_) (f129.j6 R A0 n0 c0 x1 x10 x11 h8_)))) (f129.j6 R A0 n0 c0 x1 x10 x11 h)
set_option maxRecDepth 100000 in
theorem f129.l4_in {R : Value → Heap → Prop} {A0 : Option Addr} {n0 : Nat} {c0 : Nat} {x1 : Int} {x10 : Int} {x11 : Int} {h : Heap} (H : f129.l4T R A0 n0 c0 x1 x10 x11 h) : f129.l4 R A0 n0 c0 x1 x10 x11 h :=
  pt_intro mixed f129.good (Eq.mpr (show (Fwd Try.prog f129.T f129.kp Try.f129 R [false, false, false, true, false, false, false, false, true, true, true, true, true, true, true, true, true] (mkFr [(0, (Value.slice A0 n0 c0)), (1, (Value.int .i64 x1)), (10, (Value.int .i64 x10)), (11, (Value.int .i64 x11))]) h) = (f129.l4T R A0 n0 c0 x1 x10 x11 h) by kernel_rfl) H)
set_option maxRecDepth 100000 in
def f129.j8T (R : Value → Heap → Prop) (A0 : Option Addr) (n0 : Nat) (c0 : Nat) (x1 : Int) (x10 : Int) (x11 : Int) (h : Heap) : Prop :=
  f129.l4 R A0 n0 c0 x1 x10 (IntKind.wrap .i64 (x11 - (1 : Int))) h
set_option maxRecDepth 100000 in
theorem f129.j8_in {R : Value → Heap → Prop} {A0 : Option Addr} {n0 : Nat} {c0 : Nat} {x1 : Int} {x10 : Int} {x11 : Int} {h : Heap} (H : f129.j8T R A0 n0 c0 x1 x10 x11 h) : f129.j8 R A0 n0 c0 x1 x10 x11 h :=
  pt_intro mixed f129.good (Eq.mpr (show (Fwd Try.prog f129.T f129.kp Try.f129 R [true, false, false, false, true, false, false, false, false, true, true, true, true, true, true, true, true, true] (mkFr [(0, (Value.slice A0 n0 c0)), (1, (Value.int .i64 x1)), (10, (Value.int .i64 x10)), (11, (Value.int .i64 x11))]) h) = (f129.j8T R A0 n0 c0 x1 x10 x11 h) by kernel_rfl) H)
set_option maxRecDepth 100000 in
def f129.j6T (R : Value → Heap → Prop) (A0 : Option Addr) (n0 : Nat) (c0 : Nat) (x1 : Int) (x10 : Int) (x11 : Int) (h : Heap) : Prop :=
  splitB (decide (x10 > x11)) (f129.j4 R A0 n0 c0 x1 x11 h) (ptrOk A0 fun a1_ => 0 ≤ x11 ∧ x11 < ((n0 : Nat) : Int) ∧ (ptrOk A0 fun a2_ => 0 ≤ x10 ∧ x10 < ((n0 : Nat) : Int) ∧ (∃ v3_, ldv false 1 h (Addr.add a1_ (Int.toNat x11 * 1)) = some v3_ ∧ ∃ x4_, v3_ = (Value.int .i64 x4_) ∧ ∃ v5_, ldv false 1 h (Addr.add a2_ (Int.toNat x10 * 1)) = some v5_ ∧ ∃ x6_, v5_ = (Value.int .i64 x6_) ∧ ptrOk A0 fun a7_ => 0 ≤ x10 ∧ x10 < ((n0 : Nat) : Int) ∧ (∃ h8_, st1 h (Addr.add a7_ (Int.toNat x10 * 1)) (Value.int .i64 x4_) = some h8_ ∧ ptrOk A0 fun a9_ => 0 ≤ x11 ∧ x11 < ((n0 : Nat) : Int) ∧ (∃ h10_, st1 h8_ (Addr.add a9_ (Int.toNat x11 * 1)) (Value.int .i64 x6_) = some h10_ ∧ f129.l2 R A0 n0 c0 x1 (IntKind.wrap .i64 (x10 + (1 : Int))) (IntKind.wrap .i64 (x11 - (1 : Int))) h10_)))))
set_option maxRecDepth 100000 in
theorem f129.j6_in {R : Value → Heap → Prop} {A0 : Option Addr} {n0 : Nat} {c0 : Nat} {x1 : Int} {x10 : Int} {x11 : Int} {h : Heap} (H : f129.j6T R A0 n0 c0 x1 x10 x11 h) : f129.j6 R A0 n0 c0 x1 x10 x11 h :=
  pt_intro mixed f129.good (Eq.mpr (show (Fwd Try.prog f129.T f129.kp Try.f129 R [true, true, false, false, false, false, true, true, true, true, true, true, true, true, true] (mkFr [(0, (Value.slice A0 n0 c0)), (1, (Value.int .i64 x1)), (10, (Value.int .i64 x10)), (11, (Value.int .i64 x11))]) h) = (f129.j6T R A0 n0 c0 x1 x10 x11 h) by kernel_rfl) H)
set_option maxRecDepth 100000 in
def f129.j4T (R : Value → Heap → Prop) (A0 : Option Addr) (n0 : Nat) (c0 : Nat) (x1 : Int) (x11 : Int) (h : Heap) : Prop :=
  ptrOk A0 fun a1_ => 0 ≤ x1 ∧ x1 < ((n0 : Nat) : Int) ∧ (ptrOk A0 fun a2_ => 0 ≤ x11 ∧ x11 < ((n0 : Nat) : Int) ∧ (∃ v3_, ldv false 1 h (Addr.add a1_ (Int.toNat x1 * 1)) = some v3_ ∧ ∃ x4_, v3_ = (Value.int .i64 x4_) ∧ ∃ v5_, ldv false 1 h (Addr.add a2_ (Int.toNat x11 * 1)) = some v5_ ∧ ∃ x6_, v5_ = (Value.int .i64 x6_) ∧ ptrOk A0 fun a7_ => 0 ≤ x11 ∧ x11 < ((n0 : Nat) : Int) ∧ (∃ h8_, st1 h (Addr.add a7_ (Int.toNat x11 * 1)) (Value.int .i64 x4_) = some h8_ ∧ ptrOk A0 fun a9_ => 0 ≤ x1 ∧ x1 < ((n0 : Nat) : Int) ∧ (∃ h10_, st1 h8_ (Addr.add a9_ (Int.toNat x1 * 1)) (Value.int .i64 x6_) = some h10_ ∧ R (Value.tuple #[(Value.int .i64 x11), (Value.bool false)]) h10_))))
set_option maxRecDepth 100000 in
theorem f129.j4_in {R : Value → Heap → Prop} {A0 : Option Addr} {n0 : Nat} {c0 : Nat} {x1 : Int} {x11 : Int} {h : Heap} (H : f129.j4T R A0 n0 c0 x1 x11 h) : f129.j4 R A0 n0 c0 x1 x11 h :=
  pt_intro mixed f129.good (Eq.mpr (show (Fwd Try.prog f129.T f129.kp Try.f129 R [true, true, true, true, true, true, true, true, true, true] (mkFr [(0, (Value.slice A0 n0 c0)), (1, (Value.int .i64 x1)), (11, (Value.int .i64 x11))]) h) = (f129.j4T R A0 n0 c0 x1 x11 h) by kernel_rfl) H)
set_option maxRecDepth 100000 in
def f129.runT (R : Value → Heap → Prop) (A0 : Option Addr) (n0 : Nat) (c0 : Nat) (x1 : Int) (x2 : Int) (x3 : Int) (h : Heap) : Prop :=
  ptrOk A0 fun a1_ => 0 ≤ x3 ∧ x3 < ((n0 : Nat) : Int) ∧ (ptrOk A0 fun a2_ => 0 ≤ x1 ∧ x1 < ((n0 : Nat) : Int) ∧ (∃ v3_, ldv false 1 h (Addr.add a1_ (Int.toNat x3 * 1)) = some v3_ ∧ ∃ x4_, v3_ = (Value.int .i64 x4_) ∧ ∃ v5_, ldv false 1 h (Addr.add a2_ (Int.toNat x1 * 1)) = some v5_ ∧ ∃ x6_, v5_ = (Value.int .i64 x6_) ∧ ptrOk A0 fun a7_ => 0 ≤ x1 ∧ x1 < ((n0 : Nat) : Int) ∧ (∃ h8_, st1 h (Addr.add a7_ (Int.toNat x1 * 1)) (Value.int .i64 x4_) = some h8_ ∧ ptrOk A0 fun a9_ => 0 ≤ x3 ∧ x3 < ((n0 : Nat) : Int) ∧ (∃ h10_, st1 h8_ (Addr.add a9_ (Int.toNat x3 * 1)) (Value.int .i64 x6_) = some h10_ ∧ f129.l0 R A0 n0 c0 x1 (IntKind.wrap .i64 (x1 + (1 : Int))) (IntKind.wrap .i64 (x2 - (1 : Int))) h10_))))
set_option maxRecDepth 100000 in
theorem f129.run {R : Value → Heap → Prop} {A0 : Option Addr} {n0 : Nat} {c0 : Nat} {x1 : Int} {x2 : Int} {x3 : Int} {h : Heap} (H : f129.runT R A0 n0 c0 x1 x2 x3 h) : Run Try.prog 129 #[(Value.slice A0 n0 c0), (Value.int .i64 x1), (Value.int .i64 x2), (Value.int .i64 x3)] h R :=
  run_of mixed Try.func129 (by kernel_rfl) (by kernel_rfl) f129.good (Eq.mpr (show (Fwd Try.prog f129.T f129.kp Try.f129 R [] (mkFr (argL [(Value.slice A0 n0 c0), (Value.int .i64 x1), (Value.int .i64 x2), (Value.int .i64 x3)] 0)) h) = (f129.runT R A0 n0 c0 x1 x2 x3 h) by kernel_rfl) H)
def f78.T : Tab := { sh := tSh, tup := tTup, keep := [], plan := [(17, (.take 0 (.take 1 (.take 2 (.split 2 (.take 3 (.take 4 (.take 5 (.take 6 (.take 8 (.take 9 (.take 10 (.take 7 (.take 11 (.eff false 12 (.take 13 (.take 14 .done)))))))))))))))))] }
def f78.kp : Keep := [([false, false, true, true], [0, 1, 2, 3, 8, 9]), ([true, true, true, true, false, false, false, true, true], [0, 1, 2, 3, 8, 9, 10]), ([true, true, true, true, true, true, false, false, false, true, true], [0, 1, 2, 3, 8, 9, 10, 11, 12]), ([true, false, true, true, true, true, true, true, false, false, false, true, true], [0, 1, 2, 3, 8, 9, 10, 11, 68]), ([true, true, true, true, true, true, true, false, false, false, true, true], [0, 1, 2, 3, 8, 9, 10, 11]), ([true, false, true, true, true, true, true, true, true, false, false, false, true, true], [0, 1, 2, 3, 8, 9, 10, 11, 87]), ([true, true, true, true, true, true, true, true, false, false, false, true, true], [0, 1, 2, 3, 10, 11])]
theorem f78.good : goodCode Try.prog f78.T (rootOf Try.f78) = true := by kernel_rfl
def f78.l0 (R : Value → Heap → Prop) (A0 : Option Addr) (n0 : Nat) (c0 : Nat) (x1 : Int) (x2 : Int) (x3 : Int) (b8 : Bool) (b9 : Bool) (h : Heap) : Prop := Pt Try.prog Try.f78 R [false, false, true, true] (mkFr [(0, (Value.slice A0 n0 c0)), (1, (Value.int .i64 x1)), (2, (Value.int .i64 x2)), (3, (Value.int .i64 x3)), (8, (Value.bool b8)), (9, (Value.bool b9))]) h
def f78.j0 (R : Value → Heap → Prop) (A0 : Option Addr) (n0 : Nat) (c0 : Nat) (x1 : Int) (x2 : Int) (x3 : Int) (b8 : Bool) (b9 : Bool) (x10 : Int) (h : Heap) : Prop := Pt Try.prog Try.f78 R [true, true, true, true, false, false, false, true, true] (mkFr [(0, (Value.slice A0 n0 c0)), (1, (Value.int .i64 x1)), (2, (Value.int .i64 x2)), (3, (Value.int .i64 x3)), (8, (Value.bool b8)), (9, (Value.bool b9)), (10, (Value.int .i64 x10))]) h
def f78.j1 (R : Value → Heap → Prop) (A0 : Option Addr) (n0 : Nat) (c0 : Nat) (x1 : Int) (x2 : Int) (x3 : Int) (b8 : Bool) (b9 : Bool) (x10 : Int) (x11 : Int) (x12 : Int) (h : Heap) : Prop := Pt Try.prog Try.f78 R [true, true, true, true, true, true, false, false, false, true, true] (mkFr [(0, (Value.slice A0 n0 c0)), (1, (Value.int .i64 x1)), (2, (Value.int .i64 x2)), (3, (Value.int .i64 x3)), (8, (Value.bool b8)), (9, (Value.bool b9)), (10, (Value.int .i64 x10)), (11, (Value.int .i64 x11)), (12, (Value.int .i64 x12))]) h
def f78.j3 (R : Value → Heap → Prop) (A0 : Option Addr) (n0 : Nat) (c0 : Nat) (x1 : Int) (x2 : Int) (x3 : Int) (b8 : Bool) (b9 : Bool) (x10 : Int) (x11 : Int) (b68 : Bool) (h : Heap) : Prop := Pt Try.prog Try.f78 R [true, false, true, true, true, true, true, true, false, false, false, true, true] (mkFr [(0, (Value.slice A0 n0 c0)), (1, (Value.int .i64 x1)), (2, (Value.int .i64 x2)), (3, (Value.int .i64 x3)), (8, (Value.bool b8)), (9, (Value.bool b9)), (10, (Value.int .i64 x10)), (11, (Value.int .i64 x11)), (68, (Value.bool b68))]) h
def f78.j2 (R : Value → Heap → Prop) (A0 : Option Addr) (n0 : Nat) (c0 : Nat) (x1 : Int) (x2 : Int) (x3 : Int) (b8 : Bool) (b9 : Bool) (x10 : Int) (x11 : Int) (h : Heap) : Prop := Pt Try.prog Try.f78 R [true, true, true, true, true, true, true, false, false, false, true, true] (mkFr [(0, (Value.slice A0 n0 c0)), (1, (Value.int .i64 x1)), (2, (Value.int .i64 x2)), (3, (Value.int .i64 x3)), (8, (Value.bool b8)), (9, (Value.bool b9)), (10, (Value.int .i64 x10)), (11, (Value.int .i64 x11))]) h
def f78.j5 (R : Value → Heap → Prop) (A0 : Option Addr) (n0 : Nat) (c0 : Nat) (x1 : Int) (x2 : Int) (x3 : Int) (b8 : Bool) (b9 : Bool) (x10 : Int) (x11 : Int) (b87 : Bool) (h : Heap) : Prop := Pt Try.prog Try.f78 R [true, false, true, true, true, true, true, true, true, false, false, false, true, true] (mkFr [(0, (Value.slice A0 n0 c0)), (1, (Value.int .i64 x1)), (2, (Value.int .i64 x2)), (3, (Value.int .i64 x3)), (8, (Value.bool b8)), (9, (Value.bool b9)), (10, (Value.int .i64 x10)), (11, (Value.int .i64 x11)), (87, (Value.bool b87))]) h
def f78.j4 (R : Value → Heap → Prop) (A0 : Option Addr) (n0 : Nat) (c0 : Nat) (x1 : Int) (x2 : Int) (x3 : Int) (x10 : Int) (x11 : Int) (h : Heap) : Prop := Pt Try.prog Try.f78 R [true, true, true, true, true, true, true, true, false, false, false, true, true] (mkFr [(0, (Value.slice A0 n0 c0)), (1, (Value.int .i64 x1)), (2, (Value.int .i64 x2)), (3, (Value.int .i64 x3)), (10, (Value.int .i64 x10)), (11, (Value.int .i64 x11))]) h
set_option maxRecDepth 100000 in
def f78.l0T (R : Value → Heap → Prop) (A0 : Option Addr) (n0 : Nat) (c0 : Nat) (x1 : Int) (x2 : Int) (x3 : Int) (b8 : Bool) (b9 : Bool) (h : Heap) : Prop :=
  splitB (decide ((IntKind.wrap .i64 (x2 - x1)) ≤ (12 : Int))) (Run Try.prog 121 #[(Value.slice A0 n0 c0), (Value.int .i64 x1), (Value.int .i64 x2)] h fun v1_ h2_ => v1_ = (Value.tuple #[]) ∧ R (Value.tuple #[]) h2_) (splitB (x3 == (0 : Int)) (Run Try.prog 122 #[(Value.slice A0 n0 c0), (Value.int .i64 x1), (Value.int .i64 x2)] h fun v3_ h4_ => v3_ = (Value.tuple #[]) ∧ R (Value.tuple #[]) h4_) (splitB (!b8) (Run Try.prog 123 #[(Value.slice A0 n0 c0), (Value.int .i64 x1), (Value.int .i64 x2)] h fun v5_ h6_ => v5_ = (Value.tuple #[]) ∧ f78.j0 R A0 n0 c0 x1 x2 (IntKind.wrap .i64 (x3 - (1 : Int))) b8 b9 (IntKind.wrap .i64 (x2 - x1)) h6_) (f78.j0 R A0 n0 c0 x1 x2 x3 b8 b9 (IntKind.wrap .i64 (x2 - x1)) h)))
set_option maxRecDepth 100000 in
theorem f78.l0_in {R : Value → Heap → Prop} {A0 : Option Addr} {n0 : Nat} {c0 : Nat} {x1 : Int} {x2 : Int} {x3 : Int} {b8 : Bool} {b9 : Bool} {h : Heap} (H : f78.l0T R A0 n0 c0 x1 x2 x3 b8 b9 h) : f78.l0 R A0 n0 c0 x1 x2 x3 b8 b9 h :=
  pt_intro mixed f78.good (Eq.mpr (show (Fwd Try.prog f78.T f78.kp Try.f78 R [false, false, true, true] (mkFr [(0, (Value.slice A0 n0 c0)), (1, (Value.int .i64 x1)), (2, (Value.int .i64 x2)), (3, (Value.int .i64 x3)), (8, (Value.bool b8)), (9, (Value.bool b9))]) h) = (f78.l0T R A0 n0 c0 x1 x2 x3 b8 b9 h) by kernel_rfl) H)
set_option maxRecDepth 100000 in
def f78.j0T (R : Value → Heap → Prop) (A0 : Option Addr) (n0 : Nat) (c0 : Nat) (x1 : Int) (x2 : Int) (x3 : Int) (b8 : Bool) (b9 : Bool) (x10 : Int) (h : Heap) : Prop :=
  Run Try.prog 124 #[(Value.slice A0 n0 c0), (Value.int .i64 x1), (Value.int .i64 x2)] h fun v1_ h2_ => ∃ x3_, ∃ x4_, v1_ = (Value.tuple #[(Value.int .i64 x3_), (Value.int .i64 x4_)]) ∧ splitB (x4_ == (2 : Int)) (Run Try.prog 125 #[(Value.slice A0 n0 c0), (Value.int .i64 x1), (Value.int .i64 x2)] h2_ fun v5_ h6_ => v5_ = (Value.tuple #[]) ∧ f78.j1 R A0 n0 c0 x1 x2 x3 b8 b9 x10 (IntKind.wrap .i64 ((IntKind.wrap .i64 (x2 - (1 : Int))) - (IntKind.wrap .i64 (x3_ - x1)))) (1 : Int) h6_) (f78.j1 R A0 n0 c0 x1 x2 x3 b8 b9 x10 x3_ x4_ h2_)
set_option maxRecDepth 100000 in
theorem f78.j0_in {R : Value → Heap → Prop} {A0 : Option Addr} {n0 : Nat} {c0 : Nat} {x1 : Int} {x2 : Int} {x3 : Int} {b8 : Bool} {b9 : Bool} {x10 : Int} {h : Heap} (H : f78.j0T R A0 n0 c0 x1 x2 x3 b8 b9 x10 h) : f78.j0 R A0 n0 c0 x1 x2 x3 b8 b9 x10 h :=
  pt_intro mixed f78.good (Eq.mpr (show (Fwd Try.prog f78.T f78.kp Try.f78 R [true, true, true, true, false, false, false, true, true] (mkFr [(0, (Value.slice A0 n0 c0)), (1, (Value.int .i64 x1)), (2, (Value.int .i64 x2)), (3, (Value.int .i64 x3)), (8, (Value.bool b8)), (9, (Value.bool b9)), (10, (Value.int .i64 x10))]) h) = (f78.j0T R A0 n0 c0 x1 x2 x3 b8 b9 x10 h) by kernel_rfl) H)
set_option maxRecDepth 100000 in
def f78.j1T (R : Value → Heap → Prop) (A0 : Option Addr) (n0 : Nat) (c0 : Nat) (x1 : Int) (x2 : Int) (x3 : Int) (b8 : Bool) (b9 : Bool) (x10 : Int) (x11 : Int) (x12 : Int) (h : Heap) : Prop :=
  splitB b8 (splitB b9 (f78.j3 R A0 n0 c0 x1 x2 x3 b8 b9 x10 x11 (x12 == (1 : Int)) h) (f78.j3 R A0 n0 c0 x1 x2 x3 b8 b9 x10 x11 false h)) (f78.j3 R A0 n0 c0 x1 x2 x3 b8 b9 x10 x11 false h)
set_option maxRecDepth 100000 in
theorem f78.j1_in {R : Value → Heap → Prop} {A0 : Option Addr} {n0 : Nat} {c0 : Nat} {x1 : Int} {x2 : Int} {x3 : Int} {b8 : Bool} {b9 : Bool} {x10 : Int} {x11 : Int} {x12 : Int} {h : Heap} (H : f78.j1T R A0 n0 c0 x1 x2 x3 b8 b9 x10 x11 x12 h) : f78.j1 R A0 n0 c0 x1 x2 x3 b8 b9 x10 x11 x12 h :=
  pt_intro mixed f78.good (Eq.mpr (show (Fwd Try.prog f78.T f78.kp Try.f78 R [true, true, true, true, true, true, false, false, false, true, true] (mkFr [(0, (Value.slice A0 n0 c0)), (1, (Value.int .i64 x1)), (2, (Value.int .i64 x2)), (3, (Value.int .i64 x3)), (8, (Value.bool b8)), (9, (Value.bool b9)), (10, (Value.int .i64 x10)), (11, (Value.int .i64 x11)), (12, (Value.int .i64 x12))]) h) = (f78.j1T R A0 n0 c0 x1 x2 x3 b8 b9 x10 x11 x12 h) by kernel_rfl) H)
set_option maxRecDepth 100000 in
def f78.j3T (R : Value → Heap → Prop) (A0 : Option Addr) (n0 : Nat) (c0 : Nat) (x1 : Int) (x2 : Int) (x3 : Int) (b8 : Bool) (b9 : Bool) (x10 : Int) (x11 : Int) (b68 : Bool) (h : Heap) : Prop :=
  splitB b68 (Run Try.prog 126 #[(Value.slice A0 n0 c0), (Value.int .i64 x1), (Value.int .i64 x2)] h fun v1_ h2_ => ∃ b3_, v1_ = (Value.bool b3_) ∧ splitB b3_ (R (Value.tuple #[]) h2_) (f78.j2 R A0 n0 c0 x1 x2 x3 b8 b9 x10 x11 h2_)) (f78.j2 R A0 n0 c0 x1 x2 x3 b8 b9 x10 x11 h)
set_option maxRecDepth 100000 in
theorem f78.j3_in {R : Value → Heap → Prop} {A0 : Option Addr} {n0 : Nat} {c0 : Nat} {x1 : Int} {x2 : Int} {x3 : Int} {b8 : Bool} {b9 : Bool} {x10 : Int} {x11 : Int} {b68 : Bool} {h : Heap} (H : f78.j3T R A0 n0 c0 x1 x2 x3 b8 b9 x10 x11 b68 h) : f78.j3 R A0 n0 c0 x1 x2 x3 b8 b9 x10 x11 b68 h :=
  pt_intro mixed f78.good (Eq.mpr (show (Fwd Try.prog f78.T f78.kp Try.f78 R [true, false, true, true, true, true, true, true, false, false, false, true, true] (mkFr [(0, (Value.slice A0 n0 c0)), (1, (Value.int .i64 x1)), (2, (Value.int .i64 x2)), (3, (Value.int .i64 x3)), (8, (Value.bool b8)), (9, (Value.bool b9)), (10, (Value.int .i64 x10)), (11, (Value.int .i64 x11)), (68, (Value.bool b68))]) h) = (f78.j3T R A0 n0 c0 x1 x2 x3 b8 b9 x10 x11 b68 h) by kernel_rfl) H)
set_option maxRecDepth 100000 in
def f78.j2T (R : Value → Heap → Prop) (A0 : Option Addr) (n0 : Nat) (c0 : Nat) (x1 : Int) (x2 : Int) (x3 : Int) (b8 : Bool) (b9 : Bool) (x10 : Int) (x11 : Int) (h : Heap) : Prop :=
  splitB (decide (x1 > (0 : Int))) (ptrOk A0 fun a1_ => 0 ≤ (IntKind.wrap .i64 (x1 - (1 : Int))) ∧ (IntKind.wrap .i64 (x1 - (1 : Int))) < ((n0 : Nat) : Int) ∧ (ptrOk A0 fun a2_ => 0 ≤ x11 ∧ x11 < ((n0 : Nat) : Int) ∧ (∃ v3_, ldv false 1 h (Addr.add a1_ (Int.toNat (IntKind.wrap .i64 (x1 - (1 : Int))) * 1)) = some v3_ ∧ ∃ x4_, v3_ = (Value.int .i64 x4_) ∧ ∃ v5_, ldv false 1 h (Addr.add a2_ (Int.toNat x11 * 1)) = some v5_ ∧ ∃ x6_, v5_ = (Value.int .i64 x6_) ∧ Run Try.prog 127 #[(Value.int .i64 x4_), (Value.int .i64 x6_)] h fun v7_ h8_ => ∃ b9_, v7_ = (Value.bool b9_) ∧ f78.j5 R A0 n0 c0 x1 x2 x3 b8 b9 x10 x11 (!b9_) h8_))) (f78.j5 R A0 n0 c0 x1 x2 x3 b8 b9 x10 x11 false h)
set_option maxRecDepth 100000 in
theorem f78.j2_in {R : Value → Heap → Prop} {A0 : Option Addr} {n0 : Nat} {c0 : Nat} {x1 : Int} {x2 : Int} {x3 : Int} {b8 : Bool} {b9 : Bool} {x10 : Int} {x11 : Int} {h : Heap} (H : f78.j2T R A0 n0 c0 x1 x2 x3 b8 b9 x10 x11 h) : f78.j2 R A0 n0 c0 x1 x2 x3 b8 b9 x10 x11 h :=
  pt_intro mixed f78.good (Eq.mpr (show (Fwd Try.prog f78.T f78.kp Try.f78 R [true, true, true, true, true, true, true, false, false, false, true, true] (mkFr [(0, (Value.slice A0 n0 c0)), (1, (Value.int .i64 x1)), (2, (Value.int .i64 x2)), (3, (Value.int .i64 x3)), (8, (Value.bool b8)), (9, (Value.bool b9)), (10, (Value.int .i64 x10)), (11, (Value.int .i64 x11))]) h) = (f78.j2T R A0 n0 c0 x1 x2 x3 b8 b9 x10 x11 h) by kernel_rfl) H)
set_option maxRecDepth 100000 in
def f78.j5T (R : Value → Heap → Prop) (A0 : Option Addr) (n0 : Nat) (c0 : Nat) (x1 : Int) (x2 : Int) (x3 : Int) (b8 : Bool) (b9 : Bool) (x10 : Int) (x11 : Int) (b87 : Bool) (h : Heap) : Prop :=
  splitB b87 (Run Try.prog 128 #[(Value.slice A0 n0 c0), (Value.int .i64 x1), (Value.int .i64 x2), (Value.int .i64 x11)] h fun v1_ h2_ => ∃ x3_, v1_ = (Value.int .i64 x3_) ∧ f78.l0 R A0 n0 c0 x3_ x2 x3 b8 b9 h2_) (f78.j4 R A0 n0 c0 x1 x2 x3 x10 x11 h)
set_option maxRecDepth 100000 in
theorem f78.j5_in {R : Value → Heap → Prop} {A0 : Option Addr} {n0 : Nat} {c0 : Nat} {x1 : Int} {x2 : Int} {x3 : Int} {b8 : Bool} {b9 : Bool} {x10 : Int} {x11 : Int} {b87 : Bool} {h : Heap} (H : f78.j5T R A0 n0 c0 x1 x2 x3 b8 b9 x10 x11 b87 h) : f78.j5 R A0 n0 c0 x1 x2 x3 b8 b9 x10 x11 b87 h :=
  pt_intro mixed f78.good (Eq.mpr (show (Fwd Try.prog f78.T f78.kp Try.f78 R [true, false, true, true, true, true, true, true, true, false, false, false, true, true] (mkFr [(0, (Value.slice A0 n0 c0)), (1, (Value.int .i64 x1)), (2, (Value.int .i64 x2)), (3, (Value.int .i64 x3)), (8, (Value.bool b8)), (9, (Value.bool b9)), (10, (Value.int .i64 x10)), (11, (Value.int .i64 x11)), (87, (Value.bool b87))]) h) = (f78.j5T R A0 n0 c0 x1 x2 x3 b8 b9 x10 x11 b87 h) by kernel_rfl) H)
set_option maxRecDepth 100000 in
def f78.j4T (R : Value → Heap → Prop) (A0 : Option Addr) (n0 : Nat) (c0 : Nat) (x1 : Int) (x2 : Int) (x3 : Int) (x10 : Int) (x11 : Int) (h : Heap) : Prop :=
  Run Try.prog 129 #[(Value.slice A0 n0 c0), (Value.int .i64 x1), (Value.int .i64 x2), (Value.int .i64 x11)] h fun v1_ h2_ => ∃ x3_, ∃ b4_, v1_ = (Value.tuple #[(Value.int .i64 x3_), (Value.bool b4_)]) ∧ (8 : Int) ≠ 0 ∧ (splitB (decide ((IntKind.wrap .i64 (x3_ - x1)) < (IntKind.wrap .i64 (x2 - x3_)))) (Run Try.prog 78 #[(Value.slice A0 n0 c0), (Value.int .i64 x1), (Value.int .i64 x3_), (Value.int .i64 x3)] h2_ fun v5_ h6_ => v5_ = (Value.tuple #[]) ∧ f78.l0 R A0 n0 c0 (IntKind.wrap .i64 (x3_ + (1 : Int))) x2 x3 (decide ((IntKind.wrap .i64 (x3_ - x1)) ≥ (IntKind.wrap .i64 (Int.tdiv x10 (8 : Int))))) b4_ h6_) (Run Try.prog 78 #[(Value.slice A0 n0 c0), (Value.int .i64 (IntKind.wrap .i64 (x3_ + (1 : Int)))), (Value.int .i64 x2), (Value.int .i64 x3)] h2_ fun v7_ h8_ => v7_ = (Value.tuple #[]) ∧ f78.l0 R A0 n0 c0 x1 x3_ x3 (decide ((IntKind.wrap .i64 (x2 - x3_)) ≥ (IntKind.wrap .i64 (Int.tdiv x10 (8 : Int))))) b4_ h8_))
set_option maxRecDepth 100000 in
theorem f78.j4_in {R : Value → Heap → Prop} {A0 : Option Addr} {n0 : Nat} {c0 : Nat} {x1 : Int} {x2 : Int} {x3 : Int} {x10 : Int} {x11 : Int} {h : Heap} (H : f78.j4T R A0 n0 c0 x1 x2 x3 x10 x11 h) : f78.j4 R A0 n0 c0 x1 x2 x3 x10 x11 h :=
  pt_intro mixed f78.good (Eq.mpr (show (Fwd Try.prog f78.T f78.kp Try.f78 R [true, true, true, true, true, true, true, true, false, false, false, true, true] (mkFr [(0, (Value.slice A0 n0 c0)), (1, (Value.int .i64 x1)), (2, (Value.int .i64 x2)), (3, (Value.int .i64 x3)), (10, (Value.int .i64 x10)), (11, (Value.int .i64 x11))]) h) = (f78.j4T R A0 n0 c0 x1 x2 x3 x10 x11 h) by kernel_rfl) H)
set_option maxRecDepth 100000 in
def f78.runT (R : Value → Heap → Prop) (A0 : Option Addr) (n0 : Nat) (c0 : Nat) (x1 : Int) (x2 : Int) (x3 : Int) (h : Heap) : Prop :=
  f78.l0 R A0 n0 c0 x1 x2 x3 true true h
set_option maxRecDepth 100000 in
theorem f78.run {R : Value → Heap → Prop} {A0 : Option Addr} {n0 : Nat} {c0 : Nat} {x1 : Int} {x2 : Int} {x3 : Int} {h : Heap} (H : f78.runT R A0 n0 c0 x1 x2 x3 h) : Run Try.prog 78 #[(Value.slice A0 n0 c0), (Value.int .i64 x1), (Value.int .i64 x2), (Value.int .i64 x3)] h R :=
  run_of mixed Try.func78 (by kernel_rfl) (by kernel_rfl) f78.good (Eq.mpr (show (Fwd Try.prog f78.T f78.kp Try.f78 R [] (mkFr (argL [(Value.slice A0 n0 c0), (Value.int .i64 x1), (Value.int .i64 x2), (Value.int .i64 x3)] 0)) h) = (f78.runT R A0 n0 c0 x1 x2 x3 h) by kernel_rfl) H)
def f14.T : Tab := { sh := tSh, tup := tTup, keep := [], plan := [] }
def f14.kp : Keep := []
theorem f14.good : goodCode Try.prog f14.T (rootOf Try.f14) = true := by kernel_rfl
set_option maxRecDepth 100000 in
def f14.runT (R : Value → Heap → Prop) (A0 : Option Addr) (n0 : Nat) (c0 : Nat) (h : Heap) : Prop :=
  Run Try.prog 79 #[(Value.int .u64 (IntKind.wrap .u64 ((n0 : Nat) : Int)))] h fun v1_ h2_ => ∃ x3_, v1_ = (Value.int .i64 x3_) ∧ Run Try.prog 78 #[(Value.slice A0 n0 c0), (Value.int .i64 (0 : Int)), (Value.int .i64 ((n0 : Nat) : Int)), (Value.int .i64 x3_)] h2_ fun v4_ h5_ => v4_ = (Value.tuple #[]) ∧ R (Value.tuple #[]) h5_
set_option maxRecDepth 100000 in
theorem f14.run {R : Value → Heap → Prop} {A0 : Option Addr} {n0 : Nat} {c0 : Nat} {h : Heap} (H : f14.runT R A0 n0 c0 h) : Run Try.prog 14 #[(Value.slice A0 n0 c0)] h R :=
  run_of mixed Try.func14 (by kernel_rfl) (by kernel_rfl) f14.good (Eq.mpr (show (Fwd Try.prog f14.T f14.kp Try.f14 R [] (mkFr (argL [(Value.slice A0 n0 c0)] 0)) h) = (f14.runT R A0 n0 c0 h) by kernel_rfl) H)
def f76.T : Tab := { sh := tSh, tup := tTup, keep := [], plan := [] }
def f76.kp : Keep := [([false, false, true, false, true, true, true], [4, 13, 14, 15])]
theorem f76.good : goodCode Try.prog f76.T (rootOf Try.f76) = true := by kernel_rfl
def f76.l0 (R : Value → Heap → Prop) (v4 : Value) (A13 : Option Addr) (n13 : Nat) (c13 : Nat) (x14 : Int) (x15 : Int) (h : Heap) : Prop := Pt Try.prog Try.f76 R [false, false, true, false, true, true, true] (mkFr [(4, v4), (13, (Value.slice A13 n13 c13)), (14, (Value.int .i64 x14)), (15, (Value.int .i64 x15))]) h
set_option maxRecDepth 100000 in
def f76.l0T (R : Value → Heap → Prop) (v4 : Value) (A13 : Option Addr) (n13 : Nat) (c13 : Nat) (x14 : Int) (x15 : Int) (h : Heap) : Prop :=
  splitB (decide (x15 < x14)) (ptrOk A13 fun a1_ => 0 ≤ x15 ∧ x15 < ((n13 : Nat) : Int) ∧ (∃ v2_, ldv true 4 h (Addr.add a1_ (Int.toNat x15 * 4)) = some v2_ ∧ newH h (Obj.cells #[(Value.int .i64 (0 : Int)), (Value.bool false), (Value.bool false), (Value.slice none 0 0)] 28) fun h3_ => ∃ l5_ : List Value, v2_ = Value.agg l5_.toArray ∧ l5_.length = 4 ∧ ∃ h4_, stH h3_ (⟨Array.size h, 0, none⟩) l5_ 0 = some h4_ ∧ ∃ v6_, ldv false 1 h4_ (⟨Array.size h, 0, none⟩) = some v6_ ∧ ∃ x7_, v6_ = (Value.int .i64 x7_) ∧ Gen Try.prog (Instr.lookup 137 v4 (Value.int .i64 x7_) true) h4_ fun v8_ h9_ => ∃ x10_, ∃ b11_, v8_ = (Value.tuple #[(Value.int .i64 x10_), (Value.bool b11_)]) ∧ splitB b11_ (R (Value.tuple #[(Value.map none), (Value.int .i64 (5 : Int))]) h9_) (∃ v12_, ldv false 1 h9_ (⟨Array.size h, 0, none⟩) = some v12_ ∧ ∃ x13_, v12_ = (Value.int .i64 x13_) ∧ Hwp Try.prog (Instr.mapUpdate 137 v4 (Value.int .i64 x13_) (Value.int .i64 x15)) h9_ fun _ h14_ => f76.l0 R v4 A13 n13 c13 x14 (IntKind.wrap .i64 (x15 + (1 : Int))) h14_))) (R (Value.tuple #[v4, (Value.int .i64 (0 : Int))]) h)
set_option maxRecDepth 100000 in
theorem f76.l0_in {R : Value → Heap → Prop} {v4 : Value} {A13 : Option Addr} {n13 : Nat} {c13 : Nat} {x14 : Int} {x15 : Int} {h : Heap} (H : f76.l0T R v4 A13 n13 c13 x14 x15 h) : f76.l0 R v4 A13 n13 c13 x14 x15 h :=
  pt_intro mixed f76.good (Eq.mpr (show (Fwd Try.prog f76.T f76.kp Try.f76 R [false, false, true, false, true, true, true] (mkFr [(4, v4), (13, (Value.slice A13 n13 c13)), (14, (Value.int .i64 x14)), (15, (Value.int .i64 x15))]) h) = (f76.l0T R v4 A13 n13 c13 x14 x15 h) by kernel_rfl) H)
set_option maxRecDepth 100000 in
def f76.runT (R : Value → Heap → Prop) (A0 : Option Addr) (n0 : Nat) (c0 : Nat) (h : Heap) : Prop :=
  splitB (decide (((n0 : Nat) : Int) > (480 : Int))) (R (Value.tuple #[(Value.map none), (Value.int .i64 (2 : Int))]) h) (Gen Try.prog (Instr.makeMap 137 none) h fun v1_ h2_ => f76.l0 R v1_ A0 n0 c0 ((n0 : Nat) : Int) (0 : Int) h2_)
set_option maxRecDepth 100000 in
theorem f76.run {R : Value → Heap → Prop} {A0 : Option Addr} {n0 : Nat} {c0 : Nat} {h : Heap} (H : f76.runT R A0 n0 c0 h) : Run Try.prog 76 #[(Value.slice A0 n0 c0)] h R :=
  run_of mixed Try.func76 (by kernel_rfl) (by kernel_rfl) f76.good (Eq.mpr (show (Fwd Try.prog f76.T f76.kp Try.f76 R [] (mkFr (argL [(Value.slice A0 n0 c0)] 0)) h) = (f76.runT R A0 n0 c0 h) by kernel_rfl) H)
def f80.T : Tab := { sh := tSh, tup := tTup, keep := [], plan := [] }
def f80.kp : Keep := []
theorem f80.good : goodCode Try.prog f80.T (rootOf Try.f80) = true := by kernel_rfl
set_option maxRecDepth 100000 in
def f80.runT (R : Value → Heap → Prop) (A0 : Option Addr) (n0 : Nat) (c0 : Nat) (h : Heap) : Prop :=
  splitB (Option.isNone A0) (R (Value.slice none 0 0) h) (newH h (Obj.cells #[] 3) fun h1_ => AppW 3 1 8 #[(Value.int .i64 (0 : Int))] (some ⟨Array.size h, 0, none⟩) 0 0 (Value.slice A0 n0 c0) h1_ fun v2_ h3_ => ∃ A4_, ∃ n4_, ∃ c4_, v2_ = (Value.slice A4_ n4_ c4_) ∧ R (Value.slice A4_ n4_ c4_) h3_)
set_option maxRecDepth 100000 in
theorem f80.run {R : Value → Heap → Prop} {A0 : Option Addr} {n0 : Nat} {c0 : Nat} {h : Heap} (H : f80.runT R A0 n0 c0 h) : Run Try.prog 80 #[(Value.slice A0 n0 c0)] h R :=
  run_of mixed Try.func80 (by kernel_rfl) (by kernel_rfl) f80.good (Eq.mpr (show (Fwd Try.prog f80.T f80.kp Try.f80 R [] (mkFr (argL [(Value.slice A0 n0 c0)] 0)) h) = (f80.runT R A0 n0 c0 h) by kernel_rfl) H)
def f81.T : Tab := { sh := tSh, tup := tTup, keep := [], plan := [] }
def f81.kp : Keep := [([false, false, true], [0, 4])]
theorem f81.good : goodCode Try.prog f81.T (rootOf Try.f81) = true := by kernel_rfl
def f81.l0 (R : Value → Heap → Prop) (a0 : Addr) (A4 : Option Addr) (n4 : Nat) (c4 : Nat) (h : Heap) : Prop := Pt Try.prog Try.f81 R [false, false, true] (mkFr [(0, (Value.pointer (some a0))), (4, (Value.slice A4 n4 c4))]) h
set_option maxRecDepth 100000 in
def f81.l0T (R : Value → Heap → Prop) (a0 : Addr) (A4 : Option Addr) (n4 : Nat) (c4 : Nat) (h : Heap) : Prop :=
  splitB (decide (((n4 : Nat) : Int) > (0 : Int))) (ptrOk A4 fun a1_ => 0 ≤ (0 : Int) ∧ (0 : Int) < ((n4 : Nat) : Int) ∧ (∃ v2_, ldv false 1 h (Addr.add a1_ (Int.toNat (0 : Int) * 1)) = some v2_ ∧ ∃ x3_, v2_ = (Value.int .i64 x3_) ∧ 0 ≤ (1 : Int) ∧ (1 : Int) ≤ ((n4 : Nat) : Int) ∧ ((n4 : Nat) : Int) ≤ ((c4 : Nat) : Int) ∧ (∃ v4_, ldv false 1 h (Addr.add a0 1) = some v4_ ∧ Gen Try.prog (Instr.lookup 137 v4_ (Value.int .i64 x3_) true) h fun v5_ h6_ => ∃ x7_, ∃ b8_, v5_ = (Value.tuple #[(Value.int .i64 x7_), (Value.bool b8_)]) ∧ ∃ v9_, ldv false 1 h6_ (Addr.add a0 2) = some v9_ ∧ Gen Try.prog (Instr.lookup 59 v9_ (Value.int .i64 x3_) false) h6_ fun v10_ h11_ => ∃ b12_, v10_ = (Value.bool b12_) ∧ splitB b12_ (f81.l0 R a0 (sliceA A4 (Int.toNat (1 : Int)) c4 1) (Int.toNat ((n4 : Nat) : Int) - Int.toNat (1 : Int)) (c4 - Int.toNat (1 : Int)) h11_) (∃ v13_, ldv false 1 h11_ (Addr.add a0 2) = some v13_ ∧ Hwp Try.prog (Instr.mapUpdate 59 v13_ (Value.int .i64 x3_) (Value.bool true)) h11_ fun _ h14_ => splitB (!b8_) (∃ v15_, ldv false 1 h14_ (Addr.add a0 3) = some v15_ ∧ ∃ A16_, ∃ n16_, ∃ c16_, v15_ = (Value.slice A16_ n16_ c16_) ∧ newH h14_ (Obj.cells #[(Value.int .i64 x3_)] 3) fun h17_ => AppW 3 1 8 #[(Value.int .i64 (0 : Int))] A16_ n16_ c16_ (Value.slice (some ⟨Array.size h14_, 0, none⟩) 1 1) h17_ fun v18_ h19_ => ∃ A20_, ∃ n20_, ∃ c20_, v18_ = (Value.slice A20_ n20_ c20_) ∧ ∃ h21_, st1 h19_ (Addr.add a0 3) (Value.slice A20_ n20_ c20_) = some h21_ ∧ ∃ v22_, ldv false 1 h21_ (Addr.add a0 4) = some v22_ ∧ ∃ x23_, v22_ = (Value.int .i64 x23_) ∧ ∃ h24_, st1 h21_ (Addr.add a0 4) (Value.int .i64 (IntKind.wrap .i64 (x23_ + (1 : Int)))) = some h24_ ∧ f81.l0 R a0 (sliceA A4 (Int.toNat (1 : Int)) c4 1) (Int.toNat ((n4 : Nat) : Int) - Int.toNat (1 : Int)) (c4 - Int.toNat (1 : Int)) h24_) (∃ v25_, ldv false 1 h14_ a0 = some v25_ ∧ ∃ A26_, ∃ n26_, ∃ c26_, v25_ = (Value.slice A26_ n26_ c26_) ∧ ptrOk A26_ fun a27_ => 0 ≤ x7_ ∧ x7_ < ((n26_ : Nat) : Int) ∧ (∃ v28_, ldv false 1 h14_ (Addr.add (Addr.add a27_ (Int.toNat x7_ * 4)) 3) = some v28_ ∧ ∃ A29_, ∃ n29_, ∃ c29_, v28_ = (Value.slice A29_ n29_ c29_) ∧ AppW 3 1 8 #[(Value.int .i64 (0 : Int))] (sliceA A4 (Int.toNat (1 : Int)) c4 1) (Int.toNat ((n4 : Nat) : Int) - Int.toNat (1 : Int)) (c4 - Int.toNat (1 : Int)) (Value.slice A29_ n29_ c29_) h14_ fun v30_ h31_ => ∃ A32_, ∃ n32_, ∃ c32_, v30_ = (Value.slice A32_ n32_ c32_) ∧ f81.l0 R a0 A32_ n32_ c32_ h31_)))))) (R (Value.tuple #[]) h)
set_option maxRecDepth 100000 in
theorem f81.l0_in {R : Value → Heap → Prop} {a0 : Addr} {A4 : Option Addr} {n4 : Nat} {c4 : Nat} {h : Heap} (H : f81.l0T R a0 A4 n4 c4 h) : f81.l0 R a0 A4 n4 c4 h :=
  pt_intro mixed f81.good (Eq.mpr (show (Fwd Try.prog f81.T f81.kp Try.f81 R [false, false, true] (mkFr [(0, (Value.pointer (some a0))), (4, (Value.slice A4 n4 c4))]) h) = (f81.l0T R a0 A4 n4 c4 h) by kernel_rfl) H)
set_option maxRecDepth 100000 in
def f81.runT (R : Value → Heap → Prop) (a0 : Addr) (x1 : Int) (h : Heap) : Prop :=
  newH h (Obj.cells #[(Value.int .i64 x1)] 3) fun h1_ => f81.l0 R a0 (some ⟨Array.size h, 0, none⟩) 1 1 h1_
set_option maxRecDepth 100000 in
theorem f81.run {R : Value → Heap → Prop} {a0 : Addr} {x1 : Int} {h : Heap} (H : f81.runT R a0 x1 h) : Run Try.prog 81 #[(Value.pointer (some a0)), (Value.int .i64 x1)] h R :=
  run_of mixed Try.func81 (by kernel_rfl) (by kernel_rfl) f81.good (Eq.mpr (show (Fwd Try.prog f81.T f81.kp Try.f81 R [] (mkFr (argL [(Value.pointer (some a0)), (Value.int .i64 x1)] 0)) h) = (f81.runT R a0 x1 h) by kernel_rfl) H)
def f17.T : Tab := { sh := tSh, tup := tTup, keep := [], plan := [(9, (.take 0 (.take 1 (.take 2 (.take 3 (.take 4 (.take 5 (.eff true 6 (.eff false 7 (.take 8 (.take 9 (.eff false 10 .done))))))))))))] }
def f17.kp : Keep := [([false, false, true, false, true, true, true, true], [0, 6, 23, 24, 25]), ([false, false, true, false, true, true, true, true, true], [6, 44, 45, 46]), ([true, true, false, false, true, true, false, false, true, false, true, true, true, true, true], [6, 10, 44, 45, 46, 55])]
theorem f17.good : goodCode Try.prog f17.T (rootOf Try.f17) = true := by kernel_rfl
def f17.l0 (R : Value → Heap → Prop) (A0 : Option Addr) (n0 : Nat) (c0 : Nat) (a6 : Addr) (A23 : Option Addr) (n23 : Nat) (c23 : Nat) (x24 : Int) (x25 : Int) (h : Heap) : Prop := Pt Try.prog Try.f17 R [false, false, true, false, true, true, true, true] (mkFr [(0, (Value.slice A0 n0 c0)), (6, (Value.pointer (some a6))), (23, (Value.slice A23 n23 c23)), (24, (Value.int .i64 x24)), (25, (Value.int .i64 x25))]) h
def f17.l1 (R : Value → Heap → Prop) (a6 : Addr) (A44 : Option Addr) (n44 : Nat) (c44 : Nat) (x45 : Int) (x46 : Int) (h : Heap) : Prop := Pt Try.prog Try.f17 R [false, false, true, false, true, true, true, true, true] (mkFr [(6, (Value.pointer (some a6))), (44, (Value.slice A44 n44 c44)), (45, (Value.int .i64 x45)), (46, (Value.int .i64 x46))]) h
def f17.j0 (R : Value → Heap → Prop) (a6 : Addr) (a10 : Addr) (A44 : Option Addr) (n44 : Nat) (c44 : Nat) (x45 : Int) (x46 : Int) (b55 : Bool) (h : Heap) : Prop := Pt Try.prog Try.f17 R [true, true, false, false, true, true, false, false, true, false, true, true, true, true, true] (mkFr [(6, (Value.pointer (some a6))), (10, (Value.pointer (some a10))), (44, (Value.slice A44 n44 c44)), (45, (Value.int .i64 x45)), (46, (Value.int .i64 x46)), (55, (Value.bool b55))]) h
set_option maxRecDepth 100000 in
def f17.l0T (R : Value → Heap → Prop) (A0 : Option Addr) (n0 : Nat) (c0 : Nat) (a6 : Addr) (A23 : Option Addr) (n23 : Nat) (c23 : Nat) (x24 : Int) (x25 : Int) (h : Heap) : Prop :=
  splitB (decide (x25 < x24)) (ptrOk A23 fun a1_ => 0 ≤ x25 ∧ x25 < ((n23 : Nat) : Int) ∧ (∃ v2_, ldv true 4 h (Addr.add a1_ (Int.toNat x25 * 4)) = some v2_ ∧ newH h (Obj.cells #[(Value.int .i64 (0 : Int)), (Value.bool false), (Value.bool false), (Value.slice none 0 0)] 28) fun h3_ => ∃ l5_ : List Value, v2_ = Value.agg l5_.toArray ∧ l5_.length = 4 ∧ ∃ h4_, stH h3_ (⟨Array.size h, 0, none⟩) l5_ 0 = some h4_ ∧ ∃ v6_, ldv false 1 h4_ (Addr.add (⟨Array.size h, 0, none⟩) 3) = some v6_ ∧ ∃ A7_, ∃ n7_, ∃ c7_, v6_ = (Value.slice A7_ n7_ c7_) ∧ Run Try.prog 80 #[(Value.slice A7_ n7_ c7_)] h4_ fun v8_ h9_ => ∃ A10_, ∃ n10_, ∃ c10_, v8_ = (Value.slice A10_ n10_ c10_) ∧ ∃ h11_, st1 h9_ (Addr.add (⟨Array.size h, 0, none⟩) 3) (Value.slice A10_ n10_ c10_) = some h11_ ∧ ∃ v12_, ldv false 1 h11_ a6 = some v12_ ∧ ∃ A13_, ∃ n13_, ∃ c13_, v12_ = (Value.slice A13_ n13_ c13_) ∧ ∃ v14_, ldv true 4 h11_ (⟨Array.size h, 0, none⟩) = some v14_ ∧ ∃ l15_ : List Value, v14_ = Value.agg l15_.toArray ∧ l15_.length = 4 ∧ (newH h11_ (Obj.cells ((List.take 0 ([(Value.int .i64 (0 : Int)), (Value.bool false), (Value.bool false), (Value.slice none 0 0)]) ++ l15_ ++ List.drop 4 ([(Value.int .i64 (0 : Int)), (Value.bool false), (Value.bool false), (Value.slice none 0 0)])).toArray) 28) fun h16_ => Ext h11_ h16_ ∧ (AppW 28 4 40 #[(Value.int .i64 (0 : Int)), (Value.bool false), (Value.bool false), (Value.slice none 0 0)] A13_ n13_ c13_ (Value.slice (some ⟨Array.size h11_, 0, none⟩) 1 1) h16_ fun v17_ h18_ => ∃ A19_, ∃ n19_, ∃ c19_, v17_ = (Value.slice A19_ n19_ c19_) ∧ ∃ h20_, st1 h18_ a6 (Value.slice A19_ n19_ c19_) = some h20_ ∧ f17.l0 R A0 n0 c0 a6 A23 n23 c23 x24 (IntKind.wrap .i64 (x25 + (1 : Int))) h20_)))) (f17.l1 R a6 A0 n0 c0 ((n0 : Nat) : Int) (0 : Int) h)
set_option maxRecDepth 100000 in
theorem f17.l0_in {R : Value → Heap → Prop} {A0 : Option Addr} {n0 : Nat} {c0 : Nat} {a6 : Addr} {A23 : Option Addr} {n23 : Nat} {c23 : Nat} {x24 : Int} {x25 : Int} {h : Heap} (H : f17.l0T R A0 n0 c0 a6 A23 n23 c23 x24 x25 h) : f17.l0 R A0 n0 c0 a6 A23 n23 c23 x24 x25 h :=
  pt_intro mixed f17.good (Eq.mpr (show (Fwd Try.prog f17.T f17.kp Try.f17 R [false, false, true, false, true, true, true, true] (mkFr [(0, (Value.slice A0 n0 c0)), (6, (Value.pointer (some a6))), (23, (Value.slice A23 n23 c23)), (24, (Value.int .i64 x24)), (25, (Value.int .i64 x25))]) h) = (f17.l0T R A0 n0 c0 a6 A23 n23 c23 x24 x25 h) by kernel_rfl) H)
set_option maxRecDepth 100000 in
def f17.l1T (R : Value → Heap → Prop) (a6 : Addr) (A44 : Option Addr) (n44 : Nat) (c44 : Nat) (x45 : Int) (x46 : Int) (h : Heap) : Prop :=
  splitB (decide (x46 < x45)) (ptrOk A44 fun a1_ => 0 ≤ x46 ∧ x46 < ((n44 : Nat) : Int) ∧ (∃ v2_, ldv true 4 h (Addr.add a1_ (Int.toNat x46 * 4)) = some v2_ ∧ newH h (Obj.cells #[(Value.int .i64 (0 : Int)), (Value.bool false), (Value.bool false), (Value.slice none 0 0)] 28) fun h3_ => ∃ l5_ : List Value, v2_ = Value.agg l5_.toArray ∧ l5_.length = 4 ∧ ∃ h4_, stH h3_ (⟨Array.size h, 0, none⟩) l5_ 0 = some h4_ ∧ ∃ v6_, ldv false 1 h4_ (Addr.add (⟨Array.size h, 0, none⟩) 2) = some v6_ ∧ ∃ b7_, v6_ = (Value.bool b7_) ∧ splitB b7_ (f17.j0 R a6 (⟨Array.size h, 0, none⟩) A44 n44 c44 x45 x46 true h4_) (∃ v8_, ldv false 1 h4_ (Addr.add (⟨Array.size h, 0, none⟩) 1) = some v8_ ∧ ∃ b9_, v8_ = (Value.bool b9_) ∧ f17.j0 R a6 (⟨Array.size h, 0, none⟩) A44 n44 c44 x45 x46 b9_ h4_))) (R (Value.tuple #[(Value.pointer (some a6)), (Value.int .i64 (0 : Int))]) h)
set_option maxRecDepth 100000 in
theorem f17.l1_in {R : Value → Heap → Prop} {a6 : Addr} {A44 : Option Addr} {n44 : Nat} {c44 : Nat} {x45 : Int} {x46 : Int} {h : Heap} (H : f17.l1T R a6 A44 n44 c44 x45 x46 h) : f17.l1 R a6 A44 n44 c44 x45 x46 h :=
  pt_intro mixed f17.good (Eq.mpr (show (Fwd Try.prog f17.T f17.kp Try.f17 R [false, false, true, false, true, true, true, true, true] (mkFr [(6, (Value.pointer (some a6))), (44, (Value.slice A44 n44 c44)), (45, (Value.int .i64 x45)), (46, (Value.int .i64 x46))]) h) = (f17.l1T R a6 A44 n44 c44 x45 x46 h) by kernel_rfl) H)
set_option maxRecDepth 100000 in
def f17.j0T (R : Value → Heap → Prop) (a6 : Addr) (a10 : Addr) (A44 : Option Addr) (n44 : Nat) (c44 : Nat) (x45 : Int) (x46 : Int) (b55 : Bool) (h : Heap) : Prop :=
  splitB b55 (∃ v1_, ldv false 1 h a10 = some v1_ ∧ ∃ x2_, v1_ = (Value.int .i64 x2_) ∧ Run Try.prog 81 #[(Value.pointer (some a6)), (Value.int .i64 x2_)] h fun v3_ h4_ => v3_ = (Value.tuple #[]) ∧ f17.l1 R a6 A44 n44 c44 x45 (IntKind.wrap .i64 (x46 + (1 : Int))) h4_) (f17.l1 R a6 A44 n44 c44 x45 (IntKind.wrap .i64 (x46 + (1 : Int))) h)
set_option maxRecDepth 100000 in
theorem f17.j0_in {R : Value → Heap → Prop} {a6 : Addr} {a10 : Addr} {A44 : Option Addr} {n44 : Nat} {c44 : Nat} {x45 : Int} {x46 : Int} {b55 : Bool} {h : Heap} (H : f17.j0T R a6 a10 A44 n44 c44 x45 x46 b55 h) : f17.j0 R a6 a10 A44 n44 c44 x45 x46 b55 h :=
  pt_intro mixed f17.good (Eq.mpr (show (Fwd Try.prog f17.T f17.kp Try.f17 R [true, true, false, false, true, true, false, false, true, false, true, true, true, true, true] (mkFr [(6, (Value.pointer (some a6))), (10, (Value.pointer (some a10))), (44, (Value.slice A44 n44 c44)), (45, (Value.int .i64 x45)), (46, (Value.int .i64 x46)), (55, (Value.bool b55))]) h) = (f17.j0T R a6 a10 A44 n44 c44 x45 x46 b55 h) by kernel_rfl) H)
set_option maxRecDepth 100000 in
def f17.runT (R : Value → Heap → Prop) (A0 : Option Addr) (n0 : Nat) (c0 : Nat) (h : Heap) : Prop :=
  Run Try.prog 76 #[(Value.slice A0 n0 c0)] h fun v1_ h2_ => ∃ v3_, ∃ x4_, v1_ = (Value.tuple #[v3_, (Value.int .i64 x4_)]) ∧ splitB (x4_ != (0 : Int)) (R (Value.tuple #[(Value.pointer none), (Value.int .i64 x4_)]) h2_) (Gen Try.prog (Instr.makeMap 59 none) h2_ fun v5_ h6_ => oneCell v3_ (oneCell v5_ (newH h6_ (Obj.cells #[(Value.slice none 0 0), v3_, v5_, (Value.slice none 0 0), (Value.int .i64 (0 : Int)), (Value.int .i64 (0 : Int))] 145) fun h7_ => f17.l0 R A0 n0 c0 (⟨Array.size h6_, 0, none⟩) A0 n0 c0 ((n0 : Nat) : Int) (0 : Int) h7_)))
set_option maxRecDepth 100000 in
theorem f17.run {R : Value → Heap → Prop} {A0 : Option Addr} {n0 : Nat} {c0 : Nat} {h : Heap} (H : f17.runT R A0 n0 c0 h) : Run Try.prog 17 #[(Value.slice A0 n0 c0)] h R :=
  run_of mixed Try.func17 (by kernel_rfl) (by kernel_rfl) f17.good (Eq.mpr (show (Fwd Try.prog f17.T f17.kp Try.f17 R [] (mkFr (argL [(Value.slice A0 n0 c0)] 0)) h) = (f17.runT R A0 n0 c0 h) by kernel_rfl) H)
def f18.T : Tab := { sh := tSh, tup := tTup, keep := [], plan := [] }
def f18.kp : Keep := []
theorem f18.good : goodCode Try.prog f18.T (rootOf Try.f18) = true := by kernel_rfl
set_option maxRecDepth 100000 in
def f18.runT (R : Value → Heap → Prop) (a0 : Addr) (h : Heap) : Prop :=
  ∃ v1_, ldv false 1 h (Addr.add a0 3) = some v1_ ∧ ∃ A2_, ∃ n2_, ∃ c2_, v1_ = (Value.slice A2_ n2_ c2_) ∧ ∃ h3_, st1 h (Addr.add a0 3) (Value.slice none 0 0) = some h3_ ∧ Run Try.prog 14 #[(Value.slice A2_ n2_ c2_)] h3_ fun v4_ h5_ => v4_ = (Value.tuple #[]) ∧ R (Value.slice A2_ n2_ c2_) h5_
set_option maxRecDepth 100000 in
theorem f18.run {R : Value → Heap → Prop} {a0 : Addr} {h : Heap} (H : f18.runT R a0 h) : Run Try.prog 18 #[(Value.pointer (some a0))] h R :=
  run_of mixed Try.func18 (by kernel_rfl) (by kernel_rfl) f18.good (Eq.mpr (show (Fwd Try.prog f18.T f18.kp Try.f18 R [] (mkFr (argL [(Value.pointer (some a0))] 0)) h) = (f18.runT R a0 h) by kernel_rfl) H)
def f19.T : Tab := { sh := tSh, tup := tTup, keep := [], plan := [] }
def f19.kp : Keep := []
theorem f19.good : goodCode Try.prog f19.T (rootOf Try.f19) = true := by kernel_rfl
set_option maxRecDepth 100000 in
def f19.runT (R : Value → Heap → Prop) (A0 : Option Addr) (n0 : Nat) (c0 : Nat) (h : Heap) : Prop :=
  splitB (Option.isNone A0) (R (Value.slice none 0 0) h) (newH h (Obj.cells #[] 28) fun h1_ => AppW 28 4 40 #[(Value.int .i64 (0 : Int)), (Value.bool false), (Value.bool false), (Value.slice none 0 0)] (some ⟨Array.size h, 0, none⟩) 0 0 (Value.slice A0 n0 c0) h1_ fun v2_ h3_ => ∃ A4_, ∃ n4_, ∃ c4_, v2_ = (Value.slice A4_ n4_ c4_) ∧ R (Value.slice A4_ n4_ c4_) h3_)
set_option maxRecDepth 100000 in
theorem f19.run {R : Value → Heap → Prop} {A0 : Option Addr} {n0 : Nat} {c0 : Nat} {h : Heap} (H : f19.runT R A0 n0 c0 h) : Run Try.prog 19 #[(Value.slice A0 n0 c0)] h R :=
  run_of mixed Try.func19 (by kernel_rfl) (by kernel_rfl) f19.good (Eq.mpr (show (Fwd Try.prog f19.T f19.kp Try.f19 R [] (mkFr (argL [(Value.slice A0 n0 c0)] 0)) h) = (f19.runT R A0 n0 c0 h) by kernel_rfl) H)
def f20.T : Tab := { sh := tSh, tup := tTup, keep := [], plan := [] }
def f20.kp : Keep := []
theorem f20.good : goodCode Try.prog f20.T (rootOf Try.f20) = true := by kernel_rfl
set_option maxRecDepth 100000 in
def f20.runT (R : Value → Heap → Prop) (A0 : Option Addr) (n0 : Nat) (c0 : Nat) (x1 : Int) (h : Heap) : Prop :=
  splitB (decide (x1 < ((n0 : Nat) : Int))) (ptrOk A0 fun a1_ => 0 ≤ x1 ∧ x1 < ((n0 : Nat) : Int) ∧ (∃ v2_, ldv false 1 h (Addr.add a1_ (Int.toNat x1 * 1)) = some v2_ ∧ ∃ x3_, v2_ = (Value.int .i64 x3_) ∧ R (Value.int .i64 x3_) h)) (R (Value.int .i64 (0 : Int)) h)
set_option maxRecDepth 100000 in
theorem f20.run {R : Value → Heap → Prop} {A0 : Option Addr} {n0 : Nat} {c0 : Nat} {x1 : Int} {h : Heap} (H : f20.runT R A0 n0 c0 x1 h) : Run Try.prog 20 #[(Value.slice A0 n0 c0), (Value.int .i64 x1)] h R :=
  run_of mixed Try.func20 (by kernel_rfl) (by kernel_rfl) f20.good (Eq.mpr (show (Fwd Try.prog f20.T f20.kp Try.f20 R [] (mkFr (argL [(Value.slice A0 n0 c0), (Value.int .i64 x1)] 0)) h) = (f20.runT R A0 n0 c0 x1 h) by kernel_rfl) H)
def f22.T : Tab := { sh := tSh, tup := tTup, keep := [], plan := [(1, (.take 0 (.take 1 (.take 2 (.eff true 3 (.take 4 (.take 5 .done)))))))] }
def f22.kp : Keep := []
theorem f22.good : goodCode Try.prog f22.T (rootOf Try.f22) = true := by kernel_rfl
set_option maxRecDepth 100000 in
theorem f22.ok : calleeOk Try.prog 22 = true := by kernel_rfl
set_option maxRecDepth 100000 in
def f22.runT (R : Value → Heap → Prop) (v0 : Value) (a1 : Addr) (h : Heap) : Prop :=
  newH h (Obj.cells ((v0).cells) 28) fun h1_ => ∃ v2_, ldv false 1 h1_ (⟨Array.size h, 0, none⟩) = some v2_ ∧ ∃ x3_, v2_ = (Value.int .i64 x3_) ∧ ∃ v4_, ldv false 1 h1_ a1 = some v4_ ∧ ∃ A5_, ∃ n5_, ∃ c5_, v4_ = (Value.slice A5_ n5_ c5_) ∧ Run Try.prog 20 #[(Value.slice A5_ n5_ c5_), (Value.int .i64 (1 : Int))] h1_ fun v6_ h7_ => ∃ x8_, v6_ = (Value.int .i64 x8_) ∧ Ext h1_ h7_ ∧ (R (Value.bool (x3_ == x8_)) h7_)
set_option maxRecDepth 100000 in
theorem f22.run {R : Value → Heap → Prop} {v0 : Value} {a1 : Addr} {h : Heap} (H : f22.runT R v0 a1 h) : Run Try.prog 22 #[v0, (Value.pointer (some a1))] h R :=
  run_of mixed Try.func22 (by kernel_rfl) (by kernel_rfl) f22.good (Eq.mpr (show (Fwd Try.prog f22.T f22.kp Try.f22 R [] (mkFr (argL [v0, (Value.pointer (some a1))] 0)) h) = (f22.runT R v0 a1 h) by kernel_rfl) H)
def f23.T : Tab := { sh := tSh, tup := tTup, keep := [], plan := [] }
def f23.kp : Keep := []
theorem f23.good : goodCode Try.prog f23.T (rootOf Try.f23) = true := by kernel_rfl
set_option maxRecDepth 100000 in
def f23.runT (R : Value → Heap → Prop) (a0 : Addr) (x1 : Int) (h : Heap) : Prop :=
  ∃ v1_, ldv false 1 h (Addr.add a0 1) = some v1_ ∧ Gen Try.prog (Instr.lookup 137 v1_ (Value.int .i64 x1) true) h fun v2_ h3_ => ∃ x4_, ∃ b5_, v2_ = (Value.tuple #[(Value.int .i64 x4_), (Value.bool b5_)]) ∧ splitB (!b5_) (R (Value.int .i64 (4 : Int)) h3_) (∃ v6_, ldv false 1 h3_ (Addr.add a0 5) = some v6_ ∧ ∃ x7_, v6_ = (Value.int .i64 x7_) ∧ ∃ h8_, st1 h3_ (Addr.add a0 5) (Value.int .i64 (IntKind.wrap .i64 (x7_ + (1 : Int)))) = some h8_ ∧ Run Try.prog 81 #[(Value.pointer (some a0)), (Value.int .i64 x1)] h8_ fun v9_ h10_ => v9_ = (Value.tuple #[]) ∧ R (Value.int .i64 (0 : Int)) h10_)
set_option maxRecDepth 100000 in
theorem f23.run {R : Value → Heap → Prop} {a0 : Addr} {x1 : Int} {h : Heap} (H : f23.runT R a0 x1 h) : Run Try.prog 23 #[(Value.pointer (some a0)), (Value.int .i64 x1)] h R :=
  run_of mixed Try.func23 (by kernel_rfl) (by kernel_rfl) f23.good (Eq.mpr (show (Fwd Try.prog f23.T f23.kp Try.f23 R [] (mkFr (argL [(Value.pointer (some a0)), (Value.int .i64 x1)] 0)) h) = (f23.runT R a0 x1 h) by kernel_rfl) H)
def f26.T : Tab := { sh := tSh, tup := tTup, keep := [], plan := [] }
def f26.kp : Keep := []
theorem f26.good : goodCode Try.prog f26.T (rootOf Try.f26) = true := by kernel_rfl
set_option maxRecDepth 100000 in
theorem f26.ok : calleeOk Try.prog 26 = true := by kernel_rfl
set_option maxRecDepth 100000 in
def f26.runT (R : Value → Heap → Prop) (v0 : Value) (a1 : Addr) (h : Heap) : Prop :=
  newH h (Obj.cells ((v0).cells) 28) fun h1_ => ∃ v2_, ldv false 1 h1_ (⟨Array.size h, 0, none⟩) = some v2_ ∧ ∃ x3_, v2_ = (Value.int .i64 x3_) ∧ ∃ v4_, ldv false 1 h1_ a1 = some v4_ ∧ ∃ x5_, v4_ = (Value.int .i64 x5_) ∧ R (Value.bool (x3_ == x5_)) h1_
set_option maxRecDepth 100000 in
theorem f26.run {R : Value → Heap → Prop} {v0 : Value} {a1 : Addr} {h : Heap} (H : f26.runT R v0 a1 h) : Run Try.prog 26 #[v0, (Value.pointer (some a1))] h R :=
  run_of mixed Try.func26 (by kernel_rfl) (by kernel_rfl) f26.good (Eq.mpr (show (Fwd Try.prog f26.T f26.kp Try.f26 R [] (mkFr (argL [v0, (Value.pointer (some a1))] 0)) h) = (f26.runT R v0 a1 h) by kernel_rfl) H)
def f27.T : Tab := { sh := tSh, tup := tTup, keep := [], plan := [(1, (.take 0 (.take 1 (.take 2 (.take 4 (.take 5 (.take 6 (.take 3 (.take 8 (.take 7 (.take 9 .done)))))))))))] }
def f27.kp : Keep := []
theorem f27.good : goodCode Try.prog f27.T (rootOf Try.f27) = true := by kernel_rfl
set_option maxRecDepth 100000 in
def f27.runT (R : Value → Heap → Prop) (a0 : Addr) (h : Heap) : Prop :=
  ∃ v1_, ldv false 1 h (Addr.add a0 4) = some v1_ ∧ ∃ x2_, v1_ = (Value.int .i64 x2_) ∧ ∃ v3_, ldv false 1 h (Addr.add a0 5) = some v3_ ∧ ∃ x4_, v3_ = (Value.int .i64 x4_) ∧ R (Value.tuple #[(Value.int .i64 x2_), (Value.int .i64 x4_)]) h
set_option maxRecDepth 100000 in
theorem f27.run {R : Value → Heap → Prop} {a0 : Addr} {h : Heap} (H : f27.runT R a0 h) : Run Try.prog 27 #[(Value.pointer (some a0))] h R :=
  run_of mixed Try.func27 (by kernel_rfl) (by kernel_rfl) f27.good (Eq.mpr (show (Fwd Try.prog f27.T f27.kp Try.f27 R [] (mkFr (argL [(Value.pointer (some a0))] 0)) h) = (f27.runT R a0 h) by kernel_rfl) H)
def f28.T : Tab := { sh := tSh, tup := tTup, keep := [], plan := [(5, (.take 0 (.take 1 (.take 2 (.take 4 (.take 3 (.take 5 (.eff false 6 (.take 7 .done)))))))))] }
def f28.kp : Keep := [([false, false, true, false, true, true], [0, 3, 9, 10, 11])]
theorem f28.good : goodCode Try.prog f28.T (rootOf Try.f28) = true := by kernel_rfl
def f28.l0 (R : Value → Heap → Prop) (a0 : Addr) (A3 : Option Addr) (n3 : Nat) (c3 : Nat) (A9 : Option Addr) (n9 : Nat) (c9 : Nat) (x10 : Int) (x11 : Int) (h : Heap) : Prop := Pt Try.prog Try.f28 R [false, false, true, false, true, true] (mkFr [(0, (Value.pointer (some a0))), (3, (Value.slice A3 n3 c3)), (9, (Value.slice A9 n9 c9)), (10, (Value.int .i64 x10)), (11, (Value.int .i64 x11))]) h
set_option maxRecDepth 100000 in
def f28.l0T (R : Value → Heap → Prop) (a0 : Addr) (A3 : Option Addr) (n3 : Nat) (c3 : Nat) (A9 : Option Addr) (n9 : Nat) (c9 : Nat) (x10 : Int) (x11 : Int) (h : Heap) : Prop :=
  splitB (decide (x11 < x10)) (ptrOk A9 fun a1_ => 0 ≤ x11 ∧ x11 < ((n9 : Nat) : Int) ∧ (∃ v2_, ldv true 4 h (Addr.add a1_ (Int.toNat x11 * 4)) = some v2_ ∧ newH h (Obj.cells #[(Value.int .i64 (0 : Int)), (Value.bool false), (Value.bool false), (Value.slice none 0 0)] 28) fun h3_ => ∃ l5_ : List Value, v2_ = Value.agg l5_.toArray ∧ l5_.length = 4 ∧ ∃ h4_, stH h3_ (⟨Array.size h, 0, none⟩) l5_ 0 = some h4_ ∧ ∃ v6_, ldv false 1 h4_ (Addr.add a0 2) = some v6_ ∧ ∃ v7_, ldv false 1 h4_ (⟨Array.size h, 0, none⟩) = some v7_ ∧ ∃ x8_, v7_ = (Value.int .i64 x8_) ∧ Gen Try.prog (Instr.lookup 59 v6_ (Value.int .i64 x8_) false) h4_ fun v9_ h10_ => ∃ b11_, v9_ = (Value.bool b11_) ∧ splitB (!b11_) (∃ v12_, ldv false 1 h10_ (⟨Array.size h, 0, none⟩) = some v12_ ∧ ∃ x13_, v12_ = (Value.int .i64 x13_) ∧ newH h10_ (Obj.cells #[(Value.int .i64 x13_)] 3) fun h14_ => AppW 3 1 8 #[(Value.int .i64 (0 : Int))] A3 n3 c3 (Value.slice (some ⟨Array.size h10_, 0, none⟩) 1 1) h14_ fun v15_ h16_ => ∃ A17_, ∃ n17_, ∃ c17_, v15_ = (Value.slice A17_ n17_ c17_) ∧ f28.l0 R a0 A17_ n17_ c17_ A9 n9 c9 x10 (IntKind.wrap .i64 (x11 + (1 : Int))) h16_) (f28.l0 R a0 A3 n3 c3 A9 n9 c9 x10 (IntKind.wrap .i64 (x11 + (1 : Int))) h10_))) (Run Try.prog 14 #[(Value.slice A3 n3 c3)] h fun v18_ h19_ => v18_ = (Value.tuple #[]) ∧ R (Value.slice A3 n3 c3) h19_)
set_option maxRecDepth 100000 in
theorem f28.l0_in {R : Value → Heap → Prop} {a0 : Addr} {A3 : Option Addr} {n3 : Nat} {c3 : Nat} {A9 : Option Addr} {n9 : Nat} {c9 : Nat} {x10 : Int} {x11 : Int} {h : Heap} (H : f28.l0T R a0 A3 n3 c3 A9 n9 c9 x10 x11 h) : f28.l0 R a0 A3 n3 c3 A9 n9 c9 x10 x11 h :=
  pt_intro mixed f28.good (Eq.mpr (show (Fwd Try.prog f28.T f28.kp Try.f28 R [false, false, true, false, true, true] (mkFr [(0, (Value.pointer (some a0))), (3, (Value.slice A3 n3 c3)), (9, (Value.slice A9 n9 c9)), (10, (Value.int .i64 x10)), (11, (Value.int .i64 x11))]) h) = (f28.l0T R a0 A3 n3 c3 A9 n9 c9 x10 x11 h) by kernel_rfl) H)
set_option maxRecDepth 100000 in
def f28.runT (R : Value → Heap → Prop) (a0 : Addr) (h : Heap) : Prop :=
  ∃ v1_, ldv false 1 h a0 = some v1_ ∧ ∃ A2_, ∃ n2_, ∃ c2_, v1_ = (Value.slice A2_ n2_ c2_) ∧ f28.l0 R a0 none 0 0 A2_ n2_ c2_ ((n2_ : Nat) : Int) (0 : Int) h
set_option maxRecDepth 100000 in
theorem f28.run {R : Value → Heap → Prop} {a0 : Addr} {h : Heap} (H : f28.runT R a0 h) : Run Try.prog 28 #[(Value.pointer (some a0))] h R :=
  run_of mixed Try.func28 (by kernel_rfl) (by kernel_rfl) f28.good (Eq.mpr (show (Fwd Try.prog f28.T f28.kp Try.f28 R [] (mkFr (argL [(Value.pointer (some a0))] 0)) h) = (f28.runT R a0 h) by kernel_rfl) H)
def f4.T : Tab := { sh := tSh, tup := tTup, keep := [], plan := [] }
def f4.kp : Keep := [([true, true], [0, 1]), ([true, true, true, true, true], [0, 1, 7]), ([false, false, true, false, true, true, true, true, true, true, true, true], [0, 7, 10, 11, 75, 76, 77]), ([true, true, true, false, true, false, true, false, true, false, false, true, true, false, false, true, false, true, true, true, true, true, true, true, true], [0, 7, 10, 11, 13, 15, 75, 76, 77]), ([true, true, false, false, true, true, false, false, true, false, true, true, true, true, true, true, true, true], [0, 7, 10, 11, 13, 75, 76, 77]), ([false, false, true, false, true, true, true, true, false, false, true, true, false, false, true, false, true, true, true, true, true, true, true, true], [0, 7, 10, 11, 13, 16, 17, 18, 75, 76, 77, 104, 105, 106]), ([false, false, true, true, true, false, false, true, true, false, false, true, false, true, true, true, true, false, false, true, true, false, false, true, false, true, true, true, true, true, true, true, true], [0, 7, 10, 11, 13, 16, 17, 18, 75, 76, 77, 104, 105, 106, 122, 123, 124]), ([true, true, false, false, true, true, false, false, true, true, true, false, false, true, true, false, false, true, false, true, true, true, true, false, false, true, true, false, false, true, false, true, true, true, true, true, true, true, true], [0, 7, 10, 11, 13, 16, 17, 18, 22, 75, 76, 77, 104, 105, 106, 122, 123, 124, 137]), ([false, false, true, false, true, false, true, false, true, true, true, true, true, true, false, false, true, true, false, false, true, false, true, true, true, true, true, true, true, true], [0, 7, 10, 11, 17, 18, 23, 75, 76, 77, 149, 150, 151]), ([true, true, true, true, true, true, true, false, false, true, true, false, false, true, false, true, true, true, true, true, true, true, true], [0, 7, 10, 11, 17, 18, 75, 76, 77])]
theorem f4.good : goodCode Try.prog f4.T (rootOf Try.f4) = true := by kernel_rfl
def f4.j0 (R : Value → Heap → Prop) (A0 : Option Addr) (n0 : Nat) (c0 : Nat) (A1 : Option Addr) (n1 : Nat) (c1 : Nat) (h : Heap) : Prop := Pt Try.prog Try.f4 R [true, true] (mkFr [(0, (Value.slice A0 n0 c0)), (1, (Value.slice A1 n1 c1))]) h
def f4.j1 (R : Value → Heap → Prop) (A0 : Option Addr) (n0 : Nat) (c0 : Nat) (A1 : Option Addr) (n1 : Nat) (c1 : Nat) (p7 : Option Addr) (h : Heap) : Prop := Pt Try.prog Try.f4 R [true, true, true, true, true] (mkFr [(0, (Value.slice A0 n0 c0)), (1, (Value.slice A1 n1 c1)), (7, (Value.pointer p7))]) h
def f4.l0 (R : Value → Heap → Prop) (A0 : Option Addr) (n0 : Nat) (c0 : Nat) (p7 : Option Addr) (x10 : Int) (A11 : Option Addr) (n11 : Nat) (c11 : Nat) (A75 : Option Addr) (n75 : Nat) (c75 : Nat) (x76 : Int) (x77 : Int) (h : Heap) : Prop := Pt Try.prog Try.f4 R [false, false, true, false, true, true, true, true, true, true, true, true] (mkFr [(0, (Value.slice A0 n0 c0)), (7, (Value.pointer p7)), (10, (Value.int .i64 x10)), (11, (Value.slice A11 n11 c11)), (75, (Value.slice A75 n75 c75)), (76, (Value.int .i64 x76)), (77, (Value.int .i64 x77))]) h
def f4.j4 (R : Value → Heap → Prop) (A0 : Option Addr) (n0 : Nat) (c0 : Nat) (p7 : Option Addr) (x10 : Int) (A11 : Option Addr) (n11 : Nat) (c11 : Nat) (a13 : Addr) (x15 : Int) (A75 : Option Addr) (n75 : Nat) (c75 : Nat) (x76 : Int) (x77 : Int) (h : Heap) : Prop := Pt Try.prog Try.f4 R [true, true, true, false, true, false, true, false, true, false, false, true, true, false, false, true, false, true, true, true, true, true, true, true, true] (mkFr [(0, (Value.slice A0 n0 c0)), (7, (Value.pointer p7)), (10, (Value.int .i64 x10)), (11, (Value.slice A11 n11 c11)), (13, (Value.pointer (some a13))), (15, (Value.int .i64 x15)), (75, (Value.slice A75 n75 c75)), (76, (Value.int .i64 x76)), (77, (Value.int .i64 x77))]) h
def f4.j2 (R : Value → Heap → Prop) (A0 : Option Addr) (n0 : Nat) (c0 : Nat) (p7 : Option Addr) (x10 : Int) (A11 : Option Addr) (n11 : Nat) (c11 : Nat) (a13 : Addr) (A75 : Option Addr) (n75 : Nat) (c75 : Nat) (x76 : Int) (x77 : Int) (h : Heap) : Prop := Pt Try.prog Try.f4 R [true, true, false, false, true, true, false, false, true, false, true, true, true, true, true, true, true, true] (mkFr [(0, (Value.slice A0 n0 c0)), (7, (Value.pointer p7)), (10, (Value.int .i64 x10)), (11, (Value.slice A11 n11 c11)), (13, (Value.pointer (some a13))), (75, (Value.slice A75 n75 c75)), (76, (Value.int .i64 x76)), (77, (Value.int .i64 x77))]) h
def f4.l1 (R : Value → Heap → Prop) (A0 : Option Addr) (n0 : Nat) (c0 : Nat) (p7 : Option Addr) (x10 : Int) (A11 : Option Addr) (n11 : Nat) (c11 : Nat) (a13 : Addr) (A16 : Option Addr) (n16 : Nat) (c16 : Nat) (A17 : Option Addr) (n17 : Nat) (c17 : Nat) (A18 : Option Addr) (n18 : Nat) (c18 : Nat) (A75 : Option Addr) (n75 : Nat) (c75 : Nat) (x76 : Int) (x77 : Int) (A104 : Option Addr) (n104 : Nat) (c104 : Nat) (x105 : Int) (x106 : Int) (h : Heap) : Prop := Pt Try.prog Try.f4 R [false, false, true, false, true, true, true, true, false, false, true, true, false, false, true, false, true, true, true, true, true, true, true, true] (mkFr [(0, (Value.slice A0 n0 c0)), (7, (Value.pointer p7)), (10, (Value.int .i64 x10)), (11, (Value.slice A11 n11 c11)), (13, (Value.pointer (some a13))), (16, (Value.slice A16 n16 c16)), (17, (Value.slice A17 n17 c17)), (18, (Value.slice A18 n18 c18)), (75, (Value.slice A75 n75 c75)), (76, (Value.int .i64 x76)), (77, (Value.int .i64 x77)), (104, (Value.slice A104 n104 c104)), (105, (Value.int .i64 x105)), (106, (Value.int .i64 x106))]) h
def f4.l3 (R : Value → Heap → Prop) (A0 : Option Addr) (n0 : Nat) (c0 : Nat) (p7 : Option Addr) (x10 : Int) (A11 : Option Addr) (n11 : Nat) (c11 : Nat) (a13 : Addr) (A16 : Option Addr) (n16 : Nat) (c16 : Nat) (A17 : Option Addr) (n17 : Nat) (c17 : Nat) (A18 : Option Addr) (n18 : Nat) (c18 : Nat) (A75 : Option Addr) (n75 : Nat) (c75 : Nat) (x76 : Int) (x77 : Int) (A104 : Option Addr) (n104 : Nat) (c104 : Nat) (x105 : Int) (x106 : Int) (A122 : Option Addr) (n122 : Nat) (c122 : Nat) (x123 : Int) (x124 : Int) (h : Heap) : Prop := Pt Try.prog Try.f4 R [false, false, true, true, true, false, false, true, true, false, false, true, false, true, true, true, true, false, false, true, true, false, false, true, false, true, true, true, true, true, true, true, true] (mkFr [(0, (Value.slice A0 n0 c0)), (7, (Value.pointer p7)), (10, (Value.int .i64 x10)), (11, (Value.slice A11 n11 c11)), (13, (Value.pointer (some a13))), (16, (Value.slice A16 n16 c16)), (17, (Value.slice A17 n17 c17)), (18, (Value.slice A18 n18 c18)), (75, (Value.slice A75 n75 c75)), (76, (Value.int .i64 x76)), (77, (Value.int .i64 x77)), (104, (Value.slice A104 n104 c104)), (105, (Value.int .i64 x105)), (106, (Value.int .i64 x106)), (122, (Value.slice A122 n122 c122)), (123, (Value.int .i64 x123)), (124, (Value.int .i64 x124))]) h
def f4.l2 (R : Value → Heap → Prop) (A0 : Option Addr) (n0 : Nat) (c0 : Nat) (p7 : Option Addr) (x10 : Int) (A11 : Option Addr) (n11 : Nat) (c11 : Nat) (A17 : Option Addr) (n17 : Nat) (c17 : Nat) (A18 : Option Addr) (n18 : Nat) (c18 : Nat) (A23 : Option Addr) (n23 : Nat) (c23 : Nat) (A75 : Option Addr) (n75 : Nat) (c75 : Nat) (x76 : Int) (x77 : Int) (A149 : Option Addr) (n149 : Nat) (c149 : Nat) (x150 : Int) (x151 : Int) (h : Heap) : Prop := Pt Try.prog Try.f4 R [false, false, true, false, true, false, true, false, true, true, true, true, true, true, false, false, true, true, false, false, true, false, true, true, true, true, true, true, true, true] (mkFr [(0, (Value.slice A0 n0 c0)), (7, (Value.pointer p7)), (10, (Value.int .i64 x10)), (11, (Value.slice A11 n11 c11)), (17, (Value.slice A17 n17 c17)), (18, (Value.slice A18 n18 c18)), (23, (Value.slice A23 n23 c23)), (75, (Value.slice A75 n75 c75)), (76, (Value.int .i64 x76)), (77, (Value.int .i64 x77)), (149, (Value.slice A149 n149 c149)), (150, (Value.int .i64 x150)), (151, (Value.int .i64 x151))]) h
def f4.j3 (R : Value → Heap → Prop) (A0 : Option Addr) (n0 : Nat) (c0 : Nat) (p7 : Option Addr) (x10 : Int) (A11 : Option Addr) (n11 : Nat) (c11 : Nat) (A17 : Option Addr) (n17 : Nat) (c17 : Nat) (A18 : Option Addr) (n18 : Nat) (c18 : Nat) (A75 : Option Addr) (n75 : Nat) (c75 : Nat) (x76 : Int) (x77 : Int) (h : Heap) : Prop := Pt Try.prog Try.f4 R [true, true, true, true, true, true, true, false, false, true, true, false, false, true, false, true, true, true, true, true, true, true, true] (mkFr [(0, (Value.slice A0 n0 c0)), (7, (Value.pointer p7)), (10, (Value.int .i64 x10)), (11, (Value.slice A11 n11 c11)), (17, (Value.slice A17 n17 c17)), (18, (Value.slice A18 n18 c18)), (75, (Value.slice A75 n75 c75)), (76, (Value.int .i64 x76)), (77, (Value.int .i64 x77))]) h
def f4.j5 (R : Value → Heap → Prop) (A0 : Option Addr) (n0 : Nat) (c0 : Nat) (p7 : Option Addr) (x10 : Int) (A11 : Option Addr) (n11 : Nat) (c11 : Nat) (a13 : Addr) (A16 : Option Addr) (n16 : Nat) (c16 : Nat) (A17 : Option Addr) (n17 : Nat) (c17 : Nat) (A18 : Option Addr) (n18 : Nat) (c18 : Nat) (a22 : Addr) (A75 : Option Addr) (n75 : Nat) (c75 : Nat) (x76 : Int) (x77 : Int) (A104 : Option Addr) (n104 : Nat) (c104 : Nat) (x105 : Int) (x106 : Int) (A122 : Option Addr) (n122 : Nat) (c122 : Nat) (x123 : Int) (x124 : Int) (b137 : Bool) (h : Heap) : Prop := Pt Try.prog Try.f4 R [true, true, false, false, true, true, false, false, true, true, true, false, false, true, true, false, false, true, false, true, true, true, true, false, false, true, true, false, false, true, false, true, true, true, true, true, true, true, true] (mkFr [(0, (Value.slice A0 n0 c0)), (7, (Value.pointer p7)), (10, (Value.int .i64 x10)), (11, (Value.slice A11 n11 c11)), (13, (Value.pointer (some a13))), (16, (Value.slice A16 n16 c16)), (17, (Value.slice A17 n17 c17)), (18, (Value.slice A18 n18 c18)), (22, (Value.pointer (some a22))), (75, (Value.slice A75 n75 c75)), (76, (Value.int .i64 x76)), (77, (Value.int .i64 x77)), (104, (Value.slice A104 n104 c104)), (105, (Value.int .i64 x105)), (106, (Value.int .i64 x106)), (122, (Value.slice A122 n122 c122)), (123, (Value.int .i64 x123)), (124, (Value.int .i64 x124)), (137, (Value.bool b137))]) h
set_option maxRecDepth 100000 in
def f4.j0T (R : Value → Heap → Prop) (A0 : Option Addr) (n0 : Nat) (c0 : Nat) (A1 : Option Addr) (n1 : Nat) (c1 : Nat) (h : Heap) : Prop :=
  Run Try.prog 17 #[(Value.slice A0 n0 c0)] h fun v1_ h2_ => ∃ p3_, ∃ x4_, v1_ = (Value.tuple #[(Value.pointer p3_), (Value.int .i64 x4_)]) ∧ Run Try.prog 12 #[(Value.slice A0 n0 c0)] h2_ fun v5_ h6_ => ∃ x7_, v5_ = (Value.int .i64 x7_) ∧ splitB (x7_ != (0 : Int)) (splitB (x4_ == x7_) (R (Value.bool (Option.isNone p3_)) h6_) (R (Value.bool false) h6_)) (splitB (x4_ != (0 : Int)) (R (Value.bool false) h6_) (splitB (Option.isNone p3_) (R (Value.bool false) h6_) (f4.j1 R A0 n0 c0 A1 n1 c1 p3_ h6_)))
set_option maxRecDepth 100000 in
theorem f4.j0_in {R : Value → Heap → Prop} {A0 : Option Addr} {n0 : Nat} {c0 : Nat} {A1 : Option Addr} {n1 : Nat} {c1 : Nat} {h : Heap} (H : f4.j0T R A0 n0 c0 A1 n1 c1 h) : f4.j0 R A0 n0 c0 A1 n1 c1 h :=
  pt_intro mixed f4.good (Eq.mpr (show (Fwd Try.prog f4.T f4.kp Try.f4 R [true, true] (mkFr [(0, (Value.slice A0 n0 c0)), (1, (Value.slice A1 n1 c1))]) h) = (f4.j0T R A0 n0 c0 A1 n1 c1 h) by kernel_rfl) H)
set_option maxRecDepth 100000 in
def f4.j1T (R : Value → Heap → Prop) (A0 : Option Addr) (n0 : Nat) (c0 : Nat) (A1 : Option Addr) (n1 : Nat) (c1 : Nat) (p7 : Option Addr) (h : Heap) : Prop :=
  Run Try.prog 19 #[(Value.slice A0 n0 c0)] h fun v1_ h2_ => ∃ A3_, ∃ n3_, ∃ c3_, v1_ = (Value.slice A3_ n3_ c3_) ∧ newH h2_ (Obj.cells #[(Value.int .i64 (2 : Int))] 3) fun h4_ => newH h4_ (Obj.cells #[(Value.slice (some ⟨Array.size h2_, 0, none⟩) 1 1)] 23) fun h5_ => AppW 23 1 24 #[(Value.slice none 0 0)] (some ⟨Array.size h4_, 0, none⟩) 1 1 (Value.slice A1 n1 c1) h5_ fun v6_ h7_ => ∃ A8_, ∃ n8_, ∃ c8_, v6_ = (Value.slice A8_ n8_ c8_) ∧ f4.l0 R A3_ n3_ c3_ p7 (0 : Int) none 0 0 A8_ n8_ c8_ ((n8_ : Nat) : Int) (0 : Int) h7_
set_option maxRecDepth 100000 in
theorem f4.j1_in {R : Value → Heap → Prop} {A0 : Option Addr} {n0 : Nat} {c0 : Nat} {A1 : Option Addr} {n1 : Nat} {c1 : Nat} {p7 : Option Addr} {h : Heap} (H : f4.j1T R A0 n0 c0 A1 n1 c1 p7 h) : f4.j1 R A0 n0 c0 A1 n1 c1 p7 h :=
  pt_intro mixed f4.good (Eq.mpr (show (Fwd Try.prog f4.T f4.kp Try.f4 R [true, true, true, true, true] (mkFr [(0, (Value.slice A0 n0 c0)), (1, (Value.slice A1 n1 c1)), (7, (Value.pointer p7))]) h) = (f4.j1T R A0 n0 c0 A1 n1 c1 p7 h) by kernel_rfl) H)
set_option maxRecDepth 100000 in
def f4.l0T (R : Value → Heap → Prop) (A0 : Option Addr) (n0 : Nat) (c0 : Nat) (p7 : Option Addr) (x10 : Int) (A11 : Option Addr) (n11 : Nat) (c11 : Nat) (A75 : Option Addr) (n75 : Nat) (c75 : Nat) (x76 : Int) (x77 : Int) (h : Heap) : Prop :=
  splitB (decide (x77 < x76)) (ptrOk A75 fun a1_ => 0 ≤ x77 ∧ x77 < ((n75 : Nat) : Int) ∧ (∃ v2_, ldv false 1 h (Addr.add a1_ (Int.toNat x77 * 1)) = some v2_ ∧ ∃ A3_, ∃ n3_, ∃ c3_, v2_ = (Value.slice A3_ n3_ c3_) ∧ newH h (Obj.cells #[(Value.slice none 0 0)] 23) fun h4_ => ∃ h5_, st1 h4_ (⟨Array.size h, 0, none⟩) (Value.slice A3_ n3_ c3_) = some h5_ ∧ ∃ v6_, ldv false 1 h5_ (⟨Array.size h, 0, none⟩) = some v6_ ∧ ∃ A7_, ∃ n7_, ∃ c7_, v6_ = (Value.slice A7_ n7_ c7_) ∧ Run Try.prog 20 #[(Value.slice A7_ n7_ c7_), (Value.int .i64 (0 : Int))] h5_ fun v8_ h9_ => ∃ x10_, v8_ = (Value.int .i64 x10_) ∧ splitB (x10_ == (1 : Int)) (Run Try.prog 21 #[(Value.slice A0 n0 c0), (Value.func (.func 22) #[] #[(Value.pointer (some ⟨Array.size h, 0, none⟩))])] h9_ fun v11_ h12_ => ∃ x13_, v11_ = (Value.int .i64 x13_) ∧ splitB (decide (x13_ ≥ (0 : Int))) (ptrOk A0 fun a14_ => 0 ≤ x13_ ∧ x13_ < ((n0 : Nat) : Int) ∧ (∃ h15_, st1 h12_ (Addr.add (Addr.add a14_ (Int.toNat x13_ * 4)) 2) (Value.bool true) = some h15_ ∧ f4.j4 R A0 n0 c0 p7 (IntKind.wrap .i64 (x10 + (1 : Int))) A11 n11 c11 (⟨Array.size h, 0, none⟩) (0 : Int) A75 n75 c75 x76 x77 h15_)) (f4.j4 R A0 n0 c0 p7 x10 A11 n11 c11 (⟨Array.size h, 0, none⟩) (4 : Int) A75 n75 c75 x76 x77 h12_)) (f4.j2 R A0 n0 c0 p7 x10 A11 n11 c11 (⟨Array.size h, 0, none⟩) A75 n75 c75 x76 x77 h9_))) (R (Value.bool true) h)
set_option maxRecDepth 100000 in
theorem f4.l0_in {R : Value → Heap → Prop} {A0 : Option Addr} {n0 : Nat} {c0 : Nat} {p7 : Option Addr} {x10 : Int} {A11 : Option Addr} {n11 : Nat} {c11 : Nat} {A75 : Option Addr} {n75 : Nat} {c75 : Nat} {x76 : Int} {x77 : Int} {h : Heap} (H : f4.l0T R A0 n0 c0 p7 x10 A11 n11 c11 A75 n75 c75 x76 x77 h) : f4.l0 R A0 n0 c0 p7 x10 A11 n11 c11 A75 n75 c75 x76 x77 h :=
  pt_intro mixed f4.good (Eq.mpr (show (Fwd Try.prog f4.T f4.kp Try.f4 R [false, false, true, false, true, true, true, true, true, true, true, true] (mkFr [(0, (Value.slice A0 n0 c0)), (7, (Value.pointer p7)), (10, (Value.int .i64 x10)), (11, (Value.slice A11 n11 c11)), (75, (Value.slice A75 n75 c75)), (76, (Value.int .i64 x76)), (77, (Value.int .i64 x77))]) h) = (f4.l0T R A0 n0 c0 p7 x10 A11 n11 c11 A75 n75 c75 x76 x77 h) by kernel_rfl) H)
set_option maxRecDepth 100000 in
def f4.j4T (R : Value → Heap → Prop) (A0 : Option Addr) (n0 : Nat) (c0 : Nat) (p7 : Option Addr) (x10 : Int) (A11 : Option Addr) (n11 : Nat) (c11 : Nat) (a13 : Addr) (x15 : Int) (A75 : Option Addr) (n75 : Nat) (c75 : Nat) (x76 : Int) (x77 : Int) (h : Heap) : Prop :=
  ∃ v1_, ldv false 1 h a13 = some v1_ ∧ ∃ A2_, ∃ n2_, ∃ c2_, v1_ = (Value.slice A2_ n2_ c2_) ∧ Run Try.prog 20 #[(Value.slice A2_ n2_ c2_), (Value.int .i64 (1 : Int))] h fun v3_ h4_ => ∃ x5_, v3_ = (Value.int .i64 x5_) ∧ Run Try.prog 23 #[(Value.pointer p7), (Value.int .i64 x5_)] h4_ fun v6_ h7_ => ∃ x8_, v6_ = (Value.int .i64 x8_) ∧ splitB (x8_ != x15) (R (Value.bool false) h7_) (f4.j2 R A0 n0 c0 p7 x10 A11 n11 c11 a13 A75 n75 c75 x76 x77 h7_)
set_option maxRecDepth 100000 in
theorem f4.j4_in {R : Value → Heap → Prop} {A0 : Option Addr} {n0 : Nat} {c0 : Nat} {p7 : Option Addr} {x10 : Int} {A11 : Option Addr} {n11 : Nat} {c11 : Nat} {a13 : Addr} {x15 : Int} {A75 : Option Addr} {n75 : Nat} {c75 : Nat} {x76 : Int} {x77 : Int} {h : Heap} (H : f4.j4T R A0 n0 c0 p7 x10 A11 n11 c11 a13 x15 A75 n75 c75 x76 x77 h) : f4.j4 R A0 n0 c0 p7 x10 A11 n11 c11 a13 x15 A75 n75 c75 x76 x77 h :=
  pt_intro mixed f4.good (Eq.mpr (show (Fwd Try.prog f4.T f4.kp Try.f4 R [true, true, true, false, true, false, true, false, true, false, false, true, true, false, false, true, false, true, true, true, true, true, true, true, true] (mkFr [(0, (Value.slice A0 n0 c0)), (7, (Value.pointer p7)), (10, (Value.int .i64 x10)), (11, (Value.slice A11 n11 c11)), (13, (Value.pointer (some a13))), (15, (Value.int .i64 x15)), (75, (Value.slice A75 n75 c75)), (76, (Value.int .i64 x76)), (77, (Value.int .i64 x77))]) h) = (f4.j4T R A0 n0 c0 p7 x10 A11 n11 c11 a13 x15 A75 n75 c75 x76 x77 h) by kernel_rfl) H)
set_option maxRecDepth 100000 in
def f4.j2T (R : Value → Heap → Prop) (A0 : Option Addr) (n0 : Nat) (c0 : Nat) (p7 : Option Addr) (x10 : Int) (A11 : Option Addr) (n11 : Nat) (c11 : Nat) (a13 : Addr) (A75 : Option Addr) (n75 : Nat) (c75 : Nat) (x76 : Int) (x77 : Int) (h : Heap) : Prop :=
  Run Try.prog 13 #[(Value.slice A0 n0 c0)] h fun v1_ h2_ => ∃ A3_, ∃ n3_, ∃ c3_, v1_ = (Value.slice A3_ n3_ c3_) ∧ f4.l1 R A0 n0 c0 p7 x10 A11 n11 c11 a13 A3_ n3_ c3_ none 0 0 none 0 0 A75 n75 c75 x76 x77 A0 n0 c0 ((n0 : Nat) : Int) (0 : Int) h2_
set_option maxRecDepth 100000 in
theorem f4.j2_in {R : Value → Heap → Prop} {A0 : Option Addr} {n0 : Nat} {c0 : Nat} {p7 : Option Addr} {x10 : Int} {A11 : Option Addr} {n11 : Nat} {c11 : Nat} {a13 : Addr} {A75 : Option Addr} {n75 : Nat} {c75 : Nat} {x76 : Int} {x77 : Int} {h : Heap} (H : f4.j2T R A0 n0 c0 p7 x10 A11 n11 c11 a13 A75 n75 c75 x76 x77 h) : f4.j2 R A0 n0 c0 p7 x10 A11 n11 c11 a13 A75 n75 c75 x76 x77 h :=
  pt_intro mixed f4.good (Eq.mpr (show (Fwd Try.prog f4.T f4.kp Try.f4 R [true, true, false, false, true, true, false, false, true, false, true, true, true, true, true, true, true, true] (mkFr [(0, (Value.slice A0 n0 c0)), (7, (Value.pointer p7)), (10, (Value.int .i64 x10)), (11, (Value.slice A11 n11 c11)), (13, (Value.pointer (some a13))), (75, (Value.slice A75 n75 c75)), (76, (Value.int .i64 x76)), (77, (Value.int .i64 x77))]) h) = (f4.j2T R A0 n0 c0 p7 x10 A11 n11 c11 a13 A75 n75 c75 x76 x77 h) by kernel_rfl) H)
set_option maxRecDepth 100000 in
def f4.l1T (R : Value → Heap → Prop) (A0 : Option Addr) (n0 : Nat) (c0 : Nat) (p7 : Option Addr) (x10 : Int) (A11 : Option Addr) (n11 : Nat) (c11 : Nat) (a13 : Addr) (A16 : Option Addr) (n16 : Nat) (c16 : Nat) (A17 : Option Addr) (n17 : Nat) (c17 : Nat) (A18 : Option Addr) (n18 : Nat) (c18 : Nat) (A75 : Option Addr) (n75 : Nat) (c75 : Nat) (x76 : Int) (x77 : Int) (A104 : Option Addr) (n104 : Nat) (c104 : Nat) (x105 : Int) (x106 : Int) (h : Heap) : Prop :=
  splitB (decide (x106 < x105)) (ptrOk A104 fun a1_ => 0 ≤ x106 ∧ x106 < ((n104 : Nat) : Int) ∧ (∃ v2_, ldv true 4 h (Addr.add a1_ (Int.toNat x106 * 4)) = some v2_ ∧ newH h (Obj.cells #[(Value.int .i64 (0 : Int)), (Value.bool false), (Value.bool false), (Value.slice none 0 0)] 28) fun h3_ => ∃ l5_ : List Value, v2_ = Value.agg l5_.toArray ∧ l5_.length = 4 ∧ ∃ h4_, stH h3_ (⟨Array.size h, 0, none⟩) l5_ 0 = some h4_ ∧ ptrOk A16 fun a6_ => 0 ≤ x106 ∧ x106 < ((n16 : Nat) : Int) ∧ (∃ v7_, ldv false 1 h4_ (Addr.add a6_ (Int.toNat x106 * 1)) = some v7_ ∧ ∃ x8_, v7_ = (Value.int .i64 x8_) ∧ splitB (decide (x8_ < (0 : Int))) (∃ v9_, ldv false 1 h4_ (⟨Array.size h, 0, none⟩) = some v9_ ∧ ∃ x10_, v9_ = (Value.int .i64 x10_) ∧ newH h4_ (Obj.cells #[(Value.int .i64 x10_)] 3) fun h11_ => AppW 3 1 8 #[(Value.int .i64 (0 : Int))] A17 n17 c17 (Value.slice (some ⟨Array.size h4_, 0, none⟩) 1 1) h11_ fun v12_ h13_ => ∃ A14_, ∃ n14_, ∃ c14_, v12_ = (Value.slice A14_ n14_ c14_) ∧ f4.l1 R A0 n0 c0 p7 x10 A11 n11 c11 a13 A16 n16 c16 A14_ n14_ c14_ A18 n18 c18 A75 n75 c75 x76 x77 A104 n104 c104 x105 (IntKind.wrap .i64 (x106 + (1 : Int))) h13_) (∃ v15_, ldv false 1 h4_ (Addr.add (⟨Array.size h, 0, none⟩) 3) = some v15_ ∧ ∃ A16_, ∃ n16_, ∃ c16_, v15_ = (Value.slice A16_ n16_ c16_) ∧ f4.l3 R A0 n0 c0 p7 x10 A11 n11 c11 a13 A16 n16 c16 A17 n17 c17 A18 n18 c18 A75 n75 c75 x76 x77 A104 n104 c104 x105 x106 A16_ n16_ c16_ ((n16_ : Nat) : Int) (0 : Int) h4_)))) (Run Try.prog 14 #[(Value.slice A17 n17 c17)] h fun v17_ h18_ => v17_ = (Value.tuple #[]) ∧ ∃ v19_, ldv false 1 h18_ a13 = some v19_ ∧ ∃ A20_, ∃ n20_, ∃ c20_, v19_ = (Value.slice A20_ n20_ c20_) ∧ Run Try.prog 20 #[(Value.slice A20_ n20_ c20_), (Value.int .i64 (0 : Int))] h18_ fun v21_ h22_ => ∃ x23_, v21_ = (Value.int .i64 x23_) ∧ splitB (x23_ == (2 : Int)) (f4.l2 R A0 n0 c0 p7 x10 A11 n11 c11 A17 n17 c17 A18 n18 c18 none 0 0 A75 n75 c75 x76 x77 A18 n18 c18 ((n18 : Nat) : Int) (0 : Int) h22_) (f4.j3 R A0 n0 c0 p7 x10 A11 n11 c11 A17 n17 c17 A18 n18 c18 A75 n75 c75 x76 x77 h22_))
set_option maxRecDepth 100000 in
theorem f4.l1_in {R : Value → Heap → Prop} {A0 : Option Addr} {n0 : Nat} {c0 : Nat} {p7 : Option Addr} {x10 : Int} {A11 : Option Addr} {n11 : Nat} {c11 : Nat} {a13 : Addr} {A16 : Option Addr} {n16 : Nat} {c16 : Nat} {A17 : Option Addr} {n17 : Nat} {c17 : Nat} {A18 : Option Addr} {n18 : Nat} {c18 : Nat} {A75 : Option Addr} {n75 : Nat} {c75 : Nat} {x76 : Int} {x77 : Int} {A104 : Option Addr} {n104 : Nat} {c104 : Nat} {x105 : Int} {x106 : Int} {h : Heap} (H : f4.l1T R A0 n0 c0 p7 x10 A11 n11 c11 a13 A16 n16 c16 A17 n17 c17 A18 n18 c18 A75 n75 c75 x76 x77 A104 n104 c104 x105 x106 h) : f4.l1 R A0 n0 c0 p7 x10 A11 n11 c11 a13 A16 n16 c16 A17 n17 c17 A18 n18 c18 A75 n75 c75 x76 x77 A104 n104 c104 x105 x106 h :=
  pt_intro mixed f4.good (Eq.mpr (show (Fwd Try.prog f4.T f4.kp Try.f4 R [false, false, true, false, true, true, true, true, false, false, true, true, false, false, true, false, true, true, true, true, true, true, true, true] (mkFr [(0, (Value.slice A0 n0 c0)), (7, (Value.pointer p7)), (10, (Value.int .i64 x10)), (11, (Value.slice A11 n11 c11)), (13, (Value.pointer (some a13))), (16, (Value.slice A16 n16 c16)), (17, (Value.slice A17 n17 c17)), (18, (Value.slice A18 n18 c18)), (75, (Value.slice A75 n75 c75)), (76, (Value.int .i64 x76)), (77, (Value.int .i64 x77)), (104, (Value.slice A104 n104 c104)), (105, (Value.int .i64 x105)), (106, (Value.int .i64 x106))]) h) = (f4.l1T R A0 n0 c0 p7 x10 A11 n11 c11 a13 A16 n16 c16 A17 n17 c17 A18 n18 c18 A75 n75 c75 x76 x77 A104 n104 c104 x105 x106 h) by kernel_rfl) H)
set_option maxRecDepth 100000 in
def f4.l3T (R : Value → Heap → Prop) (A0 : Option Addr) (n0 : Nat) (c0 : Nat) (p7 : Option Addr) (x10 : Int) (A11 : Option Addr) (n11 : Nat) (c11 : Nat) (a13 : Addr) (A16 : Option Addr) (n16 : Nat) (c16 : Nat) (A17 : Option Addr) (n17 : Nat) (c17 : Nat) (A18 : Option Addr) (n18 : Nat) (c18 : Nat) (A75 : Option Addr) (n75 : Nat) (c75 : Nat) (x76 : Int) (x77 : Int) (A104 : Option Addr) (n104 : Nat) (c104 : Nat) (x105 : Int) (x106 : Int) (A122 : Option Addr) (n122 : Nat) (c122 : Nat) (x123 : Int) (x124 : Int) (h : Heap) : Prop :=
  splitB (decide (x124 < x123)) (ptrOk A122 fun a1_ => 0 ≤ x124 ∧ x124 < ((n122 : Nat) : Int) ∧ (∃ v2_, ldv false 1 h (Addr.add a1_ (Int.toNat x124 * 1)) = some v2_ ∧ ∃ x3_, v2_ = (Value.int .i64 x3_) ∧ newH h (Obj.cells #[(Value.int .i64 (0 : Int))] 3) fun h4_ => ∃ h5_, st1 h4_ (⟨Array.size h, 0, none⟩) (Value.int .i64 x3_) = some h5_ ∧ ∃ v6_, ldv false 1 h5_ (⟨Array.size h, 0, none⟩) = some v6_ ∧ ∃ x7_, v6_ = (Value.int .i64 x7_) ∧ Run Try.prog 24 #[(Value.slice A18 n18 c18), (Value.int .i64 x7_)] h5_ fun v8_ h9_ => ∃ b10_, v8_ = (Value.bool b10_) ∧ splitB (!b10_) (Run Try.prog 25 #[(Value.slice A0 n0 c0), (Value.func (.func 26) #[] #[(Value.pointer (some ⟨Array.size h, 0, none⟩))])] h9_ fun v11_ h12_ => ∃ b13_, v11_ = (Value.bool b13_) ∧ f4.j5 R A0 n0 c0 p7 x10 A11 n11 c11 a13 A16 n16 c16 A17 n17 c17 A18 n18 c18 (⟨Array.size h, 0, none⟩) A75 n75 c75 x76 x77 A104 n104 c104 x105 x106 A122 n122 c122 x123 x124 (!b13_) h12_) (f4.j5 R A0 n0 c0 p7 x10 A11 n11 c11 a13 A16 n16 c16 A17 n17 c17 A18 n18 c18 (⟨Array.size h, 0, none⟩) A75 n75 c75 x76 x77 A104 n104 c104 x105 x106 A122 n122 c122 x123 x124 false h9_))) (f4.l1 R A0 n0 c0 p7 x10 A11 n11 c11 a13 A16 n16 c16 A17 n17 c17 A18 n18 c18 A75 n75 c75 x76 x77 A104 n104 c104 x105 (IntKind.wrap .i64 (x106 + (1 : Int))) h)
set_option maxRecDepth 100000 in
theorem f4.l3_in {R : Value → Heap → Prop} {A0 : Option Addr} {n0 : Nat} {c0 : Nat} {p7 : Option Addr} {x10 : Int} {A11 : Option Addr} {n11 : Nat} {c11 : Nat} {a13 : Addr} {A16 : Option Addr} {n16 : Nat} {c16 : Nat} {A17 : Option Addr} {n17 : Nat} {c17 : Nat} {A18 : Option Addr} {n18 : Nat} {c18 : Nat} {A75 : Option Addr} {n75 : Nat} {c75 : Nat} {x76 : Int} {x77 : Int} {A104 : Option Addr} {n104 : Nat} {c104 : Nat} {x105 : Int} {x106 : Int} {A122 : Option Addr} {n122 : Nat} {c122 : Nat} {x123 : Int} {x124 : Int} {h : Heap} (H : f4.l3T R A0 n0 c0 p7 x10 A11 n11 c11 a13 A16 n16 c16 A17 n17 c17 A18 n18 c18 A75 n75 c75 x76 x77 A104 n104 c104 x105 x106 A122 n122 c122 x123 x124 h) : f4.l3 R A0 n0 c0 p7 x10 A11 n11 c11 a13 A16 n16 c16 A17 n17 c17 A18 n18 c18 A75 n75 c75 x76 x77 A104 n104 c104 x105 x106 A122 n122 c122 x123 x124 h :=
  pt_intro mixed f4.good (Eq.mpr (show (Fwd Try.prog f4.T f4.kp Try.f4 R [false, false, true, true, true, false, false, true, true, false, false, true, false, true, true, true, true, false, false, true, true, false, false, true, false, true, true, true, true, true, true, true, true] (mkFr [(0, (Value.slice A0 n0 c0)), (7, (Value.pointer p7)), (10, (Value.int .i64 x10)), (11, (Value.slice A11 n11 c11)), (13, (Value.pointer (some a13))), (16, (Value.slice A16 n16 c16)), (17, (Value.slice A17 n17 c17)), (18, (Value.slice A18 n18 c18)), (75, (Value.slice A75 n75 c75)), (76, (Value.int .i64 x76)), (77, (Value.int .i64 x77)), (104, (Value.slice A104 n104 c104)), (105, (Value.int .i64 x105)), (106, (Value.int .i64 x106)), (122, (Value.slice A122 n122 c122)), (123, (Value.int .i64 x123)), (124, (Value.int .i64 x124))]) h) = (f4.l3T R A0 n0 c0 p7 x10 A11 n11 c11 a13 A16 n16 c16 A17 n17 c17 A18 n18 c18 A75 n75 c75 x76 x77 A104 n104 c104 x105 x106 A122 n122 c122 x123 x124 h) by kernel_rfl) H)
set_option maxRecDepth 100000 in
def f4.l2T (R : Value → Heap → Prop) (A0 : Option Addr) (n0 : Nat) (c0 : Nat) (p7 : Option Addr) (x10 : Int) (A11 : Option Addr) (n11 : Nat) (c11 : Nat) (A17 : Option Addr) (n17 : Nat) (c17 : Nat) (A18 : Option Addr) (n18 : Nat) (c18 : Nat) (A23 : Option Addr) (n23 : Nat) (c23 : Nat) (A75 : Option Addr) (n75 : Nat) (c75 : Nat) (x76 : Int) (x77 : Int) (A149 : Option Addr) (n149 : Nat) (c149 : Nat) (x150 : Int) (x151 : Int) (h : Heap) : Prop :=
  splitB (decide (x151 < x150)) (ptrOk A149 fun a1_ => 0 ≤ x151 ∧ x151 < ((n149 : Nat) : Int) ∧ (∃ v2_, ldv false 1 h (Addr.add a1_ (Int.toNat x151 * 1)) = some v2_ ∧ ∃ x3_, v2_ = (Value.int .i64 x3_) ∧ Run Try.prog 24 #[(Value.slice A11 n11 c11), (Value.int .i64 x3_)] h fun v4_ h5_ => ∃ b6_, v4_ = (Value.bool b6_) ∧ splitB (!b6_) (newH h5_ (Obj.cells #[(Value.int .i64 x3_)] 3) fun h7_ => AppW 3 1 8 #[(Value.int .i64 (0 : Int))] A23 n23 c23 (Value.slice (some ⟨Array.size h5_, 0, none⟩) 1 1) h7_ fun v8_ h9_ => ∃ A10_, ∃ n10_, ∃ c10_, v8_ = (Value.slice A10_ n10_ c10_) ∧ f4.l2 R A0 n0 c0 p7 x10 A11 n11 c11 A17 n17 c17 A18 n18 c18 A10_ n10_ c10_ A75 n75 c75 x76 x77 A149 n149 c149 x150 (IntKind.wrap .i64 (x151 + (1 : Int))) h9_) (f4.l2 R A0 n0 c0 p7 x10 A11 n11 c11 A17 n17 c17 A18 n18 c18 A23 n23 c23 A75 n75 c75 x76 x77 A149 n149 c149 x150 (IntKind.wrap .i64 (x151 + (1 : Int))) h5_))) (Run Try.prog 14 #[(Value.slice A23 n23 c23)] h fun v11_ h12_ => v11_ = (Value.tuple #[]) ∧ AppW 3 1 8 #[(Value.int .i64 (0 : Int))] A11 n11 c11 (Value.slice A23 n23 c23) h12_ fun v13_ h14_ => ∃ A15_, ∃ n15_, ∃ c15_, v13_ = (Value.slice A15_ n15_ c15_) ∧ Run Try.prog 18 #[(Value.pointer p7)] h14_ fun v16_ h17_ => ∃ A18_, ∃ n18_, ∃ c18_, v16_ = (Value.slice A18_ n18_ c18_) ∧ Run Try.prog 10 #[(Value.slice A18_ n18_ c18_), (Value.slice A23 n23 c23)] h17_ fun v19_ h20_ => ∃ b21_, v19_ = (Value.bool b21_) ∧ splitB (!b21_) (R (Value.bool false) h20_) (f4.j3 R A0 n0 c0 p7 x10 A15_ n15_ c15_ A17 n17 c17 A18 n18 c18 A75 n75 c75 x76 x77 h20_))
set_option maxRecDepth 100000 in
theorem f4.l2_in {R : Value → Heap → Prop} {A0 : Option Addr} {n0 : Nat} {c0 : Nat} {p7 : Option Addr} {x10 : Int} {A11 : Option Addr} {n11 : Nat} {c11 : Nat} {A17 : Option Addr} {n17 : Nat} {c17 : Nat} {A18 : Option Addr} {n18 : Nat} {c18 : Nat} {A23 : Option Addr} {n23 : Nat} {c23 : Nat} {A75 : Option Addr} {n75 : Nat} {c75 : Nat} {x76 : Int} {x77 : Int} {A149 : Option Addr} {n149 : Nat} {c149 : Nat} {x150 : Int} {x151 : Int} {h : Heap} (H : f4.l2T R A0 n0 c0 p7 x10 A11 n11 c11 A17 n17 c17 A18 n18 c18 A23 n23 c23 A75 n75 c75 x76 x77 A149 n149 c149 x150 x151 h) : f4.l2 R A0 n0 c0 p7 x10 A11 n11 c11 A17 n17 c17 A18 n18 c18 A23 n23 c23 A75 n75 c75 x76 x77 A149 n149 c149 x150 x151 h :=
  pt_intro mixed f4.good (Eq.mpr (show (Fwd Try.prog f4.T f4.kp Try.f4 R [false, false, true, false, true, false, true, false, true, true, true, true, true, true, false, false, true, true, false, false, true, false, true, true, true, true, true, true, true, true] (mkFr [(0, (Value.slice A0 n0 c0)), (7, (Value.pointer p7)), (10, (Value.int .i64 x10)), (11, (Value.slice A11 n11 c11)), (17, (Value.slice A17 n17 c17)), (18, (Value.slice A18 n18 c18)), (23, (Value.slice A23 n23 c23)), (75, (Value.slice A75 n75 c75)), (76, (Value.int .i64 x76)), (77, (Value.int .i64 x77)), (149, (Value.slice A149 n149 c149)), (150, (Value.int .i64 x150)), (151, (Value.int .i64 x151))]) h) = (f4.l2T R A0 n0 c0 p7 x10 A11 n11 c11 A17 n17 c17 A18 n18 c18 A23 n23 c23 A75 n75 c75 x76 x77 A149 n149 c149 x150 x151 h) by kernel_rfl) H)
set_option maxRecDepth 100000 in
def f4.j3T (R : Value → Heap → Prop) (A0 : Option Addr) (n0 : Nat) (c0 : Nat) (p7 : Option Addr) (x10 : Int) (A11 : Option Addr) (n11 : Nat) (c11 : Nat) (A17 : Option Addr) (n17 : Nat) (c17 : Nat) (A18 : Option Addr) (n18 : Nat) (c18 : Nat) (A75 : Option Addr) (n75 : Nat) (c75 : Nat) (x76 : Int) (x77 : Int) (h : Heap) : Prop :=
  Run Try.prog 27 #[(Value.pointer p7)] h fun v1_ h2_ => ∃ x3_, ∃ x4_, v1_ = (Value.tuple #[(Value.int .i64 x3_), (Value.int .i64 x4_)]) ∧ splitB (x3_ != ((n18 : Nat) : Int)) (R (Value.bool false) h2_) (splitB (x4_ != x10) (R (Value.bool false) h2_) (Run Try.prog 28 #[(Value.pointer p7)] h2_ fun v5_ h6_ => ∃ A7_, ∃ n7_, ∃ c7_, v5_ = (Value.slice A7_ n7_ c7_) ∧ Run Try.prog 10 #[(Value.slice A7_ n7_ c7_), (Value.slice A17 n17 c17)] h6_ fun v8_ h9_ => ∃ b10_, v8_ = (Value.bool b10_) ∧ splitB (!b10_) (R (Value.bool false) h9_) (f4.l0 R A0 n0 c0 p7 x10 A11 n11 c11 A75 n75 c75 x76 (IntKind.wrap .i64 (x77 + (1 : Int))) h9_)))
set_option maxRecDepth 100000 in
theorem f4.j3_in {R : Value → Heap → Prop} {A0 : Option Addr} {n0 : Nat} {c0 : Nat} {p7 : Option Addr} {x10 : Int} {A11 : Option Addr} {n11 : Nat} {c11 : Nat} {A17 : Option Addr} {n17 : Nat} {c17 : Nat} {A18 : Option Addr} {n18 : Nat} {c18 : Nat} {A75 : Option Addr} {n75 : Nat} {c75 : Nat} {x76 : Int} {x77 : Int} {h : Heap} (H : f4.j3T R A0 n0 c0 p7 x10 A11 n11 c11 A17 n17 c17 A18 n18 c18 A75 n75 c75 x76 x77 h) : f4.j3 R A0 n0 c0 p7 x10 A11 n11 c11 A17 n17 c17 A18 n18 c18 A75 n75 c75 x76 x77 h :=
  pt_intro mixed f4.good (Eq.mpr (show (Fwd Try.prog f4.T f4.kp Try.f4 R [true, true, true, true, true, true, true, false, false, true, true, false, false, true, false, true, true, true, true, true, true, true, true] (mkFr [(0, (Value.slice A0 n0 c0)), (7, (Value.pointer p7)), (10, (Value.int .i64 x10)), (11, (Value.slice A11 n11 c11)), (17, (Value.slice A17 n17 c17)), (18, (Value.slice A18 n18 c18)), (75, (Value.slice A75 n75 c75)), (76, (Value.int .i64 x76)), (77, (Value.int .i64 x77))]) h) = (f4.j3T R A0 n0 c0 p7 x10 A11 n11 c11 A17 n17 c17 A18 n18 c18 A75 n75 c75 x76 x77 h) by kernel_rfl) H)
set_option maxRecDepth 100000 in
def f4.j5T (R : Value → Heap → Prop) (A0 : Option Addr) (n0 : Nat) (c0 : Nat) (p7 : Option Addr) (x10 : Int) (A11 : Option Addr) (n11 : Nat) (c11 : Nat) (a13 : Addr) (A16 : Option Addr) (n16 : Nat) (c16 : Nat) (A17 : Option Addr) (n17 : Nat) (c17 : Nat) (A18 : Option Addr) (n18 : Nat) (c18 : Nat) (a22 : Addr) (A75 : Option Addr) (n75 : Nat) (c75 : Nat) (x76 : Int) (x77 : Int) (A104 : Option Addr) (n104 : Nat) (c104 : Nat) (x105 : Int) (x106 : Int) (A122 : Option Addr) (n122 : Nat) (c122 : Nat) (x123 : Int) (x124 : Int) (b137 : Bool) (h : Heap) : Prop :=
  splitB b137 (∃ v1_, ldv false 1 h a22 = some v1_ ∧ ∃ x2_, v1_ = (Value.int .i64 x2_) ∧ newH h (Obj.cells #[(Value.int .i64 x2_)] 3) fun h3_ => AppW 3 1 8 #[(Value.int .i64 (0 : Int))] A18 n18 c18 (Value.slice (some ⟨Array.size h, 0, none⟩) 1 1) h3_ fun v4_ h5_ => ∃ A6_, ∃ n6_, ∃ c6_, v4_ = (Value.slice A6_ n6_ c6_) ∧ f4.l3 R A0 n0 c0 p7 x10 A11 n11 c11 a13 A16 n16 c16 A17 n17 c17 A6_ n6_ c6_ A75 n75 c75 x76 x77 A104 n104 c104 x105 x106 A122 n122 c122 x123 (IntKind.wrap .i64 (x124 + (1 : Int))) h5_) (f4.l3 R A0 n0 c0 p7 x10 A11 n11 c11 a13 A16 n16 c16 A17 n17 c17 A18 n18 c18 A75 n75 c75 x76 x77 A104 n104 c104 x105 x106 A122 n122 c122 x123 (IntKind.wrap .i64 (x124 + (1 : Int))) h)
set_option maxRecDepth 100000 in
theorem f4.j5_in {R : Value → Heap → Prop} {A0 : Option Addr} {n0 : Nat} {c0 : Nat} {p7 : Option Addr} {x10 : Int} {A11 : Option Addr} {n11 : Nat} {c11 : Nat} {a13 : Addr} {A16 : Option Addr} {n16 : Nat} {c16 : Nat} {A17 : Option Addr} {n17 : Nat} {c17 : Nat} {A18 : Option Addr} {n18 : Nat} {c18 : Nat} {a22 : Addr} {A75 : Option Addr} {n75 : Nat} {c75 : Nat} {x76 : Int} {x77 : Int} {A104 : Option Addr} {n104 : Nat} {c104 : Nat} {x105 : Int} {x106 : Int} {A122 : Option Addr} {n122 : Nat} {c122 : Nat} {x123 : Int} {x124 : Int} {b137 : Bool} {h : Heap} (H : f4.j5T R A0 n0 c0 p7 x10 A11 n11 c11 a13 A16 n16 c16 A17 n17 c17 A18 n18 c18 a22 A75 n75 c75 x76 x77 A104 n104 c104 x105 x106 A122 n122 c122 x123 x124 b137 h) : f4.j5 R A0 n0 c0 p7 x10 A11 n11 c11 a13 A16 n16 c16 A17 n17 c17 A18 n18 c18 a22 A75 n75 c75 x76 x77 A104 n104 c104 x105 x106 A122 n122 c122 x123 x124 b137 h :=
  pt_intro mixed f4.good (Eq.mpr (show (Fwd Try.prog f4.T f4.kp Try.f4 R [true, true, false, false, true, true, false, false, true, true, true, false, false, true, true, false, false, true, false, true, true, true, true, false, false, true, true, false, false, true, false, true, true, true, true, true, true, true, true] (mkFr [(0, (Value.slice A0 n0 c0)), (7, (Value.pointer p7)), (10, (Value.int .i64 x10)), (11, (Value.slice A11 n11 c11)), (13, (Value.pointer (some a13))), (16, (Value.slice A16 n16 c16)), (17, (Value.slice A17 n17 c17)), (18, (Value.slice A18 n18 c18)), (22, (Value.pointer (some a22))), (75, (Value.slice A75 n75 c75)), (76, (Value.int .i64 x76)), (77, (Value.int .i64 x77)), (104, (Value.slice A104 n104 c104)), (105, (Value.int .i64 x105)), (106, (Value.int .i64 x106)), (122, (Value.slice A122 n122 c122)), (123, (Value.int .i64 x123)), (124, (Value.int .i64 x124)), (137, (Value.bool b137))]) h) = (f4.j5T R A0 n0 c0 p7 x10 A11 n11 c11 a13 A16 n16 c16 A17 n17 c17 A18 n18 c18 a22 A75 n75 c75 x76 x77 A104 n104 c104 x105 x106 A122 n122 c122 x123 x124 b137 h) by kernel_rfl) H)
set_option maxRecDepth 100000 in
def f4.runT (R : Value → Heap → Prop) (A0 : Option Addr) (n0 : Nat) (c0 : Nat) (A1 : Option Addr) (n1 : Nat) (c1 : Nat) (h : Heap) : Prop :=
  newH h (Obj.cells #[(Value.int .i64 (9 : Int))] 3) fun h1_ => ∃ l2_ : List Value, (Value.agg #[(Value.int .i64 (3 : Int)), (Value.bool true), (Value.bool false), (Value.slice (some ⟨Array.size h, 0, none⟩) 1 1)]) = Value.agg l2_.toArray ∧ l2_.length = 4 ∧ (newH h1_ (Obj.cells ((List.take 0 ([(Value.int .i64 (0 : Int)), (Value.bool false), (Value.bool false), (Value.slice none 0 0)]) ++ l2_ ++ List.drop 4 ([(Value.int .i64 (0 : Int)), (Value.bool false), (Value.bool false), (Value.slice none 0 0)])).toArray) 28) fun h3_ => Run Try.prog 17 #[(Value.slice (some ⟨Array.size h1_, 0, none⟩) 1 1)] h3_ fun v4_ h5_ => ∃ p6_, ∃ x7_, v4_ = (Value.tuple #[(Value.pointer p6_), (Value.int .i64 x7_)]) ∧ splitB (x7_ != (0 : Int)) (R (Value.bool false) h5_) (splitB (Option.isNone p6_) (R (Value.bool false) h5_) (Run Try.prog 18 #[(Value.pointer p6_)] h5_ fun v8_ h9_ => ∃ A10_, ∃ n10_, ∃ c10_, v8_ = (Value.slice A10_ n10_ c10_) ∧ newH h9_ (Obj.cells #[(Value.int .i64 (9 : Int))] 3) fun h11_ => Run Try.prog 10 #[(Value.slice A10_ n10_ c10_), (Value.slice (some ⟨Array.size h9_, 0, none⟩) 1 1)] h11_ fun v12_ h13_ => ∃ b14_, v12_ = (Value.bool b14_) ∧ splitB (!b14_) (R (Value.bool false) h13_) (f4.j0 R A0 n0 c0 A1 n1 c1 h13_))))
set_option maxRecDepth 100000 in
theorem f4.run {R : Value → Heap → Prop} {A0 : Option Addr} {n0 : Nat} {c0 : Nat} {A1 : Option Addr} {n1 : Nat} {c1 : Nat} {h : Heap} (H : f4.runT R A0 n0 c0 A1 n1 c1 h) : Run Try.prog 4 #[(Value.slice A0 n0 c0), (Value.slice A1 n1 c1)] h R :=
  run_of mixed Try.func4 (by kernel_rfl) (by kernel_rfl) f4.good (Eq.mpr (show (Fwd Try.prog f4.T f4.kp Try.f4 R [] (mkFr (argL [(Value.slice A0 n0 c0), (Value.slice A1 n1 c1)] 0)) h) = (f4.runT R A0 n0 c0 A1 n1 c1 h) by kernel_rfl) H)
end Go.Proofs.Ythnlhffpmlgmfad.Fw

end
section
namespace Go.Hw
open Go
section tests
variable {A B : Prop}
theorem split_not {b : Bool} (h : splitB b B A) : splitB (!b) A B := by cases b <;> exact h
theorem split_t (h : A) : splitB true A B := h
theorem split_f (h : B) : splitB false A B := h
end tests
theorem wrap_in {n : Int} (h0 : -9223372036854775808 ≤ n) (h1 : n ≤ 9223372036854775807) : IntKind.wrap .i64 n = n := by
  rcases Int.le_total 0 n with h | h
  · exact wrap_nat h h1
  · rcases (show n = 0 ∨ n < 0 by omega) with h2 | h2
    · subst h2; rfl
    have e : n % (2 ^ 64 : Int) = n + 2 ^ 64 := by omega
    simp only [IntKind.wrap, IntKind.signed, IntKind.bits, e, Bool.true_and]
    rw [if_pos (by simp only [decide_eq_true_eq]; omega)]
    omega
theorem add_add (a : Addr) (m n : Nat) : (a.add m).add n = a.add (m + n) := by
  unfold Addr.add
  by_cases h1 : m = 0
  · subst h1; simp
  · by_cases h2 : n = 0
    · subst h2; simp
    · have h3 : m + n ≠ 0 := by omega
      simp only [if_neg h1, if_neg h2, if_neg h3]
      rw [Nat.add_assoc]
theorem add_block (a : Addr) (n : Nat) : (a.add n).block = a.block := by unfold Addr.add; split <;> rfl
theorem add_off (a : Addr) (n : Nat) : (a.add n).off = a.off + n := by
  unfold Addr.add
  split
  · rename_i h; subst h; rfl
  · rfl
theorem add_spot {a : Addr} (n : Nat) (h : a.spot = none) : (a.add n).spot = none := by unfold Addr.add; split; exact h; rfl
def Blk (h : Heap) (b : Nat) (c : List Value) (t : TypeId) : Prop := h[b]? = some (.cells c.toArray t (0, 0))
def Only (h h' : Heap) (b : Nat) : Prop := h'.size = h.size ∧ ∀ i, i ≠ b → h'[i]? = h[i]?
section
variable {h h' : Heap} {b : Nat} {c : List Value} {t : TypeId}
theorem Blk.lt (hb : Blk h b c t) : b < h.size := (Array.getElem?_eq_some_iff.1 hb).1
theorem Blk.cell (hb : Blk h b c t) {a : Addr} {v : Value} (h1 : a.block = b) (h2 : a.spot = none) (h3 : c[a.off]? = some v) : cellH h a = some v := by
  unfold cellH Blk at *
  rw [h1, hb, h2]
  simpa using h3
theorem Blk.cells (hb : Blk h b c t) {a : Addr} (h1 : a.block = b) (h2 : a.spot = none) : ∀ (n i : Nat), a.off + i + n ≤ c.length → cellsH h a i n = some ((c.drop (a.off + i)).take n) := by
  intro n
  induction n with
  | zero => intro i _; simp [cellsH]
  | succ n ih =>
    intro i hle
    have hlt : a.off + i < c.length := by omega
    have h3 : c[(a.add i).off]? = some c[a.off + i] := by rw [add_off]; exact List.getElem?_eq_getElem hlt
    simp only [cellsH, hb.cell (a := a.add i) (by rw [add_block]; exact h1) (add_spot i h2) h3, ih (i + 1) (by omega)]
    rw [List.drop_eq_getElem_cons hlt, List.take_succ_cons]
    rfl
theorem Blk.st (hb : Blk h b c t) {a : Addr} {v : Value} (h1 : a.block = b) (h2 : a.spot = none) (h3 : a.off < c.length) (h4 : oneCell v True) :
    ∃ h', st1 h a v = some h' ∧ Blk h' b (c.set a.off v) t ∧ Only h h' b := by
  have hc : cellH h a = some c[a.off] := hb.cell h1 h2 (List.getElem?_eq_getElem h3)
  have hf : frozenH h a = false := by
    unfold frozenH
    rw [h1, show h[b]? = some (.cells c.toArray t (0, 0)) from hb]
    simp
  refine ⟨setH h a v, ?_, ?_, ?_⟩
  · cases v <;> simp_all [st1, oneCell]
  · unfold Blk setH
    rw [Array.getElem?_modify, if_pos h1.symm.symm, show h[b]? = some (.cells c.toArray t (0, 0)) from hb]
    simp [h2]
  · refine ⟨by simp [setH], fun i hi => ?_⟩
    unfold setH
    rw [Array.getElem?_modify, if_neg (by rw [h1]; exact fun e => hi e.symm)]
theorem Blk.new (h : Heap) (c : Array Value) (t : TypeId) : Blk (h.push (.cells c t)) h.size c.toList t := by
  unfold Blk; simp
theorem Ext.push (h : Heap) (o : Obj) : Ext h (h.push o) := ⟨by simp, fun i hi => by rw [Array.getElem?_push, if_neg (by omega)]⟩
theorem Only.refl (h : Heap) (b : Nat) : Only h h b := ⟨rfl, fun _ _ => rfl⟩
theorem Only.trans {h'' : Heap} {b : Nat} (o : Only h h' b) (p : Only h' h'' b) : Only h h'' b := ⟨p.1.trans o.1, fun i hi => (p.2 i hi).trans (o.2 i hi)⟩
end
def Rd {α : Type} (sz : Nat) (E : Heap → α → List Value → Prop) (h : Heap) (A : Option Addr) (l : List α) : Prop :=
  ∀ i (hi : i < l.length), ∃ a cs, A = some a ∧ cellsH h (a.add (i * sz)) 0 sz = some cs ∧ E h l[i] cs
def eInt (k : IntKind) (_ : Heap) (x : Int) (cs : List Value) : Prop := cs = [.int k x]
def eRow {α : Type} (sz : Nat) (E : Heap → α → List Value → Prop) (h : Heap) (l : List α) (cs : List Value) : Prop := ∃ A c, cs = [.slice A l.length c] ∧ l.length ≤ c ∧ Rd sz E h A l
section
variable {α : Type} {sz : Nat} {E : Heap → α → List Value → Prop} {h h' : Heap} {A : Option Addr} {l : List α}
theorem Rd.nil : Rd sz E h A ([] : List α) := fun i hi => by cases hi
end
theorem CallF.of {P : Program} {f : FuncId} {first captured : Array Value} {args : List Value} {h : Heap} {R : Value → Heap → Prop} (l : List Value) (hc : calleeOk P f = true) (hl : first.toList ++ args ++ captured.toList = l) (hr : Run P f l.toArray h R) :
    CallF P (.func (.func f) first captured) args h R := by
  unfold CallF
  simp only [hc, hl]
  exact hr
theorem newH_in {h : Heap} {c : Array Value} {t : TypeId} {K : Heap → Prop} (H : ∀ h', Blk h' h.size c.toList t → Ext h h' → h'.size = h.size + 1 → K h') : newH h (.cells c t) K :=
  H _ (Blk.new _ _ _) (Ext.push _ _) (by simp)
theorem CallF.mono {P : Program} {v : Value} {args : List Value} {h : Heap} {R R' : Value → Heap → Prop} (hh : CallF P v args h R) (hr : ∀ v h, R v h → R' v h) : CallF P v args h R' := by
  unfold CallF at hh ⊢
  split at hh
  · split at hh
    · exact hh.mono hr
    · exact ExtF.mono hh hr
  · exact hh.elim
def idxOf {α : Type} (p : α → Bool) (l : List α) : Int := match l.findIdx? p with | some i => i | none => -1
theorem idxOf_ge {α : Type} (p : α → Bool) (l : List α) : decide (idxOf p l ≥ 0) = l.any p := by
  unfold idxOf
  cases h : l.findIdx? p with
  | none =>
    rw [List.findIdx?_eq_none_iff] at h
    have : l.any p = false := by simpa using h
    simp [this]
  | some i =>
    have hs : (l.findIdx? p).isSome = true := by rw [h]; rfl
    rw [List.findIdx?_isSome] at hs
    simp [hs]
end Go.Hw

end
section
namespace Go.Hw
open Go Go.RowKit
theorem below_of {W W' : World} (e : Ext W.heap W'.heap) (s : Same W W') : Below W.heap.size W W' := ⟨s.os, s.tape, s.output, e.1, e.2⟩
section
variable {H : Type} {enc : TypeId × Value → H} {P : Program} {W : World}
theorem cells_of {base : Nat} {a : Addr} {n : Nat} {cs : List Value} (hc : W.cells? base a n = some cs) : cellsH W.heap a 0 n = some cs := by
  obtain ⟨_, hlen, hget⟩ := World.cells?_some hc
  have key : ∀ (m i : Nat), i + m = n → cellsH W.heap a i m = some (cs.drop i) := by
    intro m
    induction m with
    | zero =>
      intro i hi
      rw [List.drop_eq_nil_of_le (by omega)]
      rfl
    | succ m ih =>
      intro i hi
      have hlt : i < cs.length := by omega
      have h1 : cellH W.heap (a.add i) = some cs[i] := (hget i (by omega)).trans (List.getElem?_eq_getElem hlt)
      simp only [cellsH, h1, ih (i + 1) (by omega)]
      rw [List.drop_eq_getElem_cons hlt]
  simpa using key n 0 (by omega)
def Tells {α : Type} (enc : TypeId × Value → H) (P : Program) (W : World) (t : TypeId) (E : Heap → α → List Value → Prop) (Q : α → Prop) : Prop :=
  ∀ (fuel : Nat) (cs : List Value) (x : DataW H × List MemPlace), DataW.trod enc P W 0 (fun _ => true) true fuel t cs = some x → (x.1.weights P t).all (· ≤ reachBytes) = true → ∃ a, E W.heap a cs ∧ Q a
theorem tells_int {t : TypeId} {k : IntKind} (hu : P.underlying t = some (.int k)) : Tells enc P W t (eInt k) (fun x => (Lit.int k x).wf = true) := by
  intro fuel cs x h _
  obtain ⟨n, h1, _, h3⟩ := DataW.trod_int hu h
  exact ⟨n, h1, h3⟩
def eBool (_ : Heap) (x : Bool) (cs : List Value) : Prop := cs = [.bool x]
theorem tells_bool {t : TypeId} (hu : P.underlying t = some .bool) : Tells enc P W t eBool (fun _ => True) := by
  intro fuel cs x h _
  obtain ⟨n, h1, _⟩ := DataW.trod_bool hu h
  exact ⟨n, h1, trivial⟩
theorem weightsAll_all {e : TypeId} : ∀ (l : List (DataW H)), (DataW.weightsAll P e l).all (· ≤ reachBytes) = true → ∀ d ∈ l, (d.weights P e).all (· ≤ reachBytes) = true := by
  intro l
  induction l with
  | nil => intro _ d hd; cases hd
  | cons x l ih =>
    intro h d hd
    simp only [DataW.weightsAll, List.all_append, Bool.and_eq_true] at h
    rcases List.mem_cons.1 hd with rfl | hd
    · exact h.1
    · exact ih h.2 d hd
theorem list_choose {α : Type} {n : Nat} {p : Nat → α → Prop} (h : ∀ i, i < n → ∃ x, p i x) : ∃ l : List α, l.length = n ∧ ∀ i (hi : i < l.length), p i l[i] := by
  induction n with
  | zero => exact ⟨[], rfl, fun i hi => by cases hi⟩
  | succ n ih =>
    obtain ⟨l, h1, h2⟩ := ih fun i hi => h i (by omega)
    obtain ⟨x, hx⟩ := h n (by omega)
    refine ⟨l ++ [x], by simp [h1], fun i hi => ?_⟩
    rw [List.length_append, List.length_singleton] at hi
    by_cases hin : i < l.length
    · rw [List.getElem_append_left hin]; exact h2 i hin
    · have : i = l.length := by omega
      subst this
      rw [List.getElem_append_right (Nat.le_refl _)]
      simp only [Nat.sub_self, List.getElem_cons_zero]
      rw [h1]; exact hx
theorem tells_slice {α : Type} {t e : TypeId} {sz B : Nat} {E : Heap → α → List Value → Prop} {Q : α → Prop} (hu : P.underlying t = some (.slice e)) (hc : P.cellsOf e = sz) (hB : P.bytesOf e = B) (he : Tells enc P W e E Q) :
    Tells enc P W t (eRow sz E) (fun l => l.length * B ≤ reachBytes ∧ ∀ a ∈ l, Q a) := by
  intro fuel cs x h hw
  rcases DataW.trod_slice hu h with ⟨h1, h2⟩ | ⟨a, len, cap, elems, rest, n, _, h1, h2, _, hl, hm, hlen, hel, _, _⟩
  · exact ⟨[], ⟨none, 0, h1, Nat.le_refl _, Rd.nil⟩, by simp, fun a ha => by cases ha⟩
  · rw [h2] at hw
    simp only [DataW.weights, hu, List.all_cons, List.all_append, Bool.and_eq_true, decide_eq_true_eq] at hw
    obtain ⟨hw1, hw2, _⟩ := hw
    have hall := weightsAll_all _ hw2
    obtain ⟨l, h3, h4⟩ := list_choose (n := len) (p := fun i x => (∃ cs', cellsH W.heap (a.add (i * sz)) 0 sz = some cs' ∧ E W.heap x cs') ∧ Q x) (fun i hi => by
      have h5 := hel i hi
      have hlt : i < elems.length := by omega
      rw [List.getElem?_eq_getElem hlt] at h5
      obtain ⟨cs', h6, h7⟩ := Option.bind_eq_some_iff.1 h5
      obtain ⟨x, h8, h9⟩ := he _ _ _ h7 (hall _ (List.mem_map.2 ⟨_, List.getElem_mem hlt, rfl⟩))
      rw [hc] at h6
      exact ⟨x, ⟨cs', cells_of h6, h8⟩, h9⟩)
    refine ⟨l, ⟨some a, cap, by rw [h1, h3], by omega, fun i hi => ?_⟩, ?_, fun x hx => ?_⟩
    · obtain ⟨⟨cs', h5, h6⟩, _⟩ := h4 i hi
      exact ⟨a, cs', rfl, h5, h6⟩
    · rw [hB] at hw1
      have : l.length ≤ (List.map (·.1) elems).length + (List.map (·.1) rest).length := by simp; omega
      exact Nat.le_trans (Nat.mul_le_mul_right _ this) hw1
    · obtain ⟨i, hi, rfl⟩ := List.getElem_of_mem hx
      exact (h4 i hi).2
end
theorem wf_i64 {x : Int} (h : (Lit.int .i64 x).wf = true) : -9223372036854775808 ≤ x ∧ x ≤ 9223372036854775807 := by
  simpa [Lit.wf, IntKind.min, IntKind.max, IntKind.signed, IntKind.bits] using h
end Go.Hw

end
section
namespace Go.Hw
open Go
theorem cellsH_length {h : Heap} {a : Addr} : ∀ {n i : Nat} {cs : List Value}, cellsH h a i n = some cs → cs.length = n := by
  intro n
  induction n with
  | zero => intro i cs hc; simp only [cellsH, Option.some.injEq] at hc; subst hc; rfl
  | succ n ih =>
    intro i cs hc
    simp only [cellsH] at hc
    split at hc
    · split at hc
      · rename_i vs hv; cases hc; simp [ih hv]
      · cases hc
    · cases hc
def Flat (v : Value) : Prop := oneCell v True
theorem Blk.stH {b : Nat} {t : TypeId} : ∀ (xs : List Value) {h : Heap} {p q r : List Value} {a : Addr} {i : Nat}, Blk h b (p ++ q ++ r) t → a.block = b → a.spot = none → a.off + i = p.length → q.length = xs.length → (∀ v ∈ xs, Flat v) →
    ∃ h', stH h a xs i = some h' ∧ Blk h' b (p ++ xs ++ r) t ∧ Only h h' b := by
  intro xs
  induction xs with
  | nil =>
    intro h p q r a i hb h1 h2 h3 h4 h5
    rw [List.length_eq_zero_iff.1 h4] at hb
    exact ⟨h, rfl, hb, .refl _ _⟩
  | cons v xs ih =>
    intro h p q r a i hb h1 h2 h3 h4 h5
    obtain ⟨u, q', rfl⟩ : ∃ u q', q = u :: q' := by cases q with | nil => cases h4 | cons u q' => exact ⟨u, q', rfl⟩
    have hoff : (a.add i).off = p.length := by rw [add_off, h3]
    obtain ⟨h', s1, b1, o1⟩ := hb.st (a := a.add i) (v := v) (by rw [add_block, h1]) (add_spot _ h2) (by rw [hoff]; simp) (h5 v (List.mem_cons_self ..))
    rw [hoff] at b1
    have e : (p ++ u :: q' ++ r).set p.length v = (p ++ [v]) ++ q' ++ r := by
      rw [List.append_assoc, List.set_append_right _ _ (Nat.le_refl _)]; simp
    rw [e] at b1
    obtain ⟨h'', s2, b2, o2⟩ := ih (p := p ++ [v]) (q := q') (r := r) (a := a) (i := i + 1) b1 h1 h2 (by simp; omega) (by simpa using h4) (fun x hx => h5 x (List.mem_cons_of_mem _ hx))
    refine ⟨h'', ?_, by simpa using b2, o1.trans o2⟩
    simp only [Go.Hw.stH, s1, s2]
theorem zcells_size (z : Array Value) (n : Nat) : (zcells z n).size = n * z.size := by
  unfold zcells Builtin.zeroCells
  simp
end Go.Hw

end
section
namespace Go.Hw
open Go Go.RowKit
theorem cellsH_get {h : Heap} {a : Addr} : ∀ {n i : Nat} {cs : List Value} {k : Nat} {v : Value}, cellsH h a i n = some cs → cs[k]? = some v → cellH h (a.add (i + k)) = some v := by
  intro n
  induction n with
  | zero => intro i cs k v hc hv; simp only [cellsH, Option.some.injEq] at hc; subst hc; cases hv
  | succ n ih =>
    intro i cs k v hc hv
    simp only [cellsH] at hc
    split at hc
    · rename_i u hu
      split at hc
      · rename_i vs hvs
        cases hc
        cases k with
        | zero => cases hv; exact hu
        | succ k => rw [show i + (k + 1) = i + 1 + k by omega]; exact ih hvs (by simpa using hv)
      · cases hc
    · cases hc
section
variable {α : Type} {sz : Nat} {E : Heap → α → List Value → Prop} {h h' : Heap} {A : Option Addr} {l : List α}
theorem cellsH_append {h : Heap} {a : Addr} : ∀ {m i n : Nat} {cs ds : List Value}, cellsH h a i m = some cs → cellsH h a (i + m) n = some ds → cellsH h a i (m + n) = some (cs ++ ds) := by
  intro m
  induction m with
  | zero => intro i n cs ds h1 h2; simp only [cellsH, Option.some.injEq] at h1; subst h1; simpa using h2
  | succ m ih =>
    intro i n cs ds h1 h2
    simp only [cellsH] at h1
    split at h1
    · rename_i u hu
      split at h1
      · rename_i vs hvs
        cases h1
        rw [show m + 1 + n = (m + n) + 1 by omega]
        have h3 := ih hvs (n := n) (ds := ds) (by rw [show i + 1 + m = i + (m + 1) by omega]; exact h2)
        simp only [cellsH, hu, h3, List.cons_append]
      · cases h1
    · cases h1
theorem cellsH_shift {h : Heap} {a : Addr} {j : Nat} : ∀ {n i : Nat}, cellsH h (a.add j) i n = cellsH h a (j + i) n := by
  intro n
  induction n with
  | zero => intro i; rfl
  | succ n ih =>
    intro i
    simp only [cellsH, add_add]
    rw [ih, Nat.add_assoc]
end
theorem Blk.stAll {h : Heap} {b : Nat} {c : List Value} {t : TypeId} (hb : Blk h b c t) (l : List Value) (hn : l.length = c.length) (hf : ∀ v ∈ l, Flat v) :
    ∃ h', Go.Hw.stH h ⟨b, 0, none⟩ l 0 = some h' ∧ Blk h' b l t ∧ Only h h' b := by
  obtain ⟨h', s1, b1, o1⟩ := Blk.stH l (p := []) (q := c) (r := []) (a := ⟨b, 0, none⟩) (i := 0) (by simpa using hb) rfl rfl rfl hn.symm hf
  exact ⟨h', s1, by simpa using b1, o1⟩
section
variable {P : Program} {d : Nat} {t : TypeId}
def flatB (P : Program) (t : TypeId) (x y : Value) : Option Bool :=
  match P.underlying t, x, y with
  | some (.int _), .int k a, .int k' b => match kindB k k' with | true => some (a == b) | false => none
  | some .bool, .bool a, .bool b => some (a == b)
  | some .string, .string a, .string b => some (a == b)
  | _, _, _ => none
end
section
variable {H : Type} {enc : TypeId × Value → H} {P : Program} {W : World}
def TellsF {α : Type} (enc : TypeId × Value → H) (P : Program) (W : World) (T o : Nat) (fs : List (TypeId × Nat)) (F : Heap → α → List Value → Prop) (Q : α → Prop) : Prop :=
  ∀ (n : Nat) (cs : List Value) (xs : List (DataW H × List MemPlace)), cs.length = T → xs.length = fs.length → (∀ (i : Nat) (f : TypeId × Nat), fs[i]? = some f → DataW.trod enc P W 0 (fun _ => true) true n f.1 ((cs.drop f.2).take (P.cellsOf f.1)) = xs[i]?) →
    (DataW.weightsEach P (fs.map (·.1)) (xs.map (·.1))).all (· ≤ reachBytes) = true → ∃ b, F W.heap b (cs.drop o) ∧ Q b
def eNil (_ : Heap) (_ : Unit) (cs : List Value) : Prop := cs = []
def eCons {α β : Type} (E : Heap → α → List Value → Prop) (F : Heap → β → List Value → Prop) (h : Heap) (x : α × β) (cs : List Value) : Prop := ∃ c1 c2, cs = c1 ++ c2 ∧ E h x.1 c1 ∧ F h x.2 c2
theorem tf_nil {T : Nat} : TellsF enc P W T T [] eNil (fun _ => True) := fun n cs xs hl _ _ _ => ⟨(), by unfold eNil; rw [List.drop_eq_nil_of_le (by omega)], trivial⟩
theorem tf_cons {α β : Type} {E : Heap → α → List Value → Prop} {F : Heap → β → List Value → Prop} {Q : α → Prop} {Q' : β → Prop} {T o s : Nat} {f : TypeId} {fs : List (TypeId × Nat)} (hs : P.cellsOf f = s)
    (he : Tells enc P W f E Q) (hf : TellsF enc P W T (o + s) fs F Q') : TellsF enc P W T o ((f, o) :: fs) (eCons E F) (fun x => Q x.1 ∧ Q' x.2) := by
  intro n cs xs hl hx hi hw
  cases xs with
  | nil => cases hx
  | cons x xs =>
    have h0 := hi 0 (f, o) rfl
    simp only [hs] at h0
    simp only [List.map_cons, DataW.weightsEach, List.all_append, Bool.and_eq_true] at hw
    obtain ⟨a, ha, qa⟩ := he n _ _ h0 hw.1
    obtain ⟨b, hb, qb⟩ := hf n cs xs hl (by simpa using hx) (fun i g hg => by simpa using hi (i + 1) g hg) hw.2
    exact ⟨(a, b), ⟨_, _, by rw [← List.drop_drop, List.take_append_drop], ha, hb⟩, qa, qb⟩
def shapeOf (P : Program) (t : TypeId) : Option (List (TypeId × Nat)) := match P.underlying t with | some (.struct fs) => some (fs.toList.map fun f => (f.type, f.offset)) | _ => none
theorem tells_struct {α : Type} {F : Heap → α → List Value → Prop} {Q : α → Prop} {t : TypeId} {fs : List (TypeId × Nat)} {T : Nat} (hs : shapeOf P t = some fs) (hc : P.cellsOf t = T) (hf : TellsF enc P W T 0 fs F Q) : Tells enc P W t F Q := by
  intro fuel cs x h hw
  unfold shapeOf at hs
  split at hs
  · rename_i fa hu
    cases hs
    obtain ⟨xs, n, _, rfl, hl, hlen, hi⟩ := DataW.trod_struct hu h
    simp only [DataW.weights, hu] at hw
    obtain ⟨b, hb, qb⟩ := hf n cs xs (by rw [hl, hc]) (by simpa using hlen) (fun i f hif => by
      rw [List.getElem?_map, Option.map_eq_some_iff] at hif
      obtain ⟨g, hg, rfl⟩ := hif
      exact hi i g (by simpa using hg)) (by rw [List.map_map]; exact hw)
    exact ⟨b, by simpa using hb, qb⟩
  · cases hs
theorem tells_map {α β : Type} {E : Heap → α → List Value → Prop} {F : Heap → β → List Value → Prop} {Q : α → Prop} {Q' : β → Prop} {t : TypeId} (he : Tells enc P W t E Q) (hm : ∀ a cs, E W.heap a cs → Q a → ∃ b, F W.heap b cs ∧ Q' b) : Tells enc P W t F Q' :=
  fun fuel cs x h hw => let ⟨a, ha, qa⟩ := he fuel cs x h hw; hm a cs ha qa
end
end Go.Hw

end
section
namespace Go.Hw
open Go
def MapB {α : Type} (kv : α → Value) (h : Heap) (m : Nat) (es : List (α × Value)) : Prop :=
  ∃ (e : Array MapEntry) (clock : Nat), h[m]? = some (.map e clock) ∧ e.toList.map (fun x => (x.key, x.val)) = es.map fun x => (kv x.1, x.2)
section
variable {α : Type} {kv : α → Value} {h h' : Heap} {m : Nat} {es : List (α × Value)}
theorem MapB.lt (hb : MapB kv h m es) : m < h.size := by
  obtain ⟨e, c, h1, _⟩ := hb
  exact (Array.getElem?_eq_some_iff.1 h1).1
variable {P : Program} {t : TypeId}
theorem gen_makeMap {K : Value → Heap → Prop} (hk : ∀ h', MapB kv h' h.size [] → Ext h h' → h'.size = h.size + 1 → K (.map (some h.size)) h') : Gen P (Instr.makeMap t none) h K :=
  hk _ ⟨#[], 0, by simp, rfl⟩ (Ext.push _ _) (by simp)
theorem hwp_getObj {r : Nat} {o : Obj} {K : Obj → Heap → Prop} (h1 : h[r]? = some o) (h2 : ∀ c e f, o ≠ .cells c e f) (hk : K o h) : Hwp P (getObj r) h K := ⟨o, h1, h2, hk⟩
theorem hwp_setObj {r : Nat} {o o' : Obj} {K : Unit → Heap → Prop} (h1 : h[r]? = some o') (h2 : ∀ c e f, o' ≠ .cells c e f) (hk : K () (h.setIfInBounds r o)) : Hwp P (setObj r o) h K := ⟨o', h1, h2, hk⟩
def mget {α : Type} [DecidableEq α] (es : List (α × Value)) (k : α) : Option Value := (es.find? fun x => decide (k = x.1)).map (·.2)
structure KeyOk (P : Program) (t : TypeId) {α : Type} [DecidableEq α] (kv : α → Value) (elem : TypeId) : Prop where
  key : ∃ key kind, P.underlying t = some (.map key elem) ∧ P.underlying key = some kind ∧ (∀ b n v h K, K () h → Hwp P (Instr.checkKey b (n + 1) key (kv v)) h K) ∧ ∀ a b, Instr.sameNow kind (kv a) (kv b) = some (decide (a = b))
  same : ∀ a, Instr.sameBits 10000 (kv a) (kv a) = true
variable [DecidableEq α]
theorem findNow_spec {kind : TypeDesc} (hs : ∀ a b, Instr.sameNow kind (kv a) (kv b) = some (decide (a = b))) (k : α) : ∀ (l : List MapEntry) (es : List (α × Value)) (i : Nat), l.map (fun x => (x.key, x.val)) = es.map (fun x => (kv x.1, x.2)) →
    ∃ r, Instr.findNow kind (kv k) l i = some r ∧ r.map (·.2) = mget es k ∧ (∀ j v, r = some (j, v) → i ≤ j ∧ ∃ x, es[j - i]? = some (k, x) ∧ ∀ q, q < j - i → ∀ y, es[q]? = some y → y.1 ≠ k) := by
  intro l
  induction l with
  | nil =>
    intro es i he
    cases es with
    | nil => exact ⟨none, rfl, rfl, fun j v h => by cases h⟩
    | cons x es => cases he
  | cons e l ih =>
    intro es i he
    cases es with
    | nil => cases he
    | cons x es =>
      simp only [List.map_cons, List.cons.injEq, Prod.mk.injEq] at he
      obtain ⟨⟨hkey, hval⟩, he⟩ := he
      unfold Instr.findNow
      rw [hkey, hs]
      by_cases hkx : k = x.1
      · rw [decide_eq_true hkx]
        refine ⟨_, rfl, ?_, fun j v h => ?_⟩
        · unfold mget
          rw [List.find?_cons_of_pos (by simpa using hkx)]
          simp [hval]
        · cases h
          refine ⟨Nat.le_refl _, x.2, ?_, fun q hq => by omega⟩
          simp [hkx]
      · rw [decide_eq_false hkx]
        obtain ⟨r, h1, h2, h3⟩ := ih es (i + 1) he
        refine ⟨r, h1, ?_, fun j v h => ?_⟩
        · rw [h2]; unfold mget
          rw [List.find?_cons_of_neg (by simpa using hkx)]
        · obtain ⟨h4, y, h5, h6⟩ := h3 j v h
          refine ⟨by omega, y, ?_, fun q hq z hz => ?_⟩
          · rw [show j - i = (j - (i + 1)) + 1 by omega]; simpa using h5
          · cases q with
            | zero => simp at hz; subst hz; exact fun hh => hkx hh.symm
            | succ q => exact h6 q (by omega) z (by simpa using hz)
theorem gen_lookup {elem : TypeId} {z : Value} (ok : KeyOk P t kv elem) (hb : MapB kv h m es) (k : α) (hz : zeroOf P elem = some z) {K : Value → Heap → Prop} (hk : K ((mget es k).getD z) h) : Gen P (Instr.lookup t (.map (some m)) (kv k) false) h K := by
  obtain ⟨key, kind, hu, hkind, hck, hs⟩ := ok.key
  obtain ⟨e, clock, h1, h2⟩ := hb
  unfold Gen Instr.lookup
  refine hwp_bind (hwp_underlying hu ?_)
  refine hwp_bind (hwp_getObj h1 (fun _ _ _ hh => by cases hh) ?_)
  refine hwp_bind (hwp_pure (P := P) ?_)
  refine hwp_bind (hck _ _ _ _ _ ?_)
  unfold Instr.findKey
  refine hwp_bind (hwp_bind (hwp_underlying hkind ?_))
  obtain ⟨r, h3, h4, _⟩ := findNow_spec hs k e.toList es 0 h2
  rw [h3]
  cases r with
  | none =>
    have : mget es k = none := by rw [← h4]; rfl
    rw [this] at hk
    exact hwp_pure (P := P) (hwp_bind (hwp_zero hz (hwp_pure (P := P) (hwp_pure (P := P) hk))))
  | some iv =>
    have : mget es k = some iv.2 := by rw [← h4]; rfl
    rw [this] at hk
    exact hwp_pure (P := P) (hwp_pure (P := P) (hwp_pure (P := P) hk))
theorem gen_lookup2 {elem : TypeId} {z : Value} (ok : KeyOk P t kv elem) (hb : MapB kv h m es) (k : α) (hz : zeroOf P elem = some z) {K : Value → Heap → Prop} (hk : K (.tuple #[(mget es k).getD z, .bool (mget es k).isSome]) h) : Gen P (Instr.lookup t (.map (some m)) (kv k) true) h K := by
  obtain ⟨key, kind, hu, hkind, hck, hs⟩ := ok.key
  obtain ⟨e, clock, h1, h2⟩ := hb
  unfold Gen Instr.lookup
  refine hwp_bind (hwp_underlying hu ?_)
  refine hwp_bind (hwp_getObj h1 (fun _ _ _ hh => by cases hh) ?_)
  refine hwp_bind (hwp_pure (P := P) ?_)
  refine hwp_bind (hck _ _ _ _ _ ?_)
  unfold Instr.findKey
  refine hwp_bind (hwp_bind (hwp_underlying hkind ?_))
  obtain ⟨r, h3, h4, _⟩ := findNow_spec hs k e.toList es 0 h2
  rw [h3]
  cases r with
  | none =>
    have : mget es k = none := by rw [← h4]; rfl
    rw [this] at hk
    exact hwp_pure (P := P) (hwp_bind (hwp_zero hz (hwp_pure (P := P) (hwp_pure (P := P) hk))))
  | some iv =>
    have : mget es k = some iv.2 := by rw [← h4]; rfl
    rw [this] at hk
    exact hwp_pure (P := P) (hwp_pure (P := P) (hwp_pure (P := P) hk))
def mset : List (α × Value) → α → Value → List (α × Value)
  | [], k, v => [(k, v)]
  | x :: es, k, v => if k = x.1 then (k, v) :: es else x :: mset es k v
theorem findNow_set {kind : TypeDesc} (hs : ∀ a b, Instr.sameNow kind (kv a) (kv b) = some (decide (a = b))) (k : α) (v : Value) : ∀ (l : List MapEntry) (es : List (α × Value)) (i : Nat), l.map (fun x => (x.key, x.val)) = es.map (fun x => (kv x.1, x.2)) →
    ∃ r, Instr.findNow kind (kv k) l i = some r ∧ match r with
      | none => mset es k v = es ++ [(k, v)]
      | some (j, _) => i ≤ j ∧ (∃ e, l[j - i]? = some e ∧ e.key = kv k) ∧ (l.modify (j - i) fun e => { e with key := kv k, val := v }).map (fun x => (x.key, x.val)) = (mset es k v).map (fun x => (kv x.1, x.2)) := by
  intro l
  induction l with
  | nil =>
    intro es i he
    cases es with
    | nil => exact ⟨none, rfl, rfl⟩
    | cons x es => cases he
  | cons e l ih =>
    intro es i he
    cases es with
    | nil => cases he
    | cons x es =>
      simp only [List.map_cons, List.cons.injEq, Prod.mk.injEq] at he
      obtain ⟨⟨hkey, hval⟩, he⟩ := he
      unfold Instr.findNow
      rw [hkey, hs]
      by_cases hkx : k = x.1
      · rw [decide_eq_true hkx]
        refine ⟨_, rfl, Nat.le_refl _, ⟨e, by simp, by rw [hkey, hkx]⟩, ?_⟩
        unfold mset
        rw [if_pos hkx, Nat.sub_self]
        simp [he]
      · rw [decide_eq_false hkx]
        obtain ⟨r, h1, h2⟩ := ih es (i + 1) he
        refine ⟨r, h1, ?_⟩
        unfold mset
        rw [if_neg hkx]
        cases r with
        | none => simp only at h2 ⊢; rw [h2]; rfl
        | some jv =>
          simp only at h2 ⊢
          obtain ⟨h3, ⟨e', h4, h5⟩, h6⟩ := h2
          have e1 : jv.1 - i = (jv.1 - (i + 1)) + 1 := by omega
          refine ⟨by omega, ⟨e', by rw [e1]; simpa using h4, h5⟩, ?_⟩
          rw [e1, List.modify_succ_cons, List.map_cons, List.map_cons, h6, hkey, hval]
theorem gen_mapUpdate {elem : TypeId} (ok : KeyOk P t kv elem) (hb : MapB kv h m es) (k : α) (v : Value) {K : Unit → Heap → Prop} (hk : ∀ h', MapB kv h' m (mset es k v) → Only h h' m → K () h') : Hwp P (Instr.mapUpdate t (.map (some m)) (kv k) v) h K := by
  have hlt := hb.lt
  obtain ⟨key, kind, hu, hkind, hck, hs⟩ := ok.key
  obtain ⟨e, clock, h1, h2⟩ := hb
  have only : ∀ o, Only h (h.setIfInBounds m o) m := fun o => ⟨by simp, fun i hi => by rw [Array.getElem?_setIfInBounds, if_neg (fun hh => hi hh.symm)]⟩
  have at' : ∀ o, (h.setIfInBounds m o)[m]? = some o := fun o => by rw [Array.getElem?_setIfInBounds, if_pos rfl, if_pos hlt]
  unfold Instr.mapUpdate
  refine hwp_bind (hwp_underlying hu ?_)
  refine hwp_bind (hwp_getObj h1 (fun _ _ _ hh => by cases hh) ?_)
  refine hwp_bind (hck _ _ _ _ _ ?_)
  unfold Instr.findKey
  refine hwp_bind (hwp_bind (hwp_underlying hkind ?_))
  obtain ⟨r, h3, h4⟩ := findNow_set hs k v e.toList es 0 h2
  rw [h3]
  cases r with
  | none =>
    simp only at h4
    refine hwp_pure (P := P) (hwp_setObj h1 (fun _ _ _ hh => by cases hh) (hk _ ⟨_, _, at' _, ?_⟩ (only _)))
    rw [h4, Array.toList_push, List.map_append, List.map_append, h2]; rfl
  | some jv =>
    obtain ⟨j, x⟩ := jv
    simp only at h4
    obtain ⟨_, ⟨e', h5, h6⟩, h7⟩ := h4
    refine hwp_pure (P := P) ?_
    have hkey : ((e[j]?).map (·.key)).getD (kv k) = kv k := by
      have : e[j]? = some e' := by simpa using h5
      rw [this]; exact h6
    show Hwp P (Instr.keyThatStays (((e[j]?).map (·.key)).getD (kv k)) (kv k) >>= _) h K
    rw [hkey]
    refine hwp_bind ?_
    unfold Instr.keyThatStays
    rw [ok.same, if_pos rfl]
    refine hwp_pure (P := P) (hwp_setObj h1 (fun _ _ _ hh => by cases hh) (hk _ ⟨_, _, at' _, ?_⟩ (only _)))
    rw [Array.toList_modify]
    exact h7
end
section
variable {P : Program} {t : TypeId}
theorem keyOk_int {key elem : TypeId} {k : IntKind} (hu : P.underlying t = some (.map key elem)) (hk : P.underlying key = some (.int k)) : KeyOk P t (fun n : Int => Value.int k n) elem where
  key := ⟨key, .int k, hu, hk, fun b n v h K hh => by
      unfold Instr.checkKey
      exact hwp_bind (hwp_underlying hk hh), fun a b => by
      show (if k = k then some (a == b) else none) = _
      rw [if_pos rfl]
      by_cases h : a = b
      · rw [decide_eq_true h, h]; simp
      · rw [decide_eq_false h]; simp [h]⟩
  same := fun a => by simp [Instr.sameBits]
end
end Go.Hw

end
section
namespace Go.Hw
open Go
end Go.Hw

end
section
namespace Go.Hw
open Go
end Go.Hw

end
section
namespace Go.Hw
open Go
def dead : Obj := .cells #[] 0 (0, 0)
def Live (m : Heap) (b : Nat) : Prop := ∃ o, m[b]? = some o ∧ o ≠ dead
def Sub (m h : Heap) : Prop := ∀ (b : Nat) (o : Obj), m[b]? = some o → o ≠ dead → h[b]? = some o
abbrev No : Nat → Prop := fun _ => False
section
variable {m m' h h' k h0 m0 : Heap} {b : Nat} {W W' : Nat → Prop}
theorem Sub.refl (h : Heap) : Sub h h := fun _ _ h _ => h
theorem Sub.trans (s : Sub m h) (t : Sub h k) : Sub m k := fun b o h1 h2 => t b o (s b o h1 h2) h2
theorem Sub.lt (s : Sub m h) (l : Live m b) : b < h.size := by
  obtain ⟨o, h1, h2⟩ := l
  exact (Array.getElem?_eq_some_iff.1 (s b o h1 h2)).1
theorem Sub.ext (s : Sub m h) (e : Ext h h') : Sub m h' := fun b o h1 h2 => by rw [e.2 b (s.lt ⟨o, h1, h2⟩)]; exact s b o h1 h2
theorem Sub.cell (s : Sub m h) {a : Addr} {v : Value} (hc : cellH m a = some v) : cellH h a = some v := by
  unfold cellH at hc
  split at hc
  · rename_i c e f hm
    have hne : (Obj.cells c e f) ≠ dead := by
      intro hd
      unfold dead at hd
      cases hd
      split at hc <;> simp at hc
    unfold cellH
    rw [s _ _ hm hne]; exact hc
  · cases hc
theorem Sub.cells (s : Sub m h) {a : Addr} : ∀ (n i : Nat) {vs : List Value}, cellsH m a i n = some vs → cellsH h a i n = some vs := by
  intro n
  induction n with
  | zero => intro i vs hc; exact hc
  | succ n ih =>
    intro i vs hc
    simp only [cellsH] at hc ⊢
    split at hc
    · rename_i v hv
      rw [s.cell hv]
      split at hc
      · rename_i us hu
        rw [ih _ hu]; exact hc
      · cases hc
    · cases hc
theorem Sub.blk (s : Sub m h) {c : List Value} {t : TypeId} (hb : Blk m b c t) (hc : c ≠ []) : Blk h b c t := by
  unfold Blk at *
  refine s _ _ hb ?_
  intro hd
  unfold dead at hd
  cases c with
  | nil => exact hc rfl
  | cons x c => simp at hd
end
structure Tell {α : Type} (sz : Nat) (E : Heap → α → List Value → Prop) : Prop where
  mono : ∀ m h x cs, Sub m h → E m x cs → E h x cs
  len : ∀ h x cs, E h x cs → cs.length = sz
  flat : ∀ h x cs, E h x cs → ∀ v ∈ cs, Flat v
theorem Flats.nil : ∀ v ∈ ([] : List Value), Flat v := fun v hv => by cases hv
theorem Flats.cons {x : Value} {l : List Value} (h : Flat x) (t : ∀ v ∈ l, Flat v) : ∀ v ∈ x :: l, Flat v := fun v hv => by
  rcases List.mem_cons.1 hv with rfl | hv
  · exact h
  · exact t v hv
theorem tell_int (k : IntKind) : Tell 1 (eInt k) := ⟨fun _ _ _ _ _ h => h, fun _ _ _ h => by rw [h]; rfl, fun _ _ _ h => by rw [h]; exact Flats.cons trivial Flats.nil⟩
theorem tell_bool : Tell 1 eBool := ⟨fun _ _ _ _ _ h => h, fun _ _ _ h => by rw [h]; rfl, fun _ _ _ h => by rw [h]; exact Flats.cons trivial Flats.nil⟩
section
variable {α : Type} {sz : Nat} {E : Heap → α → List Value → Prop} {m m' h h' : Heap} {A : Option Addr} {l : List α} {c : Nat}
theorem Rd.sub (r : Rd sz E m A l) (T : Tell sz E) (s : Sub m h) : Rd sz E h A l := fun i hi =>
  let ⟨a, cs, h1, h2, h3⟩ := r i hi
  ⟨a, cs, h1, s.cells _ _ h2, T.mono _ _ _ _ s h3⟩
theorem tell_row (T : Tell sz E) : Tell 1 (eRow sz E) := ⟨fun _ _ _ _ s ⟨A, c, h1, h2, h3⟩ => ⟨A, c, h1, h2, h3.sub T s⟩, fun _ _ _ ⟨A, c, h1, _, _⟩ => by rw [h1]; rfl, fun _ _ _ ⟨A, c, h1, _, _⟩ => by rw [h1]; exact Flats.cons trivial Flats.nil⟩
end
structure St (W : Nat → Prop) (h0 m0 h m : Heap) : Prop where
  up : Sub m0 m
  s : Sub m h
  size : h0.size ≤ h.size
  fr : ∀ b, b < h0.size → ¬ W b → h[b]? = h0[b]?
  lv : ∀ b, b < h0.size → Live m b → Live m0 b ∨ W b
def fb (b0 b : Nat) : Prop := b = b0
def fp (A : Option Addr) (c : Nat) (b : Nat) : Prop := c ≠ 0 ∧ ∃ a, A = some a ∧ a.block = b
def Dj (F G : Nat → Prop) : Prop := ∀ b, F b → G b → False
section
variable {m m' h h' h0 m0 : Heap} {b b' : Nat} {W W' F G G' : Nat → Prop}
theorem Dj.symm (d : Dj F G) : Dj G F := fun b h1 h2 => d b h2 h1
theorem Dj.no : Dj No F := fun _ h _ => h
theorem St.refl (s : Sub m h) : St W h m h m := ⟨.refl _, s, Nat.le_refl _, fun _ _ _ => rfl, fun _ _ h => .inl h⟩
theorem St.of_ext (s : Sub m h) (e : Ext h h') : St W h m h' m := ⟨.refl _, s.ext e, e.1, fun b hb _ => e.2 b hb, fun _ _ h => .inl h⟩
theorem St.ext (S : St No h m h' m') : Ext h h' := ⟨S.size, fun b hb => S.fr b hb (fun h => h)⟩
theorem St.then (S : St W h0 m0 h m) (T : St W' h m h' m') (hw : ∀ b, b < h.size → W' b → h0.size ≤ b ∨ W b) : St W h0 m0 h' m' where
  up := S.up.trans T.up
  s := T.s
  size := Nat.le_trans S.size T.size
  fr b hb hn := by
    rw [T.fr b (by have := S.size; omega) (fun hw' => (hw b (by have := S.size; omega) hw').elim (fun h => by omega) hn)]
    exact S.fr b hb hn
  lv b hb hl := by
    rcases T.lv b (by have := S.size; omega) hl with h1 | h1
    · exact S.lv b hb h1
    · exact .inr ((hw b (by have := S.size; omega) h1).elim (fun h => by omega) id)
theorem St.grow (S : St W h0 m0 h m) (T : St No h m h' m') : St W h0 m0 h' m' := S.then T fun _ _ h => h.elim
theorem St.notLive (s : Sub m h) : ¬ Live m h.size := fun l => by have := s.lt l; omega
theorem St.only (s : Sub m h) (hn : ¬ Live m b) (o : Only h h' b) : St (fb b) h m h' m where
  up := .refl _
  s i x h1 h2 := by
    rw [o.2 i (fun e => hn (e ▸ ⟨x, h1, h2⟩))]; exact s i x h1 h2
  size := by rw [o.1]; exact Nat.le_refl _
  fr i _ hw := o.2 i hw
  lv i _ hl := .inl hl
end
open Classical in
noncomputable def addV (m h : Heap) (F : Nat → Prop) : Heap := Array.ofFn (n := h.size) fun i => if Live m i.1 ∨ F i.1 then h[i.1] else dead
section
variable {m h : Heap} {b : Nat} {F : Nat → Prop}
theorem addV_get (hb : b < h.size) (hl : Live m b ∨ F b) : (addV m h F)[b]? = h[b]? := by
  unfold addV
  rw [Array.getElem?_ofFn, dif_pos hb, if_pos hl, Array.getElem?_eq_getElem hb]
theorem addV_live (hl : Live (addV m h F) b) : (Live m b ∨ F b) ∧ b < h.size := by
  obtain ⟨o, h1, h2⟩ := hl
  unfold addV at h1
  rw [Array.getElem?_ofFn] at h1
  split at h1
  · rename_i hb
    refine ⟨?_, hb⟩
    by_cases hc : Live m b ∨ F b
    · exact hc
    · rw [if_neg hc] at h1; cases h1; exact (h2 rfl).elim
  · cases h1
theorem addV_sub : Sub (addV m h F) h := fun b o h1 h2 => by
  have := addV_live ⟨o, h1, h2⟩
  rw [← addV_get this.2 this.1]; exact h1
theorem addV_up (s : Sub m h) : Sub m (addV m h F) := fun b o h1 h2 => by
  rw [addV_get (s.lt ⟨o, h1, h2⟩) (.inl ⟨o, h1, h2⟩)]; exact s b o h1 h2
theorem St.settle (s : Sub m h) (F : Nat → Prop) : St F h m h (addV m h F) := ⟨addV_up s, addV_sub, Nat.le_refl _, fun _ _ _ => rfl, fun _ _ hl => (addV_live hl).1⟩
theorem Blk.settle {c : List Value} {t : TypeId} (hb : Blk h b c t) (hF : F b) : Blk (addV m h F) b c t := by
  unfold Blk at *
  rw [addV_get (Blk.lt hb) (.inr hF)]; exact hb
end
section
variable {α : Type} {sz : Nat} {E : Heap → α → List Value → Prop} {m m' h h' h0 m0 : Heap} {A : Option Addr} {l l' : List α} {c : Nat} {cs ds : List Value} {x y : α} {W W' : Nat → Prop}
def CsE (sz : Nat) (E : Heap → α → List Value → Prop) (m : Heap) : List α → List Value → Prop
  | [], cs => cs = []
  | x :: l, cs => ∃ c1 c2, cs = c1 ++ c2 ∧ c1.length = sz ∧ E m x c1 ∧ CsE sz E m l c2
theorem CsE.nil : CsE sz E m ([] : List α) [] := rfl
theorem CsE.cons {c1 : List Value} (h1 : E m x c1) (h2 : c1.length = sz) (h : CsE sz E m l cs) : CsE sz E m (x :: l) (c1 ++ cs) := ⟨c1, cs, rfl, h2, h1, h⟩
theorem CsE.len : ∀ {l : List α} {cs : List Value}, CsE sz E m l cs → cs.length = l.length * sz := by
  intro l
  induction l with
  | nil => intro cs h; rw [show cs = [] from h]; simp
  | cons x l ih => rintro cs ⟨c1, c2, rfl, h1, h2, h3⟩; rw [List.length_append, ih h3, h1, List.length_cons, Nat.succ_mul, Nat.add_comm]
theorem CsE.get : ∀ {l : List α} {cs : List Value} {i : Nat}, CsE sz E m l cs → l[i]? = some y → E m y ((cs.drop (i * sz)).take sz) ∧ i * sz + sz ≤ cs.length := by
  intro l
  induction l with
  | nil => intro cs i h h'; cases h'
  | cons x l ih =>
    rintro cs i ⟨c1, c2, rfl, h1, h2, h3⟩ hy
    cases i with
    | zero =>
      cases hy
      simp only [Nat.zero_mul, List.drop_zero]
      rw [← h1, List.take_left]
      exact ⟨h2, by simp⟩
    | succ i =>
      have := ih (i := i) h3 (by simpa using hy)
      rw [show (i + 1) * sz = c1.length + i * sz by rw [h1, Nat.succ_mul, Nat.add_comm], ← List.drop_drop, List.drop_left, List.length_append]
      exact ⟨this.1, by omega⟩
theorem CsE.set {c1 : List Value} (hx : E m x c1) (hz : c1.length = sz) : ∀ {l : List α} {cs : List Value} {i : Nat}, CsE sz E m l cs → i < l.length → CsE sz E m (l.set i x) (cs.take (i * sz) ++ c1 ++ cs.drop (i * sz + sz)) := by
  intro l
  induction l with
  | nil => intro cs i h h'; cases h'
  | cons y l ih =>
    rintro cs i ⟨d1, d2, rfl, h1, h2, h3⟩ hi
    cases i with
    | zero =>
      simp only [Nat.zero_mul, List.take_zero, List.nil_append, Nat.zero_add, List.set_cons_zero]
      rw [← h1, List.drop_left]
      exact ⟨c1, d2, rfl, by rw [hz, h1], hx, by rw [h1]; exact h3⟩
    | succ i =>
      have := ih (i := i) h3 (by simpa using hi)
      rw [show (i + 1) * sz = d1.length + i * sz by rw [h1, Nat.succ_mul, Nat.add_comm], List.take_length_add_append, show d1.length + i * sz + sz = d1.length + (i * sz + sz) by omega, List.drop_length_add_append, List.set_cons_succ]
      exact ⟨d1, _, by simp [List.append_assoc], h1, h2, this⟩
theorem Rd.tail (r : Rd sz E m A (x :: l)) : ∀ a, A = some a → Rd sz E m (some (a.add sz)) l := by
  intro a ha i hi
  obtain ⟨a', cs, h1, h2, h3⟩ := r (i + 1) (by simpa using hi)
  rw [ha] at h1; cases h1
  refine ⟨_, cs, rfl, ?_, h3⟩
  rw [add_add, show sz + i * sz = (i + 1) * sz by rw [Nat.succ_mul, Nat.add_comm]]; exact h2
theorem Rd.cse (T : Tell sz E) : ∀ {l : List α} {a : Addr}, Rd sz E m (some a) l → ∃ cs, cellsH m a 0 (l.length * sz) = some cs ∧ CsE sz E m l cs := by
  intro l
  induction l with
  | nil => intro a r; exact ⟨[], by simp [cellsH], rfl⟩
  | cons x l ih =>
    intro a r
    obtain ⟨cs, h1, h2⟩ := ih (r.tail a rfl)
    obtain ⟨a', c1, h3, h4, h5⟩ := r 0 (by simp)
    cases h3
    rw [Nat.zero_mul, show a.add 0 = a from rfl] at h4
    refine ⟨c1 ++ cs, ?_, c1, cs, rfl, T.len _ _ _ h5, h5, h2⟩
    rw [List.length_cons, Nat.succ_mul, Nat.add_comm]
    refine cellsH_append h4 ?_
    rw [cellsH_shift] at h1
    simpa using h1
theorem CsE.rd {b : Nat} {t : TypeId} {pre rest : List Value} (hb : Blk h b (pre ++ cs ++ rest) t) (hc : CsE sz E m l cs) (hm : ∀ x cs, E m x cs → E h x cs) : Rd sz E h (some ⟨b, pre.length, none⟩) l := by
  intro i hi
  have hg := hc.get (List.getElem?_eq_getElem hi)
  refine ⟨_, _, rfl, ?_, hm _ _ hg.1⟩
  have := hb.cells (a := (⟨b, pre.length, none⟩ : Addr).add (i * sz)) (by rw [add_block]) (add_spot _ rfl) sz 0 (by rw [add_off, List.length_append, List.length_append]; simp only [Nat.add_zero]; omega)
  rw [this, add_off]
  simp only [Nat.add_zero]
  rw [List.append_assoc, ← List.drop_drop, List.drop_left, List.drop_append_of_le_length (by omega), List.take_append_of_le_length (by rw [List.length_drop]; omega)]
def OS (W : Nat → Prop) (h0 : Heap) (sz : Nat) (E : Heap → α → List Value → Prop) (h m : Heap) (A : Option Addr) (l : List α) (c : Nat) : Prop :=
  (l = [] ∧ c = 0) ∨ ∃ b t pre cs rest, A = some ⟨b, pre.length, none⟩ ∧ Blk h b (pre ++ cs ++ rest) t ∧ CsE sz E m l cs ∧ l.length ≤ c ∧ (c - l.length) * sz ≤ rest.length ∧ (h0.size ≤ b ∨ W b) ∧ ¬ Live m b
theorem OS.cap (o : OS W h0 sz E h m A l c) : l.length ≤ c := by
  rcases o with ⟨rfl, rfl⟩ | ⟨b, t, pre, cs, rest, h1, h2, h3, h4, h5, h6, h7⟩
  · exact Nat.le_refl _
  · exact h4
def OB (W : Nat → Prop) (h0 h m : Heap) (b : Nat) (cs : List Value) (t : TypeId) : Prop := Blk h b cs t ∧ (h0.size ≤ b ∨ W b) ∧ ¬ Live m b
variable {b : Nat} {t : TypeId}
theorem OB.all (o : OB W h0 h m b cs t) : cellsH h ⟨b, 0, none⟩ 0 cs.length = some cs := by
  have := o.1.cells (a := ⟨b, 0, none⟩) rfl rfl cs.length 0 (by simp)
  simpa using this
theorem Blk.all' (o : Blk m b cs t) : cellsH m ⟨b, 0, none⟩ 0 cs.length = some cs := by
  have := o.cells (a := ⟨b, 0, none⟩) rfl rfl cs.length 0 (by simp)
  simpa using this
def VB (E : Heap → α → List Value → Prop) (m : Heap) (b : Nat) (x : α) : Prop := ∃ cs t, Blk m b cs t ∧ cs ≠ [] ∧ E m x cs
theorem VB.sub (v : VB E m b x) (T : Tell sz E) (s : Sub m h) : VB E h b x := let ⟨cs, t, h1, h2, h3⟩ := v; ⟨cs, t, s.blk h1 h2, h2, T.mono _ _ _ _ s h3⟩
end
end Go.Hw

end
section
namespace Go.Hw
def LeO {β : Type} (a b : Option β) : Prop := ∀ r, a = some r → b = some r
theorem LeO.refl {β : Type} (a : Option β) : LeO a a := fun _ h => h
theorem LeO.bind {β γ : Type} {a b : Option β} {f g : β → Option γ} (h : LeO a b) (k : ∀ x, LeO (f x) (g x)) : LeO (a.bind f) (b.bind g) := by
  intro r hr
  cases a with
  | none => cases hr
  | some x => rw [h x rfl]; exact k x r hr
theorem LeO.ite {β : Type} {p : Prop} [Decidable p] {a b a' b' : Option β} (h : LeO a a') (k : LeO b b') : LeO (if p then a else b) (if p then a' else b') := by
  by_cases c : p
  · rw [if_pos c, if_pos c]; exact h
  · rw [if_neg c, if_neg c]; exact k
section
variable {α : Type} {β : α → Type} {F : ((x : α) → Option (β x)) → (x : α) → Option (β x)}
def MonoF (F : ((x : α) → Option (β x)) → (x : α) → Option (β x)) : Prop := ∀ f g, (∀ x, LeO (f x) (g x)) → ∀ x, LeO (F f x) (F g x)
def FixR (F : ((x : α) → Option (β x)) → (x : α) → Option (β x)) (x : α) (r : β x) : Prop :=
  ∀ I : (x : α) → β x → Prop, (∀ f, (∀ x r, f x = some r → I x r) → ∀ x r, F f x = some r → I x r) → I x r
theorem FixR.close {f : (x : α) → Option (β x)} (hf : ∀ x r, f x = some r → FixR F x r) {x : α} {r : β x} (h : F f x = some r) : FixR F x r :=
  fun I hI => hI f (fun y s hs => hf y s hs I hI) x r h
theorem FixR.uniq (M : MonoF F) {x : α} {r r' : β x} (h : FixR F x r) (h' : FixR F x r') : r = r' := by
  refine (h (fun x r => FixR F x r ∧ ∀ r', FixR F x r' → r = r') ?_).2 r' h'
  intro f hf x r hr
  refine ⟨FixR.close (fun y s hs => (hf y s hs).1) hr, fun s hs => ?_⟩
  have key := hs (fun y s => FixR F y s ∧ ∀ e : x = y, (e ▸ r) = s) ?_
  · exact key.2 rfl
  intro f' hf' y t ht
  refine ⟨FixR.close (fun z s hs => (hf' z s hs).1) ht, ?_⟩
  rintro rfl
  let g : (x : α) → Option (β x) := fun z => match f z with | some u => some u | none => f' z
  have hfg : ∀ z, LeO (f z) (g z) := fun z u hu => by simp only [g, hu]
  have hfg' : ∀ z, LeO (f' z) (g z) := by
    intro z u hu
    simp only [g]
    cases hz : f z with
    | none => exact hu
    | some w => simp only; rw [(hf z w hz).2 u (hf' z u hu).1]
  have e1 := M f g hfg _ _ hr
  have e2 := M f' g hfg' _ _ ht
  rw [e1] at e2
  exact Option.some.inj e2
open Classical in
noncomputable def fixF (F : ((x : α) → Option (β x)) → (x : α) → Option (β x)) (x : α) : Option (β x) := if h : ∃ r, FixR F x r then some (Classical.choose h) else none
theorem fixF_iff (M : MonoF F) {x : α} {r : β x} : fixF F x = some r ↔ FixR F x r := by
  unfold fixF
  constructor
  · intro h
    split at h
    · rename_i hx; cases h; exact Classical.choose_spec hx
    · cases h
  · intro h
    rw [dif_pos ⟨r, h⟩, FixR.uniq M (Classical.choose_spec (⟨r, h⟩ : ∃ r, FixR F x r)) h]
theorem fixF_eq (M : MonoF F) (x : α) : fixF F x = F (fixF F) x := by
  have h1 : ∀ r, fixF F x = some r → F (fixF F) x = some r := by
    intro r hr
    refine ((fixF_iff M).1 hr (fun x r => FixR F x r ∧ F (fixF F) x = some r) ?_).2
    intro f hf y s hs
    refine ⟨FixR.close (fun z s hs => (hf z s hs).1) hs, ?_⟩
    exact M f (fixF F) (fun z u hu => (fixF_iff M).2 (hf z u hu).1) _ _ hs
  have h2 : ∀ r, F (fixF F) x = some r → fixF F x = some r := fun r hr => (fixF_iff M).2 (FixR.close (fun y s hs => (fixF_iff M).1 hs) hr)
  cases h : fixF F x with
  | some r => exact (h1 r h).symm
  | none =>
    cases k : F (fixF F) x with
    | none => rfl
    | some r => rw [h2 r k] at h; cases h
theorem fixF_ind (M : MonoF F) {I : (x : α) → β x → Prop} (hI : ∀ f, (∀ x r, f x = some r → I x r) → ∀ x r, F f x = some r → I x r) {x : α} {r : β x} (h : fixF F x = some r) : I x r := (fixF_iff M).1 h I hI
end
end Go.Hw

end
section
namespace Go.Hw
open Go
section tests
variable {A B : Prop} {β γ : Type} {a b : Option β} {r : β}
theorem bind_e {a : Option γ} {f : γ → Option β} (e : a.bind f = some r) : ∃ x, a = some x ∧ f x = some r := by
  cases a with
  | none => cases e
  | some x => exact ⟨x, rfl, e⟩
theorem guard_e {p : Prop} [Decidable p] (e : (if p then a else none) = some r) : p ∧ a = some r := by
  by_cases h : p
  · rw [if_pos h] at e; exact ⟨h, e⟩
  · rw [if_neg h] at e; cases e
theorem split_dec_e {p : Prop} [Decidable p] (e : (if p then a else b) = some r) (hA : p → a = some r → A) (hB : ¬ p → b = some r → B) : splitB (decide p) A B := by
  by_cases h : p
  · rw [if_pos h] at e; rw [decide_eq_true h]; exact hA h e
  · rw [if_neg h] at e; rw [decide_eq_false h]; exact hB h e
theorem split_eq_e {x y : Int} (e : (if x = y then a else b) = some r) (hA : x = y → a = some r → A) (hB : x ≠ y → b = some r → B) : splitB (x == y) A B := by
  by_cases h : x = y
  · rw [if_pos h] at e; rw [show (x == y) = true from beq_iff_eq.2 h]; exact hA h e
  · rw [if_neg h] at e; rw [show (x == y) = false from beq_eq_false_iff_ne.2 h]; exact hB h e
theorem split_ne_e {x y : Int} (e : (if x = y then b else a) = some r) (hA : x ≠ y → a = some r → A) (hB : x = y → b = some r → B) : splitB (x != y) A B := by
  by_cases h : x = y
  · rw [if_pos h] at e; rw [show (x != y) = false from bne_eq_false_iff_eq.2 h]; exact hB h e
  · rw [if_neg h] at e; rw [show (x != y) = true from bne_iff_ne.2 h]; exact hA h e
theorem split_any_e {t : Bool} (e : (if t = true then a else b) = some r) (hA : t = true → a = some r → A) (hB : t = false → b = some r → B) : splitB t A B := by
  cases t
  · exact hB rfl e
  · exact hA rfl e
end tests
section
variable {α : Type} {l : List α} {x : Int} {y : α}
def gi (l : List α) (x : Int) : Option α := if 0 ≤ x then l[x.toNat]? else none
theorem gi_nat (l : List α) (k : Nat) : gi l (k : Int) = l[k]? := by unfold gi; rw [if_pos (by omega)]; rfl
theorem gi_le (g : gi l x = some y) : 0 ≤ x := by unfold gi at g; split at g; assumption; cases g
theorem gi_get (g : gi l x = some y) : l[x.toNat]? = some y := by unfold gi at g; split at g; exact g; cases g
theorem gi_lt (g : gi l x = some y) : x < (l.length : Int) := by
  have h1 := gi_get g
  have h2 := gi_le g
  have := (List.getElem?_eq_some_iff.1 h1).1
  omega
theorem gi_ltN (g : gi l x = some y) : x.toNat < l.length := (List.getElem?_eq_some_iff.1 (gi_get g)).1
def gb (s : ByteArray) (x : Int) : Option Int := if 0 ≤ x then s[x.toNat]?.map fun b => ((UInt8.toNat b : Nat) : Int) else none
theorem gb_e {s : ByteArray} {x y : Int} (g : gb s x = some y) : 0 ≤ x ∧ ∃ b, s[x.toNat]? = some b ∧ y = ((UInt8.toNat b : Nat) : Int) := by
  unfold gb at g
  split at g
  · rename_i h
    cases hb : s[x.toNat]? with
    | none => rw [hb] at g; cases g
    | some b => rw [hb] at g; cases g; exact ⟨h, b, rfl, rfl⟩
  · cases g
def sl (l : List α) (lo hi : Int) : List α := (l.take hi.toNat).drop lo.toNat
theorem sl_len {lo hi : Int} (h1 : 0 ≤ lo) (h2 : lo ≤ hi) (h3 : hi ≤ (l.length : Int)) : Int.toNat hi - Int.toNat lo = (sl l lo hi).length := by
  unfold sl; rw [List.length_drop, List.length_take]; omega
theorem sl_lo {lo : Int} : sl l lo (l.length : Int) = l.drop lo.toNat := by unfold sl; simp
theorem sl_hi {hi : Int} : sl l 0 hi = l.take hi.toNat := by unfold sl; simp
end
section
variable {α : Type} {sz : Nat} {E : Heap → α → List Value → Prop} {m m' h h' h0 m0 : Heap} {A : Option Addr} {l : List α} {c n k : Nat} {cs : List Value} {x : Int} {y : α} {W : Nat → Prop} {a : Addr} {v : Value} {b : Nat} {t : TypeId}
theorem Rd.addr {K : Addr → Prop} (r : Rd sz E m A l) (hn : n = l.length) (g : gi l x = some y) (hk : ∀ a cs, A = some a → cellsH m (a.add (Int.toNat x * sz)) 0 sz = some cs → E m y cs → K a) : ptrOk A fun a => 0 ≤ x ∧ x < ((n : Nat) : Int) ∧ K a := by
  subst hn
  have h1 := gi_get g
  obtain ⟨hi, h2⟩ := List.getElem?_eq_some_iff.1 h1
  obtain ⟨a, cs, rfl, h3, h4⟩ := r _ hi
  rw [h2] at h4
  exact ⟨gi_le g, gi_lt g, hk a cs rfl h3 h4⟩
theorem OS.cellsAt (o : OS W h0 sz E h m A l c) (g : gi l x = some y) : ∃ a cs, A = some a ∧ cellsH h (a.add (Int.toNat x * sz)) 0 sz = some cs ∧ E m y cs := by
  have h1 := gi_get g
  rcases o with ⟨rfl, rfl⟩ | ⟨b, t, pre, cs, rest, rfl, h3, h4, h5, h6, h7⟩
  · cases h1
  have h8 := h4.get h1
  refine ⟨_, _, rfl, ?_, h8.1⟩
  have := h3.cells (a := (⟨b, pre.length, none⟩ : Addr).add (x.toNat * sz)) (by rw [add_block]) (add_spot _ rfl) sz 0 (by rw [add_off, List.length_append, List.length_append]; simp only [Nat.add_zero]; omega)
  rw [this, add_off]
  simp only [Nat.add_zero]
  rw [List.append_assoc, ← List.drop_drop, List.drop_left, List.drop_append_of_le_length (by omega), List.take_append_of_le_length (by rw [List.length_drop]; omega)]
theorem OS.addr {K : Addr → Prop} (o : OS W h0 sz E h m A l c) (hn : n = l.length) (g : gi l x = some y) (hk : ∀ a cs, A = some a → cellsH h (a.add (Int.toNat x * sz)) 0 sz = some cs → E m y cs → K a) : ptrOk A fun a => 0 ≤ x ∧ x < ((n : Nat) : Int) ∧ K a := by
  subst hn
  obtain ⟨a, cs, rfl, h1, h2⟩ := o.cellsAt g
  exact ⟨gi_le g, gi_lt g, hk a cs rfl h1 h2⟩
theorem ld0 (s : Sub m h) (hc : cellsH m a 0 n = some cs) (hv : cs[0]? = some v) : ldv false 1 h a = some v := by
  have h1 : cellH h (a.add 0) = some v := cellsH_get (s.cells _ _ hc) hv
  exact h1
theorem ldk (s : Sub m h) (hc : cellsH m a 0 n = some cs) (hv : cs[k]? = some v) : ldv false 1 h (Addr.add a k) = some v := by
  have := cellsH_get (s.cells _ _ hc) hv
  simpa [ldv] using this
theorem ldA (s : Sub m h) (hc : cellsH m a 0 n = some cs) : ldv true n h a = some (.agg cs.toArray) := by
  simp only [ldv, s.cells _ _ hc, Option.map_some]
theorem OB.st (o : OB W h0 h m b cs t) (s : Sub m h) (hk : k < cs.length) (hf : Flat v) : ∃ h', st1 h (Addr.add ⟨b, 0, none⟩ k) v = some h' ∧ OB W h0 h' m b (cs.set k v) t ∧ St (fb b) h m h' m := by
  obtain ⟨h', h1, h2, h3⟩ := o.1.st (a := Addr.add ⟨b, 0, none⟩ k) (v := v) (add_block _ _) (add_spot _ rfl) (by rw [add_off]; simpa using hk) hf
  rw [add_off, Nat.zero_add] at h2
  exact ⟨h', h1, ⟨h2, o.2⟩, .only s o.2.2 h3⟩
theorem OB.stA (o : OB W h0 h m b cs t) (s : Sub m h) (l : List Value) (hn : l.length = cs.length) (hf : ∀ v ∈ l, Flat v) : ∃ h', stH h ⟨b, 0, none⟩ l 0 = some h' ∧ OB W h0 h' m b l t ∧ St (fb b) h m h' m := by
  obtain ⟨h', h1, h2, h3⟩ := o.1.stAll l hn hf
  exact ⟨h', h1, ⟨h2, o.2⟩, .only s o.2.2 h3⟩
theorem OS.stP (o : OS W h0 sz E h m A l c) (T : Tell sz E) (s : Sub m h) (g : gi l x = some y) (ha : A = some a) (hc : cellsH h (Addr.add a (Int.toNat x * sz)) 0 sz = some cs) {ds : List Value} {y' : α} (k : Nat) (hk : k + ds.length ≤ sz) (hy : E m y' (cs.take k ++ ds ++ cs.drop (k + ds.length))) (hf : ∀ v ∈ ds, Flat v) :
    ∃ h', stH h (Addr.add (Addr.add a (Int.toNat x * sz)) k) ds 0 = some h' ∧ OS W h0 sz E h' m A (l.set (Int.toNat x) y') c ∧ St (fp A c) h m h' m := by
  have h1 := gi_get g
  have hlt := gi_ltN g
  rcases o with ⟨rfl, rfl⟩ | ⟨b, t, pre, es, rest, rfl, h3, h4, h5, h6, h7, h8⟩
  · cases h1
  cases ha
  have h9 := h4.get h1
  have hcs : cs = (es.drop (x.toNat * sz)).take sz := by
    have := h3.cells (a := (⟨b, pre.length, none⟩ : Addr).add (x.toNat * sz)) (by rw [add_block]) (add_spot _ rfl) sz 0 (by rw [add_off, List.length_append, List.length_append]; simp only [Nat.add_zero]; omega)
    rw [hc, add_off] at this
    simp only [Nat.add_zero, Option.some.injEq] at this
    rw [this, List.append_assoc, ← List.drop_drop, List.drop_left, List.drop_append_of_le_length (by omega), List.take_append_of_le_length (by rw [List.length_drop]; omega)]
  have hlen : cs.length = sz := cellsH_length hc
  have hes : es = es.take (x.toNat * sz) ++ cs ++ es.drop (x.toNat * sz + sz) := by
    rw [hcs, List.append_assoc, ← List.drop_drop, List.take_append_drop, List.take_append_drop]
  have hcs2 : cs = cs.take k ++ (cs.drop k).take ds.length ++ cs.drop (k + ds.length) := by
    rw [List.append_assoc, ← List.drop_drop, List.take_append_drop, List.take_append_drop]
  have hb : Blk h b ((pre ++ es.take (x.toNat * sz) ++ cs.take k) ++ (cs.drop k).take ds.length ++ (cs.drop (k + ds.length) ++ (es.drop (x.toNat * sz + sz) ++ rest))) t := by
    have : (pre ++ es.take (x.toNat * sz) ++ cs.take k) ++ (cs.drop k).take ds.length ++ (cs.drop (k + ds.length) ++ (es.drop (x.toNat * sz + sz) ++ rest)) = pre ++ es ++ rest := by
      conv => rhs; rw [hes]; rw [hcs2]
      simp only [List.append_assoc]
    rw [this]; exact h3
  obtain ⟨h', s1, b1, o1⟩ := Blk.stH ds (a := Addr.add (Addr.add ⟨b, pre.length, none⟩ (x.toNat * sz)) k) (i := 0) hb (by rw [add_block, add_block]) (add_spot _ (add_spot _ rfl))
    (by rw [add_off, add_off, List.length_append, List.length_append, List.length_take, List.length_take]; simp only [Nat.add_zero]; omega) (by rw [List.length_take, List.length_drop]; omega) hf
  refine ⟨h', s1, .inr ⟨b, t, pre, es.take (x.toNat * sz) ++ (cs.take k ++ ds ++ cs.drop (k + ds.length)) ++ es.drop (x.toNat * sz + sz), rest, rfl, ?_, ?_, ?_, ?_, h7, h8⟩, ?_⟩
  · have : pre ++ (es.take (x.toNat * sz) ++ (cs.take k ++ ds ++ cs.drop (k + ds.length)) ++ es.drop (x.toNat * sz + sz)) ++ rest = (pre ++ es.take (x.toNat * sz) ++ cs.take k) ++ ds ++ (cs.drop (k + ds.length) ++ (es.drop (x.toNat * sz + sz) ++ rest)) := by simp only [List.append_assoc]
    rw [this]; exact b1
  · exact h4.set hy (T.len _ _ _ hy) hlt
  · rwa [List.length_set]
  · rwa [List.length_set]
  · refine ⟨.refl _, fun i o1' k1 k2 => ?_, by rw [o1.1]; exact Nat.le_refl _, fun i hi hw => ?_, fun i _ hl => .inl hl⟩
    · rw [o1.2 i (fun e => h8 (e ▸ ⟨o1', k1, k2⟩))]; exact s i o1' k1 k2
    · refine o1.2 i fun e => hw ⟨?_, _, rfl, e.symm⟩
      omega
theorem OS.st1k (o : OS W h0 sz E h m A l c) (T : Tell sz E) (s : Sub m h) (g : gi l x = some y) (ha : A = some a) (hc : cellsH h (Addr.add a (Int.toNat x * sz)) 0 sz = some cs) {y' : α} (k : Nat) (hk : k < sz) (hy : E m y' (cs.set k v)) (hf : Flat v) :
    ∃ h', st1 h (Addr.add (Addr.add a (Int.toNat x * sz)) k) v = some h' ∧ OS W h0 sz E h' m A (l.set (Int.toNat x) y') c ∧ St (fp A c) h m h' m := by
  have hlen : cs.length = sz := cellsH_length hc
  obtain ⟨h', h1, h2, h3⟩ := o.stP T s g ha hc (ds := [v]) (y' := y') k hk (by rw [List.append_assoc, List.singleton_append]; rw [List.set_eq_take_append_cons_drop, if_pos (by omega)] at hy; exact hy) (Flats.cons hf Flats.nil)
  refine ⟨h', ?_, h2, h3⟩
  simp only [stH] at h1
  split at h1
  · rename_i h4 h5
    cases h1; exact h5
  · cases h1
theorem cap_in {hi : Int} (h1 : hi ≤ (l.length : Int)) (h2 : l.length ≤ c) : hi ≤ ((c : Nat) : Int) := by omega
theorem Rd.sl {lo hi : Int} {mx : Nat} (r : Rd sz E m A l) (h1 : 0 ≤ lo) (h2 : lo ≤ hi) (h3 : hi ≤ (l.length : Int)) (h4 : hi.toNat ≤ mx) : Rd sz E m (sliceA A (Int.toNat lo) mx sz) (sl l lo hi) := by
  intro i hi'
  rw [← sl_len h1 h2 h3] at hi'
  obtain ⟨a, cs, e1, e2, e3⟩ := r (lo.toNat + i) (by omega)
  refine ⟨a.add (lo.toNat * sz), cs, ?_, ?_, ?_⟩
  · unfold sliceA; rw [if_neg (by omega), e1]; rfl
  · rw [add_add, ← Nat.add_mul]; exact e2
  · simpa [Hw.sl] using e3
theorem sl_cap {lo hi : Int} {mx : Nat} (h1 : 0 ≤ lo) (h2 : lo ≤ hi) (h3 : hi ≤ (l.length : Int)) (h4 : hi.toNat ≤ mx) : (sl l lo hi).length ≤ mx - Int.toNat lo := by rw [← sl_len h1 h2 h3]; omega
theorem zc_len {z : Array Value} {n : Nat} : (zcells z n).toList.length = n * z.size := by rw [Array.length_toList, zcells_size]
def Src (sz : Nat) (E : Heap → α → List Value → Prop) (h m : Heap) (x : Value) (xs : List α) : Prop := ∃ es, srcCells sz x h = some (xs.length, es) ∧ CsE sz E m xs es
theorem Rd.srcE (r : Rd sz E m A l) (T : Tell sz E) (s : Sub m h) (hn : n = l.length) : Src sz E h m (.slice A n c) l := by
  subst hn
  cases A with
  | none =>
    have : l = [] := by
      cases l with
      | nil => rfl
      | cons x l => obtain ⟨a, _, h1, _⟩ := r 0 (by simp); cases h1
    subst this
    exact ⟨[], rfl, rfl⟩
  | some a =>
    obtain ⟨es, h1, h2⟩ := Rd.cse T r
    exact ⟨es, by simp only [srcCells, s.cells _ _ h1, Option.map_some], h2⟩
theorem OS.srcE {c' : Nat} (o : OS W h0 sz E h m A l c) (hn : n = l.length) : Src sz E h m (.slice A n c') l := by
  subst hn
  rcases o with ⟨rfl, rfl⟩ | ⟨b, t, pre, cs, rest, rfl, k1, k2, k3, k4, k5⟩
  · refine ⟨[], ?_, rfl⟩
    cases A with
    | none => rfl
    | some a => simp [srcCells, cellsH]
  · refine ⟨cs, ?_, k2⟩
    have hl := k2.len
    have := k1.cells (a := ⟨b, pre.length, none⟩) rfl rfl (l.length * sz) 0 (by simp [hl])
    simp only [srcCells, this, Nat.add_zero]
    rw [List.append_assoc, List.drop_left, List.take_append_of_le_length (by omega), List.take_of_length_le (by omega)]; rfl
def ap (B : Nat) (l xs : List α) : Option (List α) := if (l.length + xs.length) * B ≤ 140737488355328 then some (l ++ xs) else none
theorem ap_e {B : Nat} {l xs l' : List α} (g : ap B l xs = some l') : (l.length + xs.length) * B ≤ 140737488355328 ∧ l ++ xs = l' := by
  unfold ap at g
  obtain ⟨h, k⟩ := guard_e g
  exact ⟨h, Option.some.inj k⟩
def sls (l : List α) (lo hi : Int) : Option (List α) := if 0 ≤ lo ∧ lo ≤ hi ∧ hi ≤ (l.length : Int) then some (sl l lo hi) else none
theorem sls_e {lo hi : Int} {l' : List α} (g : sls l lo hi = some l') : 0 ≤ lo ∧ lo ≤ hi ∧ hi ≤ (l.length : Int) ∧ Int.toNat hi - Int.toNat lo = l'.length ∧ l' = Hw.sl l lo hi := by
  unfold sls at g
  obtain ⟨h, k⟩ := guard_e g
  cases k
  exact ⟨h.1, h.2.1, h.2.2, sl_len h.1 h.2.1 h.2.2, rfl⟩
theorem Rd.sls {lo hi : Int} {mx : Nat} {l' : List α} (r : Rd sz E m A l) (g : sls l lo hi = some l') (h4 : hi.toNat ≤ mx) : Rd sz E m (sliceA A (Int.toNat lo) mx sz) l' := by
  obtain ⟨h1, h2, h3, _, rfl⟩ := sls_e g
  exact r.sl h1 h2 h3 h4
def mks (B : Int) (x : Int) (z : α) : Option (List α) := if 0 ≤ x ∧ x * B ≤ 140737488355328 ∧ x ≤ 9223372036854775807 then some (List.replicate x.toNat z) else none
theorem mks_e {B : Int} {z : α} {l' : List α} (g : mks B x z = some l') : 0 ≤ x ∧ x * B ≤ 140737488355328 ∧ x ≤ 9223372036854775807 ∧ Int.toNat x = l'.length ∧ l' = List.replicate x.toNat z := by
  unfold mks at g
  obtain ⟨h, k⟩ := guard_e g
  cases k
  exact ⟨h.1, h.2.1, h.2.2, by simp, rfl⟩
theorem mkCells_flat {zc : Array Value} (hz : zc.size = sz) : ∀ n : Nat, (mkCells zc (n * sz)).toList = (List.replicate n zc.toList).flatten := by
  intro n
  unfold mkCells
  apply List.ext_getElem
  · simp [hz]
  · intro i h1 h2
    simp only [Array.toList_map, Array.toList_range, List.getElem_map, List.getElem_range]
    have hi : i < n * sz := by simpa using h1
    have : ∀ (n i : Nat) (hi : i < n * sz) (h2 : i < (List.replicate n zc.toList).flatten.length), zc[i % zc.size]! = (List.replicate n zc.toList).flatten[i] := by
      intro n
      induction n with
      | zero => intro i hi; simp at hi
      | succ n ih =>
        intro i hi h2
        simp only [List.replicate_succ, List.flatten_cons]
        by_cases hlt : i < zc.toList.length
        · rw [List.getElem_append_left hlt]
          have hlt' : i < zc.size := by simpa using hlt
          rw [Nat.mod_eq_of_lt hlt', getElem!_pos zc i hlt']; simp
        · have hge : sz ≤ i := by simpa [hz] using hlt
          rw [List.getElem_append_right (by rw [Array.length_toList, hz]; exact hge)]
          have e1 : i % zc.size = (i - zc.toList.length) % zc.size := by
            rw [Array.length_toList, hz]; exact (Nat.mod_eq_sub_mod hge)
          rw [e1]
          exact ih (i - zc.toList.length) (by rw [Array.length_toList, hz]; rw [Nat.succ_mul] at hi; omega) _
    exact this n i hi h2
theorem le_mx {hi : Int} (h1 : hi ≤ (l.length : Int)) (h2 : l.length ≤ c) : hi.toNat ≤ c := by omega
theorem sls_cap {lo hi : Int} {l' : List α} (g : Hw.sls l lo hi = some l') (h2 : l.length ≤ c) : l'.length ≤ c - Int.toNat lo := by
  obtain ⟨h1, h3, h4, h5, _⟩ := sls_e g
  omega
theorem nn {x : Value} {l : List Value} : x :: l ≠ [] := fun h => by cases h
end
end Go.Hw

end
