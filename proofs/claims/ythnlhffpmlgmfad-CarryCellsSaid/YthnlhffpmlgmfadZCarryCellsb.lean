/- Part 2: what the law CarryCells needs, put together out of texts of this session. -/
import Derived.ProofKit
import Derived.OpenShut
import Derived.ShutString
import Derived.ChangeOld
import Derived.Below
import Derived.SizedLaws
import Derived.ChangeArms
import Derived.Laws.StructEq
import Derived.Test.YthnlhffpmlgmfadZCarryCellsa
section
namespace Go.Proofs.Ythnlhffpmlgmfad.Fw
open Go Go.Hw Go.Proofs
set_option linter.unusedVariables false
def f10.T : Tab := { sh := tSh, tup := tTup, keep := [], plan := [(6, (.take 0 (.take 1 (.take 2 (.take 4 (.take 5 (.take 6 (.take 3 (.take 7 (.take 8 .done))))))))))] }
def f10.kp : Keep := [([false, false, true, false, true, true], [0, 1, 12, 13])]
theorem f10.good : goodCode Try.prog f10.T (rootOf Try.f10) = true := by kernel_rfl
def f10.l0 (R : Value → Heap → Prop) (A0 : Option Addr) (n0 : Nat) (c0 : Nat) (A1 : Option Addr) (n1 : Nat) (c1 : Nat) (x12 : Int) (x13 : Int) (h : Heap) : Prop := Pt Try.prog Try.f10 R [false, false, true, false, true, true] (mkFr [(0, (Value.slice A0 n0 c0)), (1, (Value.slice A1 n1 c1)), (12, (Value.int .i64 x12)), (13, (Value.int .i64 x13))]) h
set_option maxRecDepth 100000 in
def f10.l0T (R : Value → Heap → Prop) (A0 : Option Addr) (n0 : Nat) (c0 : Nat) (A1 : Option Addr) (n1 : Nat) (c1 : Nat) (x12 : Int) (x13 : Int) (h : Heap) : Prop :=
  splitB (decide (x13 < x12)) (ptrOk A0 fun a1_ => 0 ≤ x13 ∧ x13 < ((n0 : Nat) : Int) ∧ (ptrOk A1 fun a2_ => 0 ≤ x13 ∧ x13 < ((n1 : Nat) : Int) ∧ (∃ v3_, ldv false 1 h (Addr.add a1_ (Int.toNat x13 * 1)) = some v3_ ∧ ∃ x4_, v3_ = (Value.int .i64 x4_) ∧ ∃ v5_, ldv false 1 h (Addr.add a2_ (Int.toNat x13 * 1)) = some v5_ ∧ ∃ x6_, v5_ = (Value.int .i64 x6_) ∧ splitB (x4_ != x6_) (R (Value.bool false) h) (f10.l0 R A0 n0 c0 A1 n1 c1 x12 (IntKind.wrap .i64 (x13 + (1 : Int))) h)))) (R (Value.bool true) h)
set_option maxRecDepth 100000 in
theorem f10.l0_in {R : Value → Heap → Prop} {A0 : Option Addr} {n0 : Nat} {c0 : Nat} {A1 : Option Addr} {n1 : Nat} {c1 : Nat} {x12 : Int} {x13 : Int} {h : Heap} (H : f10.l0T R A0 n0 c0 A1 n1 c1 x12 x13 h) : f10.l0 R A0 n0 c0 A1 n1 c1 x12 x13 h :=
  pt_intro mixed f10.good (Eq.mpr (show (Fwd Try.prog f10.T f10.kp Try.f10 R [false, false, true, false, true, true] (mkFr [(0, (Value.slice A0 n0 c0)), (1, (Value.slice A1 n1 c1)), (12, (Value.int .i64 x12)), (13, (Value.int .i64 x13))]) h) = (f10.l0T R A0 n0 c0 A1 n1 c1 x12 x13 h) by kernel_rfl) H)
set_option maxRecDepth 100000 in
def f10.runT (R : Value → Heap → Prop) (A0 : Option Addr) (n0 : Nat) (c0 : Nat) (A1 : Option Addr) (n1 : Nat) (c1 : Nat) (h : Heap) : Prop :=
  splitB (((n0 : Nat) : Int) != ((n1 : Nat) : Int)) (R (Value.bool false) h) (f10.l0 R A0 n0 c0 A1 n1 c1 ((n0 : Nat) : Int) (0 : Int) h)
set_option maxRecDepth 100000 in
theorem f10.run {R : Value → Heap → Prop} {A0 : Option Addr} {n0 : Nat} {c0 : Nat} {A1 : Option Addr} {n1 : Nat} {c1 : Nat} {h : Heap} (H : f10.runT R A0 n0 c0 A1 n1 c1 h) : Run Try.prog 10 #[(Value.slice A0 n0 c0), (Value.slice A1 n1 c1)] h R :=
  run_of mixed Try.func10 (by kernel_rfl) (by kernel_rfl) f10.good (Eq.mpr (show (Fwd Try.prog f10.T f10.kp Try.f10 R [] (mkFr (argL [(Value.slice A0 n0 c0), (Value.slice A1 n1 c1)] 0)) h) = (f10.runT R A0 n0 c0 A1 n1 c1 h) by kernel_rfl) H)
def f160.T : Tab := { sh := tSh, tup := tTup, keep := [], plan := [] }
def f160.kp : Keep := []
theorem f160.good : goodCode Try.prog f160.T (rootOf Try.f160) = true := by kernel_rfl
set_option maxRecDepth 100000 in
def f160.runT (R : Value → Heap → Prop) (x0 : Int) (h : Heap) : Prop :=
  R (Value.bool (x0 != x0)) h
set_option maxRecDepth 100000 in
theorem f160.run {R : Value → Heap → Prop} {x0 : Int} {h : Heap} (H : f160.runT R x0 h) : Run Try.prog 160 #[(Value.int .i64 x0)] h R :=
  run_of mixed Try.func160 (by kernel_rfl) (by kernel_rfl) f160.good (Eq.mpr (show (Fwd Try.prog f160.T f160.kp Try.f160 R [] (mkFr (argL [(Value.int .i64 x0)] 0)) h) = (f160.runT R x0 h) by kernel_rfl) H)
def f127.T : Tab := { sh := tSh, tup := tTup, keep := [], plan := [] }
def f127.kp : Keep := []
theorem f127.good : goodCode Try.prog f127.T (rootOf Try.f127) = true := by kernel_rfl
set_option maxRecDepth 100000 in
def f127.runT (R : Value → Heap → Prop) (x0 : Int) (x1 : Int) (h : Heap) : Prop :=
  Run Try.prog 160 #[(Value.int .i64 x0)] h fun v1_ h2_ => ∃ b3_, v1_ = (Value.bool b3_) ∧ splitB b3_ (Run Try.prog 160 #[(Value.int .i64 x1)] h2_ fun v4_ h5_ => ∃ b6_, v4_ = (Value.bool b6_) ∧ splitB (!b6_) (R (Value.bool true) h5_) (R (Value.bool (decide (x0 < x1))) h5_)) (R (Value.bool (decide (x0 < x1))) h2_)
set_option maxRecDepth 100000 in
theorem f127.run {R : Value → Heap → Prop} {x0 : Int} {x1 : Int} {h : Heap} (H : f127.runT R x0 x1 h) : Run Try.prog 127 #[(Value.int .i64 x0), (Value.int .i64 x1)] h R :=
  run_of mixed Try.func127 (by kernel_rfl) (by kernel_rfl) f127.good (Eq.mpr (show (Fwd Try.prog f127.T f127.kp Try.f127 R [] (mkFr (argL [(Value.int .i64 x0), (Value.int .i64 x1)] 0)) h) = (f127.runT R x0 x1 h) by kernel_rfl) H)
def f121.T : Tab := { sh := tSh, tup := tTup, keep := [], plan := [(4, (.take 0 (.take 1 (.take 2 (.take 3 (.split 3 (.take 4 (.take 5 (.take 6 (.take 8 (.take 9 (.take 10 (.take 11 (.take 7 (.take 12 (.eff false 13 (.take 14 .done))))))))))))))))), (6, (.take 0 (.take 1 (.take 2 (.take 3 (.take 4 (.take 5 (.take 6 (.take 7 (.take 8 (.take 10 (.take 11 (.take 12 (.take 9 (.take 13 (.take 14 (.eff false 15 (.take 16 (.eff false 17 .done)))))))))))))))))))] }
def f121.kp : Keep := [([false, false, true], [0, 1, 2, 6]), ([false, false, true, false, false, true, false, false, true], [0, 1, 2, 6, 7]), ([true, false, false, true, false, false, true, false, false, true], [0, 1, 2, 6, 7]), ([true, true, false, false, true], [0, 1, 2, 6])]
theorem f121.good : goodCode Try.prog f121.T (rootOf Try.f121) = true := by kernel_rfl
def f121.l0 (R : Value → Heap → Prop) (A0 : Option Addr) (n0 : Nat) (c0 : Nat) (x1 : Int) (x2 : Int) (x6 : Int) (h : Heap) : Prop := Pt Try.prog Try.f121 R [false, false, true] (mkFr [(0, (Value.slice A0 n0 c0)), (1, (Value.int .i64 x1)), (2, (Value.int .i64 x2)), (6, (Value.int .i64 x6))]) h
def f121.l1 (R : Value → Heap → Prop) (A0 : Option Addr) (n0 : Nat) (c0 : Nat) (x1 : Int) (x2 : Int) (x6 : Int) (x7 : Int) (h : Heap) : Prop := Pt Try.prog Try.f121 R [false, false, true, false, false, true, false, false, true] (mkFr [(0, (Value.slice A0 n0 c0)), (1, (Value.int .i64 x1)), (2, (Value.int .i64 x2)), (6, (Value.int .i64 x6)), (7, (Value.int .i64 x7))]) h
def f121.j1 (R : Value → Heap → Prop) (A0 : Option Addr) (n0 : Nat) (c0 : Nat) (x1 : Int) (x2 : Int) (x6 : Int) (x7 : Int) (h : Heap) : Prop := Pt Try.prog Try.f121 R [true, false, false, true, false, false, true, false, false, true] (mkFr [(0, (Value.slice A0 n0 c0)), (1, (Value.int .i64 x1)), (2, (Value.int .i64 x2)), (6, (Value.int .i64 x6)), (7, (Value.int .i64 x7))]) h
def f121.j0 (R : Value → Heap → Prop) (A0 : Option Addr) (n0 : Nat) (c0 : Nat) (x1 : Int) (x2 : Int) (x6 : Int) (h : Heap) : Prop := Pt Try.prog Try.f121 R [true, true, false, false, true] (mkFr [(0, (Value.slice A0 n0 c0)), (1, (Value.int .i64 x1)), (2, (Value.int .i64 x2)), (6, (Value.int .i64 x6))]) h
set_option maxRecDepth 100000 in
def f121.l0T (R : Value → Heap → Prop) (A0 : Option Addr) (n0 : Nat) (c0 : Nat) (x1 : Int) (x2 : Int) (x6 : Int) (h : Heap) : Prop :=
  splitB (decide (x6 < x2)) (f121.l1 R A0 n0 c0 x1 x2 x6 x6 h) (R (Value.tuple #[]) h)
set_option maxRecDepth 100000 in
theorem f121.l0_in {R : Value → Heap → Prop} {A0 : Option Addr} {n0 : Nat} {c0 : Nat} {x1 : Int} {x2 : Int} {x6 : Int} {h : Heap} (H : f121.l0T R A0 n0 c0 x1 x2 x6 h) : f121.l0 R A0 n0 c0 x1 x2 x6 h :=
  pt_intro mixed f121.good (Eq.mpr (show (Fwd Try.prog f121.T f121.kp Try.f121 R [false, false, true] (mkFr [(0, (Value.slice A0 n0 c0)), (1, (Value.int .i64 x1)), (2, (Value.int .i64 x2)), (6, (Value.int .i64 x6))]) h) = (f121.l0T R A0 n0 c0 x1 x2 x6 h) by kernel_rfl) H)
set_option maxRecDepth 100000 in
def f121.l1T (R : Value → Heap → Prop) (A0 : Option Addr) (n0 : Nat) (c0 : Nat) (x1 : Int) (x2 : Int) (x6 : Int) (x7 : Int) (h : Heap) : Prop :=
  splitB (decide (x7 > x1)) (ptrOk A0 fun a1_ => 0 ≤ x7 ∧ x7 < ((n0 : Nat) : Int) ∧ (ptrOk A0 fun a2_ => 0 ≤ (IntKind.wrap .i64 (x7 - (1 : Int))) ∧ (IntKind.wrap .i64 (x7 - (1 : Int))) < ((n0 : Nat) : Int) ∧ (∃ v3_, ldv false 1 h (Addr.add a1_ (Int.toNat x7 * 1)) = some v3_ ∧ ∃ x4_, v3_ = (Value.int .i64 x4_) ∧ ∃ v5_, ldv false 1 h (Addr.add a2_ (Int.toNat (IntKind.wrap .i64 (x7 - (1 : Int))) * 1)) = some v5_ ∧ ∃ x6_, v5_ = (Value.int .i64 x6_) ∧ Run Try.prog 127 #[(Value.int .i64 x4_), (Value.int .i64 x6_)] h fun v7_ h8_ => ∃ b9_, v7_ = (Value.bool b9_) ∧ splitB b9_ (f121.j1 R A0 n0 c0 x1 x2 x6 x7 h8_) (f121.j0 R A0 n0 c0 x1 x2 x6 h8_)))) (f121.j0 R A0 n0 c0 x1 x2 x6 h)
set_option maxRecDepth 100000 in
theorem f121.l1_in {R : Value → Heap → Prop} {A0 : Option Addr} {n0 : Nat} {c0 : Nat} {x1 : Int} {x2 : Int} {x6 : Int} {x7 : Int} {h : Heap} (H : f121.l1T R A0 n0 c0 x1 x2 x6 x7 h) : f121.l1 R A0 n0 c0 x1 x2 x6 x7 h :=
  pt_intro mixed f121.good (Eq.mpr (show (Fwd Try.prog f121.T f121.kp Try.f121 R [false, false, true, false, false, true, false, false, true] (mkFr [(0, (Value.slice A0 n0 c0)), (1, (Value.int .i64 x1)), (2, (Value.int .i64 x2)), (6, (Value.int .i64 x6)), (7, (Value.int .i64 x7))]) h) = (f121.l1T R A0 n0 c0 x1 x2 x6 x7 h) by kernel_rfl) H)
set_option maxRecDepth 100000 in
def f121.j1T (R : Value → Heap → Prop) (A0 : Option Addr) (n0 : Nat) (c0 : Nat) (x1 : Int) (x2 : Int) (x6 : Int) (x7 : Int) (h : Heap) : Prop :=
  ptrOk A0 fun a1_ => 0 ≤ (IntKind.wrap .i64 (x7 - (1 : Int))) ∧ (IntKind.wrap .i64 (x7 - (1 : Int))) < ((n0 : Nat) : Int) ∧ (ptrOk A0 fun a2_ => 0 ≤ x7 ∧ x7 < ((n0 : Nat) : Int) ∧ (∃ v3_, ldv false 1 h (Addr.add a1_ (Int.toNat (IntKind.wrap .i64 (x7 - (1 : Int))) * 1)) = some v3_ ∧ ∃ x4_, v3_ = (Value.int .i64 x4_) ∧ ∃ v5_, ldv false 1 h (Addr.add a2_ (Int.toNat x7 * 1)) = some v5_ ∧ ∃ x6_, v5_ = (Value.int .i64 x6_) ∧ ptrOk A0 fun a7_ => 0 ≤ x7 ∧ x7 < ((n0 : Nat) : Int) ∧ (∃ h8_, st1 h (Addr.add a7_ (Int.toNat x7 * 1)) (Value.int .i64 x4_) = some h8_ ∧ ptrOk A0 fun a9_ => 0 ≤ (IntKind.wrap .i64 (x7 - (1 : Int))) ∧ (IntKind.wrap .i64 (x7 - (1 : Int))) < ((n0 : Nat) : Int) ∧ (∃ h10_, st1 h8_ (Addr.add a9_ (Int.toNat (IntKind.wrap .i64 (x7 - (1 : Int))) * 1)) (Value.int .i64 x6_) = some h10_ ∧ f121.l1 R A0 n0 c0 x1 x2 x6 (IntKind.wrap .i64 (x7 - (1 : Int))) h10_))))
set_option maxRecDepth 100000 in
theorem f121.j1_in {R : Value → Heap → Prop} {A0 : Option Addr} {n0 : Nat} {c0 : Nat} {x1 : Int} {x2 : Int} {x6 : Int} {x7 : Int} {h : Heap} (H : f121.j1T R A0 n0 c0 x1 x2 x6 x7 h) : f121.j1 R A0 n0 c0 x1 x2 x6 x7 h :=
  pt_intro mixed f121.good (Eq.mpr (show (Fwd Try.prog f121.T f121.kp Try.f121 R [true, false, false, true, false, false, true, false, false, true] (mkFr [(0, (Value.slice A0 n0 c0)), (1, (Value.int .i64 x1)), (2, (Value.int .i64 x2)), (6, (Value.int .i64 x6)), (7, (Value.int .i64 x7))]) h) = (f121.j1T R A0 n0 c0 x1 x2 x6 x7 h) by kernel_rfl) H)
set_option maxRecDepth 100000 in
def f121.j0T (R : Value → Heap → Prop) (A0 : Option Addr) (n0 : Nat) (c0 : Nat) (x1 : Int) (x2 : Int) (x6 : Int) (h : Heap) : Prop :=
  f121.l0 R A0 n0 c0 x1 x2 (IntKind.wrap .i64 (x6 + (1 : Int))) h
set_option maxRecDepth 100000 in
theorem f121.j0_in {R : Value → Heap → Prop} {A0 : Option Addr} {n0 : Nat} {c0 : Nat} {x1 : Int} {x2 : Int} {x6 : Int} {h : Heap} (H : f121.j0T R A0 n0 c0 x1 x2 x6 h) : f121.j0 R A0 n0 c0 x1 x2 x6 h :=
  pt_intro mixed f121.good (Eq.mpr (show (Fwd Try.prog f121.T f121.kp Try.f121 R [true, true, false, false, true] (mkFr [(0, (Value.slice A0 n0 c0)), (1, (Value.int .i64 x1)), (2, (Value.int .i64 x2)), (6, (Value.int .i64 x6))]) h) = (f121.j0T R A0 n0 c0 x1 x2 x6 h) by kernel_rfl) H)
set_option maxRecDepth 100000 in
def f121.runT (R : Value → Heap → Prop) (A0 : Option Addr) (n0 : Nat) (c0 : Nat) (x1 : Int) (x2 : Int) (h : Heap) : Prop :=
  f121.l0 R A0 n0 c0 x1 x2 (IntKind.wrap .i64 (x1 + (1 : Int))) h
set_option maxRecDepth 100000 in
theorem f121.run {R : Value → Heap → Prop} {A0 : Option Addr} {n0 : Nat} {c0 : Nat} {x1 : Int} {x2 : Int} {h : Heap} (H : f121.runT R A0 n0 c0 x1 x2 h) : Run Try.prog 121 #[(Value.slice A0 n0 c0), (Value.int .i64 x1), (Value.int .i64 x2)] h R :=
  run_of mixed Try.func121 (by kernel_rfl) (by kernel_rfl) f121.good (Eq.mpr (show (Fwd Try.prog f121.T f121.kp Try.f121 R [] (mkFr (argL [(Value.slice A0 n0 c0), (Value.int .i64 x1), (Value.int .i64 x2)] 0)) h) = (f121.runT R A0 n0 c0 x1 x2 h) by kernel_rfl) H)
def f155.T : Tab := { sh := tSh, tup := tTup, keep := [], plan := [(3, (.take 0 (.take 1 (.take 2 (.take 3 (.take 4 (.split 4 (.take 5 (.take 6 (.take 7 (.take 8 (.take 9 (.take 11 (.take 12 (.take 13 (.take 14 (.take 15 (.take 16 (.take 10 (.take 17 (.eff false 18 (.take 19 .done)))))))))))))))))))))), (5, (.take 0 (.take 1 (.take 2 (.take 3 (.take 4 (.take 6 (.take 7 (.take 8 (.take 9 (.take 10 (.take 5 (.take 11 (.eff false 12 (.take 13 .done))))))))))))))), (6, (.take 0 (.take 1 (.take 2 (.take 3 (.take 4 (.take 5 (.take 6 (.take 7 (.take 8 (.take 9 (.take 10 (.take 11 (.take 12 (.take 14 (.take 15 (.take 16 (.take 17 (.take 18 (.take 13 (.take 19 (.take 20 (.eff false 21 (.take 22 (.eff false 23 .done)))))))))))))))))))))))))] }
def f155.kp : Keep := [([false, false, true], [0, 2, 3, 8]), ([true, false, true, true, false, false, false, true], [0, 2, 3, 8, 9, 36]), ([true, true, true, false, false, false, true], [0, 2, 3, 8, 9])]
theorem f155.good : goodCode Try.prog f155.T (rootOf Try.f155) = true := by kernel_rfl
def f155.l0 (R : Value → Heap → Prop) (A0 : Option Addr) (n0 : Nat) (c0 : Nat) (x2 : Int) (x3 : Int) (x8 : Int) (h : Heap) : Prop := Pt Try.prog Try.f155 R [false, false, true] (mkFr [(0, (Value.slice A0 n0 c0)), (2, (Value.int .i64 x2)), (3, (Value.int .i64 x3)), (8, (Value.int .i64 x8))]) h
def f155.j1 (R : Value → Heap → Prop) (A0 : Option Addr) (n0 : Nat) (c0 : Nat) (x2 : Int) (x3 : Int) (x8 : Int) (x9 : Int) (b36 : Bool) (h : Heap) : Prop := Pt Try.prog Try.f155 R [true, false, true, true, false, false, false, true] (mkFr [(0, (Value.slice A0 n0 c0)), (2, (Value.int .i64 x2)), (3, (Value.int .i64 x3)), (8, (Value.int .i64 x8)), (9, (Value.int .i64 x9)), (36, (Value.bool b36))]) h
def f155.j0 (R : Value → Heap → Prop) (A0 : Option Addr) (n0 : Nat) (c0 : Nat) (x2 : Int) (x3 : Int) (x8 : Int) (x9 : Int) (h : Heap) : Prop := Pt Try.prog Try.f155 R [true, true, true, false, false, false, true] (mkFr [(0, (Value.slice A0 n0 c0)), (2, (Value.int .i64 x2)), (3, (Value.int .i64 x3)), (8, (Value.int .i64 x8)), (9, (Value.int .i64 x9))]) h
set_option maxRecDepth 100000 in
def f155.l0T (R : Value → Heap → Prop) (A0 : Option Addr) (n0 : Nat) (c0 : Nat) (x2 : Int) (x3 : Int) (x8 : Int) (h : Heap) : Prop :=
  splitB (decide ((IntKind.wrap .i64 ((IntKind.wrap .i64 ((2 : Int) * x8)) + (1 : Int))) ≥ x2)) (R (Value.tuple #[]) h) (splitB (decide ((IntKind.wrap .i64 ((IntKind.wrap .i64 ((IntKind.wrap .i64 ((2 : Int) * x8)) + (1 : Int))) + (1 : Int))) < x2)) (ptrOk A0 fun a1_ => 0 ≤ (IntKind.wrap .i64 (x3 + (IntKind.wrap .i64 ((IntKind.wrap .i64 ((2 : Int) * x8)) + (1 : Int))))) ∧ (IntKind.wrap .i64 (x3 + (IntKind.wrap .i64 ((IntKind.wrap .i64 ((2 : Int) * x8)) + (1 : Int))))) < ((n0 : Nat) : Int) ∧ (ptrOk A0 fun a2_ => 0 ≤ (IntKind.wrap .i64 ((IntKind.wrap .i64 (x3 + (IntKind.wrap .i64 ((IntKind.wrap .i64 ((2 : Int) * x8)) + (1 : Int))))) + (1 : Int))) ∧ (IntKind.wrap .i64 ((IntKind.wrap .i64 (x3 + (IntKind.wrap .i64 ((IntKind.wrap .i64 ((2 : Int) * x8)) + (1 : Int))))) + (1 : Int))) < ((n0 : Nat) : Int) ∧ (∃ v3_, ldv false 1 h (Addr.add a1_ (Int.toNat (IntKind.wrap .i64 (x3 + (IntKind.wrap .i64 ((IntKind.wrap .i64 ((2 : Int) * x8)) + (1 : Int))))) * 1)) = some v3_ ∧ ∃ x4_, v3_ = (Value.int .i64 x4_) ∧ ∃ v5_, ldv false 1 h (Addr.add a2_ (Int.toNat (IntKind.wrap .i64 ((IntKind.wrap .i64 (x3 + (IntKind.wrap .i64 ((IntKind.wrap .i64 ((2 : Int) * x8)) + (1 : Int))))) + (1 : Int))) * 1)) = some v5_ ∧ ∃ x6_, v5_ = (Value.int .i64 x6_) ∧ Run Try.prog 127 #[(Value.int .i64 x4_), (Value.int .i64 x6_)] h fun v7_ h8_ => ∃ b9_, v7_ = (Value.bool b9_) ∧ f155.j1 R A0 n0 c0 x2 x3 x8 (IntKind.wrap .i64 ((IntKind.wrap .i64 ((2 : Int) * x8)) + (1 : Int))) b9_ h8_))) (f155.j1 R A0 n0 c0 x2 x3 x8 (IntKind.wrap .i64 ((IntKind.wrap .i64 ((2 : Int) * x8)) + (1 : Int))) false h))
set_option maxRecDepth 100000 in
theorem f155.l0_in {R : Value → Heap → Prop} {A0 : Option Addr} {n0 : Nat} {c0 : Nat} {x2 : Int} {x3 : Int} {x8 : Int} {h : Heap} (H : f155.l0T R A0 n0 c0 x2 x3 x8 h) : f155.l0 R A0 n0 c0 x2 x3 x8 h :=
  pt_intro mixed f155.good (Eq.mpr (show (Fwd Try.prog f155.T f155.kp Try.f155 R [false, false, true] (mkFr [(0, (Value.slice A0 n0 c0)), (2, (Value.int .i64 x2)), (3, (Value.int .i64 x3)), (8, (Value.int .i64 x8))]) h) = (f155.l0T R A0 n0 c0 x2 x3 x8 h) by kernel_rfl) H)
set_option maxRecDepth 100000 in
def f155.j1T (R : Value → Heap → Prop) (A0 : Option Addr) (n0 : Nat) (c0 : Nat) (x2 : Int) (x3 : Int) (x8 : Int) (x9 : Int) (b36 : Bool) (h : Heap) : Prop :=
  splitB b36 (f155.j0 R A0 n0 c0 x2 x3 x8 (IntKind.wrap .i64 (x9 + (1 : Int))) h) (f155.j0 R A0 n0 c0 x2 x3 x8 x9 h)
set_option maxRecDepth 100000 in
theorem f155.j1_in {R : Value → Heap → Prop} {A0 : Option Addr} {n0 : Nat} {c0 : Nat} {x2 : Int} {x3 : Int} {x8 : Int} {x9 : Int} {b36 : Bool} {h : Heap} (H : f155.j1T R A0 n0 c0 x2 x3 x8 x9 b36 h) : f155.j1 R A0 n0 c0 x2 x3 x8 x9 b36 h :=
  pt_intro mixed f155.good (Eq.mpr (show (Fwd Try.prog f155.T f155.kp Try.f155 R [true, false, true, true, false, false, false, true] (mkFr [(0, (Value.slice A0 n0 c0)), (2, (Value.int .i64 x2)), (3, (Value.int .i64 x3)), (8, (Value.int .i64 x8)), (9, (Value.int .i64 x9)), (36, (Value.bool b36))]) h) = (f155.j1T R A0 n0 c0 x2 x3 x8 x9 b36 h) by kernel_rfl) H)
set_option maxRecDepth 100000 in
def f155.j0T (R : Value → Heap → Prop) (A0 : Option Addr) (n0 : Nat) (c0 : Nat) (x2 : Int) (x3 : Int) (x8 : Int) (x9 : Int) (h : Heap) : Prop :=
  ptrOk A0 fun a1_ => 0 ≤ (IntKind.wrap .i64 (x3 + x8)) ∧ (IntKind.wrap .i64 (x3 + x8)) < ((n0 : Nat) : Int) ∧ (ptrOk A0 fun a2_ => 0 ≤ (IntKind.wrap .i64 (x3 + x9)) ∧ (IntKind.wrap .i64 (x3 + x9)) < ((n0 : Nat) : Int) ∧ (∃ v3_, ldv false 1 h (Addr.add a1_ (Int.toNat (IntKind.wrap .i64 (x3 + x8)) * 1)) = some v3_ ∧ ∃ x4_, v3_ = (Value.int .i64 x4_) ∧ ∃ v5_, ldv false 1 h (Addr.add a2_ (Int.toNat (IntKind.wrap .i64 (x3 + x9)) * 1)) = some v5_ ∧ ∃ x6_, v5_ = (Value.int .i64 x6_) ∧ Run Try.prog 127 #[(Value.int .i64 x4_), (Value.int .i64 x6_)] h fun v7_ h8_ => ∃ b9_, v7_ = (Value.bool b9_) ∧ splitB (!b9_) (R (Value.tuple #[]) h8_) (ptrOk A0 fun a10_ => 0 ≤ (IntKind.wrap .i64 (x3 + x9)) ∧ (IntKind.wrap .i64 (x3 + x9)) < ((n0 : Nat) : Int) ∧ (ptrOk A0 fun a11_ => 0 ≤ (IntKind.wrap .i64 (x3 + x8)) ∧ (IntKind.wrap .i64 (x3 + x8)) < ((n0 : Nat) : Int) ∧ (∃ v12_, ldv false 1 h8_ (Addr.add a10_ (Int.toNat (IntKind.wrap .i64 (x3 + x9)) * 1)) = some v12_ ∧ ∃ x13_, v12_ = (Value.int .i64 x13_) ∧ ∃ v14_, ldv false 1 h8_ (Addr.add a11_ (Int.toNat (IntKind.wrap .i64 (x3 + x8)) * 1)) = some v14_ ∧ ∃ x15_, v14_ = (Value.int .i64 x15_) ∧ ptrOk A0 fun a16_ => 0 ≤ (IntKind.wrap .i64 (x3 + x8)) ∧ (IntKind.wrap .i64 (x3 + x8)) < ((n0 : Nat) : Int) ∧ (∃ h17_, st1 h8_ (Addr.add a16_ (Int.toNat (IntKind.wrap .i64 (x3 + x8)) * 1)) (Value.int .i64 x13_) = some h17_ ∧ ptrOk A0 fun a18_ => 0 ≤ (IntKind.wrap .i64 (x3 + x9)) ∧ (IntKind.wrap .i64 (x3 + x9)) < ((n0 : Nat) : Int) ∧ (∃ h19_, st1 h17_ (Addr.add a18_ (Int.toNat (IntKind.wrap .i64 (x3 + x9)) * 1)) (Value.int .i64 x15_) = some h19_ ∧ f155.l0 R A0 n0 c0 x2 x3 x9 h19_)))))))
set_option maxRecDepth 100000 in
theorem f155.j0_in {R : Value → Heap → Prop} {A0 : Option Addr} {n0 : Nat} {c0 : Nat} {x2 : Int} {x3 : Int} {x8 : Int} {x9 : Int} {h : Heap} (H : f155.j0T R A0 n0 c0 x2 x3 x8 x9 h) : f155.j0 R A0 n0 c0 x2 x3 x8 x9 h :=
  pt_intro mixed f155.good (Eq.mpr (show (Fwd Try.prog f155.T f155.kp Try.f155 R [true, true, true, false, false, false, true] (mkFr [(0, (Value.slice A0 n0 c0)), (2, (Value.int .i64 x2)), (3, (Value.int .i64 x3)), (8, (Value.int .i64 x8)), (9, (Value.int .i64 x9))]) h) = (f155.j0T R A0 n0 c0 x2 x3 x8 x9 h) by kernel_rfl) H)
set_option maxRecDepth 100000 in
def f155.runT (R : Value → Heap → Prop) (A0 : Option Addr) (n0 : Nat) (c0 : Nat) (x1 : Int) (x2 : Int) (x3 : Int) (h : Heap) : Prop :=
  f155.l0 R A0 n0 c0 x2 x3 x1 h
set_option maxRecDepth 100000 in
theorem f155.run {R : Value → Heap → Prop} {A0 : Option Addr} {n0 : Nat} {c0 : Nat} {x1 : Int} {x2 : Int} {x3 : Int} {h : Heap} (H : f155.runT R A0 n0 c0 x1 x2 x3 h) : Run Try.prog 155 #[(Value.slice A0 n0 c0), (Value.int .i64 x1), (Value.int .i64 x2), (Value.int .i64 x3)] h R :=
  run_of mixed Try.func155 (by kernel_rfl) (by kernel_rfl) f155.good (Eq.mpr (show (Fwd Try.prog f155.T f155.kp Try.f155 R [] (mkFr (argL [(Value.slice A0 n0 c0), (Value.int .i64 x1), (Value.int .i64 x2), (Value.int .i64 x3)] 0)) h) = (f155.runT R A0 n0 c0 x1 x2 x3 h) by kernel_rfl) H)
def f122.T : Tab := { sh := tSh, tup := tTup, keep := [], plan := [(10, (.take 0 (.take 1 (.take 2 (.take 3 (.take 4 (.take 5 (.take 6 (.take 7 (.take 8 (.take 9 (.take 10 (.take 12 (.take 13 (.take 14 (.take 11 (.take 15 (.take 16 (.eff false 17 (.take 18 (.eff false 19 .done)))))))))))))))))))))] }
def f122.kp : Keep := [([false, false, true, false, true, true, true], [0, 6, 7, 8, 9]), ([false, false, true, true, true, true, true], [0, 6, 7, 10])]
theorem f122.good : goodCode Try.prog f122.T (rootOf Try.f122) = true := by kernel_rfl
def f122.l0 (R : Value → Heap → Prop) (A0 : Option Addr) (n0 : Nat) (c0 : Nat) (x6 : Int) (x7 : Int) (x8 : Int) (x9 : Int) (h : Heap) : Prop := Pt Try.prog Try.f122 R [false, false, true, false, true, true, true] (mkFr [(0, (Value.slice A0 n0 c0)), (6, (Value.int .i64 x6)), (7, (Value.int .i64 x7)), (8, (Value.int .i64 x8)), (9, (Value.int .i64 x9))]) h
def f122.l1 (R : Value → Heap → Prop) (A0 : Option Addr) (n0 : Nat) (c0 : Nat) (x6 : Int) (x7 : Int) (x10 : Int) (h : Heap) : Prop := Pt Try.prog Try.f122 R [false, false, true, true, true, true, true] (mkFr [(0, (Value.slice A0 n0 c0)), (6, (Value.int .i64 x6)), (7, (Value.int .i64 x7)), (10, (Value.int .i64 x10))]) h
set_option maxRecDepth 100000 in
def f122.l0T (R : Value → Heap → Prop) (A0 : Option Addr) (n0 : Nat) (c0 : Nat) (x6 : Int) (x7 : Int) (x8 : Int) (x9 : Int) (h : Heap) : Prop :=
  splitB (decide (x9 ≥ (0 : Int))) (Run Try.prog 155 #[(Value.slice A0 n0 c0), (Value.int .i64 x9), (Value.int .i64 x8), (Value.int .i64 x6)] h fun v1_ h2_ => v1_ = (Value.tuple #[]) ∧ f122.l0 R A0 n0 c0 x6 x7 x8 (IntKind.wrap .i64 (x9 - (1 : Int))) h2_) (f122.l1 R A0 n0 c0 x6 x7 (IntKind.wrap .i64 (x8 - (1 : Int))) h)
set_option maxRecDepth 100000 in
theorem f122.l0_in {R : Value → Heap → Prop} {A0 : Option Addr} {n0 : Nat} {c0 : Nat} {x6 : Int} {x7 : Int} {x8 : Int} {x9 : Int} {h : Heap} (H : f122.l0T R A0 n0 c0 x6 x7 x8 x9 h) : f122.l0 R A0 n0 c0 x6 x7 x8 x9 h :=
  pt_intro mixed f122.good (Eq.mpr (show (Fwd Try.prog f122.T f122.kp Try.f122 R [false, false, true, false, true, true, true] (mkFr [(0, (Value.slice A0 n0 c0)), (6, (Value.int .i64 x6)), (7, (Value.int .i64 x7)), (8, (Value.int .i64 x8)), (9, (Value.int .i64 x9))]) h) = (f122.l0T R A0 n0 c0 x6 x7 x8 x9 h) by kernel_rfl) H)
set_option maxRecDepth 100000 in
def f122.l1T (R : Value → Heap → Prop) (A0 : Option Addr) (n0 : Nat) (c0 : Nat) (x6 : Int) (x7 : Int) (x10 : Int) (h : Heap) : Prop :=
  splitB (decide (x10 ≥ (0 : Int))) (ptrOk A0 fun a1_ => 0 ≤ (IntKind.wrap .i64 (x6 + x10)) ∧ (IntKind.wrap .i64 (x6 + x10)) < ((n0 : Nat) : Int) ∧ (ptrOk A0 fun a2_ => 0 ≤ x6 ∧ x6 < ((n0 : Nat) : Int) ∧ (∃ v3_, ldv false 1 h (Addr.add a1_ (Int.toNat (IntKind.wrap .i64 (x6 + x10)) * 1)) = some v3_ ∧ ∃ x4_, v3_ = (Value.int .i64 x4_) ∧ ∃ v5_, ldv false 1 h (Addr.add a2_ (Int.toNat x6 * 1)) = some v5_ ∧ ∃ x6_, v5_ = (Value.int .i64 x6_) ∧ ptrOk A0 fun a7_ => 0 ≤ x6 ∧ x6 < ((n0 : Nat) : Int) ∧ (∃ h8_, st1 h (Addr.add a7_ (Int.toNat x6 * 1)) (Value.int .i64 x4_) = some h8_ ∧ ptrOk A0 fun a9_ => 0 ≤ (IntKind.wrap .i64 (x6 + x10)) ∧ (IntKind.wrap .i64 (x6 + x10)) < ((n0 : Nat) : Int) ∧ (∃ h10_, st1 h8_ (Addr.add a9_ (Int.toNat (IntKind.wrap .i64 (x6 + x10)) * 1)) (Value.int .i64 x6_) = some h10_ ∧ Run Try.prog 155 #[(Value.slice A0 n0 c0), (Value.int .i64 x7), (Value.int .i64 x10), (Value.int .i64 x6)] h10_ fun v11_ h12_ => v11_ = (Value.tuple #[]) ∧ f122.l1 R A0 n0 c0 x6 x7 (IntKind.wrap .i64 (x10 - (1 : Int))) h12_))))) (R (Value.tuple #[]) h)
set_option maxRecDepth 100000 in
theorem f122.l1_in {R : Value → Heap → Prop} {A0 : Option Addr} {n0 : Nat} {c0 : Nat} {x6 : Int} {x7 : Int} {x10 : Int} {h : Heap} (H : f122.l1T R A0 n0 c0 x6 x7 x10 h) : f122.l1 R A0 n0 c0 x6 x7 x10 h :=
  pt_intro mixed f122.good (Eq.mpr (show (Fwd Try.prog f122.T f122.kp Try.f122 R [false, false, true, true, true, true, true] (mkFr [(0, (Value.slice A0 n0 c0)), (6, (Value.int .i64 x6)), (7, (Value.int .i64 x7)), (10, (Value.int .i64 x10))]) h) = (f122.l1T R A0 n0 c0 x6 x7 x10 h) by kernel_rfl) H)
set_option maxRecDepth 100000 in
def f122.runT (R : Value → Heap → Prop) (A0 : Option Addr) (n0 : Nat) (c0 : Nat) (x1 : Int) (x2 : Int) (h : Heap) : Prop :=
  (2 : Int) ≠ 0 ∧ (f122.l0 R A0 n0 c0 x1 (0 : Int) (IntKind.wrap .i64 (x2 - x1)) (IntKind.wrap .i64 (Int.tdiv (IntKind.wrap .i64 ((IntKind.wrap .i64 (x2 - x1)) - (1 : Int))) (2 : Int))) h)
set_option maxRecDepth 100000 in
theorem f122.run {R : Value → Heap → Prop} {A0 : Option Addr} {n0 : Nat} {c0 : Nat} {x1 : Int} {x2 : Int} {h : Heap} (H : f122.runT R A0 n0 c0 x1 x2 h) : Run Try.prog 122 #[(Value.slice A0 n0 c0), (Value.int .i64 x1), (Value.int .i64 x2)] h R :=
  run_of mixed Try.func122 (by kernel_rfl) (by kernel_rfl) f122.good (Eq.mpr (show (Fwd Try.prog f122.T f122.kp Try.f122 R [] (mkFr (argL [(Value.slice A0 n0 c0), (Value.int .i64 x1), (Value.int .i64 x2)] 0)) h) = (f122.runT R A0 n0 c0 x1 x2 h) by kernel_rfl) H)
def f131.T : Tab := { sh := tSh, tup := tTup, keep := [], plan := [] }
def f131.kp : Keep := [([true, true], [0, 2]), ([true, true, true], [0, 2]), ([true, true, true, true], [0, 2])]
theorem f131.good : goodCode Try.prog f131.T (rootOf Try.f131) = true := by kernel_rfl
def f131.j0 (R : Value → Heap → Prop) (x0 : Int) (x2 : Int) (h : Heap) : Prop := Pt Try.prog Try.f131 R [true, true] (mkFr [(0, (Value.int .u64 x0)), (2, (Value.int .i64 x2))]) h
def f131.j1 (R : Value → Heap → Prop) (x0 : Int) (x2 : Int) (h : Heap) : Prop := Pt Try.prog Try.f131 R [true, true, true] (mkFr [(0, (Value.int .u64 x0)), (2, (Value.int .i64 x2))]) h
def f131.j2 (R : Value → Heap → Prop) (x0 : Int) (x2 : Int) (h : Heap) : Prop := Pt Try.prog Try.f131 R [true, true, true, true] (mkFr [(0, (Value.int .u64 x0)), (2, (Value.int .i64 x2))]) h
set_option maxRecDepth 100000 in
def f131.j0T (R : Value → Heap → Prop) (x0 : Int) (x2 : Int) (h : Heap) : Prop :=
  splitB (decide (x0 ≥ (65536 : Int))) (0 ≤ (16 : Int) ∧ (f131.j1 R (shrI .u64 x0 (16 : Int)) (IntKind.wrap .i64 (x2 + (16 : Int))) h)) (f131.j1 R x0 x2 h)
set_option maxRecDepth 100000 in
theorem f131.j0_in {R : Value → Heap → Prop} {x0 : Int} {x2 : Int} {h : Heap} (H : f131.j0T R x0 x2 h) : f131.j0 R x0 x2 h :=
  pt_intro mixed f131.good (Eq.mpr (show (Fwd Try.prog f131.T f131.kp Try.f131 R [true, true] (mkFr [(0, (Value.int .u64 x0)), (2, (Value.int .i64 x2))]) h) = (f131.j0T R x0 x2 h) by kernel_rfl) H)
set_option maxRecDepth 100000 in
def f131.j1T (R : Value → Heap → Prop) (x0 : Int) (x2 : Int) (h : Heap) : Prop :=
  splitB (decide (x0 ≥ (256 : Int))) (0 ≤ (8 : Int) ∧ (f131.j2 R (shrI .u64 x0 (8 : Int)) (IntKind.wrap .i64 (x2 + (8 : Int))) h)) (f131.j2 R x0 x2 h)
set_option maxRecDepth 100000 in
theorem f131.j1_in {R : Value → Heap → Prop} {x0 : Int} {x2 : Int} {h : Heap} (H : f131.j1T R x0 x2 h) : f131.j1 R x0 x2 h :=
  pt_intro mixed f131.good (Eq.mpr (show (Fwd Try.prog f131.T f131.kp Try.f131 R [true, true, true] (mkFr [(0, (Value.int .u64 x0)), (2, (Value.int .i64 x2))]) h) = (f131.j1T R x0 x2 h) by kernel_rfl) H)
set_option maxRecDepth 100000 in
def f131.j2T (R : Value → Heap → Prop) (x0 : Int) (x2 : Int) (h : Heap) : Prop :=
  0 ≤ (IntKind.wrap .u8 x0) ∧ ∃ y1_, (ByteArray.mk #[0, 1, 2, 2, 3, 3, 3, 3, 4, 4, 4, 4, 4, 4, 4, 4, 5, 5, 5, 5, 5, 5, 5, 5, 5, 5, 5, 5, 5, 5, 5, 5, 6, 6, 6, 6, 6, 6, 6, 6, 6, 6, 6, 6, 6, 6, 6, 6, 6, 6, 6, 6, 6, 6, 6, 6, 6, 6, 6, 6, 6, 6, 6, 6, 7, 7, 7, 7, 7, 7, 7, 7, 7, 7, 7, 7, 7, 7, 7, 7, 7, 7, 7, 7, 7, 7, 7, 7, 7, 7, 7, 7, 7, 7, 7, 7, 7, 7, 7, 7, 7, 7, 7, 7, 7, 7, 7, 7, 7, 7, 7, 7, 7, 7, 7, 7, 7, 7, 7, 7, 7, 7, 7, 7, 7, 7, 7, 7, 8, 8, 8, 8, 8, 8, 8, 8, 8, 8, 8, 8, 8, 8, 8, 8, 8, 8, 8, 8, 8, 8, 8, 8, 8, 8, 8, 8, 8, 8, 8, 8, 8, 8, 8, 8, 8, 8, 8, 8, 8, 8, 8, 8, 8, 8, 8, 8, 8, 8, 8, 8, 8, 8, 8, 8, 8, 8, 8, 8, 8, 8, 8, 8, 8, 8, 8, 8, 8, 8, 8, 8, 8, 8, 8, 8, 8, 8, 8, 8, 8, 8, 8, 8, 8, 8, 8, 8, 8, 8, 8, 8, 8, 8, 8, 8, 8, 8, 8, 8, 8, 8, 8, 8, 8, 8, 8, 8, 8, 8, 8, 8, 8, 8, 8, 8, 8, 8, 8, 8, 8, 8, 8, 8, 8, 8, 8, 8])[Int.toNat (IntKind.wrap .u8 x0)]? = some y1_ ∧ (R (Value.int .i64 (IntKind.wrap .i64 (x2 + (IntKind.wrap .i64 ((UInt8.toNat y1_ : Nat) : Int))))) h)
set_option maxRecDepth 100000 in
theorem f131.j2_in {R : Value → Heap → Prop} {x0 : Int} {x2 : Int} {h : Heap} (H : f131.j2T R x0 x2 h) : f131.j2 R x0 x2 h :=
  pt_intro mixed f131.good (Eq.mpr (show (Fwd Try.prog f131.T f131.kp Try.f131 R [true, true, true, true] (mkFr [(0, (Value.int .u64 x0)), (2, (Value.int .i64 x2))]) h) = (f131.j2T R x0 x2 h) by kernel_rfl) H)
set_option maxRecDepth 100000 in
def f131.runT (R : Value → Heap → Prop) (x0 : Int) (h : Heap) : Prop :=
  splitB (decide (x0 ≥ (4294967296 : Int))) (0 ≤ (32 : Int) ∧ (f131.j0 R (shrI .u64 x0 (32 : Int)) (32 : Int) h)) (f131.j0 R x0 (0 : Int) h)
set_option maxRecDepth 100000 in
theorem f131.run {R : Value → Heap → Prop} {x0 : Int} {h : Heap} (H : f131.runT R x0 h) : Run Try.prog 131 #[(Value.int .u64 x0)] h R :=
  run_of mixed Try.func131 (by kernel_rfl) (by kernel_rfl) f131.good (Eq.mpr (show (Fwd Try.prog f131.T f131.kp Try.f131 R [] (mkFr (argL [(Value.int .u64 x0)] 0)) h) = (f131.runT R x0 h) by kernel_rfl) H)
def f79.T : Tab := { sh := tSh, tup := tTup, keep := [], plan := [] }
def f79.kp : Keep := []
theorem f79.good : goodCode Try.prog f79.T (rootOf Try.f79) = true := by kernel_rfl
set_option maxRecDepth 100000 in
def f79.runT (R : Value → Heap → Prop) (x0 : Int) (h : Heap) : Prop :=
  Run Try.prog 131 #[(Value.int .u64 x0)] h fun v1_ h2_ => ∃ x3_, v1_ = (Value.int .i64 x3_) ∧ R (Value.int .i64 x3_) h2_
set_option maxRecDepth 100000 in
theorem f79.run {R : Value → Heap → Prop} {x0 : Int} {h : Heap} (H : f79.runT R x0 h) : Run Try.prog 79 #[(Value.int .u64 x0)] h R :=
  run_of mixed Try.func79 (by kernel_rfl) (by kernel_rfl) f79.good (Eq.mpr (show (Fwd Try.prog f79.T f79.kp Try.f79 R [] (mkFr (argL [(Value.int .u64 x0)] 0)) h) = (f79.runT R x0 h) by kernel_rfl) H)
def f156.T : Tab := { sh := tSh, tup := tTup, keep := [], plan := [] }
def f156.kp : Keep := []
theorem f156.good : goodCode Try.prog f156.T (rootOf Try.f156) = true := by kernel_rfl
set_option maxRecDepth 100000 in
def f156.runT (R : Value → Heap → Prop) (x0 : Int) (h : Heap) : Prop :=
  Run Try.prog 79 #[(Value.int .u64 (IntKind.wrap .u64 x0))] h fun v1_ h2_ => ∃ x3_, v1_ = (Value.int .i64 x3_) ∧ 0 ≤ x3_ ∧ (R (Value.int .u64 (shlI .u64 (1 : Int) x3_)) h2_)
set_option maxRecDepth 100000 in
theorem f156.run {R : Value → Heap → Prop} {x0 : Int} {h : Heap} (H : f156.runT R x0 h) : Run Try.prog 156 #[(Value.int .i64 x0)] h R :=
  run_of mixed Try.func156 (by kernel_rfl) (by kernel_rfl) f156.good (Eq.mpr (show (Fwd Try.prog f156.T f156.kp Try.f156 R [] (mkFr (argL [(Value.int .i64 x0)] 0)) h) = (f156.runT R x0 h) by kernel_rfl) H)
def f157.T : Tab := { sh := tSh, tup := tTup, keep := [], plan := [(1, (.take 0 (.take 1 (.take 3 (.take 4 (.take 2 (.take 5 (.take 6 (.take 7 (.take 8 (.eff false 9 .done))))))))))), (2, (.take 0 (.take 1 (.take 3 (.take 4 (.take 2 (.take 5 (.take 6 (.take 7 (.take 8 (.eff false 9 .done))))))))))), (3, (.take 0 (.take 1 (.take 3 (.take 4 (.take 2 (.take 5 (.take 6 (.take 7 (.take 8 (.eff false 9 .done)))))))))))] }
def f157.kp : Keep := []
theorem f157.good : goodCode Try.prog f157.T (rootOf Try.f157) = true := by kernel_rfl
set_option maxRecDepth 100000 in
def f157.runT (R : Value → Heap → Prop) (a0 : Addr) (h : Heap) : Prop :=
  ∃ v1_, ldv false 1 h a0 = some v1_ ∧ ∃ x2_, v1_ = (Value.int .u64 x2_) ∧ ∃ v3_, ldv false 1 h a0 = some v3_ ∧ ∃ x4_, v3_ = (Value.int .u64 x4_) ∧ 0 ≤ (13 : Int) ∧ (∃ h5_, st1 h a0 (Value.int .u64 (bitsI .xor .u64 x2_ (shlI .u64 x4_ (13 : Int)))) = some h5_ ∧ ∃ v6_, ldv false 1 h5_ a0 = some v6_ ∧ ∃ x7_, v6_ = (Value.int .u64 x7_) ∧ ∃ v8_, ldv false 1 h5_ a0 = some v8_ ∧ ∃ x9_, v8_ = (Value.int .u64 x9_) ∧ 0 ≤ (7 : Int) ∧ (∃ h10_, st1 h5_ a0 (Value.int .u64 (bitsI .xor .u64 x7_ (shrI .u64 x9_ (7 : Int)))) = some h10_ ∧ ∃ v11_, ldv false 1 h10_ a0 = some v11_ ∧ ∃ x12_, v11_ = (Value.int .u64 x12_) ∧ ∃ v13_, ldv false 1 h10_ a0 = some v13_ ∧ ∃ x14_, v13_ = (Value.int .u64 x14_) ∧ 0 ≤ (17 : Int) ∧ (∃ h15_, st1 h10_ a0 (Value.int .u64 (bitsI .xor .u64 x12_ (shlI .u64 x14_ (17 : Int)))) = some h15_ ∧ ∃ v16_, ldv false 1 h15_ a0 = some v16_ ∧ ∃ x17_, v16_ = (Value.int .u64 x17_) ∧ R (Value.int .u64 x17_) h15_)))
set_option maxRecDepth 100000 in
theorem f157.run {R : Value → Heap → Prop} {a0 : Addr} {h : Heap} (H : f157.runT R a0 h) : Run Try.prog 157 #[(Value.pointer (some a0))] h R :=
  run_of mixed Try.func157 (by kernel_rfl) (by kernel_rfl) f157.good (Eq.mpr (show (Fwd Try.prog f157.T f157.kp Try.f157 R [] (mkFr (argL [(Value.pointer (some a0))] 0)) h) = (f157.runT R a0 h) by kernel_rfl) H)
def f123.T : Tab := { sh := tSh, tup := tTup, keep := [], plan := [(10, (.take 0 (.take 1 (.take 2 (.take 3 (.take 4 (.take 5 (.take 6 (.take 7 (.take 8 (.take 9 (.take 10 (.take 12 (.take 13 (.take 14 (.take 11 (.take 15 (.take 16 (.eff false 17 (.take 18 (.eff false 19 .done)))))))))))))))))))))] }
def f123.kp : Keep := [([false, false, true, true, true, false, true, true], [0, 1, 6, 7, 8, 9]), ([true, true, false, false, true, false, false, true, true, true, false, true, true], [0, 1, 6, 7, 8, 9, 10]), ([true, true, false, false, true, true, true, false, true, true], [0, 1, 6, 7, 8, 9])]
theorem f123.good : goodCode Try.prog f123.T (rootOf Try.f123) = true := by kernel_rfl
def f123.l0 (R : Value → Heap → Prop) (A0 : Option Addr) (n0 : Nat) (c0 : Nat) (x1 : Int) (x6 : Int) (a7 : Addr) (x8 : Int) (x9 : Int) (h : Heap) : Prop := Pt Try.prog Try.f123 R [false, false, true, true, true, false, true, true] (mkFr [(0, (Value.slice A0 n0 c0)), (1, (Value.int .i64 x1)), (6, (Value.int .i64 x6)), (7, (Value.pointer (some a7))), (8, (Value.int .u64 x8)), (9, (Value.int .i64 x9))]) h
def f123.j1 (R : Value → Heap → Prop) (A0 : Option Addr) (n0 : Nat) (c0 : Nat) (x1 : Int) (x6 : Int) (a7 : Addr) (x8 : Int) (x9 : Int) (x10 : Int) (h : Heap) : Prop := Pt Try.prog Try.f123 R [true, true, false, false, true, false, false, true, true, true, false, true, true] (mkFr [(0, (Value.slice A0 n0 c0)), (1, (Value.int .i64 x1)), (6, (Value.int .i64 x6)), (7, (Value.pointer (some a7))), (8, (Value.int .u64 x8)), (9, (Value.int .i64 x9)), (10, (Value.int .i64 x10))]) h
def f123.j0 (R : Value → Heap → Prop) (A0 : Option Addr) (n0 : Nat) (c0 : Nat) (x1 : Int) (x6 : Int) (a7 : Addr) (x8 : Int) (x9 : Int) (h : Heap) : Prop := Pt Try.prog Try.f123 R [true, true, false, false, true, true, true, false, true, true] (mkFr [(0, (Value.slice A0 n0 c0)), (1, (Value.int .i64 x1)), (6, (Value.int .i64 x6)), (7, (Value.pointer (some a7))), (8, (Value.int .u64 x8)), (9, (Value.int .i64 x9))]) h
set_option maxRecDepth 100000 in
def f123.l0T (R : Value → Heap → Prop) (A0 : Option Addr) (n0 : Nat) (c0 : Nat) (x1 : Int) (x6 : Int) (a7 : Addr) (x8 : Int) (x9 : Int) (h : Heap) : Prop :=
  (4 : Int) ≠ 0 ∧ (splitB (decide (x9 ≤ (IntKind.wrap .i64 ((IntKind.wrap .i64 (x1 + (IntKind.wrap .i64 ((IntKind.wrap .i64 (Int.tdiv x6 (4 : Int))) * (2 : Int))))) + (1 : Int))))) (Run Try.prog 157 #[(Value.pointer (some a7))] h fun v1_ h2_ => ∃ x3_, v1_ = (Value.int .u64 x3_) ∧ splitB (decide ((IntKind.wrap .i64 (bitsI .and .u64 x3_ (IntKind.wrap .u64 (x8 - (1 : Int))))) ≥ x6)) (f123.j1 R A0 n0 c0 x1 x6 a7 x8 x9 (IntKind.wrap .i64 ((IntKind.wrap .i64 (bitsI .and .u64 x3_ (IntKind.wrap .u64 (x8 - (1 : Int))))) - x6)) h2_) (f123.j1 R A0 n0 c0 x1 x6 a7 x8 x9 (IntKind.wrap .i64 (bitsI .and .u64 x3_ (IntKind.wrap .u64 (x8 - (1 : Int))))) h2_)) (R (Value.tuple #[]) h))
set_option maxRecDepth 100000 in
theorem f123.l0_in {R : Value → Heap → Prop} {A0 : Option Addr} {n0 : Nat} {c0 : Nat} {x1 : Int} {x6 : Int} {a7 : Addr} {x8 : Int} {x9 : Int} {h : Heap} (H : f123.l0T R A0 n0 c0 x1 x6 a7 x8 x9 h) : f123.l0 R A0 n0 c0 x1 x6 a7 x8 x9 h :=
  pt_intro mixed f123.good (Eq.mpr (show (Fwd Try.prog f123.T f123.kp Try.f123 R [false, false, true, true, true, false, true, true] (mkFr [(0, (Value.slice A0 n0 c0)), (1, (Value.int .i64 x1)), (6, (Value.int .i64 x6)), (7, (Value.pointer (some a7))), (8, (Value.int .u64 x8)), (9, (Value.int .i64 x9))]) h) = (f123.l0T R A0 n0 c0 x1 x6 a7 x8 x9 h) by kernel_rfl) H)
set_option maxRecDepth 100000 in
def f123.j1T (R : Value → Heap → Prop) (A0 : Option Addr) (n0 : Nat) (c0 : Nat) (x1 : Int) (x6 : Int) (a7 : Addr) (x8 : Int) (x9 : Int) (x10 : Int) (h : Heap) : Prop :=
  ptrOk A0 fun a1_ => 0 ≤ (IntKind.wrap .i64 (x1 + x10)) ∧ (IntKind.wrap .i64 (x1 + x10)) < ((n0 : Nat) : Int) ∧ (ptrOk A0 fun a2_ => 0 ≤ x9 ∧ x9 < ((n0 : Nat) : Int) ∧ (∃ v3_, ldv false 1 h (Addr.add a1_ (Int.toNat (IntKind.wrap .i64 (x1 + x10)) * 1)) = some v3_ ∧ ∃ x4_, v3_ = (Value.int .i64 x4_) ∧ ∃ v5_, ldv false 1 h (Addr.add a2_ (Int.toNat x9 * 1)) = some v5_ ∧ ∃ x6_, v5_ = (Value.int .i64 x6_) ∧ ptrOk A0 fun a7_ => 0 ≤ x9 ∧ x9 < ((n0 : Nat) : Int) ∧ (∃ h8_, st1 h (Addr.add a7_ (Int.toNat x9 * 1)) (Value.int .i64 x4_) = some h8_ ∧ ptrOk A0 fun a9_ => 0 ≤ (IntKind.wrap .i64 (x1 + x10)) ∧ (IntKind.wrap .i64 (x1 + x10)) < ((n0 : Nat) : Int) ∧ (∃ h10_, st1 h8_ (Addr.add a9_ (Int.toNat (IntKind.wrap .i64 (x1 + x10)) * 1)) (Value.int .i64 x6_) = some h10_ ∧ f123.j0 R A0 n0 c0 x1 x6 a7 x8 x9 h10_))))
set_option maxRecDepth 100000 in
theorem f123.j1_in {R : Value → Heap → Prop} {A0 : Option Addr} {n0 : Nat} {c0 : Nat} {x1 : Int} {x6 : Int} {a7 : Addr} {x8 : Int} {x9 : Int} {x10 : Int} {h : Heap} (H : f123.j1T R A0 n0 c0 x1 x6 a7 x8 x9 x10 h) : f123.j1 R A0 n0 c0 x1 x6 a7 x8 x9 x10 h :=
  pt_intro mixed f123.good (Eq.mpr (show (Fwd Try.prog f123.T f123.kp Try.f123 R [true, true, false, false, true, false, false, true, true, true, false, true, true] (mkFr [(0, (Value.slice A0 n0 c0)), (1, (Value.int .i64 x1)), (6, (Value.int .i64 x6)), (7, (Value.pointer (some a7))), (8, (Value.int .u64 x8)), (9, (Value.int .i64 x9)), (10, (Value.int .i64 x10))]) h) = (f123.j1T R A0 n0 c0 x1 x6 a7 x8 x9 x10 h) by kernel_rfl) H)
set_option maxRecDepth 100000 in
def f123.j0T (R : Value → Heap → Prop) (A0 : Option Addr) (n0 : Nat) (c0 : Nat) (x1 : Int) (x6 : Int) (a7 : Addr) (x8 : Int) (x9 : Int) (h : Heap) : Prop :=
  f123.l0 R A0 n0 c0 x1 x6 a7 x8 (IntKind.wrap .i64 (x9 + (1 : Int))) h
set_option maxRecDepth 100000 in
theorem f123.j0_in {R : Value → Heap → Prop} {A0 : Option Addr} {n0 : Nat} {c0 : Nat} {x1 : Int} {x6 : Int} {a7 : Addr} {x8 : Int} {x9 : Int} {h : Heap} (H : f123.j0T R A0 n0 c0 x1 x6 a7 x8 x9 h) : f123.j0 R A0 n0 c0 x1 x6 a7 x8 x9 h :=
  pt_intro mixed f123.good (Eq.mpr (show (Fwd Try.prog f123.T f123.kp Try.f123 R [true, true, false, false, true, true, true, false, true, true] (mkFr [(0, (Value.slice A0 n0 c0)), (1, (Value.int .i64 x1)), (6, (Value.int .i64 x6)), (7, (Value.pointer (some a7))), (8, (Value.int .u64 x8)), (9, (Value.int .i64 x9))]) h) = (f123.j0T R A0 n0 c0 x1 x6 a7 x8 x9 h) by kernel_rfl) H)
set_option maxRecDepth 100000 in
def f123.runT (R : Value → Heap → Prop) (A0 : Option Addr) (n0 : Nat) (c0 : Nat) (x1 : Int) (x2 : Int) (h : Heap) : Prop :=
  splitB (decide ((IntKind.wrap .i64 (x2 - x1)) ≥ (8 : Int))) (newH h (Obj.cells #[(Value.int .u64 (0 : Int))] 223) fun h1_ => ∃ h2_, st1 h1_ (⟨Array.size h, 0, none⟩) (Value.int .u64 (IntKind.wrap .u64 (IntKind.wrap .i64 (x2 - x1)))) = some h2_ ∧ Run Try.prog 156 #[(Value.int .i64 (IntKind.wrap .i64 (x2 - x1)))] h2_ fun v3_ h4_ => ∃ x5_, v3_ = (Value.int .u64 x5_) ∧ (4 : Int) ≠ 0 ∧ (f123.l0 R A0 n0 c0 x1 (IntKind.wrap .i64 (x2 - x1)) (⟨Array.size h, 0, none⟩) x5_ (IntKind.wrap .i64 ((IntKind.wrap .i64 (x1 + (IntKind.wrap .i64 ((IntKind.wrap .i64 (Int.tdiv (IntKind.wrap .i64 (x2 - x1)) (4 : Int))) * (2 : Int))))) - (1 : Int))) h4_)) (R (Value.tuple #[]) h)
set_option maxRecDepth 100000 in
theorem f123.run {R : Value → Heap → Prop} {A0 : Option Addr} {n0 : Nat} {c0 : Nat} {x1 : Int} {x2 : Int} {h : Heap} (H : f123.runT R A0 n0 c0 x1 x2 h) : Run Try.prog 123 #[(Value.slice A0 n0 c0), (Value.int .i64 x1), (Value.int .i64 x2)] h R :=
  run_of mixed Try.func123 (by kernel_rfl) (by kernel_rfl) f123.good (Eq.mpr (show (Fwd Try.prog f123.T f123.kp Try.f123 R [] (mkFr (argL [(Value.slice A0 n0 c0), (Value.int .i64 x1), (Value.int .i64 x2)] 0)) h) = (f123.runT R A0 n0 c0 x1 x2 h) by kernel_rfl) H)
def f184.T : Tab := { sh := tSh, tup := tTup, keep := [], plan := [(1, (.take 0 (.take 1 (.take 2 (.take 4 (.take 5 (.take 6 (.take 3 (.take 7 (.eff false 8 .done))))))))))] }
def f184.kp : Keep := []
theorem f184.good : goodCode Try.prog f184.T (rootOf Try.f184) = true := by kernel_rfl
set_option maxRecDepth 100000 in
def f184.runT (R : Value → Heap → Prop) (A0 : Option Addr) (n0 : Nat) (c0 : Nat) (x1 : Int) (x2 : Int) (a3 : Addr) (h : Heap) : Prop :=
  ptrOk A0 fun a1_ => 0 ≤ x2 ∧ x2 < ((n0 : Nat) : Int) ∧ (ptrOk A0 fun a2_ => 0 ≤ x1 ∧ x1 < ((n0 : Nat) : Int) ∧ (∃ v3_, ldv false 1 h (Addr.add a1_ (Int.toNat x2 * 1)) = some v3_ ∧ ∃ x4_, v3_ = (Value.int .i64 x4_) ∧ ∃ v5_, ldv false 1 h (Addr.add a2_ (Int.toNat x1 * 1)) = some v5_ ∧ ∃ x6_, v5_ = (Value.int .i64 x6_) ∧ Run Try.prog 127 #[(Value.int .i64 x4_), (Value.int .i64 x6_)] h fun v7_ h8_ => ∃ b9_, v7_ = (Value.bool b9_) ∧ splitB b9_ (∃ v10_, ldv false 1 h8_ a3 = some v10_ ∧ ∃ x11_, v10_ = (Value.int .i64 x11_) ∧ ∃ h12_, st1 h8_ a3 (Value.int .i64 (IntKind.wrap .i64 (x11_ + (1 : Int)))) = some h12_ ∧ R (Value.tuple #[(Value.int .i64 x2), (Value.int .i64 x1)]) h12_) (R (Value.tuple #[(Value.int .i64 x1), (Value.int .i64 x2)]) h8_)))
set_option maxRecDepth 100000 in
theorem f184.run {R : Value → Heap → Prop} {A0 : Option Addr} {n0 : Nat} {c0 : Nat} {x1 : Int} {x2 : Int} {a3 : Addr} {h : Heap} (H : f184.runT R A0 n0 c0 x1 x2 a3 h) : Run Try.prog 184 #[(Value.slice A0 n0 c0), (Value.int .i64 x1), (Value.int .i64 x2), (Value.pointer (some a3))] h R :=
  run_of mixed Try.func184 (by kernel_rfl) (by kernel_rfl) f184.good (Eq.mpr (show (Fwd Try.prog f184.T f184.kp Try.f184 R [] (mkFr (argL [(Value.slice A0 n0 c0), (Value.int .i64 x1), (Value.int .i64 x2), (Value.pointer (some a3))] 0)) h) = (f184.runT R A0 n0 c0 x1 x2 a3 h) by kernel_rfl) H)
def f159.T : Tab := { sh := tSh, tup := tTup, keep := [], plan := [] }
def f159.kp : Keep := []
theorem f159.good : goodCode Try.prog f159.T (rootOf Try.f159) = true := by kernel_rfl
set_option maxRecDepth 100000 in
def f159.runT (R : Value → Heap → Prop) (A0 : Option Addr) (n0 : Nat) (c0 : Nat) (x1 : Int) (x2 : Int) (x3 : Int) (a4 : Addr) (h : Heap) : Prop :=
  Run Try.prog 184 #[(Value.slice A0 n0 c0), (Value.int .i64 x1), (Value.int .i64 x2), (Value.pointer (some a4))] h fun v1_ h2_ => ∃ x3_, ∃ x4_, v1_ = (Value.tuple #[(Value.int .i64 x3_), (Value.int .i64 x4_)]) ∧ Run Try.prog 184 #[(Value.slice A0 n0 c0), (Value.int .i64 x4_), (Value.int .i64 x3), (Value.pointer (some a4))] h2_ fun v5_ h6_ => ∃ x7_, ∃ x8_, v5_ = (Value.tuple #[(Value.int .i64 x7_), (Value.int .i64 x8_)]) ∧ Run Try.prog 184 #[(Value.slice A0 n0 c0), (Value.int .i64 x3_), (Value.int .i64 x7_), (Value.pointer (some a4))] h6_ fun v9_ h10_ => ∃ x11_, ∃ x12_, v9_ = (Value.tuple #[(Value.int .i64 x11_), (Value.int .i64 x12_)]) ∧ R (Value.int .i64 x12_) h10_
set_option maxRecDepth 100000 in
theorem f159.run {R : Value → Heap → Prop} {A0 : Option Addr} {n0 : Nat} {c0 : Nat} {x1 : Int} {x2 : Int} {x3 : Int} {a4 : Addr} {h : Heap} (H : f159.runT R A0 n0 c0 x1 x2 x3 a4 h) : Run Try.prog 159 #[(Value.slice A0 n0 c0), (Value.int .i64 x1), (Value.int .i64 x2), (Value.int .i64 x3), (Value.pointer (some a4))] h R :=
  run_of mixed Try.func159 (by kernel_rfl) (by kernel_rfl) f159.good (Eq.mpr (show (Fwd Try.prog f159.T f159.kp Try.f159 R [] (mkFr (argL [(Value.slice A0 n0 c0), (Value.int .i64 x1), (Value.int .i64 x2), (Value.int .i64 x3), (Value.pointer (some a4))] 0)) h) = (f159.runT R A0 n0 c0 x1 x2 x3 a4 h) by kernel_rfl) H)
def f158.T : Tab := { sh := tSh, tup := tTup, keep := [], plan := [] }
def f158.kp : Keep := []
theorem f158.good : goodCode Try.prog f158.T (rootOf Try.f158) = true := by kernel_rfl
set_option maxRecDepth 100000 in
def f158.runT (R : Value → Heap → Prop) (A0 : Option Addr) (n0 : Nat) (c0 : Nat) (x1 : Int) (a2 : Addr) (h : Heap) : Prop :=
  Run Try.prog 159 #[(Value.slice A0 n0 c0), (Value.int .i64 (IntKind.wrap .i64 (x1 - (1 : Int)))), (Value.int .i64 x1), (Value.int .i64 (IntKind.wrap .i64 (x1 + (1 : Int)))), (Value.pointer (some a2))] h fun v1_ h2_ => ∃ x3_, v1_ = (Value.int .i64 x3_) ∧ R (Value.int .i64 x3_) h2_
set_option maxRecDepth 100000 in
theorem f158.run {R : Value → Heap → Prop} {A0 : Option Addr} {n0 : Nat} {c0 : Nat} {x1 : Int} {a2 : Addr} {h : Heap} (H : f158.runT R A0 n0 c0 x1 a2 h) : Run Try.prog 158 #[(Value.slice A0 n0 c0), (Value.int .i64 x1), (Value.pointer (some a2))] h R :=
  run_of mixed Try.func158 (by kernel_rfl) (by kernel_rfl) f158.good (Eq.mpr (show (Fwd Try.prog f158.T f158.kp Try.f158 R [] (mkFr (argL [(Value.slice A0 n0 c0), (Value.int .i64 x1), (Value.pointer (some a2))] 0)) h) = (f158.runT R A0 n0 c0 x1 a2 h) by kernel_rfl) H)
def f124.T : Tab := { sh := tSh, tup := tTup, keep := [], plan := [] }
def f124.kp : Keep := [([true, false, true, false, true, true, true, true, true, true], [0, 9, 10, 11, 12]), ([true, true, true, true, true, true, true], [9, 11])]
theorem f124.good : goodCode Try.prog f124.T (rootOf Try.f124) = true := by kernel_rfl
def f124.j1 (R : Value → Heap → Prop) (A0 : Option Addr) (n0 : Nat) (c0 : Nat) (a9 : Addr) (x10 : Int) (x11 : Int) (x12 : Int) (h : Heap) : Prop := Pt Try.prog Try.f124 R [true, false, true, false, true, true, true, true, true, true] (mkFr [(0, (Value.slice A0 n0 c0)), (9, (Value.pointer (some a9))), (10, (Value.int .i64 x10)), (11, (Value.int .i64 x11)), (12, (Value.int .i64 x12))]) h
def f124.j0 (R : Value → Heap → Prop) (a9 : Addr) (x11 : Int) (h : Heap) : Prop := Pt Try.prog Try.f124 R [true, true, true, true, true, true, true] (mkFr [(9, (Value.pointer (some a9))), (11, (Value.int .i64 x11))]) h
set_option maxRecDepth 100000 in
def f124.j1T (R : Value → Heap → Prop) (A0 : Option Addr) (n0 : Nat) (c0 : Nat) (a9 : Addr) (x10 : Int) (x11 : Int) (x12 : Int) (h : Heap) : Prop :=
  Run Try.prog 159 #[(Value.slice A0 n0 c0), (Value.int .i64 x10), (Value.int .i64 x11), (Value.int .i64 x12), (Value.pointer (some a9))] h fun v1_ h2_ => ∃ x3_, v1_ = (Value.int .i64 x3_) ∧ f124.j0 R a9 x3_ h2_
set_option maxRecDepth 100000 in
theorem f124.j1_in {R : Value → Heap → Prop} {A0 : Option Addr} {n0 : Nat} {c0 : Nat} {a9 : Addr} {x10 : Int} {x11 : Int} {x12 : Int} {h : Heap} (H : f124.j1T R A0 n0 c0 a9 x10 x11 x12 h) : f124.j1 R A0 n0 c0 a9 x10 x11 x12 h :=
  pt_intro mixed f124.good (Eq.mpr (show (Fwd Try.prog f124.T f124.kp Try.f124 R [true, false, true, false, true, true, true, true, true, true] (mkFr [(0, (Value.slice A0 n0 c0)), (9, (Value.pointer (some a9))), (10, (Value.int .i64 x10)), (11, (Value.int .i64 x11)), (12, (Value.int .i64 x12))]) h) = (f124.j1T R A0 n0 c0 a9 x10 x11 x12 h) by kernel_rfl) H)
set_option maxRecDepth 100000 in
def f124.j0T (R : Value → Heap → Prop) (a9 : Addr) (x11 : Int) (h : Heap) : Prop :=
  ∃ v1_, ldv false 1 h a9 = some v1_ ∧ ∃ x2_, v1_ = (Value.int .i64 x2_) ∧ splitB (x2_ == (0 : Int)) (R (Value.tuple #[(Value.int .i64 x11), (Value.int .i64 (1 : Int))]) h) (splitB (x2_ == (12 : Int)) (R (Value.tuple #[(Value.int .i64 x11), (Value.int .i64 (2 : Int))]) h) (R (Value.tuple #[(Value.int .i64 x11), (Value.int .i64 (0 : Int))]) h))
set_option maxRecDepth 100000 in
theorem f124.j0_in {R : Value → Heap → Prop} {a9 : Addr} {x11 : Int} {h : Heap} (H : f124.j0T R a9 x11 h) : f124.j0 R a9 x11 h :=
  pt_intro mixed f124.good (Eq.mpr (show (Fwd Try.prog f124.T f124.kp Try.f124 R [true, true, true, true, true, true, true] (mkFr [(9, (Value.pointer (some a9))), (11, (Value.int .i64 x11))]) h) = (f124.j0T R a9 x11 h) by kernel_rfl) H)
set_option maxRecDepth 100000 in
def f124.runT (R : Value → Heap → Prop) (A0 : Option Addr) (n0 : Nat) (c0 : Nat) (x1 : Int) (x2 : Int) (h : Heap) : Prop :=
  newH h (Obj.cells #[(Value.int .i64 (0 : Int))] 3) fun h1_ => (4 : Int) ≠ 0 ∧ ((4 : Int) ≠ 0 ∧ ((4 : Int) ≠ 0 ∧ (splitB (decide ((IntKind.wrap .i64 (x2 - x1)) ≥ (8 : Int))) (splitB (decide ((IntKind.wrap .i64 (x2 - x1)) ≥ (50 : Int))) (Run Try.prog 158 #[(Value.slice A0 n0 c0), (Value.int .i64 (IntKind.wrap .i64 (x1 + (IntKind.wrap .i64 ((IntKind.wrap .i64 (Int.tdiv (IntKind.wrap .i64 (x2 - x1)) (4 : Int))) * (1 : Int)))))), (Value.pointer (some ⟨Array.size h, 0, none⟩))] h1_ fun v2_ h3_ => ∃ x4_, v2_ = (Value.int .i64 x4_) ∧ Run Try.prog 158 #[(Value.slice A0 n0 c0), (Value.int .i64 (IntKind.wrap .i64 (x1 + (IntKind.wrap .i64 ((IntKind.wrap .i64 (Int.tdiv (IntKind.wrap .i64 (x2 - x1)) (4 : Int))) * (2 : Int)))))), (Value.pointer (some ⟨Array.size h, 0, none⟩))] h3_ fun v5_ h6_ => ∃ x7_, v5_ = (Value.int .i64 x7_) ∧ Run Try.prog 158 #[(Value.slice A0 n0 c0), (Value.int .i64 (IntKind.wrap .i64 (x1 + (IntKind.wrap .i64 ((IntKind.wrap .i64 (Int.tdiv (IntKind.wrap .i64 (x2 - x1)) (4 : Int))) * (3 : Int)))))), (Value.pointer (some ⟨Array.size h, 0, none⟩))] h6_ fun v8_ h9_ => ∃ x10_, v8_ = (Value.int .i64 x10_) ∧ f124.j1 R A0 n0 c0 (⟨Array.size h, 0, none⟩) x4_ x7_ x10_ h9_) (f124.j1 R A0 n0 c0 (⟨Array.size h, 0, none⟩) (IntKind.wrap .i64 (x1 + (IntKind.wrap .i64 ((IntKind.wrap .i64 (Int.tdiv (IntKind.wrap .i64 (x2 - x1)) (4 : Int))) * (1 : Int))))) (IntKind.wrap .i64 (x1 + (IntKind.wrap .i64 ((IntKind.wrap .i64 (Int.tdiv (IntKind.wrap .i64 (x2 - x1)) (4 : Int))) * (2 : Int))))) (IntKind.wrap .i64 (x1 + (IntKind.wrap .i64 ((IntKind.wrap .i64 (Int.tdiv (IntKind.wrap .i64 (x2 - x1)) (4 : Int))) * (3 : Int))))) h1_)) (f124.j0 R (⟨Array.size h, 0, none⟩) (IntKind.wrap .i64 (x1 + (IntKind.wrap .i64 ((IntKind.wrap .i64 (Int.tdiv (IntKind.wrap .i64 (x2 - x1)) (4 : Int))) * (2 : Int))))) h1_))))
set_option maxRecDepth 100000 in
theorem f124.run {R : Value → Heap → Prop} {A0 : Option Addr} {n0 : Nat} {c0 : Nat} {x1 : Int} {x2 : Int} {h : Heap} (H : f124.runT R A0 n0 c0 x1 x2 h) : Run Try.prog 124 #[(Value.slice A0 n0 c0), (Value.int .i64 x1), (Value.int .i64 x2)] h R :=
  run_of mixed Try.func124 (by kernel_rfl) (by kernel_rfl) f124.good (Eq.mpr (show (Fwd Try.prog f124.T f124.kp Try.f124 R [] (mkFr (argL [(Value.slice A0 n0 c0), (Value.int .i64 x1), (Value.int .i64 x2)] 0)) h) = (f124.runT R A0 n0 c0 x1 x2 h) by kernel_rfl) H)
def f125.T : Tab := { sh := tSh, tup := tTup, keep := [], plan := [(3, (.take 0 (.take 1 (.take 2 (.take 3 (.take 4 (.take 5 (.take 6 (.take 8 (.take 9 (.take 10 (.take 7 (.take 11 (.take 12 (.eff false 13 (.take 14 (.eff false 15 .done)))))))))))))))))] }
def f125.kp : Keep := [([false, false, true, true], [0, 6, 7])]
theorem f125.good : goodCode Try.prog f125.T (rootOf Try.f125) = true := by kernel_rfl
def f125.l0 (R : Value → Heap → Prop) (A0 : Option Addr) (n0 : Nat) (c0 : Nat) (x6 : Int) (x7 : Int) (h : Heap) : Prop := Pt Try.prog Try.f125 R [false, false, true, true] (mkFr [(0, (Value.slice A0 n0 c0)), (6, (Value.int .i64 x6)), (7, (Value.int .i64 x7))]) h
set_option maxRecDepth 100000 in
def f125.l0T (R : Value → Heap → Prop) (A0 : Option Addr) (n0 : Nat) (c0 : Nat) (x6 : Int) (x7 : Int) (h : Heap) : Prop :=
  splitB (decide (x6 < x7)) (ptrOk A0 fun a1_ => 0 ≤ x7 ∧ x7 < ((n0 : Nat) : Int) ∧ (ptrOk A0 fun a2_ => 0 ≤ x6 ∧ x6 < ((n0 : Nat) : Int) ∧ (∃ v3_, ldv false 1 h (Addr.add a1_ (Int.toNat x7 * 1)) = some v3_ ∧ ∃ x4_, v3_ = (Value.int .i64 x4_) ∧ ∃ v5_, ldv false 1 h (Addr.add a2_ (Int.toNat x6 * 1)) = some v5_ ∧ ∃ x6_, v5_ = (Value.int .i64 x6_) ∧ ptrOk A0 fun a7_ => 0 ≤ x6 ∧ x6 < ((n0 : Nat) : Int) ∧ (∃ h8_, st1 h (Addr.add a7_ (Int.toNat x6 * 1)) (Value.int .i64 x4_) = some h8_ ∧ ptrOk A0 fun a9_ => 0 ≤ x7 ∧ x7 < ((n0 : Nat) : Int) ∧ (∃ h10_, st1 h8_ (Addr.add a9_ (Int.toNat x7 * 1)) (Value.int .i64 x6_) = some h10_ ∧ f125.l0 R A0 n0 c0 (IntKind.wrap .i64 (x6 + (1 : Int))) (IntKind.wrap .i64 (x7 - (1 : Int))) h10_))))) (R (Value.tuple #[]) h)
set_option maxRecDepth 100000 in
theorem f125.l0_in {R : Value → Heap → Prop} {A0 : Option Addr} {n0 : Nat} {c0 : Nat} {x6 : Int} {x7 : Int} {h : Heap} (H : f125.l0T R A0 n0 c0 x6 x7 h) : f125.l0 R A0 n0 c0 x6 x7 h :=
  pt_intro mixed f125.good (Eq.mpr (show (Fwd Try.prog f125.T f125.kp Try.f125 R [false, false, true, true] (mkFr [(0, (Value.slice A0 n0 c0)), (6, (Value.int .i64 x6)), (7, (Value.int .i64 x7))]) h) = (f125.l0T R A0 n0 c0 x6 x7 h) by kernel_rfl) H)
set_option maxRecDepth 100000 in
def f125.runT (R : Value → Heap → Prop) (A0 : Option Addr) (n0 : Nat) (c0 : Nat) (x1 : Int) (x2 : Int) (h : Heap) : Prop :=
  f125.l0 R A0 n0 c0 x1 (IntKind.wrap .i64 (x2 - (1 : Int))) h
set_option maxRecDepth 100000 in
theorem f125.run {R : Value → Heap → Prop} {A0 : Option Addr} {n0 : Nat} {c0 : Nat} {x1 : Int} {x2 : Int} {h : Heap} (H : f125.runT R A0 n0 c0 x1 x2 h) : Run Try.prog 125 #[(Value.slice A0 n0 c0), (Value.int .i64 x1), (Value.int .i64 x2)] h R :=
  run_of mixed Try.func125 (by kernel_rfl) (by kernel_rfl) f125.good (Eq.mpr (show (Fwd Try.prog f125.T f125.kp Try.f125 R [] (mkFr (argL [(Value.slice A0 n0 c0), (Value.int .i64 x1), (Value.int .i64 x2)] 0)) h) = (f125.runT R A0 n0 c0 x1 x2 h) by kernel_rfl) H)
def f126.T : Tab := { sh := tSh, tup := tTup, keep := [], plan := [(5, (.take 0 (.take 1 (.take 2 (.take 3 (.split 3 (.take 4 (.take 5 (.take 6 (.take 8 (.take 9 (.take 10 (.take 11 (.take 7 (.take 12 (.eff false 13 (.take 14 (.take 15 .done)))))))))))))))))), (11, (.take 0 (.take 1 (.take 2 (.take 3 (.take 4 (.take 5 (.take 6 (.take 7 (.take 8 (.take 10 (.take 11 (.take 12 (.take 9 (.take 13 (.take 14 (.eff false 15 (.take 16 (.eff false 17 .done))))))))))))))))))), (16, (.take 0 (.take 1 (.take 2 (.take 4 (.take 5 (.take 6 (.take 7 (.take 3 (.take 8 (.eff false 9 (.take 10 .done)))))))))))), (17, (.take 0 (.take 1 (.take 2 (.take 3 (.take 4 (.take 5 (.take 6 (.take 7 (.take 8 (.take 10 (.take 11 (.take 12 (.take 9 (.take 13 (.take 14 (.eff false 15 (.take 16 (.eff false 17 .done))))))))))))))))))), (22, (.take 0 (.take 1 (.take 2 (.take 4 (.take 5 (.take 6 (.take 7 (.take 3 (.take 8 (.eff false 9 (.take 10 .done)))))))))))), (23, (.take 0 (.take 1 (.take 2 (.take 3 (.take 4 (.take 5 (.take 6 (.take 7 (.take 8 (.take 10 (.take 11 (.take 12 (.take 9 (.take 13 (.take 14 (.eff false 15 (.take 16 (.eff false 17 .done)))))))))))))))))))] }
def f126.kp : Keep := [([false, false, true, false, true, true], [0, 1, 2, 7, 8]), ([false, false, false, false, false, true, false, false, true, false, true, true], [0, 1, 2, 7, 8]), ([true, false, false, false, false, false, true, false, false, true, false, true, true], [0, 1, 2, 7, 8]), ([true, false, false, true, false, false, true, false, true, true], [0, 1, 2, 7, 8]), ([false, false, true, false, true, false, true, true, true, true, false, false, true, false, false, true, false, true, true], [0, 1, 2, 7, 8, 9]), ([true, true, true, true, true, false, false, true, false, false, true, false, true, true], [0, 1, 2, 7, 8]), ([false, false, true, false, true, true, true, true, true, true, false, false, true, false, false, true, false, true, true], [0, 1, 2, 7, 8, 10]), ([true, true, false, false, true, false, true, true], [0, 1, 2, 7, 8])]
theorem f126.good : goodCode Try.prog f126.T (rootOf Try.f126) = true := by kernel_rfl
def f126.l0 (R : Value → Heap → Prop) (A0 : Option Addr) (n0 : Nat) (c0 : Nat) (x1 : Int) (x2 : Int) (x7 : Int) (x8 : Int) (h : Heap) : Prop := Pt Try.prog Try.f126 R [false, false, true, false, true, true] (mkFr [(0, (Value.slice A0 n0 c0)), (1, (Value.int .i64 x1)), (2, (Value.int .i64 x2)), (7, (Value.int .i64 x7)), (8, (Value.int .i64 x8))]) h
def f126.l1 (R : Value → Heap → Prop) (A0 : Option Addr) (n0 : Nat) (c0 : Nat) (x1 : Int) (x2 : Int) (x7 : Int) (x8 : Int) (h : Heap) : Prop := Pt Try.prog Try.f126 R [false, false, false, false, false, true, false, false, true, false, true, true] (mkFr [(0, (Value.slice A0 n0 c0)), (1, (Value.int .i64 x1)), (2, (Value.int .i64 x2)), (7, (Value.int .i64 x7)), (8, (Value.int .i64 x8))]) h
def f126.j2 (R : Value → Heap → Prop) (A0 : Option Addr) (n0 : Nat) (c0 : Nat) (x1 : Int) (x2 : Int) (x7 : Int) (x8 : Int) (h : Heap) : Prop := Pt Try.prog Try.f126 R [true, false, false, false, false, false, true, false, false, true, false, true, true] (mkFr [(0, (Value.slice A0 n0 c0)), (1, (Value.int .i64 x1)), (2, (Value.int .i64 x2)), (7, (Value.int .i64 x7)), (8, (Value.int .i64 x8))]) h
def f126.j1 (R : Value → Heap → Prop) (A0 : Option Addr) (n0 : Nat) (c0 : Nat) (x1 : Int) (x2 : Int) (x7 : Int) (x8 : Int) (h : Heap) : Prop := Pt Try.prog Try.f126 R [true, false, false, true, false, false, true, false, true, true] (mkFr [(0, (Value.slice A0 n0 c0)), (1, (Value.int .i64 x1)), (2, (Value.int .i64 x2)), (7, (Value.int .i64 x7)), (8, (Value.int .i64 x8))]) h
def f126.l2 (R : Value → Heap → Prop) (A0 : Option Addr) (n0 : Nat) (c0 : Nat) (x1 : Int) (x2 : Int) (x7 : Int) (x8 : Int) (x9 : Int) (h : Heap) : Prop := Pt Try.prog Try.f126 R [false, false, true, false, true, false, true, true, true, true, false, false, true, false, false, true, false, true, true] (mkFr [(0, (Value.slice A0 n0 c0)), (1, (Value.int .i64 x1)), (2, (Value.int .i64 x2)), (7, (Value.int .i64 x7)), (8, (Value.int .i64 x8)), (9, (Value.int .i64 x9))]) h
def f126.j3 (R : Value → Heap → Prop) (A0 : Option Addr) (n0 : Nat) (c0 : Nat) (x1 : Int) (x2 : Int) (x7 : Int) (x8 : Int) (h : Heap) : Prop := Pt Try.prog Try.f126 R [true, true, true, true, true, false, false, true, false, false, true, false, true, true] (mkFr [(0, (Value.slice A0 n0 c0)), (1, (Value.int .i64 x1)), (2, (Value.int .i64 x2)), (7, (Value.int .i64 x7)), (8, (Value.int .i64 x8))]) h
def f126.l3 (R : Value → Heap → Prop) (A0 : Option Addr) (n0 : Nat) (c0 : Nat) (x1 : Int) (x2 : Int) (x7 : Int) (x8 : Int) (x10 : Int) (h : Heap) : Prop := Pt Try.prog Try.f126 R [false, false, true, false, true, true, true, true, true, true, false, false, true, false, false, true, false, true, true] (mkFr [(0, (Value.slice A0 n0 c0)), (1, (Value.int .i64 x1)), (2, (Value.int .i64 x2)), (7, (Value.int .i64 x7)), (8, (Value.int .i64 x8)), (10, (Value.int .i64 x10))]) h
def f126.j0 (R : Value → Heap → Prop) (A0 : Option Addr) (n0 : Nat) (c0 : Nat) (x1 : Int) (x2 : Int) (x7 : Int) (x8 : Int) (h : Heap) : Prop := Pt Try.prog Try.f126 R [true, true, false, false, true, false, true, true] (mkFr [(0, (Value.slice A0 n0 c0)), (1, (Value.int .i64 x1)), (2, (Value.int .i64 x2)), (7, (Value.int .i64 x7)), (8, (Value.int .i64 x8))]) h
set_option maxRecDepth 100000 in
def f126.l0T (R : Value → Heap → Prop) (A0 : Option Addr) (n0 : Nat) (c0 : Nat) (x1 : Int) (x2 : Int) (x7 : Int) (x8 : Int) (h : Heap) : Prop :=
  splitB (decide (x8 < (5 : Int))) (f126.l1 R A0 n0 c0 x1 x2 x7 x8 h) (R (Value.bool false) h)
set_option maxRecDepth 100000 in
theorem f126.l0_in {R : Value → Heap → Prop} {A0 : Option Addr} {n0 : Nat} {c0 : Nat} {x1 : Int} {x2 : Int} {x7 : Int} {x8 : Int} {h : Heap} (H : f126.l0T R A0 n0 c0 x1 x2 x7 x8 h) : f126.l0 R A0 n0 c0 x1 x2 x7 x8 h :=
  pt_intro mixed f126.good (Eq.mpr (show (Fwd Try.prog f126.T f126.kp Try.f126 R [false, false, true, false, true, true] (mkFr [(0, (Value.slice A0 n0 c0)), (1, (Value.int .i64 x1)), (2, (Value.int .i64 x2)), (7, (Value.int .i64 x7)), (8, (Value.int .i64 x8))]) h) = (f126.l0T R A0 n0 c0 x1 x2 x7 x8 h) by kernel_rfl) H)
set_option maxRecDepth 100000 in
def f126.l1T (R : Value → Heap → Prop) (A0 : Option Addr) (n0 : Nat) (c0 : Nat) (x1 : Int) (x2 : Int) (x7 : Int) (x8 : Int) (h : Heap) : Prop :=
  splitB (decide (x7 < x2)) (ptrOk A0 fun a1_ => 0 ≤ x7 ∧ x7 < ((n0 : Nat) : Int) ∧ (ptrOk A0 fun a2_ => 0 ≤ (IntKind.wrap .i64 (x7 - (1 : Int))) ∧ (IntKind.wrap .i64 (x7 - (1 : Int))) < ((n0 : Nat) : Int) ∧ (∃ v3_, ldv false 1 h (Addr.add a1_ (Int.toNat x7 * 1)) = some v3_ ∧ ∃ x4_, v3_ = (Value.int .i64 x4_) ∧ ∃ v5_, ldv false 1 h (Addr.add a2_ (Int.toNat (IntKind.wrap .i64 (x7 - (1 : Int))) * 1)) = some v5_ ∧ ∃ x6_, v5_ = (Value.int .i64 x6_) ∧ Run Try.prog 127 #[(Value.int .i64 x4_), (Value.int .i64 x6_)] h fun v7_ h8_ => ∃ b9_, v7_ = (Value.bool b9_) ∧ splitB (!b9_) (f126.j2 R A0 n0 c0 x1 x2 x7 x8 h8_) (f126.j1 R A0 n0 c0 x1 x2 x7 x8 h8_)))) (f126.j1 R A0 n0 c0 x1 x2 x7 x8 h)
set_option maxRecDepth 100000 in
theorem f126.l1_in {R : Value → Heap → Prop} {A0 : Option Addr} {n0 : Nat} {c0 : Nat} {x1 : Int} {x2 : Int} {x7 : Int} {x8 : Int} {h : Heap} (H : f126.l1T R A0 n0 c0 x1 x2 x7 x8 h) : f126.l1 R A0 n0 c0 x1 x2 x7 x8 h :=
  pt_intro mixed f126.good (Eq.mpr (show (Fwd Try.prog f126.T f126.kp Try.f126 R [false, false, false, false, false, true, false, false, true, false, true, true] (mkFr [(0, (Value.slice A0 n0 c0)), (1, (Value.int .i64 x1)), (2, (Value.int .i64 x2)), (7, (Value.int .i64 x7)), (8, (Value.int .i64 x8))]) h) = (f126.l1T R A0 n0 c0 x1 x2 x7 x8 h) by kernel_rfl) H)
set_option maxRecDepth 100000 in
def f126.j2T (R : Value → Heap → Prop) (A0 : Option Addr) (n0 : Nat) (c0 : Nat) (x1 : Int) (x2 : Int) (x7 : Int) (x8 : Int) (h : Heap) : Prop :=
  f126.l1 R A0 n0 c0 x1 x2 (IntKind.wrap .i64 (x7 + (1 : Int))) x8 h
set_option maxRecDepth 100000 in
theorem f126.j2_in {R : Value → Heap → Prop} {A0 : Option Addr} {n0 : Nat} {c0 : Nat} {x1 : Int} {x2 : Int} {x7 : Int} {x8 : Int} {h : Heap} (H : f126.j2T R A0 n0 c0 x1 x2 x7 x8 h) : f126.j2 R A0 n0 c0 x1 x2 x7 x8 h :=
  pt_intro mixed f126.good (Eq.mpr (show (Fwd Try.prog f126.T f126.kp Try.f126 R [true, false, false, false, false, false, true, false, false, true, false, true, true] (mkFr [(0, (Value.slice A0 n0 c0)), (1, (Value.int .i64 x1)), (2, (Value.int .i64 x2)), (7, (Value.int .i64 x7)), (8, (Value.int .i64 x8))]) h) = (f126.j2T R A0 n0 c0 x1 x2 x7 x8 h) by kernel_rfl) H)
set_option maxRecDepth 100000 in
def f126.j1T (R : Value → Heap → Prop) (A0 : Option Addr) (n0 : Nat) (c0 : Nat) (x1 : Int) (x2 : Int) (x7 : Int) (x8 : Int) (h : Heap) : Prop :=
  splitB (x7 == x2) (R (Value.bool true) h) (splitB (decide ((IntKind.wrap .i64 (x2 - x1)) < (50 : Int))) (R (Value.bool false) h) (ptrOk A0 fun a1_ => 0 ≤ (IntKind.wrap .i64 (x7 - (1 : Int))) ∧ (IntKind.wrap .i64 (x7 - (1 : Int))) < ((n0 : Nat) : Int) ∧ (ptrOk A0 fun a2_ => 0 ≤ x7 ∧ x7 < ((n0 : Nat) : Int) ∧ (∃ v3_, ldv false 1 h (Addr.add a1_ (Int.toNat (IntKind.wrap .i64 (x7 - (1 : Int))) * 1)) = some v3_ ∧ ∃ x4_, v3_ = (Value.int .i64 x4_) ∧ ∃ v5_, ldv false 1 h (Addr.add a2_ (Int.toNat x7 * 1)) = some v5_ ∧ ∃ x6_, v5_ = (Value.int .i64 x6_) ∧ ptrOk A0 fun a7_ => 0 ≤ x7 ∧ x7 < ((n0 : Nat) : Int) ∧ (∃ h8_, st1 h (Addr.add a7_ (Int.toNat x7 * 1)) (Value.int .i64 x4_) = some h8_ ∧ ptrOk A0 fun a9_ => 0 ≤ (IntKind.wrap .i64 (x7 - (1 : Int))) ∧ (IntKind.wrap .i64 (x7 - (1 : Int))) < ((n0 : Nat) : Int) ∧ (∃ h10_, st1 h8_ (Addr.add a9_ (Int.toNat (IntKind.wrap .i64 (x7 - (1 : Int))) * 1)) (Value.int .i64 x6_) = some h10_ ∧ splitB (decide ((IntKind.wrap .i64 (x7 - x1)) ≥ (2 : Int))) (f126.l2 R A0 n0 c0 x1 x2 x7 x8 (IntKind.wrap .i64 (x7 - (1 : Int))) h10_) (f126.j3 R A0 n0 c0 x1 x2 x7 x8 h10_)))))))
set_option maxRecDepth 100000 in
theorem f126.j1_in {R : Value → Heap → Prop} {A0 : Option Addr} {n0 : Nat} {c0 : Nat} {x1 : Int} {x2 : Int} {x7 : Int} {x8 : Int} {h : Heap} (H : f126.j1T R A0 n0 c0 x1 x2 x7 x8 h) : f126.j1 R A0 n0 c0 x1 x2 x7 x8 h :=
  pt_intro mixed f126.good (Eq.mpr (show (Fwd Try.prog f126.T f126.kp Try.f126 R [true, false, false, true, false, false, true, false, true, true] (mkFr [(0, (Value.slice A0 n0 c0)), (1, (Value.int .i64 x1)), (2, (Value.int .i64 x2)), (7, (Value.int .i64 x7)), (8, (Value.int .i64 x8))]) h) = (f126.j1T R A0 n0 c0 x1 x2 x7 x8 h) by kernel_rfl) H)
set_option maxRecDepth 100000 in
def f126.l2T (R : Value → Heap → Prop) (A0 : Option Addr) (n0 : Nat) (c0 : Nat) (x1 : Int) (x2 : Int) (x7 : Int) (x8 : Int) (x9 : Int) (h : Heap) : Prop :=
  splitB (decide (x9 ≥ (1 : Int))) (ptrOk A0 fun a1_ => 0 ≤ x9 ∧ x9 < ((n0 : Nat) : Int) ∧ (ptrOk A0 fun a2_ => 0 ≤ (IntKind.wrap .i64 (x9 - (1 : Int))) ∧ (IntKind.wrap .i64 (x9 - (1 : Int))) < ((n0 : Nat) : Int) ∧ (∃ v3_, ldv false 1 h (Addr.add a1_ (Int.toNat x9 * 1)) = some v3_ ∧ ∃ x4_, v3_ = (Value.int .i64 x4_) ∧ ∃ v5_, ldv false 1 h (Addr.add a2_ (Int.toNat (IntKind.wrap .i64 (x9 - (1 : Int))) * 1)) = some v5_ ∧ ∃ x6_, v5_ = (Value.int .i64 x6_) ∧ Run Try.prog 127 #[(Value.int .i64 x4_), (Value.int .i64 x6_)] h fun v7_ h8_ => ∃ b9_, v7_ = (Value.bool b9_) ∧ splitB (!b9_) (f126.j3 R A0 n0 c0 x1 x2 x7 x8 h8_) (ptrOk A0 fun a10_ => 0 ≤ (IntKind.wrap .i64 (x9 - (1 : Int))) ∧ (IntKind.wrap .i64 (x9 - (1 : Int))) < ((n0 : Nat) : Int) ∧ (ptrOk A0 fun a11_ => 0 ≤ x9 ∧ x9 < ((n0 : Nat) : Int) ∧ (∃ v12_, ldv false 1 h8_ (Addr.add a10_ (Int.toNat (IntKind.wrap .i64 (x9 - (1 : Int))) * 1)) = some v12_ ∧ ∃ x13_, v12_ = (Value.int .i64 x13_) ∧ ∃ v14_, ldv false 1 h8_ (Addr.add a11_ (Int.toNat x9 * 1)) = some v14_ ∧ ∃ x15_, v14_ = (Value.int .i64 x15_) ∧ ptrOk A0 fun a16_ => 0 ≤ x9 ∧ x9 < ((n0 : Nat) : Int) ∧ (∃ h17_, st1 h8_ (Addr.add a16_ (Int.toNat x9 * 1)) (Value.int .i64 x13_) = some h17_ ∧ ptrOk A0 fun a18_ => 0 ≤ (IntKind.wrap .i64 (x9 - (1 : Int))) ∧ (IntKind.wrap .i64 (x9 - (1 : Int))) < ((n0 : Nat) : Int) ∧ (∃ h19_, st1 h17_ (Addr.add a18_ (Int.toNat (IntKind.wrap .i64 (x9 - (1 : Int))) * 1)) (Value.int .i64 x15_) = some h19_ ∧ f126.l2 R A0 n0 c0 x1 x2 x7 x8 (IntKind.wrap .i64 (x9 - (1 : Int))) h19_)))))))) (f126.j3 R A0 n0 c0 x1 x2 x7 x8 h)
set_option maxRecDepth 100000 in
theorem f126.l2_in {R : Value → Heap → Prop} {A0 : Option Addr} {n0 : Nat} {c0 : Nat} {x1 : Int} {x2 : Int} {x7 : Int} {x8 : Int} {x9 : Int} {h : Heap} (H : f126.l2T R A0 n0 c0 x1 x2 x7 x8 x9 h) : f126.l2 R A0 n0 c0 x1 x2 x7 x8 x9 h :=
  pt_intro mixed f126.good (Eq.mpr (show (Fwd Try.prog f126.T f126.kp Try.f126 R [false, false, true, false, true, false, true, true, true, true, false, false, true, false, false, true, false, true, true] (mkFr [(0, (Value.slice A0 n0 c0)), (1, (Value.int .i64 x1)), (2, (Value.int .i64 x2)), (7, (Value.int .i64 x7)), (8, (Value.int .i64 x8)), (9, (Value.int .i64 x9))]) h) = (f126.l2T R A0 n0 c0 x1 x2 x7 x8 x9 h) by kernel_rfl) H)
set_option maxRecDepth 100000 in
def f126.j3T (R : Value → Heap → Prop) (A0 : Option Addr) (n0 : Nat) (c0 : Nat) (x1 : Int) (x2 : Int) (x7 : Int) (x8 : Int) (h : Heap) : Prop :=
  splitB (decide ((IntKind.wrap .i64 (x2 - x7)) ≥ (2 : Int))) (f126.l3 R A0 n0 c0 x1 x2 x7 x8 (IntKind.wrap .i64 (x7 + (1 : Int))) h) (f126.j0 R A0 n0 c0 x1 x2 x7 x8 h)
set_option maxRecDepth 100000 in
theorem f126.j3_in {R : Value → Heap → Prop} {A0 : Option Addr} {n0 : Nat} {c0 : Nat} {x1 : Int} {x2 : Int} {x7 : Int} {x8 : Int} {h : Heap} (H : f126.j3T R A0 n0 c0 x1 x2 x7 x8 h) : f126.j3 R A0 n0 c0 x1 x2 x7 x8 h :=
  pt_intro mixed f126.good (Eq.mpr (show (Fwd Try.prog f126.T f126.kp Try.f126 R [true, true, true, true, true, false, false, true, false, false, true, false, true, true] (mkFr [(0, (Value.slice A0 n0 c0)), (1, (Value.int .i64 x1)), (2, (Value.int .i64 x2)), (7, (Value.int .i64 x7)), (8, (Value.int .i64 x8))]) h) = (f126.j3T R A0 n0 c0 x1 x2 x7 x8 h) by kernel_rfl) H)
set_option maxRecDepth 100000 in
def f126.l3T (R : Value → Heap → Prop) (A0 : Option Addr) (n0 : Nat) (c0 : Nat) (x1 : Int) (x2 : Int) (x7 : Int) (x8 : Int) (x10 : Int) (h : Heap) : Prop :=
  splitB (decide (x10 < x2)) (ptrOk A0 fun a1_ => 0 ≤ x10 ∧ x10 < ((n0 : Nat) : Int) ∧ (ptrOk A0 fun a2_ => 0 ≤ (IntKind.wrap .i64 (x10 - (1 : Int))) ∧ (IntKind.wrap .i64 (x10 - (1 : Int))) < ((n0 : Nat) : Int) ∧ (∃ v3_, ldv false 1 h (Addr.add a1_ (Int.toNat x10 * 1)) = some v3_ ∧ ∃ x4_, v3_ = (Value.int .i64 x4_) ∧ ∃ v5_, ldv false 1 h (Addr.add a2_ (Int.toNat (IntKind.wrap .i64 (x10 - (1 : Int))) * 1)) = some v5_ ∧ ∃ x6_, v5_ = (Value.int .i64 x6_) ∧ Run Try.prog 127 #[(Value.int .i64 x4_), (Value.int .i64 x6_)] h fun v7_ h8_ => ∃ b9_, v7_ = (Value.bool b9_) ∧ splitB (!b9_) (f126.j0 R A0 n0 c0 x1 x2 x7 x8 h8_) (ptrOk A0 fun a10_ => 0 ≤ (IntKind.wrap .i64 (x10 - (1 : Int))) ∧ (IntKind.wrap .i64 (x10 - (1 : Int))) < ((n0 : Nat) : Int) ∧ (ptrOk A0 fun a11_ => 0 ≤ x10 ∧ x10 < ((n0 : Nat) : Int) ∧ (∃ v12_, ldv false 1 h8_ (Addr.add a10_ (Int.toNat (IntKind.wrap .i64 (x10 - (1 : Int))) * 1)) = some v12_ ∧ ∃ x13_, v12_ = (Value.int .i64 x13_) ∧ ∃ v14_, ldv false 1 h8_ (Addr.add a11_ (Int.toNat x10 * 1)) = some v14_ ∧ ∃ x15_, v14_ = (Value.int .i64 x15_) ∧ ptrOk A0 fun a16_ => 0 ≤ x10 ∧ x10 < ((n0 : Nat) : Int) ∧ (∃ h17_, st1 h8_ (Addr.add a16_ (Int.toNat x10 * 1)) (Value.int .i64 x13_) = some h17_ ∧ ptrOk A0 fun a18_ => 0 ≤ (IntKind.wrap .i64 (x10 - (1 : Int))) ∧ (IntKind.wrap .i64 (x10 - (1 : Int))) < ((n0 : Nat) : Int) ∧ (∃ h19_, st1 h17_ (Addr.add a18_ (Int.toNat (IntKind.wrap .i64 (x10 - (1 : Int))) * 1)) (Value.int .i64 x15_) = some h19_ ∧ f126.l3 R A0 n0 c0 x1 x2 x7 x8 (IntKind.wrap .i64 (x10 + (1 : Int))) h19_)))))))) (f126.j0 R A0 n0 c0 x1 x2 x7 x8 h)
set_option maxRecDepth 100000 in
theorem f126.l3_in {R : Value → Heap → Prop} {A0 : Option Addr} {n0 : Nat} {c0 : Nat} {x1 : Int} {x2 : Int} {x7 : Int} {x8 : Int} {x10 : Int} {h : Heap} (H : f126.l3T R A0 n0 c0 x1 x2 x7 x8 x10 h) : f126.l3 R A0 n0 c0 x1 x2 x7 x8 x10 h :=
  pt_intro mixed f126.good (Eq.mpr (show (Fwd Try.prog f126.T f126.kp Try.f126 R [false, false, true, false, true, true, true, true, true, true, false, false, true, false, false, true, false, true, true] (mkFr [(0, (Value.slice A0 n0 c0)), (1, (Value.int .i64 x1)), (2, (Value.int .i64 x2)), (7, (Value.int .i64 x7)), (8, (Value.int .i64 x8)), (10, (Value.int .i64 x10))]) h) = (f126.l3T R A0 n0 c0 x1 x2 x7 x8 x10 h) by kernel_rfl) H)
set_option maxRecDepth 100000 in
def f126.j0T (R : Value → Heap → Prop) (A0 : Option Addr) (n0 : Nat) (c0 : Nat) (x1 : Int) (x2 : Int) (x7 : Int) (x8 : Int) (h : Heap) : Prop :=
  f126.l0 R A0 n0 c0 x1 x2 x7 (IntKind.wrap .i64 (x8 + (1 : Int))) h
set_option maxRecDepth 100000 in
theorem f126.j0_in {R : Value → Heap → Prop} {A0 : Option Addr} {n0 : Nat} {c0 : Nat} {x1 : Int} {x2 : Int} {x7 : Int} {x8 : Int} {h : Heap} (H : f126.j0T R A0 n0 c0 x1 x2 x7 x8 h) : f126.j0 R A0 n0 c0 x1 x2 x7 x8 h :=
  pt_intro mixed f126.good (Eq.mpr (show (Fwd Try.prog f126.T f126.kp Try.f126 R [true, true, false, false, true, false, true, true] (mkFr [(0, (Value.slice A0 n0 c0)), (1, (Value.int .i64 x1)), (2, (Value.int .i64 x2)), (7, (Value.int .i64 x7)), (8, (Value.int .i64 x8))]) h) = (f126.j0T R A0 n0 c0 x1 x2 x7 x8 h) by kernel_rfl) H)
set_option maxRecDepth 100000 in
def f126.runT (R : Value → Heap → Prop) (A0 : Option Addr) (n0 : Nat) (c0 : Nat) (x1 : Int) (x2 : Int) (h : Heap) : Prop :=
  f126.l0 R A0 n0 c0 x1 x2 (IntKind.wrap .i64 (x1 + (1 : Int))) (0 : Int) h
set_option maxRecDepth 100000 in
theorem f126.run {R : Value → Heap → Prop} {A0 : Option Addr} {n0 : Nat} {c0 : Nat} {x1 : Int} {x2 : Int} {h : Heap} (H : f126.runT R A0 n0 c0 x1 x2 h) : Run Try.prog 126 #[(Value.slice A0 n0 c0), (Value.int .i64 x1), (Value.int .i64 x2)] h R :=
  run_of mixed Try.func126 (by kernel_rfl) (by kernel_rfl) f126.good (Eq.mpr (show (Fwd Try.prog f126.T f126.kp Try.f126 R [] (mkFr (argL [(Value.slice A0 n0 c0), (Value.int .i64 x1), (Value.int .i64 x2)] 0)) h) = (f126.runT R A0 n0 c0 x1 x2 h) by kernel_rfl) H)
def f128.T : Tab := { sh := tSh, tup := tTup, keep := [], plan := [(1, (.take 0 (.take 1 (.take 2 (.take 3 (.take 4 (.take 5 (.take 6 (.take 8 (.take 9 (.take 10 (.take 7 (.take 11 (.take 12 (.eff false 13 (.take 14 (.eff false 15 .done))))))))))))))))), (3, (.take 0 (.take 1 (.take 2 (.take 3 (.split 3 (.take 4 (.take 5 (.take 6 (.take 8 (.take 9 (.take 10 (.take 7 (.take 11 (.eff false 12 (.take 13 (.take 14 .done))))))))))))))))), (5, (.take 0 (.take 1 (.take 2 (.take 3 (.split 3 (.take 4 (.take 5 (.take 6 (.take 8 (.take 9 (.take 10 (.take 7 (.take 11 (.eff false 12 (.take 13 .done)))))))))))))))), (8, (.take 0 (.take 1 (.take 2 (.take 3 (.take 4 (.take 5 (.take 6 (.take 8 (.take 9 (.take 10 (.take 7 (.take 11 (.take 12 (.eff false 13 (.take 14 (.eff false 15 .done)))))))))))))))))] }
def f128.kp : Keep := [([false, false, false, true, true, true], [0, 1, 9, 10]), ([false, false, false, false, false, false, false, true, true, true], [0, 1, 9, 10]), ([true, false, false, false, false, false, false, false, true, true, true], [0, 1, 9, 10]), ([true, false, false, false, false, true, true, true], [0, 1, 9, 10]), ([false, false, false, true, false, false, false, false, true, true, true], [0, 1, 9, 10]), ([true, false, false, false, true, false, false, false, false, true, true, true], [0, 1, 9, 10]), ([true, true, false, false, false, false, true, true, true], [0, 1, 9, 10])]
theorem f128.good : goodCode Try.prog f128.T (rootOf Try.f128) = true := by kernel_rfl
def f128.l0 (R : Value → Heap → Prop) (A0 : Option Addr) (n0 : Nat) (c0 : Nat) (x1 : Int) (x9 : Int) (x10 : Int) (h : Heap) : Prop := Pt Try.prog Try.f128 R [false, false, false, true, true, true] (mkFr [(0, (Value.slice A0 n0 c0)), (1, (Value.int .i64 x1)), (9, (Value.int .i64 x9)), (10, (Value.int .i64 x10))]) h
def f128.l1 (R : Value → Heap → Prop) (A0 : Option Addr) (n0 : Nat) (c0 : Nat) (x1 : Int) (x9 : Int) (x10 : Int) (h : Heap) : Prop := Pt Try.prog Try.f128 R [false, false, false, false, false, false, false, true, true, true] (mkFr [(0, (Value.slice A0 n0 c0)), (1, (Value.int .i64 x1)), (9, (Value.int .i64 x9)), (10, (Value.int .i64 x10))]) h
def f128.j2 (R : Value → Heap → Prop) (A0 : Option Addr) (n0 : Nat) (c0 : Nat) (x1 : Int) (x9 : Int) (x10 : Int) (h : Heap) : Prop := Pt Try.prog Try.f128 R [true, false, false, false, false, false, false, false, true, true, true] (mkFr [(0, (Value.slice A0 n0 c0)), (1, (Value.int .i64 x1)), (9, (Value.int .i64 x9)), (10, (Value.int .i64 x10))]) h
def f128.j0 (R : Value → Heap → Prop) (A0 : Option Addr) (n0 : Nat) (c0 : Nat) (x1 : Int) (x9 : Int) (x10 : Int) (h : Heap) : Prop := Pt Try.prog Try.f128 R [true, false, false, false, false, true, true, true] (mkFr [(0, (Value.slice A0 n0 c0)), (1, (Value.int .i64 x1)), (9, (Value.int .i64 x9)), (10, (Value.int .i64 x10))]) h
def f128.l2 (R : Value → Heap → Prop) (A0 : Option Addr) (n0 : Nat) (c0 : Nat) (x1 : Int) (x9 : Int) (x10 : Int) (h : Heap) : Prop := Pt Try.prog Try.f128 R [false, false, false, true, false, false, false, false, true, true, true] (mkFr [(0, (Value.slice A0 n0 c0)), (1, (Value.int .i64 x1)), (9, (Value.int .i64 x9)), (10, (Value.int .i64 x10))]) h
def f128.j3 (R : Value → Heap → Prop) (A0 : Option Addr) (n0 : Nat) (c0 : Nat) (x1 : Int) (x9 : Int) (x10 : Int) (h : Heap) : Prop := Pt Try.prog Try.f128 R [true, false, false, false, true, false, false, false, false, true, true, true] (mkFr [(0, (Value.slice A0 n0 c0)), (1, (Value.int .i64 x1)), (9, (Value.int .i64 x9)), (10, (Value.int .i64 x10))]) h
def f128.j1 (R : Value → Heap → Prop) (A0 : Option Addr) (n0 : Nat) (c0 : Nat) (x1 : Int) (x9 : Int) (x10 : Int) (h : Heap) : Prop := Pt Try.prog Try.f128 R [true, true, false, false, false, false, true, true, true] (mkFr [(0, (Value.slice A0 n0 c0)), (1, (Value.int .i64 x1)), (9, (Value.int .i64 x9)), (10, (Value.int .i64 x10))]) h
set_option maxRecDepth 100000 in
def f128.l0T (R : Value → Heap → Prop) (A0 : Option Addr) (n0 : Nat) (c0 : Nat) (x1 : Int) (x9 : Int) (x10 : Int) (h : Heap) : Prop :=
  f128.l1 R A0 n0 c0 x1 x9 x10 h
set_option maxRecDepth 100000 in
theorem f128.l0_in {R : Value → Heap → Prop} {A0 : Option Addr} {n0 : Nat} {c0 : Nat} {x1 : Int} {x9 : Int} {x10 : Int} {h : Heap} (H : f128.l0T R A0 n0 c0 x1 x9 x10 h) : f128.l0 R A0 n0 c0 x1 x9 x10 h :=
  pt_intro mixed f128.good (Eq.mpr (show (Fwd Try.prog f128.T f128.kp Try.f128 R [false, false, false, true, true, true] (mkFr [(0, (Value.slice A0 n0 c0)), (1, (Value.int .i64 x1)), (9, (Value.int .i64 x9)), (10, (Value.int .i64 x10))]) h) = (f128.l0T R A0 n0 c0 x1 x9 x10 h) by kernel_rfl) H)
set_option maxRecDepth 100000 in
def f128.l1T (R : Value → Heap → Prop) (A0 : Option Addr) (n0 : Nat) (c0 : Nat) (x1 : Int) (x9 : Int) (x10 : Int) (h : Heap) : Prop :=
  splitB (decide (x9 ≤ x10)) (ptrOk A0 fun a1_ => 0 ≤ x1 ∧ x1 < ((n0 : Nat) : Int) ∧ (ptrOk A0 fun a2_ => 0 ≤ x9 ∧ x9 < ((n0 : Nat) : Int) ∧ (∃ v3_, ldv false 1 h (Addr.add a1_ (Int.toNat x1 * 1)) = some v3_ ∧ ∃ x4_, v3_ = (Value.int .i64 x4_) ∧ ∃ v5_, ldv false 1 h (Addr.add a2_ (Int.toNat x9 * 1)) = some v5_ ∧ ∃ x6_, v5_ = (Value.int .i64 x6_) ∧ Run Try.prog 127 #[(Value.int .i64 x4_), (Value.int .i64 x6_)] h fun v7_ h8_ => ∃ b9_, v7_ = (Value.bool b9_) ∧ splitB (!b9_) (f128.j2 R A0 n0 c0 x1 x9 x10 h8_) (f128.j0 R A0 n0 c0 x1 x9 x10 h8_)))) (f128.j0 R A0 n0 c0 x1 x9 x10 h)
set_option maxRecDepth 100000 in
theorem f128.l1_in {R : Value → Heap → Prop} {A0 : Option Addr} {n0 : Nat} {c0 : Nat} {x1 : Int} {x9 : Int} {x10 : Int} {h : Heap} (H : f128.l1T R A0 n0 c0 x1 x9 x10 h) : f128.l1 R A0 n0 c0 x1 x9 x10 h :=
  pt_intro mixed f128.good (Eq.mpr (show (Fwd Try.prog f128.T f128.kp Try.f128 R [false, false, false, false, false, false, false, true, true, true] (mkFr [(0, (Value.slice A0 n0 c0)), (1, (Value.int .i64 x1)), (9, (Value.int .i64 x9)), (10, (Value.int .i64 x10))]) h) = (f128.l1T R A0 n0 c0 x1 x9 x10 h) by kernel_rfl) H)
set_option maxRecDepth 100000 in
def f128.j2T (R : Value → Heap → Prop) (A0 : Option Addr) (n0 : Nat) (c0 : Nat) (x1 : Int) (x9 : Int) (x10 : Int) (h : Heap) : Prop :=
  f128.l1 R A0 n0 c0 x1 (IntKind.wrap .i64 (x9 + (1 : Int))) x10 h
set_option maxRecDepth 100000 in
theorem f128.j2_in {R : Value → Heap → Prop} {A0 : Option Addr} {n0 : Nat} {c0 : Nat} {x1 : Int} {x9 : Int} {x10 : Int} {h : Heap} (H : f128.j2T R A0 n0 c0 x1 x9 x10 h) : f128.j2 R A0 n0 c0 x1 x9 x10 h :=
  pt_intro mixed f128.good (Eq.mpr (show (Fwd Try.prog f128.T f128.kp Try.f128 R [true, false, false, false, false, false, false, false, true, true, true] (mkFr [(0, (Value.slice A0 n0 c0)), (1, (Value.int .i64 x1)), (9, (Value.int .i64 x9)), (10, (Value.int .i64 x10))]) h) = (f128.j2T R A0 n0 c0 x1 x9 x10 h) by kernel_rfl) H)
set_option maxRecDepth 100000 in
def f128.j0T (R : Value → Heap → Prop) (A0 : Option Addr) (n0 : Nat) (c0 : Nat) (x1 : Int) (x9 : Int) (x10 : Int) (h : Heap) : Prop :=
  f128.l2 R A0 n0 c0 x1 x9 x10 h
set_option maxRecDepth 100000 in
theorem f128.j0_in {R : Value → Heap → Prop} {A0 : Option Addr} {n0 : Nat} {c0 : Nat} {x1 : Int} {x9 : Int} {x10 : Int} {h : Heap} (H : f128.j0T R A0 n0 c0 x1 x9 x10 h) : f128.j0 R A0 n0 c0 x1 x9 x10 h :=
  pt_intro mixed f128.good (Eq.mpr (show (Fwd Try.prog f128.T f128.kp Try.f128 R [true, false, false, false, false, true, true, true] (mkFr [(0, (Value.slice A0 n0 c0)), (1, (Value.int .i64 x1)), (9, (Value.int .i64 x9)), (10, (Value.int .i64 x10))]) h) = (f128.j0T R A0 n0 c0 x1 x9 x10 h) by kernel_rfl) H)
set_option maxRecDepth 100000 in
def f128.l2T (R : Value → Heap → Prop) (A0 : Option Addr) (n0 : Nat) (c0 : Nat) (x1 : Int) (x9 : Int) (x10 : Int) (h : Heap) : Prop :=
  splitB (decide (x9 ≤ x10)) (ptrOk A0 fun a1_ => 0 ≤ x1 ∧ x1 < ((n0 : Nat) : Int) ∧ (ptrOk A0 fun a2_ => 0 ≤ x10 ∧ x10 < ((n0 : Nat) : Int) ∧ (∃ v3_, ldv false 1 h (Addr.add a1_ (Int.toNat x1 * 1)) = some v3_ ∧ ∃ x4_, v3_ = (Value.int .i64 x4_) ∧ ∃ v5_, ldv false 1 h (Addr.add a2_ (Int.toNat x10 * 1)) = some v5_ ∧ ∃ x6_, v5_ = (Value.int .i64 x6_) ∧ Run Try.prog 127 #[(Value.int .i64 x4_), (Value.int .i64 x6_)] h fun v7_ h8_ => ∃ b9_, v7_ = (Value.bool b9_) ∧ splitB b9_ (f128.j3 R A0 n0 c0 x1 x9 x10 h8_) (f128.j1 R A0 n0 c0 x1 x9 x10 h8_)))) (f128.j1 R A0 n0 c0 x1 x9 x10 h)
set_option maxRecDepth 100000 in
theorem f128.l2_in {R : Value → Heap → Prop} {A0 : Option Addr} {n0 : Nat} {c0 : Nat} {x1 : Int} {x9 : Int} {x10 : Int} {h : Heap} (H : f128.l2T R A0 n0 c0 x1 x9 x10 h) : f128.l2 R A0 n0 c0 x1 x9 x10 h :=
  pt_intro mixed f128.good (Eq.mpr (show (Fwd Try.prog f128.T f128.kp Try.f128 R [false, false, false, true, false, false, false, false, true, true, true] (mkFr [(0, (Value.slice A0 n0 c0)), (1, (Value.int .i64 x1)), (9, (Value.int .i64 x9)), (10, (Value.int .i64 x10))]) h) = (f128.l2T R A0 n0 c0 x1 x9 x10 h) by kernel_rfl) H)
set_option maxRecDepth 100000 in
def f128.j3T (R : Value → Heap → Prop) (A0 : Option Addr) (n0 : Nat) (c0 : Nat) (x1 : Int) (x9 : Int) (x10 : Int) (h : Heap) : Prop :=
  f128.l2 R A0 n0 c0 x1 x9 (IntKind.wrap .i64 (x10 - (1 : Int))) h
set_option maxRecDepth 100000 in
theorem f128.j3_in {R : Value → Heap → Prop} {A0 : Option Addr} {n0 : Nat} {c0 : Nat} {x1 : Int} {x9 : Int} {x10 : Int} {h : Heap} (H : f128.j3T R A0 n0 c0 x1 x9 x10 h) : f128.j3 R A0 n0 c0 x1 x9 x10 h :=
  pt_intro mixed f128.good (Eq.mpr (show (Fwd Try.prog f128.T f128.kp Try.f128 R [true, false, false, false, true, false, false, false, false, true, true, true] (mkFr [(0, (Value.slice A0 n0 c0)), (1, (Value.int .i64 x1)), (9, (Value.int .i64 x9)), (10, (Value.int .i64 x10))]) h) = (f128.j3T R A0 n0 c0 x1 x9 x10 h) by kernel_rfl) H)
set_option maxRecDepth 100000 in
def f128.j1T (R : Value → Heap → Prop) (A0 : Option Addr) (n0 : Nat) (c0 : Nat) (x1 : Int) (x9 : Int) (x10 : Int) (h : Heap) : Prop :=
  splitB (decide (x9 > x10)) (R (Value.int .i64 x9) h) (ptrOk A0 fun a1_ => 0 ≤ x10 ∧ x10 < ((n0 : Nat) : Int) ∧ (ptrOk A0 fun a2_ => 0 ≤ x9 ∧ x9 < ((n0 : Nat) : Int) ∧ (∃ v3_, ldv false 1 h (Addr.add a1_ (Int.toNat x10 * 1)) = some v3_ ∧ ∃ x4_, v3_ = (Value.int .i64 x4_) ∧ ∃ v5_, ldv false 1 h (Addr.add a2_ (Int.toNat x9 * 1)) = some v5_ ∧ ∃ x6_, v5_ = (Value.int .i64 x6_) ∧ ptrOk A0 fun a7_ => 0 ≤ x9 ∧ x9 < ((n0 : Nat) : Int) ∧ (∃ h8_, st1 h (Addr.add a7_ (Int.toNat x9 * 1)) (Value.int .i64 x4_) = some h8_ ∧ ptrOk A0 fun a9_ => 0 ≤ x10 ∧ x10 < ((n0 : Nat) : Int) ∧ (∃ h10_, st1 h8_ (Addr.add a9_ (Int.toNat x10 * 1)) (Value.int .i64 x6_) = some h10_ ∧ f128.l0 R A0 n0 c0 x1 (IntKind.wrap .i64 (x9 + (1 : Int))) (IntKind.wrap .i64 (x10 - (1 : Int))) h10_)))))
set_option maxRecDepth 100000 in
theorem f128.j1_in {R : Value → Heap → Prop} {A0 : Option Addr} {n0 : Nat} {c0 : Nat} {x1 : Int} {x9 : Int} {x10 : Int} {h : Heap} (H : f128.j1T R A0 n0 c0 x1 x9 x10 h) : f128.j1 R A0 n0 c0 x1 x9 x10 h :=
  pt_intro mixed f128.good (Eq.mpr (show (Fwd Try.prog f128.T f128.kp Try.f128 R [true, true, false, false, false, false, true, true, true] (mkFr [(0, (Value.slice A0 n0 c0)), (1, (Value.int .i64 x1)), (9, (Value.int .i64 x9)), (10, (Value.int .i64 x10))]) h) = (f128.j1T R A0 n0 c0 x1 x9 x10 h) by kernel_rfl) H)
set_option maxRecDepth 100000 in
def f128.runT (R : Value → Heap → Prop) (A0 : Option Addr) (n0 : Nat) (c0 : Nat) (x1 : Int) (x2 : Int) (x3 : Int) (h : Heap) : Prop :=
  ptrOk A0 fun a1_ => 0 ≤ x3 ∧ x3 < ((n0 : Nat) : Int) ∧ (ptrOk A0 fun a2_ => 0 ≤ x1 ∧ x1 < ((n0 : Nat) : Int) ∧ (∃ v3_, ldv false 1 h (Addr.add a1_ (Int.toNat x3 * 1)) = some v3_ ∧ ∃ x4_, v3_ = (Value.int .i64 x4_) ∧ ∃ v5_, ldv false 1 h (Addr.add a2_ (Int.toNat x1 * 1)) = some v5_ ∧ ∃ x6_, v5_ = (Value.int .i64 x6_) ∧ ptrOk A0 fun a7_ => 0 ≤ x1 ∧ x1 < ((n0 : Nat) : Int) ∧ (∃ h8_, st1 h (Addr.add a7_ (Int.toNat x1 * 1)) (Value.int .i64 x4_) = some h8_ ∧ ptrOk A0 fun a9_ => 0 ≤ x3 ∧ x3 < ((n0 : Nat) : Int) ∧ (∃ h10_, st1 h8_ (Addr.add a9_ (Int.toNat x3 * 1)) (Value.int .i64 x6_) = some h10_ ∧ f128.l0 R A0 n0 c0 x1 (IntKind.wrap .i64 (x1 + (1 : Int))) (IntKind.wrap .i64 (x2 - (1 : Int))) h10_))))
set_option maxRecDepth 100000 in
theorem f128.run {R : Value → Heap → Prop} {A0 : Option Addr} {n0 : Nat} {c0 : Nat} {x1 : Int} {x2 : Int} {x3 : Int} {h : Heap} (H : f128.runT R A0 n0 c0 x1 x2 x3 h) : Run Try.prog 128 #[(Value.slice A0 n0 c0), (Value.int .i64 x1), (Value.int .i64 x2), (Value.int .i64 x3)] h R :=
  run_of mixed Try.func128 (by kernel_rfl) (by kernel_rfl) f128.good (Eq.mpr (show (Fwd Try.prog f128.T f128.kp Try.f128 R [] (mkFr (argL [(Value.slice A0 n0 c0), (Value.int .i64 x1), (Value.int .i64 x2), (Value.int .i64 x3)] 0)) h) = (f128.runT R A0 n0 c0 x1 x2 x3 h) by kernel_rfl) H)
def f129.T : Tab := { sh := tSh, tup := tTup, keep := [], plan := [(1, (.take 0 (.take 1 (.take 2 (.take 3 (.take 4 (.take 5 (.take 6 (.take 8 (.take 9 (.take 10 (.take 7 (.take 11 (.take 12 (.eff false 13 (.take 14 (.eff false 15 .done))))))))))))))))), (3, (.take 0 (.take 1 (.take 2 (.take 3 (.split 3 (.take 4 (.take 5 (.take 6 (.take 8 (.take 9 (.take 10 (.take 7 (.take 11 (.eff false 12 (.take 13 .done)))))))))))))))), (5, (.take 0 (.take 1 (.take 2 (.take 3 (.split 3 (.take 4 (.take 5 (.take 6 (.take 8 (.take 9 (.take 10 (.take 7 (.take 11 (.eff false 12 (.take 13 (.take 14 .done))))))))))))))))), (8, (.take 0 (.take 1 (.take 2 (.take 3 (.take 4 (.take 5 (.take 6 (.take 8 (.take 9 (.take 10 (.take 7 (.take 11 (.take 12 (.eff false 13 (.take 14 (.eff false 15 .done))))))))))))))))), (10, (.take 0 (.take 1 (.take 2 (.take 3 (.take 4 (.take 5 (.take 6 (.take 8 (.take 9 (.take 10 (.take 7 (.take 11 (.take 12 (.eff false 13 (.take 14 (.eff false 15 .done))))))))))))))))), (13, (.take 0 (.take 1 (.take 2 (.take 3 (.split 3 (.take 4 (.take 5 (.take 6 (.take 8 (.take 9 (.take 10 (.take 7 (.take 11 (.eff false 12 (.take 13 .done)))))))))))))))), (15, (.take 0 (.take 1 (.take 2 (.take 3 (.split 3 (.take 4 (.take 5 (.take 6 (.take 8 (.take 9 (.take 10 (.take 7 (.take 11 (.eff false 12 (.take 13 (.take 14 .done))))))))))))))))), (18, (.take 0 (.take 1 (.take 2 (.take 3 (.take 4 (.take 5 (.take 6 (.take 8 (.take 9 (.take 10 (.take 7 (.take 11 (.take 12 (.eff false 13 (.take 14 (.eff false 15 .done))))))))))))))))), (21, (.take 0 (.take 1 (.take 2 (.take 3 (.take 4 (.take 5 (.take 6 (.take 8 (.take 9 (.take 10 (.take 7 (.take 11 (.take 12 (.eff false 13 (.take 14 (.eff false 15 .done)))))))))))))))))] }
def f129.kp : Keep := [([false, false, false, true, true, true], [0, 1, 10, 11]), ([true, false, false, false, true, true, true], [0, 1, 10, 11]), ([true, true, true, true], [0, 1, 10, 11]), ([false, false, false, true, true, true, true], [0, 1, 10, 11]), ([true, false, false, false, true, true, true, true], [0, 1, 10, 11]), ([true, true, true, true, true], [0, 1, 10, 11]), ([false, false, false, true, true, true, true, true, true, true, true, true], [0, 1, 10, 11]), ([false, false, false, false, false, false, false, true, true, true, true, true, true, true, true, true], [0, 1, 10, 11]), ([true, false, false, false, false, false, false, false, true, true, true, true, true, true, true, true, true], [0, 1, 10, 11]), ([true, false, false, false, false, true, true, true, true, true, true, true, true, true], [0, 1, 10, 11]), ([false, false, false, true, false, false, false, false, true, true, true, true, true, true, true, true, true], [0, 1, 10, 11]), ([true, false, false, false, true, false, false, false, false, true, true, true, true, true, true, true, true, true], [0, 1, 10, 11]), ([true, true, false, false, false, false, true, true, true, true, true, true, true, true, true], [0, 1, 10, 11]), ([true, true, true, true, true, true, true, true, true, true], [0, 1, 11])]
theorem f129.good : goodCode Try.prog f129.T (rootOf Try.f129) = true := by kernel_rfl
def f129.l0 (R : Value → Heap → Prop) (A0 : Option Addr) (n0 : Nat) (c0 : Nat) (x1 : Int) (x10 : Int) (x11 : Int) (h : Heap) : Prop := Pt Try.prog Try.f129 R [false, false, false, true, true, true] (mkFr [(0, (Value.slice A0 n0 c0)), (1, (Value.int .i64 x1)), (10, (Value.int .i64 x10)), (11, (Value.int .i64 x11))]) h
def f129.j2 (R : Value → Heap → Prop) (A0 : Option Addr) (n0 : Nat) (c0 : Nat) (x1 : Int) (x10 : Int) (x11 : Int) (h : Heap) : Prop := Pt Try.prog Try.f129 R [true, false, false, false, true, true, true] (mkFr [(0, (Value.slice A0 n0 c0)), (1, (Value.int .i64 x1)), (10, (Value.int .i64 x10)), (11, (Value.int .i64 x11))]) h
def f129.j0 (R : Value → Heap → Prop) (A0 : Option Addr) (n0 : Nat) (c0 : Nat) (x1 : Int) (x10 : Int) (x11 : Int) (h : Heap) : Prop := Pt Try.prog Try.f129 R [true, true, true, true] (mkFr [(0, (Value.slice A0 n0 c0)), (1, (Value.int .i64 x1)), (10, (Value.int .i64 x10)), (11, (Value.int .i64 x11))]) h
def f129.l1 (R : Value → Heap → Prop) (A0 : Option Addr) (n0 : Nat) (c0 : Nat) (x1 : Int) (x10 : Int) (x11 : Int) (h : Heap) : Prop := Pt Try.prog Try.f129 R [false, false, false, true, true, true, true] (mkFr [(0, (Value.slice A0 n0 c0)), (1, (Value.int .i64 x1)), (10, (Value.int .i64 x10)), (11, (Value.int .i64 x11))]) h
def f129.j3 (R : Value → Heap → Prop) (A0 : Option Addr) (n0 : Nat) (c0 : Nat) (x1 : Int) (x10 : Int) (x11 : Int) (h : Heap) : Prop := Pt Try.prog Try.f129 R [true, false, false, false, true, true, true, true] (mkFr [(0, (Value.slice A0 n0 c0)), (1, (Value.int .i64 x1)), (10, (Value.int .i64 x10)), (11, (Value.int .i64 x11))]) h
def f129.j1 (R : Value → Heap → Prop) (A0 : Option Addr) (n0 : Nat) (c0 : Nat) (x1 : Int) (x10 : Int) (x11 : Int) (h : Heap) : Prop := Pt Try.prog Try.f129 R [true, true, true, true, true] (mkFr [(0, (Value.slice A0 n0 c0)), (1, (Value.int .i64 x1)), (10, (Value.int .i64 x10)), (11, (Value.int .i64 x11))]) h
def f129.l2 (R : Value → Heap → Prop) (A0 : Option Addr) (n0 : Nat) (c0 : Nat) (x1 : Int) (x10 : Int) (x11 : Int) (h : Heap) : Prop := Pt Try.prog Try.f129 R [false, false, false, true, true, true, true, true, true, true, true, true] (mkFr [(0, (Value.slice A0 n0 c0)), (1, (Value.int .i64 x1)), (10, (Value.int .i64 x10)), (11, (Value.int .i64 x11))]) h
def f129.l3 (R : Value → Heap → Prop) (A0 : Option Addr) (n0 : Nat) (c0 : Nat) (x1 : Int) (x10 : Int) (x11 : Int) (h : Heap) : Prop := Pt Try.prog Try.f129 R [false, false, false, false, false, false, false, true, true, true, true, true, true, true, true, true] (mkFr [(0, (Value.slice A0 n0 c0)), (1, (Value.int .i64 x1)), (10, (Value.int .i64 x10)), (11, (Value.int .i64 x11))]) h
def f129.j7 (R : Value → Heap → Prop) (A0 : Option Addr) (n0 : Nat) (c0 : Nat) (x1 : Int) (x10 : Int) (x11 : Int) (h : Heap) : Prop := Pt Try.prog Try.f129 R [true, false, false, false, false, false, false, false, true, true, true, true, true, true, true, true, true] (mkFr [(0, (Value.slice A0 n0 c0)), (1, (Value.int .i64 x1)), (10, (Value.int .i64 x10)), (11, (Value.int .i64 x11))]) h
def f129.j5 (R : Value → Heap → Prop) (A0 : Option Addr) (n0 : Nat) (c0 : Nat) (x1 : Int) (x10 : Int) (x11 : Int) (h : Heap) : Prop := Pt Try.prog Try.f129 R [true, false, false, false, false, true, true, true, true, true, true, true, true, true] (mkFr [(0, (Value.slice A0 n0 c0)), (1, (Value.int .i64 x1)), (10, (Value.int .i64 x10)), (11, (Value.int .i64 x11))]) h
def f129.l4 (R : Value → Heap → Prop) (A0 : Option Addr) (n0 : Nat) (c0 : Nat) (x1 : Int) (x10 : Int) (x11 : Int) (h : Heap) : Prop := Pt Try.prog Try.f129 R [false, false, false, true, false, false, false, false, true, true, true, true, true, true, true, true, true] (mkFr [(0, (Value.slice A0 n0 c0)), (1, (Value.int .i64 x1)), (10, (Value.int .i64 x10)), (11, (Value.int .i64 x11))]) h
def f129.j8 (R : Value → Heap → Prop) (A0 : Option Addr) (n0 : Nat) (c0 : Nat) (x1 : Int) (x10 : Int) (x11 : Int) (h : Heap) : Prop := Pt Try.prog Try.f129 R [true, false, false, false, true, false, false, false, false, true, true, true, true, true, true, true, true, true] (mkFr [(0, (Value.slice A0 n0 c0)), (1, (Value.int .i64 x1)), (10, (Value.int .i64 x10)), (11, (Value.int .i64 x11))]) h
def f129.j6 (R : Value → Heap → Prop) (A0 : Option Addr) (n0 : Nat) (c0 : Nat) (x1 : Int) (x10 : Int) (x11 : Int) (h : Heap) : Prop := Pt Try.prog Try.f129 R [true, true, false, false, false, false, true, true, true, true, true, true, true, true, true] (mkFr [(0, (Value.slice A0 n0 c0)), (1, (Value.int .i64 x1)), (10, (Value.int .i64 x10)), (11, (Value.int .i64 x11))]) h
def f129.j4 (R : Value → Heap → Prop) (A0 : Option Addr) (n0 : Nat) (c0 : Nat) (x1 : Int) (x11 : Int) (h : Heap) : Prop := Pt Try.prog Try.f129 R [true, true, true, true, true, true, true, true, true, true] (mkFr [(0, (Value.slice A0 n0 c0)), (1, (Value.int .i64 x1)), (11, (Value.int .i64 x11))]) h
set_option maxRecDepth 100000 in
def f129.l0T (R : Value → Heap → Prop) (A0 : Option Addr) (n0 : Nat) (c0 : Nat) (x1 : Int) (x10 : Int) (x11 : Int) (h : Heap) : Prop :=
  splitB (decide (x10 ≤ x11)) (ptrOk A0 fun a1_ => 0 ≤ x10 ∧ x10 < ((n0 : Nat) : Int) ∧ (ptrOk A0 fun a2_ => 0 ≤ x1 ∧ x1 < ((n0 : Nat) : Int) ∧ (∃ v3_, ldv false 1 h (Addr.add a1_ (Int.toNat x10 * 1)) = some v3_ ∧ ∃ x4_, v3_ = (Value.int .i64 x4_) ∧ ∃ v5_, ldv false 1 h (Addr.add a2_ (Int.toNat x1 * 1)) = some v5_ ∧ ∃ x6_, v5_ = (Value.int .i64 x6_) ∧ Run Try.prog 127 #[(Value.int .i64 x4_), (Value.int .i64 x6_)] h fun v7_ h8_ => ∃ b9_, v7_ = (Value.bool b9_) ∧ splitB b9_ (f129.j2 R A0 n0 c0 x1 x10 x11 h8_) (f129.j0 R A0 n0 c0 x1 x10 x11 h8_)))) (f129.j0 R A0 n0 c0 x1 x10 x11 h)
set_option maxRecDepth 100000 in
theorem f129.l0_in {R : Value → Heap → Prop} {A0 : Option Addr} {n0 : Nat} {c0 : Nat} {x1 : Int} {x10 : Int} {x11 : Int} {h : Heap} (H : f129.l0T R A0 n0 c0 x1 x10 x11 h) : f129.l0 R A0 n0 c0 x1 x10 x11 h :=
  pt_intro mixed f129.good (Eq.mpr (show (Fwd Try.prog f129.T f129.kp Try.f129 R [false, false, false, true, true, true] (mkFr [(0, (Value.slice A0 n0 c0)), (1, (Value.int .i64 x1)), (10, (Value.int .i64 x10)), (11, (Value.int .i64 x11))]) h) = (f129.l0T R A0 n0 c0 x1 x10 x11 h) by kernel_rfl) H)
set_option maxRecDepth 100000 in
def f129.j2T (R : Value → Heap → Prop) (A0 : Option Addr) (n0 : Nat) (c0 : Nat) (x1 : Int) (x10 : Int) (x11 : Int) (h : Heap) : Prop :=
  f129.l0 R A0 n0 c0 x1 (IntKind.wrap .i64 (x10 + (1 : Int))) x11 h
set_option maxRecDepth 100000 in
theorem f129.j2_in {R : Value → Heap → Prop} {A0 : Option Addr} {n0 : Nat} {c0 : Nat} {x1 : Int} {x10 : Int} {x11 : Int} {h : Heap} (H : f129.j2T R A0 n0 c0 x1 x10 x11 h) : f129.j2 R A0 n0 c0 x1 x10 x11 h :=
  pt_intro mixed f129.good (Eq.mpr (show (Fwd Try.prog f129.T f129.kp Try.f129 R [true, false, false, false, true, true, true] (mkFr [(0, (Value.slice A0 n0 c0)), (1, (Value.int .i64 x1)), (10, (Value.int .i64 x10)), (11, (Value.int .i64 x11))]) h) = (f129.j2T R A0 n0 c0 x1 x10 x11 h) by kernel_rfl) H)
set_option maxRecDepth 100000 in
def f129.j0T (R : Value → Heap → Prop) (A0 : Option Addr) (n0 : Nat) (c0 : Nat) (x1 : Int) (x10 : Int) (x11 : Int) (h : Heap) : Prop :=
  f129.l1 R A0 n0 c0 x1 x10 x11 h
set_option maxRecDepth 100000 in
theorem f129.j0_in {R : Value → Heap → Prop} {A0 : Option Addr} {n0 : Nat} {c0 : Nat} {x1 : Int} {x10 : Int} {x11 : Int} {h : Heap} (H : f129.j0T R A0 n0 c0 x1 x10 x11 h) : f129.j0 R A0 n0 c0 x1 x10 x11 h :=
  pt_intro mixed f129.good (Eq.mpr (show (Fwd Try.prog f129.T f129.kp Try.f129 R [true, true, true, true] (mkFr [(0, (Value.slice A0 n0 c0)), (1, (Value.int .i64 x1)), (10, (Value.int .i64 x10)), (11, (Value.int .i64 x11))]) h) = (f129.j0T R A0 n0 c0 x1 x10 x11 h) by kernel_rfl) H)
set_option maxRecDepth 100000 in
def f129.l1T (R : Value → Heap → Prop) (A0 : Option Addr) (n0 : Nat) (c0 : Nat) (x1 : Int) (x10 : Int) (x11 : Int) (h : Heap) : Prop :=
  splitB (decide (x10 ≤ x11)) (ptrOk A0 fun a1_ => 0 ≤ x11 ∧ x11 < ((n0 : Nat) : Int) ∧ (ptrOk A0 fun a2_ => 0 ≤ x1 ∧ x1 < ((n0 : Nat) : Int) ∧ (∃ v3_, ldv false 1 h (Addr.add a1_ (Int.toNat x11 * 1)) = some v3_ ∧ ∃ x4_, v3_ = (Value.int .i64 x4_) ∧ ∃ v5_, ldv false 1 h (Addr.add a2_ (Int.toNat x1 * 1)) = some v5_ ∧ ∃ x6_, v5_ = (Value.int .i64 x6_) ∧ Run Try.prog 127 #[(Value.int .i64 x4_), (Value.int .i64 x6_)] h fun v7_ h8_ => ∃ b9_, v7_ = (Value.bool b9_) ∧ splitB (!b9_) (f129.j3 R A0 n0 c0 x1 x10 x11 h8_) (f129.j1 R A0 n0 c0 x1 x10 x11 h8_)))) (f129.j1 R A0 n0 c0 x1 x10 x11 h)
set_option maxRecDepth 100000 in
theorem f129.l1_in {R : Value → Heap → Prop} {A0 : Option Addr} {n0 : Nat} {c0 : Nat} {x1 : Int} {x10 : Int} {x11 : Int} {h : Heap} (H : f129.l1T R A0 n0 c0 x1 x10 x11 h) : f129.l1 R A0 n0 c0 x1 x10 x11 h :=
  pt_intro mixed f129.good (Eq.mpr (show (Fwd Try.prog f129.T f129.kp Try.f129 R [false, false, false, true, true, true, true] (mkFr [(0, (Value.slice A0 n0 c0)), (1, (Value.int .i64 x1)), (10, (Value.int .i64 x10)), (11, (Value.int .i64 x11))]) h) = (f129.l1T R A0 n0 c0 x1 x10 x11 h) by kernel_rfl) H)
set_option maxRecDepth 100000 in
def f129.j3T (R : Value → Heap → Prop) (A0 : Option Addr) (n0 : Nat) (c0 : Nat) (x1 : Int) (x10 : Int) (x11 : Int) (h : Heap) : Prop :=
  f129.l1 R A0 n0 c0 x1 x10 (IntKind.wrap .i64 (x11 - (1 : Int))) h
set_option maxRecDepth 100000 in
theorem f129.j3_in {R : Value → Heap → Prop} {A0 : Option Addr} {n0 : Nat} {c0 : Nat} {x1 : Int} {x10 : Int} {x11 : Int} {h : Heap} (H : f129.j3T R A0 n0 c0 x1 x10 x11 h) : f129.j3 R A0 n0 c0 x1 x10 x11 h :=
  pt_intro mixed f129.good (Eq.mpr (show (Fwd Try.prog f129.T f129.kp Try.f129 R [true, false, false, false, true, true, true, true] (mkFr [(0, (Value.slice A0 n0 c0)), (1, (Value.int .i64 x1)), (10, (Value.int .i64 x10)), (11, (Value.int .i64 x11))]) h) = (f129.j3T R A0 n0 c0 x1 x10 x11 h) by kernel_rfl) H)
set_option maxRecDepth 100000 in
def f129.j1T (R : Value → Heap → Prop) (A0 : Option Addr) (n0 : Nat) (c0 : Nat) (x1 : Int) (x10 : Int) (x11 : Int) (h : Heap) : Prop :=
  splitB (decide (x10 > x11)) (ptrOk A0 fun a1_ => 0 ≤ x1 ∧ x1 < ((n0 : Nat) : Int) ∧ (ptrOk A0 fun a2_ => 0 ≤ x11 ∧ x11 < ((n0 : Nat) : Int) ∧ (∃ v3_, ldv false 1 h (Addr.add a1_ (Int.toNat x1 * 1)) = some v3_ ∧ ∃ x4_, v3_ = (Value.int .i64 x4_) ∧ ∃ v5_, ldv false 1 h (Addr.add a2_ (Int.toNat x11 * 1)) = some v5_ ∧ ∃ x6_, v5_ = (Value.int .i64 x6_) ∧ ptrOk A0 fun a7_ => 0 ≤ x11 ∧ x11 < ((n0 : Nat) : Int) ∧ (∃ h8_, st1 h (Addr.add a7_ (Int.toNat x11 * 1)) (Value.int .i64 x4_) = some h8_ ∧ ptrOk A0 fun a9_ => 0 ≤ x1 ∧ x1 < ((n0 : Nat) : Int) ∧ (∃ h10_, st1 h8_ (Addr.add a9_ (Int.toNat x1 * 1)) (Value.int .i64 x6_) = some h10_ ∧ R (Value.tuple #[(Value.int .i64 x11), (Value.bool true)]) h10_))))) (ptrOk A0 fun a11_ => 0 ≤ x11 ∧ x11 < ((n0 : Nat) : Int) ∧ (ptrOk A0 fun a12_ => 0 ≤ x10 ∧ x10 < ((n0 : Nat) : Int) ∧ (∃ v13_, ldv false 1 h (Addr.add a11_ (Int.toNat x11 * 1)) = some v13_ ∧ ∃ x14_, v13_ = (Value.int .i64 x14_) ∧ ∃ v15_, ldv false 1 h (Addr.add a12_ (Int.toNat x10 * 1)) = some v15_ ∧ ∃ x16_, v15_ = (Value.int .i64 x16_) ∧ ptrOk A0 fun a17_ => 0 ≤ x10 ∧ x10 < ((n0 : Nat) : Int) ∧ (∃ h18_, st1 h (Addr.add a17_ (Int.toNat x10 * 1)) (Value.int .i64 x14_) = some h18_ ∧ ptrOk A0 fun a19_ => 0 ≤ x11 ∧ x11 < ((n0 : Nat) : Int) ∧ (∃ h20_, st1 h18_ (Addr.add a19_ (Int.toNat x11 * 1)) (Value.int .i64 x16_) = some h20_ ∧ f129.l2 R A0 n0 c0 x1 (IntKind.wrap .i64 (x10 + (1 : Int))) (IntKind.wrap .i64 (x11 - (1 : Int))) h20_)))))
set_option maxRecDepth 100000 in
theorem f129.j1_in {R : Value → Heap → Prop} {A0 : Option Addr} {n0 : Nat} {c0 : Nat} {x1 : Int} {x10 : Int} {x11 : Int} {h : Heap} (H : f129.j1T R A0 n0 c0 x1 x10 x11 h) : f129.j1 R A0 n0 c0 x1 x10 x11 h :=
  pt_intro mixed f129.good (Eq.mpr (show (Fwd Try.prog f129.T f129.kp Try.f129 R [true, true, true, true, true] (mkFr [(0, (Value.slice A0 n0 c0)), (1, (Value.int .i64 x1)), (10, (Value.int .i64 x10)), (11, (Value.int .i64 x11))]) h) = (f129.j1T R A0 n0 c0 x1 x10 x11 h) by kernel_rfl) H)
set_option maxRecDepth 100000 in
def f129.l2T (R : Value → Heap → Prop) (A0 : Option Addr) (n0 : Nat) (c0 : Nat) (x1 : Int) (x10 : Int) (x11 : Int) (h : Heap) : Prop :=
  f129.l3 R A0 n0 c0 x1 x10 x11 h
set_option maxRecDepth 100000 in
theorem f129.l2_in {R : Value → Heap → Prop} {A0 : Option Addr} {n0 : Nat} {c0 : Nat} {x1 : Int} {x10 : Int} {x11 : Int} {h : Heap} (H : f129.l2T R A0 n0 c0 x1 x10 x11 h) : f129.l2 R A0 n0 c0 x1 x10 x11 h :=
  pt_intro mixed f129.good (Eq.mpr (show (Fwd Try.prog f129.T f129.kp Try.f129 R [false, false, false, true, true, true, true, true, true, true, true, true] (mkFr [(0, (Value.slice A0 n0 c0)), (1, (Value.int .i64 x1)), (10, (Value.int .i64 x10)), (11, (Value.int .i64 x11))]) h) = (f129.l2T R A0 n0 c0 x1 x10 x11 h) by kernel_rfl) H)
set_option maxRecDepth 100000 in
def f129.l3T (R : Value → Heap → Prop) (A0 : Option Addr) (n0 : Nat) (c0 : Nat) (x1 : Int) (x10 : Int) (x11 : Int) (h : Heap) : Prop :=
  splitB (decide (x10 ≤ x11)) (ptrOk A0 fun a1_ => 0 ≤ x10 ∧ x10 < ((n0 : Nat) : Int) ∧ (ptrOk A0 fun a2_ => 0 ≤ x1 ∧ x1 < ((n0 : Nat) : Int) ∧ (∃ v3_, ldv false 1 h (Addr.add a1_ (Int.toNat x10 * 1)) = some v3_ ∧ ∃ x4_, v3_ = (Value.int .i64 x4_) ∧ ∃ v5_, ldv false 1 h (Addr.add a2_ (Int.toNat x1 * 1)) = some v5_ ∧ ∃ x6_, v5_ = (Value.int .i64 x6_) ∧ Run Try.prog 127 #[(Value.int .i64 x4_), (Value.int .i64 x6_)] h fun v7_ h8_ => ∃ b9_, v7_ = (Value.bool b9_) ∧ splitB b9_ (f129.j7 R A0 n0 c0 x1 x10 x11 h8_) (f129.j5 R A0 n0 c0 x1 x10 x11 h8_)))) (f129.j5 R A0 n0 c0 x1 x10 x11 h)
set_option maxRecDepth 100000 in
theorem f129.l3_in {R : Value → Heap → Prop} {A0 : Option Addr} {n0 : Nat} {c0 : Nat} {x1 : Int} {x10 : Int} {x11 : Int} {h : Heap} (H : f129.l3T R A0 n0 c0 x1 x10 x11 h) : f129.l3 R A0 n0 c0 x1 x10 x11 h :=
  pt_intro mixed f129.good (Eq.mpr (show (Fwd Try.prog f129.T f129.kp Try.f129 R [false, false, false, false, false, false, false, true, true, true, true, true, true, true, true, true] (mkFr [(0, (Value.slice A0 n0 c0)), (1, (Value.int .i64 x1)), (10, (Value.int .i64 x10)), (11, (Value.int .i64 x11))]) h) = (f129.l3T R A0 n0 c0 x1 x10 x11 h) by kernel_rfl) H)
set_option maxRecDepth 100000 in
def f129.j7T (R : Value → Heap → Prop) (A0 : Option Addr) (n0 : Nat) (c0 : Nat) (x1 : Int) (x10 : Int) (x11 : Int) (h : Heap) : Prop :=
  f129.l3 R A0 n0 c0 x1 (IntKind.wrap .i64 (x10 + (1 : Int))) x11 h
set_option maxRecDepth 100000 in
theorem f129.j7_in {R : Value → Heap → Prop} {A0 : Option Addr} {n0 : Nat} {c0 : Nat} {x1 : Int} {x10 : Int} {x11 : Int} {h : Heap} (H : f129.j7T R A0 n0 c0 x1 x10 x11 h) : f129.j7 R A0 n0 c0 x1 x10 x11 h :=
  pt_intro mixed f129.good (Eq.mpr (show (Fwd Try.prog f129.T f129.kp Try.f129 R [true, false, false, false, false, false, false, false, true, true, true, true, true, true, true, true, true] (mkFr [(0, (Value.slice A0 n0 c0)), (1, (Value.int .i64 x1)), (10, (Value.int .i64 x10)), (11, (Value.int .i64 x11))]) h) = (f129.j7T R A0 n0 c0 x1 x10 x11 h) by kernel_rfl) H)
set_option maxRecDepth 100000 in
def f129.j5T (R : Value → Heap → Prop) (A0 : Option Addr) (n0 : Nat) (c0 : Nat) (x1 : Int) (x10 : Int) (x11 : Int) (h : Heap) : Prop :=
  f129.l4 R A0 n0 c0 x1 x10 x11 h
set_option maxRecDepth 100000 in
theorem f129.j5_in {R : Value → Heap → Prop} {A0 : Option Addr} {n0 : Nat} {c0 : Nat} {x1 : Int} {x10 : Int} {x11 : Int} {h : Heap} (H : f129.j5T R A0 n0 c0 x1 x10 x11 h) : f129.j5 R A0 n0 c0 x1 x10 x11 h :=
  pt_intro mixed f129.good (Eq.mpr (show (Fwd Try.prog f129.T f129.kp Try.f129 R [true, false, false, false, false, true, true, true, true, true, true, true, true, true] (mkFr [(0, (Value.slice A0 n0 c0)), (1, (Value.int .i64 x1)), (10, (Value.int .i64 x10)), (11, (Value.int .i64 x11))]) h) = (f129.j5T R A0 n0 c0 x1 x10 x11 h) by kernel_rfl) H)
set_option maxRecDepth 100000 in
def f129.l4T (R : Value → Heap → Prop) (A0 : Option Addr) (n0 : Nat) (c0 : Nat) (x1 : Int) (x10 : Int) (x11 : Int) (h : Heap) : Prop :=
  splitB (decide (x10 ≤ x11)) (ptrOk A0 fun a1_ => 0 ≤ x11 ∧ x11 < ((n0 : Nat) : Int) ∧ (ptrOk A0 fun a2_ => 0 ≤ x1 ∧ x1 < ((n0 : Nat) : Int) ∧ (∃ v3_, ldv false 1 h (Addr.add a1_ (Int.toNat x11 * 1)) = some v3_ ∧ ∃ x4_, v3_ = (Value.int .i64 x4_) ∧ ∃ v5_, ldv false 1 h (Addr.add a2_ (Int.toNat x1 * 1)) = some v5_ ∧ ∃ x6_, v5_ = (Value.int .i64 x6_) ∧ Run Try.prog 127 #[(Value.int .i64 x4_), (Value.int .i64 x6_)] h fun v7_ h8_ => ∃ b9_, v7_ = (Value.bool b9_) ∧ splitB (!b9_) (f129.j8 R A0 n0 c0 x1 x10 x11 h8_) (f129.j6 R A0 n0 c0 x1 x10 x11 h8_)))) (f129.j6 R A0 n0 c0 x1 x10 x11 h)
set_option maxRecDepth 100000 in
theorem f129.l4_in {R : Value → Heap → Prop} {A0 : Option Addr} {n0 : Nat} {c0 : Nat} {x1 : Int} {x10 : Int} {x11 : Int} {h : Heap} (H : f129.l4T R A0 n0 c0 x1 x10 x11 h) : f129.l4 R A0 n0 c0 x1 x10 x11 h :=
  pt_intro mixed f129.good (Eq.mpr (show (Fwd Try.prog f129.T f129.kp Try.f129 R [false, false, false, true, false, false, false, false, true, true, true, true, true, true, true, true, true] (mkFr [(0, (Value.slice A0 n0 c0)), (1, (Value.int .i64 x1)), (10, (Value.int .i64 x10)), (11, (Value.int .i64 x11))]) h) = (f129.l4T R A0 n0 c0 x1 x10 x11 h) by kernel_rfl) H)
set_option maxRecDepth 100000 in
def f129.j8T (R : Value → Heap → Prop) (A0 : Option Addr) (n0 : Nat) (c0 : Nat) (x1 : Int) (x10 : Int) (x11 : Int) (h : Heap) : Prop :=
  f129.l4 R A0 n0 c0 x1 x10 (IntKind.wrap .i64 (x11 - (1 : Int))) h
set_option maxRecDepth 100000 in
theorem f129.j8_in {R : Value → Heap → Prop} {A0 : Option Addr} {n0 : Nat} {c0 : Nat} {x1 : Int} {x10 : Int} {x11 : Int} {h : Heap} (H : f129.j8T R A0 n0 c0 x1 x10 x11 h) : f129.j8 R A0 n0 c0 x1 x10 x11 h :=
  pt_intro mixed f129.good (Eq.mpr (show (Fwd Try.prog f129.T f129.kp Try.f129 R [true, false, false, false, true, false, false, false, false, true, true, true, true, true, true, true, true, true] (mkFr [(0, (Value.slice A0 n0 c0)), (1, (Value.int .i64 x1)), (10, (Value.int .i64 x10)), (11, (Value.int .i64 x11))]) h) = (f129.j8T R A0 n0 c0 x1 x10 x11 h) by kernel_rfl) H)
set_option maxRecDepth 100000 in
def f129.j6T (R : Value → Heap → Prop) (A0 : Option Addr) (n0 : Nat) (c0 : Nat) (x1 : Int) (x10 : Int) (x11 : Int) (h : Heap) : Prop :=
  splitB (decide (x10 > x11)) (f129.j4 R A0 n0 c0 x1 x11 h) (ptrOk A0 fun a1_ => 0 ≤ x11 ∧ x11 < ((n0 : Nat) : Int) ∧ (ptrOk A0 fun a2_ => 0 ≤ x10 ∧ x10 < ((n0 : Nat) : Int) ∧ (∃ v3_, ldv false 1 h (Addr.add a1_ (Int.toNat x11 * 1)) = some v3_ ∧ ∃ x4_, v3_ = (Value.int .i64 x4_) ∧ ∃ v5_, ldv false 1 h (Addr.add a2_ (Int.toNat x10 * 1)) = some v5_ ∧ ∃ x6_, v5_ = (Value.int .i64 x6_) ∧ ptrOk A0 fun a7_ => 0 ≤ x10 ∧ x10 < ((n0 : Nat) : Int) ∧ (∃ h8_, st1 h (Addr.add a7_ (Int.toNat x10 * 1)) (Value.int .i64 x4_) = some h8_ ∧ ptrOk A0 fun a9_ => 0 ≤ x11 ∧ x11 < ((n0 : Nat) : Int) ∧ (∃ h10_, st1 h8_ (Addr.add a9_ (Int.toNat x11 * 1)) (Value.int .i64 x6_) = some h10_ ∧ f129.l2 R A0 n0 c0 x1 (IntKind.wrap .i64 (x10 + (1 : Int))) (IntKind.wrap .i64 (x11 - (1 : Int))) h10_)))))
set_option maxRecDepth 100000 in
theorem f129.j6_in {R : Value → Heap → Prop} {A0 : Option Addr} {n0 : Nat} {c0 : Nat} {x1 : Int} {x10 : Int} {x11 : Int} {h : Heap} (H : f129.j6T R A0 n0 c0 x1 x10 x11 h) : f129.j6 R A0 n0 c0 x1 x10 x11 h :=
  pt_intro mixed f129.good (Eq.mpr (show (Fwd Try.prog f129.T f129.kp Try.f129 R [true, true, false, false, false, false, true, true, true, true, true, true, true, true, true] (mkFr [(0, (Value.slice A0 n0 c0)), (1, (Value.int .i64 x1)), (10, (Value.int .i64 x10)), (11, (Value.int .i64 x11))]) h) = (f129.j6T R A0 n0 c0 x1 x10 x11 h) by kernel_rfl) H)
set_option maxRecDepth 100000 in
def f129.j4T (R : Value → Heap → Prop) (A0 : Option Addr) (n0 : Nat) (c0 : Nat) (x1 : Int) (x11 : Int) (h : Heap) : Prop :=
  ptrOk A0 fun a1_ => 0 ≤ x1 ∧ x1 < ((n0 : Nat) : Int) ∧ (ptrOk A0 fun a2_ => 0 ≤ x11 ∧ x11 < ((n0 : Nat) : Int) ∧ (∃ v3_, ldv false 1 h (Addr.add a1_ (Int.toNat x1 * 1)) = some v3_ ∧ ∃ x4_, v3_ = (Value.int .i64 x4_) ∧ ∃ v5_, ldv false 1 h (Addr.add a2_ (Int.toNat x11 * 1)) = some v5_ ∧ ∃ x6_, v5_ = (Value.int .i64 x6_) ∧ ptrOk A0 fun a7_ => 0 ≤ x11 ∧ x11 < ((n0 : Nat) : Int) ∧ (∃ h8_, st1 h (Addr.add a7_ (Int.toNat x11 * 1)) (Value.int .i64 x4_) = some h8_ ∧ ptrOk A0 fun a9_ => 0 ≤ x1 ∧ x1 < ((n0 : Nat) : Int) ∧ (∃ h10_, st1 h8_ (Addr.add a9_ (Int.toNat x1 * 1)) (Value.int .i64 x6_) = some h10_ ∧ R (Value.tuple #[(Value.int .i64 x11), (Value.bool false)]) h10_))))
set_option maxRecDepth 100000 in
theorem f129.j4_in {R : Value → Heap → Prop} {A0 : Option Addr} {n0 : Nat} {c0 : Nat} {x1 : Int} {x11 : Int} {h : Heap} (H : f129.j4T R A0 n0 c0 x1 x11 h) : f129.j4 R A0 n0 c0 x1 x11 h :=
  pt_intro mixed f129.good (Eq.mpr (show (Fwd Try.prog f129.T f129.kp Try.f129 R [true, true, true, true, true, true, true, true, true, true] (mkFr [(0, (Value.slice A0 n0 c0)), (1, (Value.int .i64 x1)), (11, (Value.int .i64 x11))]) h) = (f129.j4T R A0 n0 c0 x1 x11 h) by kernel_rfl) H)
set_option maxRecDepth 100000 in
def f129.runT (R : Value → Heap → Prop) (A0 : Option Addr) (n0 : Nat) (c0 : Nat) (x1 : Int) (x2 : Int) (x3 : Int) (h : Heap) : Prop :=
  ptrOk A0 fun a1_ => 0 ≤ x3 ∧ x3 < ((n0 : Nat) : Int) ∧ (ptrOk A0 fun a2_ => 0 ≤ x1 ∧ x1 < ((n0 : Nat) : Int) ∧ (∃ v3_, ldv false 1 h (Addr.add a1_ (Int.toNat x3 * 1)) = some v3_ ∧ ∃ x4_, v3_ = (Value.int .i64 x4_) ∧ ∃ v5_, ldv false 1 h (Addr.add a2_ (Int.toNat x1 * 1)) = some v5_ ∧ ∃ x6_, v5_ = (Value.int .i64 x6_) ∧ ptrOk A0 fun a7_ => 0 ≤ x1 ∧ x1 < ((n0 : Nat) : Int) ∧ (∃ h8_, st1 h (Addr.add a7_ (Int.toNat x1 * 1)) (Value.int .i64 x4_) = some h8_ ∧ ptrOk A0 fun a9_ => 0 ≤ x3 ∧ x3 < ((n0 : Nat) : Int) ∧ (∃ h10_, st1 h8_ (Addr.add a9_ (Int.toNat x3 * 1)) (Value.int .i64 x6_) = some h10_ ∧ f129.l0 R A0 n0 c0 x1 (IntKind.wrap .i64 (x1 + (1 : Int))) (IntKind.wrap .i64 (x2 - (1 : Int))) h10_))))
set_option maxRecDepth 100000 in
theorem f129.run {R : Value → Heap → Prop} {A0 : Option Addr} {n0 : Nat} {c0 : Nat} {x1 : Int} {x2 : Int} {x3 : Int} {h : Heap} (H : f129.runT R A0 n0 c0 x1 x2 x3 h) : Run Try.prog 129 #[(Value.slice A0 n0 c0), (Value.int .i64 x1), (Value.int .i64 x2), (Value.int .i64 x3)] h R :=
  run_of mixed Try.func129 (by kernel_rfl) (by kernel_rfl) f129.good (Eq.mpr (show (Fwd Try.prog f129.T f129.kp Try.f129 R [] (mkFr (argL [(Value.slice A0 n0 c0), (Value.int .i64 x1), (Value.int .i64 x2), (Value.int .i64 x3)] 0)) h) = (f129.runT R A0 n0 c0 x1 x2 x3 h) by kernel_rfl) H)
def f78.T : Tab := { sh := tSh, tup := tTup, keep := [], plan := [(17, (.take 0 (.take 1 (.take 2 (.split 2 (.take 3 (.take 4 (.take 5 (.take 6 (.take 8 (.take 9 (.take 10 (.take 7 (.take 11 (.eff false 12 (.take 13 (.take 14 .done)))))))))))))))))] }
def f78.kp : Keep := [([false, false, true, true], [0, 1, 2, 3, 8, 9]), ([true, true, true, true, false, false, false, true, true], [0, 1, 2, 3, 8, 9, 10]), ([true, true, true, true, true, true, false, false, false, true, true], [0, 1, 2, 3, 8, 9, 10, 11, 12]), ([true, false, true, true, true, true, true, true, false, false, false, true, true], [0, 1, 2, 3, 8, 9, 10, 11, 68]), ([true, true, true, true, true, true, true, false, false, false, true, true], [0, 1, 2, 3, 8, 9, 10, 11]), ([true, false, true, true, true, true, true, true, true, false, false, false, true, true], [0, 1, 2, 3, 8, 9, 10, 11, 87]), ([true, true, true, true, true, true, true, true, false, false, false, true, true], [0, 1, 2, 3, 10, 11])]
theorem f78.good : goodCode Try.prog f78.T (rootOf Try.f78) = true := by kernel_rfl
def f78.l0 (R : Value → Heap → Prop) (A0 : Option Addr) (n0 : Nat) (c0 : Nat) (x1 : Int) (x2 : Int) (x3 : Int) (b8 : Bool) (b9 : Bool) (h : Heap) : Prop := Pt Try.prog Try.f78 R [false, false, true, true] (mkFr [(0, (Value.slice A0 n0 c0)), (1, (Value.int .i64 x1)), (2, (Value.int .i64 x2)), (3, (Value.int .i64 x3)), (8, (Value.bool b8)), (9, (Value.bool b9))]) h
def f78.j0 (R : Value → Heap → Prop) (A0 : Option Addr) (n0 : Nat) (c0 : Nat) (x1 : Int) (x2 : Int) (x3 : Int) (b8 : Bool) (b9 : Bool) (x10 : Int) (h : Heap) : Prop := Pt Try.prog Try.f78 R [true, true, true, true, false, false, false, true, true] (mkFr [(0, (Value.slice A0 n0 c0)), (1, (Value.int .i64 x1)), (2, (Value.int .i64 x2)), (3, (Value.int .i64 x3)), (8, (Value.bool b8)), (9, (Value.bool b9)), (10, (Value.int .i64 x10))]) h
def f78.j1 (R : Value → Heap → Prop) (A0 : Option Addr) (n0 : Nat) (c0 : Nat) (x1 : Int) (x2 : Int) (x3 : Int) (b8 : Bool) (b9 : Bool) (x10 : Int) (x11 : Int) (x12 : Int) (h : Heap) : Prop := Pt Try.prog Try.f78 R [true, true, true, true, true, true, false, false, false, true, true] (mkFr [(0, (Value.slice A0 n0 c0)), (1, (Value.int .i64 x1)), (2, (Value.int .i64 x2)), (3, (Value.int .i64 x3)), (8, (Value.bool b8)), (9, (Value.bool b9)), (10, (Value.int .i64 x10)), (11, (Value.int .i64 x11)), (12, (Value.int .i64 x12))]) h
def f78.j3 (R : Value → Heap → Prop) (A0 : Option Addr) (n0 : Nat) (c0 : Nat) (x1 : Int) (x2 : Int) (x3 : Int) (b8 : Bool) (b9 : Bool) (x10 : Int) (x11 : Int) (b68 : Bool) (h : Heap) : Prop := Pt Try.prog Try.f78 R [true, false, true, true, true, true, true, true, false, false, false, true, true] (mkFr [(0, (Value.slice A0 n0 c0)), (1, (Value.int .i64 x1)), (2, (Value.int .i64 x2)), (3, (Value.int .i64 x3)), (8, (Value.bool b8)), (9, (Value.bool b9)), (10, (Value.int .i64 x10)), (11, (Value.int .i64 x11)), (68, (Value.bool b68))]) h
def f78.j2 (R : Value → Heap → Prop) (A0 : Option Addr) (n0 : Nat) (c0 : Nat) (x1 : Int) (x2 : Int) (x3 : Int) (b8 : Bool) (b9 : Bool) (x10 : Int) (x11 : Int) (h : Heap) : Prop := Pt Try.prog Try.f78 R [true, true, true, true, true, true, true, false, false, false, true, true] (mkFr [(0, (Value.slice A0 n0 c0)), (1, (Value.int .i64 x1)), (2, (Value.int .i64 x2)), (3, (Value.int .i64 x3)), (8, (Value.bool b8)), (9, (Value.bool b9)), (10, (Value.int .i64 x10)), (11, (Value.int .i64 x11))]) h
def f78.j5 (R : Value → Heap → Prop) (A0 : Option Addr) (n0 : Nat) (c0 : Nat) (x1 : Int) (x2 : Int) (x3 : Int) (b8 : Bool) (b9 : Bool) (x10 : Int) (x11 : Int) (b87 : Bool) (h : Heap) : Prop := Pt Try.prog Try.f78 R [true, false, true, true, true, true, true, true, true, false, false, false, true, true] (mkFr [(0, (Value.slice A0 n0 c0)), (1, (Value.int .i64 x1)), (2, (Value.int .i64 x2)), (3, (Value.int .i64 x3)), (8, (Value.bool b8)), (9, (Value.bool b9)), (10, (Value.int .i64 x10)), (11, (Value.int .i64 x11)), (87, (Value.bool b87))]) h
def f78.j4 (R : Value → Heap → Prop) (A0 : Option Addr) (n0 : Nat) (c0 : Nat) (x1 : Int) (x2 : Int) (x3 : Int) (x10 : Int) (x11 : Int) (h : Heap) : Prop := Pt Try.prog Try.f78 R [true, true, true, true, true, true, true, true, false, false, false, true, true] (mkFr [(0, (Value.slice A0 n0 c0)), (1, (Value.int .i64 x1)), (2, (Value.int .i64 x2)), (3, (Value.int .i64 x3)), (10, (Value.int .i64 x10)), (11, (Value.int .i64 x11))]) h
set_option maxRecDepth 100000 in
def f78.l0T (R : Value → Heap → Prop) (A0 : Option Addr) (n0 : Nat) (c0 : Nat) (x1 : Int) (x2 : Int) (x3 : Int) (b8 : Bool) (b9 : Bool) (h : Heap) : Prop :=
  splitB (decide ((IntKind.wrap .i64 (x2 - x1)) ≤ (12 : Int))) (Run Try.prog 121 #[(Value.slice A0 n0 c0), (Value.int .i64 x1), (Value.int .i64 x2)] h fun v1_ h2_ => v1_ = (Value.tuple #[]) ∧ R (Value.tuple #[]) h2_) (splitB (x3 == (0 : Int)) (Run Try.prog 122 #[(Value.slice A0 n0 c0), (Value.int .i64 x1), (Value.int .i64 x2)] h fun v3_ h4_ => v3_ = (Value.tuple #[]) ∧ R (Value.tuple #[]) h4_) (splitB (!b8) (Run Try.prog 123 #[(Value.slice A0 n0 c0), (Value.int .i64 x1), (Value.int .i64 x2)] h fun v5_ h6_ => v5_ = (Value.tuple #[]) ∧ f78.j0 R A0 n0 c0 x1 x2 (IntKind.wrap .i64 (x3 - (1 : Int))) b8 b9 (IntKind.wrap .i64 (x2 - x1)) h6_) (f78.j0 R A0 n0 c0 x1 x2 x3 b8 b9 (IntKind.wrap .i64 (x2 - x1)) h)))
set_option maxRecDepth 100000 in
theorem f78.l0_in {R : Value → Heap → Prop} {A0 : Option Addr} {n0 : Nat} {c0 : Nat} {x1 : Int} {x2 : Int} {x3 : Int} {b8 : Bool} {b9 : Bool} {h : Heap} (H : f78.l0T R A0 n0 c0 x1 x2 x3 b8 b9 h) : f78.l0 R A0 n0 c0 x1 x2 x3 b8 b9 h :=
  pt_intro mixed f78.good (Eq.mpr (show (Fwd Try.prog f78.T f78.kp Try.f78 R [false, false, true, true] (mkFr [(0, (Value.slice A0 n0 c0)), (1, (Value.int .i64 x1)), (2, (Value.int .i64 x2)), (3, (Value.int .i64 x3)), (8, (Value.bool b8)), (9, (Value.bool b9))]) h) = (f78.l0T R A0 n0 c0 x1 x2 x3 b8 b9 h) by kernel_rfl) H)
set_option maxRecDepth 100000 in
def f78.j0T (R : Value → Heap → Prop) (A0 : Option Addr) (n0 : Nat) (c0 : Nat) (x1 : Int) (x2 : Int) (x3 : Int) (b8 : Bool) (b9 : Bool) (x10 : Int) (h : Heap) : Prop :=
  Run Try.prog 124 #[(Value.slice A0 n0 c0), (Value.int .i64 x1), (Value.int .i64 x2)] h fun v1_ h2_ => ∃ x3_, ∃ x4_, v1_ = (Value.tuple #[(Value.int .i64 x3_), (Value.int .i64 x4_)]) ∧ splitB (x4_ == (2 : Int)) (Run Try.prog 125 #[(Value.slice A0 n0 c0), (Value.int .i64 x1), (Value.int .i64 x2)] h2_ fun v5_ h6_ => v5_ = (Value.tuple #[]) ∧ f78.j1 R A0 n0 c0 x1 x2 x3 b8 b9 x10 (IntKind.wrap .i64 ((IntKind.wrap .i64 (x2 - (1 : Int))) - (IntKind.wrap .i64 (x3_ - x1)))) (1 : Int) h6_) (f78.j1 R A0 n0 c0 x1 x2 x3 b8 b9 x10 x3_ x4_ h2_)
set_option maxRecDepth 100000 in
theorem f78.j0_in {R : Value → Heap → Prop} {A0 : Option Addr} {n0 : Nat} {c0 : Nat} {x1 : Int} {x2 : Int} {x3 : Int} {b8 : Bool} {b9 : Bool} {x10 : Int} {h : Heap} (H : f78.j0T R A0 n0 c0 x1 x2 x3 b8 b9 x10 h) : f78.j0 R A0 n0 c0 x1 x2 x3 b8 b9 x10 h :=
  pt_intro mixed f78.good (Eq.mpr (show (Fwd Try.prog f78.T f78.kp Try.f78 R [true, true, true, true, false, false, false, true, true] (mkFr [(0, (Value.slice A0 n0 c0)), (1, (Value.int .i64 x1)), (2, (Value.int .i64 x2)), (3, (Value.int .i64 x3)), (8, (Value.bool b8)), (9, (Value.bool b9)), (10, (Value.int .i64 x10))]) h) = (f78.j0T R A0 n0 c0 x1 x2 x3 b8 b9 x10 h) by kernel_rfl) H)
set_option maxRecDepth 100000 in
def f78.j1T (R : Value → Heap → Prop) (A0 : Option Addr) (n0 : Nat) (c0 : Nat) (x1 : Int) (x2 : Int) (x3 : Int) (b8 : Bool) (b9 : Bool) (x10 : Int) (x11 : Int) (x12 : Int) (h : Heap) : Prop :=
  splitB b8 (splitB b9 (f78.j3 R A0 n0 c0 x1 x2 x3 b8 b9 x10 x11 (x12 == (1 : Int)) h) (f78.j3 R A0 n0 c0 x1 x2 x3 b8 b9 x10 x11 false h)) (f78.j3 R A0 n0 c0 x1 x2 x3 b8 b9 x10 x11 false h)
set_option maxRecDepth 100000 in
theorem f78.j1_in {R : Value → Heap → Prop} {A0 : Option Addr} {n0 : Nat} {c0 : Nat} {x1 : Int} {x2 : Int} {x3 : Int} {b8 : Bool} {b9 : Bool} {x10 : Int} {x11 : Int} {x12 : Int} {h : Heap} (H : f78.j1T R A0 n0 c0 x1 x2 x3 b8 b9 x10 x11 x12 h) : f78.j1 R A0 n0 c0 x1 x2 x3 b8 b9 x10 x11 x12 h :=
  pt_intro mixed f78.good (Eq.mpr (show (Fwd Try.prog f78.T f78.kp Try.f78 R [true, true, true, true, true, true, false, false, false, true, true] (mkFr [(0, (Value.slice A0 n0 c0)), (1, (Value.int .i64 x1)), (2, (Value.int .i64 x2)), (3, (Value.int .i64 x3)), (8, (Value.bool b8)), (9, (Value.bool b9)), (10, (Value.int .i64 x10)), (11, (Value.int .i64 x11)), (12, (Value.int .i64 x12))]) h) = (f78.j1T R A0 n0 c0 x1 x2 x3 b8 b9 x10 x11 x12 h) by kernel_rfl) H)
set_option maxRecDepth 100000 in
def f78.j3T (R : Value → Heap → Prop) (A0 : Option Addr) (n0 : Nat) (c0 : Nat) (x1 : Int) (x2 : Int) (x3 : Int) (b8 : Bool) (b9 : Bool) (x10 : Int) (x11 : Int) (b68 : Bool) (h : Heap) : Prop :=
  splitB b68 (Run Try.prog 126 #[(Value.slice A0 n0 c0), (Value.int .i64 x1), (Value.int .i64 x2)] h fun v1_ h2_ => ∃ b3_, v1_ = (Value.bool b3_) ∧ splitB b3_ (R (Value.tuple #[]) h2_) (f78.j2 R A0 n0 c0 x1 x2 x3 b8 b9 x10 x11 h2_)) (f78.j2 R A0 n0 c0 x1 x2 x3 b8 b9 x10 x11 h)
set_option maxRecDepth 100000 in
theorem f78.j3_in {R : Value → Heap → Prop} {A0 : Option Addr} {n0 : Nat} {c0 : Nat} {x1 : Int} {x2 : Int} {x3 : Int} {b8 : Bool} {b9 : Bool} {x10 : Int} {x11 : Int} {b68 : Bool} {h : Heap} (H : f78.j3T R A0 n0 c0 x1 x2 x3 b8 b9 x10 x11 b68 h) : f78.j3 R A0 n0 c0 x1 x2 x3 b8 b9 x10 x11 b68 h :=
  pt_intro mixed f78.good (Eq.mpr (show (Fwd Try.prog f78.T f78.kp Try.f78 R [true, false, true, true, true, true, true, true, false, false, false, true, true] (mkFr [(0, (Value.slice A0 n0 c0)), (1, (Value.int .i64 x1)), (2, (Value.int .i64 x2)), (3, (Value.int .i64 x3)), (8, (Value.bool b8)), (9, (Value.bool b9)), (10, (Value.int .i64 x10)), (11, (Value.int .i64 x11)), (68, (Value.bool b68))]) h) = (f78.j3T R A0 n0 c0 x1 x2 x3 b8 b9 x10 x11 b68 h) by kernel_rfl) H)
set_option maxRecDepth 100000 in
def f78.j2T (R : Value → Heap → Prop) (A0 : Option Addr) (n0 : Nat) (c0 : Nat) (x1 : Int) (x2 : Int) (x3 : Int) (b8 : Bool) (b9 : Bool) (x10 : Int) (x11 : Int) (h : Heap) : Prop :=
  splitB (decide (x1 > (0 : Int))) (ptrOk A0 fun a1_ => 0 ≤ (IntKind.wrap .i64 (x1 - (1 : Int))) ∧ (IntKind.wrap .i64 (x1 - (1 : Int))) < ((n0 : Nat) : Int) ∧ (ptrOk A0 fun a2_ => 0 ≤ x11 ∧ x11 < ((n0 : Nat) : Int) ∧ (∃ v3_, ldv false 1 h (Addr.add a1_ (Int.toNat (IntKind.wrap .i64 (x1 - (1 : Int))) * 1)) = some v3_ ∧ ∃ x4_, v3_ = (Value.int .i64 x4_) ∧ ∃ v5_, ldv false 1 h (Addr.add a2_ (Int.toNat x11 * 1)) = some v5_ ∧ ∃ x6_, v5_ = (Value.int .i64 x6_) ∧ Run Try.prog 127 #[(Value.int .i64 x4_), (Value.int .i64 x6_)] h fun v7_ h8_ => ∃ b9_, v7_ = (Value.bool b9_) ∧ f78.j5 R A0 n0 c0 x1 x2 x3 b8 b9 x10 x11 (!b9_) h8_))) (f78.j5 R A0 n0 c0 x1 x2 x3 b8 b9 x10 x11 false h)
set_option maxRecDepth 100000 in
theorem f78.j2_in {R : Value → Heap → Prop} {A0 : Option Addr} {n0 : Nat} {c0 : Nat} {x1 : Int} {x2 : Int} {x3 : Int} {b8 : Bool} {b9 : Bool} {x10 : Int} {x11 : Int} {h : Heap} (H : f78.j2T R A0 n0 c0 x1 x2 x3 b8 b9 x10 x11 h) : f78.j2 R A0 n0 c0 x1 x2 x3 b8 b9 x10 x11 h :=
  pt_intro mixed f78.good (Eq.mpr (show (Fwd Try.prog f78.T f78.kp Try.f78 R [true, true, true, true, true, true, true, false, false, false, true, true] (mkFr [(0, (Value.slice A0 n0 c0)), (1, (Value.int .i64 x1)), (2, (Value.int .i64 x2)), (3, (Value.int .i64 x3)), (8, (Value.bool b8)), (9, (Value.bool b9)), (10, (Value.int .i64 x10)), (11, (Value.int .i64 x11))]) h) = (f78.j2T R A0 n0 c0 x1 x2 x3 b8 b9 x10 x11 h) by kernel_rfl) H)
set_option maxRecDepth 100000 in
def f78.j5T (R : Value → Heap → Prop) (A0 : Option Addr) (n0 : Nat) (c0 : Nat) (x1 : Int) (x2 : Int) (x3 : Int) (b8 : Bool) (b9 : Bool) (x10 : Int) (x11 : Int) (b87 : Bool) (h : Heap) : Prop :=
  splitB b87 (Run Try.prog 128 #[(Value.slice A0 n0 c0), (Value.int .i64 x1), (Value.int .i64 x2), (Value.int .i64 x11)] h fun v1_ h2_ => ∃ x3_, v1_ = (Value.int .i64 x3_) ∧ f78.l0 R A0 n0 c0 x3_ x2 x3 b8 b9 h2_) (f78.j4 R A0 n0 c0 x1 x2 x3 x10 x11 h)
set_option maxRecDepth 100000 in
theorem f78.j5_in {R : Value → Heap → Prop} {A0 : Option Addr} {n0 : Nat} {c0 : Nat} {x1 : Int} {x2 : Int} {x3 : Int} {b8 : Bool} {b9 : Bool} {x10 : Int} {x11 : Int} {b87 : Bool} {h : Heap} (H : f78.j5T R A0 n0 c0 x1 x2 x3 b8 b9 x10 x11 b87 h) : f78.j5 R A0 n0 c0 x1 x2 x3 b8 b9 x10 x11 b87 h :=
  pt_intro mixed f78.good (Eq.mpr (show (Fwd Try.prog f78.T f78.kp Try.f78 R [true, false, true, true, true, true, true, true, true, false, false, false, true, true] (mkFr [(0, (Value.slice A0 n0 c0)), (1, (Value.int .i64 x1)), (2, (Value.int .i64 x2)), (3, (Value.int .i64 x3)), (8, (Value.bool b8)), (9, (Value.bool b9)), (10, (Value.int .i64 x10)), (11, (Value.int .i64 x11)), (87, (Value.bool b87))]) h) = (f78.j5T R A0 n0 c0 x1 x2 x3 b8 b9 x10 x11 b87 h) by kernel_rfl) H)
set_option maxRecDepth 100000 in
def f78.j4T (R : Value → Heap → Prop) (A0 : Option Addr) (n0 : Nat) (c0 : Nat) (x1 : Int) (x2 : Int) (x3 : Int) (x10 : Int) (x11 : Int) (h : Heap) : Prop :=
  Run Try.prog 129 #[(Value.slice A0 n0 c0), (Value.int .i64 x1), (Value.int .i64 x2), (Value.int .i64 x11)] h fun v1_ h2_ => ∃ x3_, ∃ b4_, v1_ = (Value.tuple #[(Value.int .i64 x3_), (Value.bool b4_)]) ∧ (8 : Int) ≠ 0 ∧ (splitB (decide ((IntKind.wrap .i64 (x3_ - x1)) < (IntKind.wrap .i64 (x2 - x3_)))) (Run Try.prog 78 #[(Value.slice A0 n0 c0), (Value.int .i64 x1), (Value.int .i64 x3_), (Value.int .i64 x3)] h2_ fun v5_ h6_ => v5_ = (Value.tuple #[]) ∧ f78.l0 R A0 n0 c0 (IntKind.wrap .i64 (x3_ + (1 : Int))) x2 x3 (decide ((IntKind.wrap .i64 (x3_ - x1)) ≥ (IntKind.wrap .i64 (Int.tdiv x10 (8 : Int))))) b4_ h6_) (Run Try.prog 78 #[(Value.slice A0 n0 c0), (Value.int .i64 (IntKind.wrap .i64 (x3_ + (1 : Int)))), (Value.int .i64 x2), (Value.int .i64 x3)] h2_ fun v7_ h8_ => v7_ = (Value.tuple #[]) ∧ f78.l0 R A0 n0 c0 x1 x3_ x3 (decide ((IntKind.wrap .i64 (x2 - x3_)) ≥ (IntKind.wrap .i64 (Int.tdiv x10 (8 : Int))))) b4_ h8_))
set_option maxRecDepth 100000 in
theorem f78.j4_in {R : Value → Heap → Prop} {A0 : Option Addr} {n0 : Nat} {c0 : Nat} {x1 : Int} {x2 : Int} {x3 : Int} {x10 : Int} {x11 : Int} {h : Heap} (H : f78.j4T R A0 n0 c0 x1 x2 x3 x10 x11 h) : f78.j4 R A0 n0 c0 x1 x2 x3 x10 x11 h :=
  pt_intro mixed f78.good (Eq.mpr (show (Fwd Try.prog f78.T f78.kp Try.f78 R [true, true, true, true, true, true, true, true, false, false, false, true, true] (mkFr [(0, (Value.slice A0 n0 c0)), (1, (Value.int .i64 x1)), (2, (Value.int .i64 x2)), (3, (Value.int .i64 x3)), (10, (Value.int .i64 x10)), (11, (Value.int .i64 x11))]) h) = (f78.j4T R A0 n0 c0 x1 x2 x3 x10 x11 h) by kernel_rfl) H)
set_option maxRecDepth 100000 in
def f78.runT (R : Value → Heap → Prop) (A0 : Option Addr) (n0 : Nat) (c0 : Nat) (x1 : Int) (x2 : Int) (x3 : Int) (h : Heap) : Prop :=
  f78.l0 R A0 n0 c0 x1 x2 x3 true true h
set_option maxRecDepth 100000 in
theorem f78.run {R : Value → Heap → Prop} {A0 : Option Addr} {n0 : Nat} {c0 : Nat} {x1 : Int} {x2 : Int} {x3 : Int} {h : Heap} (H : f78.runT R A0 n0 c0 x1 x2 x3 h) : Run Try.prog 78 #[(Value.slice A0 n0 c0), (Value.int .i64 x1), (Value.int .i64 x2), (Value.int .i64 x3)] h R :=
  run_of mixed Try.func78 (by kernel_rfl) (by kernel_rfl) f78.good (Eq.mpr (show (Fwd Try.prog f78.T f78.kp Try.f78 R [] (mkFr (argL [(Value.slice A0 n0 c0), (Value.int .i64 x1), (Value.int .i64 x2), (Value.int .i64 x3)] 0)) h) = (f78.runT R A0 n0 c0 x1 x2 x3 h) by kernel_rfl) H)
def f14.T : Tab := { sh := tSh, tup := tTup, keep := [], plan := [] }
def f14.kp : Keep := []
theorem f14.good : goodCode Try.prog f14.T (rootOf Try.f14) = true := by kernel_rfl
set_option maxRecDepth 100000 in
def f14.runT (R : Value → Heap → Prop) (A0 : Option Addr) (n0 : Nat) (c0 : Nat) (h : Heap) : Prop :=
  Run Try.prog 79 #[(Value.int .u64 (IntKind.wrap .u64 ((n0 : Nat) : Int)))] h fun v1_ h2_ => ∃ x3_, v1_ = (Value.int .i64 x3_) ∧ Run Try.prog 78 #[(Value.slice A0 n0 c0), (Value.int .i64 (0 : Int)), (Value.int .i64 ((n0 : Nat) : Int)), (Value.int .i64 x3_)] h2_ fun v4_ h5_ => v4_ = (Value.tuple #[]) ∧ R (Value.tuple #[]) h5_
set_option maxRecDepth 100000 in
theorem f14.run {R : Value → Heap → Prop} {A0 : Option Addr} {n0 : Nat} {c0 : Nat} {h : Heap} (H : f14.runT R A0 n0 c0 h) : Run Try.prog 14 #[(Value.slice A0 n0 c0)] h R :=
  run_of mixed Try.func14 (by kernel_rfl) (by kernel_rfl) f14.good (Eq.mpr (show (Fwd Try.prog f14.T f14.kp Try.f14 R [] (mkFr (argL [(Value.slice A0 n0 c0)] 0)) h) = (f14.runT R A0 n0 c0 h) by kernel_rfl) H)
def f132.T : Tab := { sh := tSh, tup := tTup, keep := [], plan := [] }
def f132.kp : Keep := [([true, false, true, true], [7, 19])]
theorem f132.good : goodCode Try.prog f132.T (rootOf Try.f132) = true := by kernel_rfl
def f132.j0 (R : Value → Heap → Prop) (x7 : Int) (b19 : Bool) (h : Heap) : Prop := Pt Try.prog Try.f132 R [true, false, true, true] (mkFr [(7, (Value.int .i64 x7)), (19, (Value.bool b19))]) h
set_option maxRecDepth 100000 in
def f132.j0T (R : Value → Heap → Prop) (x7 : Int) (b19 : Bool) (h : Heap) : Prop :=
  splitB b19 (R (Value.int .i64 (IntKind.wrap .i64 (x7 + (1 : Int)))) h) (R (Value.int .i64 x7) h)
set_option maxRecDepth 100000 in
theorem f132.j0_in {R : Value → Heap → Prop} {x7 : Int} {b19 : Bool} {h : Heap} (H : f132.j0T R x7 b19 h) : f132.j0 R x7 b19 h :=
  pt_intro mixed f132.good (Eq.mpr (show (Fwd Try.prog f132.T f132.kp Try.f132 R [true, false, true, true] (mkFr [(7, (Value.int .i64 x7)), (19, (Value.bool b19))]) h) = (f132.j0T R x7 b19 h) by kernel_rfl) H)
set_option maxRecDepth 100000 in
def f132.runT (R : Value → Heap → Prop) (x0 : Int) (x1 : Int) (x2 : Int) (h : Heap) : Prop :=
  (8 : Int) ≠ 0 ∧ (splitB (x0 == (1 : Int)) (f132.j0 R (IntKind.wrap .i64 ((IntKind.wrap .i64 ((1 : Int) + (IntKind.wrap .i64 (Int.tdiv (IntKind.wrap .i64 (x1 + (7 : Int))) (8 : Int))))) + x2)) true h) (f132.j0 R (IntKind.wrap .i64 ((IntKind.wrap .i64 ((1 : Int) + (IntKind.wrap .i64 (Int.tdiv (IntKind.wrap .i64 (x1 + (7 : Int))) (8 : Int))))) + x2)) (x0 == (4 : Int)) h))
set_option maxRecDepth 100000 in
theorem f132.run {R : Value → Heap → Prop} {x0 : Int} {x1 : Int} {x2 : Int} {h : Heap} (H : f132.runT R x0 x1 x2 h) : Run Try.prog 132 #[(Value.int .i64 x0), (Value.int .i64 x1), (Value.int .i64 x2)] h R :=
  run_of mixed Try.func132 (by kernel_rfl) (by kernel_rfl) f132.good (Eq.mpr (show (Fwd Try.prog f132.T f132.kp Try.f132 R [] (mkFr (argL [(Value.int .i64 x0), (Value.int .i64 x1), (Value.int .i64 x2)] 0)) h) = (f132.runT R x0 x1 x2 h) by kernel_rfl) H)
def f162.T : Tab := { sh := tSh, tup := tTup, keep := [], plan := [] }
def f162.kp : Keep := [([true, false, false, true], [1, 3]), ([true, false, true, true, false, false, true], [1, 24]), ([true, true, true, false, true, true, false, false, true], [1, 24]), ([true, true], [1])]
theorem f162.good : goodCode Try.prog f162.T (rootOf Try.f162) = true := by kernel_rfl
def f162.j1 (R : Value → Heap → Prop) (a1 : Addr) (b3 : Bool) (h : Heap) : Prop := Pt Try.prog Try.f162 R [true, false, false, true] (mkFr [(1, (Value.pointer (some a1))), (3, (Value.bool b3))]) h
def f162.j2 (R : Value → Heap → Prop) (a1 : Addr) (b24 : Bool) (h : Heap) : Prop := Pt Try.prog Try.f162 R [true, false, true, true, false, false, true] (mkFr [(1, (Value.pointer (some a1))), (24, (Value.bool b24))]) h
def f162.j0 (R : Value → Heap → Prop) (a1 : Addr) (h : Heap) : Prop := Pt Try.prog Try.f162 R [true, true] (mkFr [(1, (Value.pointer (some a1)))]) h
def f162.j3 (R : Value → Heap → Prop) (a1 : Addr) (b24 : Bool) (h : Heap) : Prop := Pt Try.prog Try.f162 R [true, true, true, false, true, true, false, false, true] (mkFr [(1, (Value.pointer (some a1))), (24, (Value.bool b24))]) h
set_option maxRecDepth 100000 in
def f162.j1T (R : Value → Heap → Prop) (a1 : Addr) (b3 : Bool) (h : Heap) : Prop :=
  splitB b3 (R (Value.bool false) h) (∃ v1_, ldv false 1 h (Addr.add a1 1) = some v1_ ∧ ∃ x2_, v1_ = (Value.int .i64 x2_) ∧ splitB (x2_ == (1 : Int)) (∃ v3_, ldv false 1 h (Addr.add a1 4) = some v3_ ∧ ∃ A4_, ∃ n4_, ∃ c4_, v3_ = (Value.slice A4_ n4_ c4_) ∧ f162.j2 R a1 (decide (((n4_ : Nat) : Int) > (0 : Int))) h) (∃ v5_, ldv false 1 h (Addr.add a1 1) = some v5_ ∧ ∃ x6_, v5_ = (Value.int .i64 x6_) ∧ splitB (x6_ == (2 : Int)) (∃ v7_, ldv false 1 h (Addr.add a1 4) = some v7_ ∧ ∃ A8_, ∃ n8_, ∃ c8_, v7_ = (Value.slice A8_ n8_ c8_) ∧ f162.j2 R a1 (decide (((n8_ : Nat) : Int) > (0 : Int))) h) (f162.j2 R a1 false h)))
set_option maxRecDepth 100000 in
theorem f162.j1_in {R : Value → Heap → Prop} {a1 : Addr} {b3 : Bool} {h : Heap} (H : f162.j1T R a1 b3 h) : f162.j1 R a1 b3 h :=
  pt_intro mixed f162.good (Eq.mpr (show (Fwd Try.prog f162.T f162.kp Try.f162 R [true, false, false, true] (mkFr [(1, (Value.pointer (some a1))), (3, (Value.bool b3))]) h) = (f162.j1T R a1 b3 h) by kernel_rfl) H)
set_option maxRecDepth 100000 in
def f162.j2T (R : Value → Heap → Prop) (a1 : Addr) (b24 : Bool) (h : Heap) : Prop :=
  splitB b24 (splitB b24 (R (Value.bool false) h) (f162.j0 R a1 h)) (∃ v1_, ldv false 1 h (Addr.add a1 1) = some v1_ ∧ ∃ x2_, v1_ = (Value.int .i64 x2_) ∧ splitB (x2_ != (2 : Int)) (∃ v3_, ldv false 1 h (Addr.add a1 1) = some v3_ ∧ ∃ x4_, v3_ = (Value.int .i64 x4_) ∧ splitB (x4_ != (3 : Int)) (∃ v5_, ldv false 1 h (Addr.add a1 3) = some v5_ ∧ ∃ s6_, v5_ = (Value.string s6_) ∧ f162.j3 R a1 (!(ByteArray.toList s6_ == ByteArray.toList (ByteArray.mk #[]))) h) (f162.j3 R a1 false h)) (f162.j3 R a1 false h))
set_option maxRecDepth 100000 in
theorem f162.j2_in {R : Value → Heap → Prop} {a1 : Addr} {b24 : Bool} {h : Heap} (H : f162.j2T R a1 b24 h) : f162.j2 R a1 b24 h :=
  pt_intro mixed f162.good (Eq.mpr (show (Fwd Try.prog f162.T f162.kp Try.f162 R [true, false, true, true, false, false, true] (mkFr [(1, (Value.pointer (some a1))), (24, (Value.bool b24))]) h) = (f162.j2T R a1 b24 h) by kernel_rfl) H)
set_option maxRecDepth 100000 in
def f162.j0T (R : Value → Heap → Prop) (a1 : Addr) (h : Heap) : Prop :=
  ∃ v1_, ldv false 1 h (Addr.add a1 1) = some v1_ ∧ ∃ x2_, v1_ = (Value.int .i64 x2_) ∧ splitB (x2_ != (5 : Int)) (R (Value.bool true) h) (∃ v3_, ldv false 1 h (Addr.add a1 4) = some v3_ ∧ ∃ A4_, ∃ n4_, ∃ c4_, v3_ = (Value.slice A4_ n4_ c4_) ∧ R (Value.bool (decide (((n4_ : Nat) : Int) ≤ (1 : Int)))) h)
set_option maxRecDepth 100000 in
theorem f162.j0_in {R : Value → Heap → Prop} {a1 : Addr} {h : Heap} (H : f162.j0T R a1 h) : f162.j0 R a1 h :=
  pt_intro mixed f162.good (Eq.mpr (show (Fwd Try.prog f162.T f162.kp Try.f162 R [true, true] (mkFr [(1, (Value.pointer (some a1)))]) h) = (f162.j0T R a1 h) by kernel_rfl) H)
set_option maxRecDepth 100000 in
def f162.j3T (R : Value → Heap → Prop) (a1 : Addr) (b24 : Bool) (h : Heap) : Prop :=
  splitB b24 (splitB b24 (R (Value.bool false) h) (f162.j0 R a1 h)) (∃ v1_, ldv false 1 h (Addr.add a1 1) = some v1_ ∧ ∃ x2_, v1_ = (Value.int .i64 x2_) ∧ splitB (x2_ != (1 : Int)) (∃ v3_, ldv false 1 h (Addr.add a1 1) = some v3_ ∧ ∃ x4_, v3_ = (Value.int .i64 x4_) ∧ splitB (x4_ != (4 : Int)) (∃ v5_, ldv false 1 h (Addr.add a1 2) = some v5_ ∧ ∃ x6_, v5_ = (Value.int .i64 x6_) ∧ splitB (x6_ != (0 : Int)) (R (Value.bool false) h) (f162.j0 R a1 h)) (f162.j0 R a1 h)) (f162.j0 R a1 h))
set_option maxRecDepth 100000 in
theorem f162.j3_in {R : Value → Heap → Prop} {a1 : Addr} {b24 : Bool} {h : Heap} (H : f162.j3T R a1 b24 h) : f162.j3 R a1 b24 h :=
  pt_intro mixed f162.good (Eq.mpr (show (Fwd Try.prog f162.T f162.kp Try.f162 R [true, true, true, false, true, true, false, false, true] (mkFr [(1, (Value.pointer (some a1))), (24, (Value.bool b24))]) h) = (f162.j3T R a1 b24 h) by kernel_rfl) H)
set_option maxRecDepth 100000 in
def f162.runT (R : Value → Heap → Prop) (v0 : Value) (h : Heap) : Prop :=
  newH h (Obj.cells ((v0).cells) 63) fun h1_ => ∃ v2_, ldv false 1 h1_ (Addr.add (⟨Array.size h, 0, none⟩) 3) = some v2_ ∧ ∃ s3_, v2_ = (Value.string s3_) ∧ splitB (decide (((ByteArray.size s3_ : Nat) : Int) > (64 : Int))) (f162.j1 R (⟨Array.size h, 0, none⟩) true h1_) (∃ v4_, ldv false 1 h1_ (Addr.add (⟨Array.size h, 0, none⟩) 4) = some v4_ ∧ ∃ A5_, ∃ n5_, ∃ c5_, v4_ = (Value.slice A5_ n5_ c5_) ∧ splitB (decide (((n5_ : Nat) : Int) > (400 : Int))) (f162.j1 R (⟨Array.size h, 0, none⟩) true h1_) (∃ v6_, ldv false 1 h1_ (Addr.add (⟨Array.size h, 0, none⟩) 1) = some v6_ ∧ ∃ x7_, v6_ = (Value.int .i64 x7_) ∧ splitB (decide (x7_ < (1 : Int))) (f162.j1 R (⟨Array.size h, 0, none⟩) true h1_) (∃ v8_, ldv false 1 h1_ (Addr.add (⟨Array.size h, 0, none⟩) 1) = some v8_ ∧ ∃ x9_, v8_ = (Value.int .i64 x9_) ∧ f162.j1 R (⟨Array.size h, 0, none⟩) (decide (x9_ > (5 : Int))) h1_)))
set_option maxRecDepth 100000 in
theorem f162.run {R : Value → Heap → Prop} {v0 : Value} {h : Heap} (H : f162.runT R v0 h) : Run Try.prog 162 #[v0] h R :=
  run_of mixed Try.func162 (by kernel_rfl) (by kernel_rfl) f162.good (Eq.mpr (show (Fwd Try.prog f162.T f162.kp Try.f162 R [] (mkFr (argL [v0] 0)) h) = (f162.runT R v0 h) by kernel_rfl) H)
def f163.T : Tab := { sh := tSh, tup := tTup, keep := [], plan := [] }
def f163.kp : Keep := []
theorem f163.good : goodCode Try.prog f163.T (rootOf Try.f163) = true := by kernel_rfl
set_option maxRecDepth 100000 in
def f163.runT (R : Value → Heap → Prop) (A0 : Option Addr) (n0 : Nat) (c0 : Nat) (h : Heap) : Prop :=
  splitB (Option.isNone A0) (R (Value.slice none 0 0) h) (newH h (Obj.cells #[] 54) fun h1_ => AppW 54 1 8 #[(Value.int .u64 (0 : Int))] (some ⟨Array.size h, 0, none⟩) 0 0 (Value.slice A0 n0 c0) h1_ fun v2_ h3_ => ∃ A4_, ∃ n4_, ∃ c4_, v2_ = (Value.slice A4_ n4_ c4_) ∧ R (Value.slice A4_ n4_ c4_) h3_)
set_option maxRecDepth 100000 in
theorem f163.run {R : Value → Heap → Prop} {A0 : Option Addr} {n0 : Nat} {c0 : Nat} {h : Heap} (H : f163.runT R A0 n0 c0 h) : Run Try.prog 163 #[(Value.slice A0 n0 c0)] h R :=
  run_of mixed Try.func163 (by kernel_rfl) (by kernel_rfl) f163.good (Eq.mpr (show (Fwd Try.prog f163.T f163.kp Try.f163 R [] (mkFr (argL [(Value.slice A0 n0 c0)] 0)) h) = (f163.runT R A0 n0 c0 h) by kernel_rfl) H)
def f164.T : Tab := { sh := tSh, tup := tTup, keep := [], plan := [] }
def f164.kp : Keep := []
theorem f164.good : goodCode Try.prog f164.T (rootOf Try.f164) = true := by kernel_rfl
set_option maxRecDepth 100000 in
def f164.runT (R : Value → Heap → Prop) (v0 : Value) (h : Heap) : Prop :=
  newH h (Obj.cells ((v0).cells) 63) fun h1_ => ∃ v2_, ldv false 1 h1_ (Addr.add (⟨Array.size h, 0, none⟩) 1) = some v2_ ∧ ∃ x3_, v2_ = (Value.int .i64 x3_) ∧ ∃ v4_, ldv false 1 h1_ (Addr.add (⟨Array.size h, 0, none⟩) 3) = some v4_ ∧ ∃ s5_, v4_ = (Value.string s5_) ∧ 0 ≤ (8 : Int) ∧ (∃ v6_, ldv false 1 h1_ (Addr.add (⟨Array.size h, 0, none⟩) 4) = some v6_ ∧ ∃ A7_, ∃ n7_, ∃ c7_, v6_ = (Value.slice A7_ n7_ c7_) ∧ 0 ≤ (20 : Int) ∧ (R (Value.int .u64 (bitsI .or .u64 (bitsI .or .u64 (IntKind.wrap .u64 x3_) (shlI .u64 (IntKind.wrap .u64 ((ByteArray.size s5_ : Nat) : Int)) (8 : Int))) (shlI .u64 (IntKind.wrap .u64 ((n7_ : Nat) : Int)) (20 : Int)))) h1_))
set_option maxRecDepth 100000 in
theorem f164.run {R : Value → Heap → Prop} {v0 : Value} {h : Heap} (H : f164.runT R v0 h) : Run Try.prog 164 #[v0] h R :=
  run_of mixed Try.func164 (by kernel_rfl) (by kernel_rfl) f164.good (Eq.mpr (show (Fwd Try.prog f164.T f164.kp Try.f164 R [] (mkFr (argL [v0] 0)) h) = (f164.runT R v0 h) by kernel_rfl) H)
def f134.T : Tab := { sh := tSh, tup := tTup, keep := [], plan := [(5, (.take 0 (.take 2 (.eff true 1 (.eff false 3 (.eff false 4 (.eff false 5 (.take 6 .done))))))))] }
def f134.kp : Keep := [([true, false, true, true, true], [0, 3, 7, 42]), ([true, true, true, true], [0, 3, 7]), ([false, false, true, false, true, true, true, true], [0, 3, 7, 8]), ([false, false, true, false, true, false, false, true, false, false, true, false, true, true, true, true], [0, 3, 7, 8, 9, 56])]
theorem f134.good : goodCode Try.prog f134.T (rootOf Try.f134) = true := by kernel_rfl
def f134.j1 (R : Value → Heap → Prop) (A0 : Option Addr) (n0 : Nat) (c0 : Nat) (a3 : Addr) (A7 : Option Addr) (n7 : Nat) (c7 : Nat) (b42 : Bool) (h : Heap) : Prop := Pt Try.prog Try.f134 R [true, false, true, true, true] (mkFr [(0, (Value.slice A0 n0 c0)), (3, (Value.pointer (some a3))), (7, (Value.slice A7 n7 c7)), (42, (Value.bool b42))]) h
def f134.j0 (R : Value → Heap → Prop) (A0 : Option Addr) (n0 : Nat) (c0 : Nat) (a3 : Addr) (A7 : Option Addr) (n7 : Nat) (c7 : Nat) (h : Heap) : Prop := Pt Try.prog Try.f134 R [true, true, true, true] (mkFr [(0, (Value.slice A0 n0 c0)), (3, (Value.pointer (some a3))), (7, (Value.slice A7 n7 c7))]) h
def f134.l0 (R : Value → Heap → Prop) (A0 : Option Addr) (n0 : Nat) (c0 : Nat) (a3 : Addr) (A7 : Option Addr) (n7 : Nat) (c7 : Nat) (x8 : Int) (h : Heap) : Prop := Pt Try.prog Try.f134 R [false, false, true, false, true, true, true, true] (mkFr [(0, (Value.slice A0 n0 c0)), (3, (Value.pointer (some a3))), (7, (Value.slice A7 n7 c7)), (8, (Value.int .i64 x8))]) h
def f134.l1 (R : Value → Heap → Prop) (A0 : Option Addr) (n0 : Nat) (c0 : Nat) (a3 : Addr) (A7 : Option Addr) (n7 : Nat) (c7 : Nat) (x8 : Int) (x9 : Int) (x56 : Int) (h : Heap) : Prop := Pt Try.prog Try.f134 R [false, false, true, false, true, false, false, true, false, false, true, false, true, true, true, true] (mkFr [(0, (Value.slice A0 n0 c0)), (3, (Value.pointer (some a3))), (7, (Value.slice A7 n7 c7)), (8, (Value.int .i64 x8)), (9, (Value.int .u64 x9)), (56, (Value.int .i64 x56))]) h
set_option maxRecDepth 100000 in
def f134.j1T (R : Value → Heap → Prop) (A0 : Option Addr) (n0 : Nat) (c0 : Nat) (a3 : Addr) (A7 : Option Addr) (n7 : Nat) (c7 : Nat) (b42 : Bool) (h : Heap) : Prop :=
  splitB b42 (∃ v1_, ldv false 1 h (Addr.add a3 2) = some v1_ ∧ ∃ x2_, v1_ = (Value.int .i64 x2_) ∧ newH h (Obj.cells #[(Value.int .u64 (IntKind.wrap .u64 x2_))] 54) fun h3_ => AppW 54 1 8 #[(Value.int .u64 (0 : Int))] A7 n7 c7 (Value.slice (some ⟨Array.size h, 0, none⟩) 1 1) h3_ fun v4_ h5_ => ∃ A6_, ∃ n6_, ∃ c6_, v4_ = (Value.slice A6_ n6_ c6_) ∧ f134.j0 R A0 n0 c0 a3 A6_ n6_ c6_ h5_) (f134.j0 R A0 n0 c0 a3 A7 n7 c7 h)
set_option maxRecDepth 100000 in
theorem f134.j1_in {R : Value → Heap → Prop} {A0 : Option Addr} {n0 : Nat} {c0 : Nat} {a3 : Addr} {A7 : Option Addr} {n7 : Nat} {c7 : Nat} {b42 : Bool} {h : Heap} (H : f134.j1T R A0 n0 c0 a3 A7 n7 c7 b42 h) : f134.j1 R A0 n0 c0 a3 A7 n7 c7 b42 h :=
  pt_intro mixed f134.good (Eq.mpr (show (Fwd Try.prog f134.T f134.kp Try.f134 R [true, false, true, true, true] (mkFr [(0, (Value.slice A0 n0 c0)), (3, (Value.pointer (some a3))), (7, (Value.slice A7 n7 c7)), (42, (Value.bool b42))]) h) = (f134.j1T R A0 n0 c0 a3 A7 n7 c7 b42 h) by kernel_rfl) H)
set_option maxRecDepth 100000 in
def f134.j0T (R : Value → Heap → Prop) (A0 : Option Addr) (n0 : Nat) (c0 : Nat) (a3 : Addr) (A7 : Option Addr) (n7 : Nat) (c7 : Nat) (h : Heap) : Prop :=
  f134.l0 R A0 n0 c0 a3 A7 n7 c7 (0 : Int) h
set_option maxRecDepth 100000 in
theorem f134.j0_in {R : Value → Heap → Prop} {A0 : Option Addr} {n0 : Nat} {c0 : Nat} {a3 : Addr} {A7 : Option Addr} {n7 : Nat} {c7 : Nat} {h : Heap} (H : f134.j0T R A0 n0 c0 a3 A7 n7 c7 h) : f134.j0 R A0 n0 c0 a3 A7 n7 c7 h :=
  pt_intro mixed f134.good (Eq.mpr (show (Fwd Try.prog f134.T f134.kp Try.f134 R [true, true, true, true] (mkFr [(0, (Value.slice A0 n0 c0)), (3, (Value.pointer (some a3))), (7, (Value.slice A7 n7 c7))]) h) = (f134.j0T R A0 n0 c0 a3 A7 n7 c7 h) by kernel_rfl) H)
set_option maxRecDepth 100000 in
def f134.l0T (R : Value → Heap → Prop) (A0 : Option Addr) (n0 : Nat) (c0 : Nat) (a3 : Addr) (A7 : Option Addr) (n7 : Nat) (c7 : Nat) (x8 : Int) (h : Heap) : Prop :=
  ∃ v1_, ldv false 1 h (Addr.add a3 3) = some v1_ ∧ ∃ s2_, v1_ = (Value.string s2_) ∧ splitB (decide (x8 < ((ByteArray.size s2_ : Nat) : Int))) (f134.l1 R A0 n0 c0 a3 A7 n7 c7 x8 (0 : Int) (0 : Int) h) (∃ v3_, ldv false 1 h (Addr.add a3 4) = some v3_ ∧ ∃ A4_, ∃ n4_, ∃ c4_, v3_ = (Value.slice A4_ n4_ c4_) ∧ AppW 54 1 8 #[(Value.int .u64 (0 : Int))] A7 n7 c7 (Value.slice A4_ n4_ c4_) h fun v5_ h6_ => ∃ A7_, ∃ n7_, ∃ c7_, v5_ = (Value.slice A7_ n7_ c7_) ∧ R (Value.tuple #[(Value.slice A7_ n7_ c7_), (Value.int .i64 ((n0 : Nat) : Int)), (Value.int .i64 (0 : Int))]) h6_)
set_option maxRecDepth 100000 in
theorem f134.l0_in {R : Value → Heap → Prop} {A0 : Option Addr} {n0 : Nat} {c0 : Nat} {a3 : Addr} {A7 : Option Addr} {n7 : Nat} {c7 : Nat} {x8 : Int} {h : Heap} (H : f134.l0T R A0 n0 c0 a3 A7 n7 c7 x8 h) : f134.l0 R A0 n0 c0 a3 A7 n7 c7 x8 h :=
  pt_intro mixed f134.good (Eq.mpr (show (Fwd Try.prog f134.T f134.kp Try.f134 R [false, false, true, false, true, true, true, true] (mkFr [(0, (Value.slice A0 n0 c0)), (3, (Value.pointer (some a3))), (7, (Value.slice A7 n7 c7)), (8, (Value.int .i64 x8))]) h) = (f134.l0T R A0 n0 c0 a3 A7 n7 c7 x8 h) by kernel_rfl) H)
set_option maxRecDepth 100000 in
def f134.l1T (R : Value → Heap → Prop) (A0 : Option Addr) (n0 : Nat) (c0 : Nat) (a3 : Addr) (A7 : Option Addr) (n7 : Nat) (c7 : Nat) (x8 : Int) (x9 : Int) (x56 : Int) (h : Heap) : Prop :=
  splitB (decide (x56 < (8 : Int))) (∃ v1_, ldv false 1 h (Addr.add a3 3) = some v1_ ∧ ∃ s2_, v1_ = (Value.string s2_) ∧ splitB (decide ((IntKind.wrap .i64 (x8 + x56)) < ((ByteArray.size s2_ : Nat) : Int))) (∃ v3_, ldv false 1 h (Addr.add a3 3) = some v3_ ∧ ∃ s4_, v3_ = (Value.string s4_) ∧ 0 ≤ (IntKind.wrap .i64 (x8 + x56)) ∧ ∃ y5_, s4_[Int.toNat (IntKind.wrap .i64 (x8 + x56))]? = some y5_ ∧ (0 ≤ (IntKind.wrap .i64 ((8 : Int) * x56)) ∧ (f134.l1 R A0 n0 c0 a3 A7 n7 c7 x8 (bitsI .or .u64 x9 (shlI .u64 (IntKind.wrap .u64 ((UInt8.toNat y5_ : Nat) : Int)) (IntKind.wrap .i64 ((8 : Int) * x56)))) (IntKind.wrap .i64 (x56 + (1 : Int))) h))) (f134.l1 R A0 n0 c0 a3 A7 n7 c7 x8 x9 (IntKind.wrap .i64 (x56 + (1 : Int))) h)) (newH h (Obj.cells #[(Value.int .u64 x9)] 54) fun h6_ => AppW 54 1 8 #[(Value.int .u64 (0 : Int))] A7 n7 c7 (Value.slice (some ⟨Array.size h, 0, none⟩) 1 1) h6_ fun v7_ h8_ => ∃ A9_, ∃ n9_, ∃ c9_, v7_ = (Value.slice A9_ n9_ c9_) ∧ f134.l0 R A0 n0 c0 a3 A9_ n9_ c9_ (IntKind.wrap .i64 (x8 + (8 : Int))) h8_)
set_option maxRecDepth 100000 in
theorem f134.l1_in {R : Value → Heap → Prop} {A0 : Option Addr} {n0 : Nat} {c0 : Nat} {a3 : Addr} {A7 : Option Addr} {n7 : Nat} {c7 : Nat} {x8 : Int} {x9 : Int} {x56 : Int} {h : Heap} (H : f134.l1T R A0 n0 c0 a3 A7 n7 c7 x8 x9 x56 h) : f134.l1 R A0 n0 c0 a3 A7 n7 c7 x8 x9 x56 h :=
  pt_intro mixed f134.good (Eq.mpr (show (Fwd Try.prog f134.T f134.kp Try.f134 R [false, false, true, false, true, false, false, true, false, false, true, false, true, true, true, true] (mkFr [(0, (Value.slice A0 n0 c0)), (3, (Value.pointer (some a3))), (7, (Value.slice A7 n7 c7)), (8, (Value.int .i64 x8)), (9, (Value.int .u64 x9)), (56, (Value.int .i64 x56))]) h) = (f134.l1T R A0 n0 c0 a3 A7 n7 c7 x8 x9 x56 h) by kernel_rfl) H)
set_option maxRecDepth 100000 in
def f134.runT (R : Value → Heap → Prop) (A0 : Option Addr) (n0 : Nat) (c0 : Nat) (v1 : Value) (h : Heap) : Prop :=
  newH h (Obj.cells ((v1).cells) 63) fun h1_ => ∃ v2_, ldv true 5 h1_ (⟨Array.size h, 0, none⟩) = some v2_ ∧ Run Try.prog 162 #[v2_] h1_ fun v3_ h4_ => ∃ b5_, v3_ = (Value.bool b5_) ∧ splitB (!b5_) (R (Value.tuple #[(Value.slice none 0 0), (Value.int .i64 (0 : Int)), (Value.int .i64 (1 : Int))]) h4_) (∃ v6_, ldv false 1 h4_ (Addr.add (⟨Array.size h, 0, none⟩) 1) = some v6_ ∧ ∃ x7_, v6_ = (Value.int .i64 x7_) ∧ ∃ v8_, ldv false 1 h4_ (Addr.add (⟨Array.size h, 0, none⟩) 3) = some v8_ ∧ ∃ s9_, v8_ = (Value.string s9_) ∧ ∃ v10_, ldv false 1 h4_ (Addr.add (⟨Array.size h, 0, none⟩) 4) = some v10_ ∧ ∃ A11_, ∃ n11_, ∃ c11_, v10_ = (Value.slice A11_ n11_ c11_) ∧ Run Try.prog 132 #[(Value.int .i64 x7_), (Value.int .i64 ((ByteArray.size s9_ : Nat) : Int)), (Value.int .i64 ((n11_ : Nat) : Int))] h4_ fun v12_ h13_ => ∃ x14_, v12_ = (Value.int .i64 x14_) ∧ splitB (decide (((n0 : Nat) : Int) > (IntKind.wrap .i64 ((4000 : Int) - x14_)))) (R (Value.tuple #[(Value.slice none 0 0), (Value.int .i64 (0 : Int)), (Value.int .i64 (6 : Int))]) h13_) (∃ v15_, ldv true 5 h13_ (⟨Array.size h, 0, none⟩) = some v15_ ∧ Run Try.prog 163 #[(Value.slice A0 n0 c0)] h13_ fun v16_ h17_ => ∃ A18_, ∃ n18_, ∃ c18_, v16_ = (Value.slice A18_ n18_ c18_) ∧ Ext h13_ h17_ ∧ (Run Try.prog 164 #[v15_] h17_ fun v19_ h20_ => ∃ x21_, v19_ = (Value.int .u64 x21_) ∧ newH h20_ (Obj.cells #[(Value.int .u64 x21_)] 54) fun h22_ => AppW 54 1 8 #[(Value.int .u64 (0 : Int))] A18_ n18_ c18_ (Value.slice (some ⟨Array.size h20_, 0, none⟩) 1 1) h22_ fun v23_ h24_ => ∃ A25_, ∃ n25_, ∃ c25_, v23_ = (Value.slice A25_ n25_ c25_) ∧ ∃ v26_, ldv false 1 h24_ (Addr.add (⟨Array.size h, 0, none⟩) 1) = some v26_ ∧ ∃ x27_, v26_ = (Value.int .i64 x27_) ∧ splitB (x27_ == (1 : Int)) (f134.j1 R A0 n0 c0 (⟨Array.size h, 0, none⟩) A25_ n25_ c25_ true h24_) (∃ v28_, ldv false 1 h24_ (Addr.add (⟨Array.size h, 0, none⟩) 1) = some v28_ ∧ ∃ x29_, v28_ = (Value.int .i64 x29_) ∧ f134.j1 R A0 n0 c0 (⟨Array.size h, 0, none⟩) A25_ n25_ c25_ (x29_ == (4 : Int)) h24_))))
set_option maxRecDepth 100000 in
theorem f134.run {R : Value → Heap → Prop} {A0 : Option Addr} {n0 : Nat} {c0 : Nat} {v1 : Value} {h : Heap} (H : f134.runT R A0 n0 c0 v1 h) : Run Try.prog 134 #[(Value.slice A0 n0 c0), v1] h R :=
  run_of mixed Try.func134 (by kernel_rfl) (by kernel_rfl) f134.good (Eq.mpr (show (Fwd Try.prog f134.T f134.kp Try.f134 R [] (mkFr (argL [(Value.slice A0 n0 c0), v1] 0)) h) = (f134.runT R A0 n0 c0 v1 h) by kernel_rfl) H)
def f135.T : Tab := { sh := tSh, tup := tTup, keep := [], plan := [(6, (.take 0 (.take 1 (.take 2 (.take 4 (.take 5 (.take 6 (.take 3 (.take 7 (.take 8 .done))))))))))] }
def f135.kp : Keep := [([false, false, true, false, true, true], [0, 1, 12, 13])]
theorem f135.good : goodCode Try.prog f135.T (rootOf Try.f135) = true := by kernel_rfl
def f135.l0 (R : Value → Heap → Prop) (A0 : Option Addr) (n0 : Nat) (c0 : Nat) (A1 : Option Addr) (n1 : Nat) (c1 : Nat) (x12 : Int) (x13 : Int) (h : Heap) : Prop := Pt Try.prog Try.f135 R [false, false, true, false, true, true] (mkFr [(0, (Value.slice A0 n0 c0)), (1, (Value.slice A1 n1 c1)), (12, (Value.int .i64 x12)), (13, (Value.int .i64 x13))]) h
set_option maxRecDepth 100000 in
def f135.l0T (R : Value → Heap → Prop) (A0 : Option Addr) (n0 : Nat) (c0 : Nat) (A1 : Option Addr) (n1 : Nat) (c1 : Nat) (x12 : Int) (x13 : Int) (h : Heap) : Prop :=
  splitB (decide (x13 < x12)) (ptrOk A0 fun a1_ => 0 ≤ x13 ∧ x13 < ((n0 : Nat) : Int) ∧ (ptrOk A1 fun a2_ => 0 ≤ x13 ∧ x13 < ((n1 : Nat) : Int) ∧ (∃ v3_, ldv false 1 h (Addr.add a1_ (Int.toNat x13 * 1)) = some v3_ ∧ ∃ x4_, v3_ = (Value.int .u64 x4_) ∧ ∃ v5_, ldv false 1 h (Addr.add a2_ (Int.toNat x13 * 1)) = some v5_ ∧ ∃ x6_, v5_ = (Value.int .u64 x6_) ∧ splitB (x4_ != x6_) (R (Value.bool false) h) (f135.l0 R A0 n0 c0 A1 n1 c1 x12 (IntKind.wrap .i64 (x13 + (1 : Int))) h)))) (R (Value.bool true) h)
set_option maxRecDepth 100000 in
theorem f135.l0_in {R : Value → Heap → Prop} {A0 : Option Addr} {n0 : Nat} {c0 : Nat} {A1 : Option Addr} {n1 : Nat} {c1 : Nat} {x12 : Int} {x13 : Int} {h : Heap} (H : f135.l0T R A0 n0 c0 A1 n1 c1 x12 x13 h) : f135.l0 R A0 n0 c0 A1 n1 c1 x12 x13 h :=
  pt_intro mixed f135.good (Eq.mpr (show (Fwd Try.prog f135.T f135.kp Try.f135 R [false, false, true, false, true, true] (mkFr [(0, (Value.slice A0 n0 c0)), (1, (Value.slice A1 n1 c1)), (12, (Value.int .i64 x12)), (13, (Value.int .i64 x13))]) h) = (f135.l0T R A0 n0 c0 A1 n1 c1 x12 x13 h) by kernel_rfl) H)
set_option maxRecDepth 100000 in
def f135.runT (R : Value → Heap → Prop) (A0 : Option Addr) (n0 : Nat) (c0 : Nat) (A1 : Option Addr) (n1 : Nat) (c1 : Nat) (h : Heap) : Prop :=
  splitB (((n0 : Nat) : Int) != ((n1 : Nat) : Int)) (R (Value.bool false) h) (f135.l0 R A0 n0 c0 A1 n1 c1 ((n0 : Nat) : Int) (0 : Int) h)
set_option maxRecDepth 100000 in
theorem f135.run {R : Value → Heap → Prop} {A0 : Option Addr} {n0 : Nat} {c0 : Nat} {A1 : Option Addr} {n1 : Nat} {c1 : Nat} {h : Heap} (H : f135.runT R A0 n0 c0 A1 n1 c1 h) : Run Try.prog 135 #[(Value.slice A0 n0 c0), (Value.slice A1 n1 c1)] h R :=
  run_of mixed Try.func135 (by kernel_rfl) (by kernel_rfl) f135.good (Eq.mpr (show (Fwd Try.prog f135.T f135.kp Try.f135 R [] (mkFr (argL [(Value.slice A0 n0 c0), (Value.slice A1 n1 c1)] 0)) h) = (f135.runT R A0 n0 c0 A1 n1 c1 h) by kernel_rfl) H)
def f85.T : Tab := { sh := tSh, tup := tTup, keep := [], plan := [(19, (.take 0 (.take 2 (.take 3 (.take 4 (.take 5 (.take 6 (.take 7 (.take 1 (.eff false 8 (.take 9 (.eff false 10 .done))))))))))))] }
def f85.kp : Keep := [([true, false, true], [0, 1, 4, 23]), ([true, true], [0, 1, 4]), ([true, false, true, true, true, true], [0, 1, 4, 7, 8, 9, 53]), ([true, true, true, true, true], [0, 1, 4, 7, 8, 9]), ([true, false, true, true, true, true, true, true, true], [0, 1, 4, 8, 9, 10, 65]), ([true, true, true, true, true, true, true, true], [0, 1, 4, 8, 9, 10]), ([false, false, true, false, true, true, true, true, true, true, true, true, true], [0, 1, 4, 8, 9, 10, 11, 74, 75]), ([true, true, false, true, true, true, true, true, true, true, true, true, true, true, true], [4, 10, 131]), ([true, true, true, true, true, true, true, true, true, true, true, true, true], [4, 10])]
theorem f85.good : goodCode Try.prog f85.T (rootOf Try.f85) = true := by kernel_rfl
def f85.j1 (R : Value → Heap → Prop) (A0 : Option Addr) (n0 : Nat) (c0 : Nat) (x1 : Int) (a4 : Addr) (b23 : Bool) (h : Heap) : Prop := Pt Try.prog Try.f85 R [true, false, true] (mkFr [(0, (Value.slice A0 n0 c0)), (1, (Value.int .i64 x1)), (4, (Value.pointer (some a4))), (23, (Value.bool b23))]) h
def f85.j0 (R : Value → Heap → Prop) (A0 : Option Addr) (n0 : Nat) (c0 : Nat) (x1 : Int) (a4 : Addr) (h : Heap) : Prop := Pt Try.prog Try.f85 R [true, true] (mkFr [(0, (Value.slice A0 n0 c0)), (1, (Value.int .i64 x1)), (4, (Value.pointer (some a4)))]) h
def f85.j3 (R : Value → Heap → Prop) (A0 : Option Addr) (n0 : Nat) (c0 : Nat) (x1 : Int) (a4 : Addr) (x7 : Int) (x8 : Int) (x9 : Int) (b53 : Bool) (h : Heap) : Prop := Pt Try.prog Try.f85 R [true, false, true, true, true, true] (mkFr [(0, (Value.slice A0 n0 c0)), (1, (Value.int .i64 x1)), (4, (Value.pointer (some a4))), (7, (Value.int .i64 x7)), (8, (Value.int .i64 x8)), (9, (Value.int .i64 x9)), (53, (Value.bool b53))]) h
def f85.j2 (R : Value → Heap → Prop) (A0 : Option Addr) (n0 : Nat) (c0 : Nat) (x1 : Int) (a4 : Addr) (x7 : Int) (x8 : Int) (x9 : Int) (h : Heap) : Prop := Pt Try.prog Try.f85 R [true, true, true, true, true] (mkFr [(0, (Value.slice A0 n0 c0)), (1, (Value.int .i64 x1)), (4, (Value.pointer (some a4))), (7, (Value.int .i64 x7)), (8, (Value.int .i64 x8)), (9, (Value.int .i64 x9))]) h
def f85.j5 (R : Value → Heap → Prop) (A0 : Option Addr) (n0 : Nat) (c0 : Nat) (x1 : Int) (a4 : Addr) (x8 : Int) (x9 : Int) (a10 : Addr) (b65 : Bool) (h : Heap) : Prop := Pt Try.prog Try.f85 R [true, false, true, true, true, true, true, true, true] (mkFr [(0, (Value.slice A0 n0 c0)), (1, (Value.int .i64 x1)), (4, (Value.pointer (some a4))), (8, (Value.int .i64 x8)), (9, (Value.int .i64 x9)), (10, (Value.pointer (some a10))), (65, (Value.bool b65))]) h
def f85.j4 (R : Value → Heap → Prop) (A0 : Option Addr) (n0 : Nat) (c0 : Nat) (x1 : Int) (a4 : Addr) (x8 : Int) (x9 : Int) (a10 : Addr) (h : Heap) : Prop := Pt Try.prog Try.f85 R [true, true, true, true, true, true, true, true] (mkFr [(0, (Value.slice A0 n0 c0)), (1, (Value.int .i64 x1)), (4, (Value.pointer (some a4))), (8, (Value.int .i64 x8)), (9, (Value.int .i64 x9)), (10, (Value.pointer (some a10)))]) h
def f85.l0 (R : Value → Heap → Prop) (A0 : Option Addr) (n0 : Nat) (c0 : Nat) (x1 : Int) (a4 : Addr) (x8 : Int) (x9 : Int) (a10 : Addr) (A11 : Option Addr) (n11 : Nat) (c11 : Nat) (x74 : Int) (x75 : Int) (h : Heap) : Prop := Pt Try.prog Try.f85 R [false, false, true, false, true, true, true, true, true, true, true, true, true] (mkFr [(0, (Value.slice A0 n0 c0)), (1, (Value.int .i64 x1)), (4, (Value.pointer (some a4))), (8, (Value.int .i64 x8)), (9, (Value.int .i64 x9)), (10, (Value.pointer (some a10))), (11, (Value.slice A11 n11 c11)), (74, (Value.int .i64 x74)), (75, (Value.int .i64 x75))]) h
def f85.j7 (R : Value → Heap → Prop) (a4 : Addr) (a10 : Addr) (b131 : Bool) (h : Heap) : Prop := Pt Try.prog Try.f85 R [true, true, false, true, true, true, true, true, true, true, true, true, true, true, true] (mkFr [(4, (Value.pointer (some a4))), (10, (Value.pointer (some a10))), (131, (Value.bool b131))]) h
def f85.j6 (R : Value → Heap → Prop) (a4 : Addr) (a10 : Addr) (h : Heap) : Prop := Pt Try.prog Try.f85 R [true, true, true, true, true, true, true, true, true, true, true, true, true] (mkFr [(4, (Value.pointer (some a4))), (10, (Value.pointer (some a10)))]) h
set_option maxRecDepth 100000 in
def f85.j1T (R : Value → Heap → Prop) (A0 : Option Addr) (n0 : Nat) (c0 : Nat) (x1 : Int) (a4 : Addr) (b23 : Bool) (h : Heap) : Prop :=
  splitB b23 (∃ l2_ : List Value, (Value.agg #[(Value.int .i64 (0 : Int)), (Value.int .i64 (0 : Int)), (Value.int .i64 (0 : Int)), (Value.string (ByteArray.mk #[])), (Value.slice none 0 0)]) = Value.agg l2_.toArray ∧ l2_.length = 5 ∧ ∃ h1_, stH h a4 l2_ 0 = some h1_ ∧ ∃ v3_, ldv true 5 h1_ a4 = some v3_ ∧ R (Value.tuple #[v3_, (Value.int .i64 (4 : Int))]) h1_) (f85.j0 R A0 n0 c0 x1 a4 h)
set_option maxRecDepth 100000 in
theorem f85.j1_in {R : Value → Heap → Prop} {A0 : Option Addr} {n0 : Nat} {c0 : Nat} {x1 : Int} {a4 : Addr} {b23 : Bool} {h : Heap} (H : f85.j1T R A0 n0 c0 x1 a4 b23 h) : f85.j1 R A0 n0 c0 x1 a4 b23 h :=
  pt_intro mixed f85.good (Eq.mpr (show (Fwd Try.prog f85.T f85.kp Try.f85 R [true, false, true] (mkFr [(0, (Value.slice A0 n0 c0)), (1, (Value.int .i64 x1)), (4, (Value.pointer (some a4))), (23, (Value.bool b23))]) h) = (f85.j1T R A0 n0 c0 x1 a4 b23 h) by kernel_rfl) H)
set_option maxRecDepth 100000 in
def f85.j0T (R : Value → Heap → Prop) (A0 : Option Addr) (n0 : Nat) (c0 : Nat) (x1 : Int) (a4 : Addr) (h : Heap) : Prop :=
  ptrOk A0 fun a1_ => 0 ≤ x1 ∧ x1 < ((n0 : Nat) : Int) ∧ (∃ v2_, ldv false 1 h (Addr.add a1_ (Int.toNat x1 * 1)) = some v2_ ∧ ∃ x3_, v2_ = (Value.int .u64 x3_) ∧ 0 ≤ (8 : Int) ∧ (0 ≤ (20 : Int) ∧ (0 ≤ (32 : Int) ∧ (splitB ((shrI .u64 x3_ (32 : Int)) != (0 : Int)) (f85.j3 R A0 n0 c0 x1 a4 (IntKind.wrap .i64 (bitsI .and .u64 x3_ (255 : Int))) (IntKind.wrap .i64 (bitsI .and .u64 (shrI .u64 x3_ (8 : Int)) (4095 : Int))) (IntKind.wrap .i64 (bitsI .and .u64 (shrI .u64 x3_ (20 : Int)) (4095 : Int))) true h) (Run Try.prog 132 #[(Value.int .i64 (IntKind.wrap .i64 (bitsI .and .u64 x3_ (255 : Int)))), (Value.int .i64 (IntKind.wrap .i64 (bitsI .and .u64 (shrI .u64 x3_ (8 : Int)) (4095 : Int)))), (Value.int .i64 (IntKind.wrap .i64 (bitsI .and .u64 (shrI .u64 x3_ (20 : Int)) (4095 : Int))))] h fun v4_ h5_ => ∃ x6_, v4_ = (Value.int .i64 x6_) ∧ f85.j3 R A0 n0 c0 x1 a4 (IntKind.wrap .i64 (bitsI .and .u64 x3_ (255 : Int))) (IntKind.wrap .i64 (bitsI .and .u64 (shrI .u64 x3_ (8 : Int)) (4095 : Int))) (IntKind.wrap .i64 (bitsI .and .u64 (shrI .u64 x3_ (20 : Int)) (4095 : Int))) (decide (x6_ > (IntKind.wrap .i64 (((n0 : Nat) : Int) - x1)))) h5_)))))
set_option maxRecDepth 100000 in
theorem f85.j0_in {R : Value → Heap → Prop} {A0 : Option Addr} {n0 : Nat} {c0 : Nat} {x1 : Int} {a4 : Addr} {h : Heap} (H : f85.j0T R A0 n0 c0 x1 a4 h) : f85.j0 R A0 n0 c0 x1 a4 h :=
  pt_intro mixed f85.good (Eq.mpr (show (Fwd Try.prog f85.T f85.kp Try.f85 R [true, true] (mkFr [(0, (Value.slice A0 n0 c0)), (1, (Value.int .i64 x1)), (4, (Value.pointer (some a4)))]) h) = (f85.j0T R A0 n0 c0 x1 a4 h) by kernel_rfl) H)
set_option maxRecDepth 100000 in
def f85.j3T (R : Value → Heap → Prop) (A0 : Option Addr) (n0 : Nat) (c0 : Nat) (x1 : Int) (a4 : Addr) (x7 : Int) (x8 : Int) (x9 : Int) (b53 : Bool) (h : Heap) : Prop :=
  splitB b53 (∃ l2_ : List Value, (Value.agg #[(Value.int .i64 (0 : Int)), (Value.int .i64 (0 : Int)), (Value.int .i64 (0 : Int)), (Value.string (ByteArray.mk #[])), (Value.slice none 0 0)]) = Value.agg l2_.toArray ∧ l2_.length = 5 ∧ ∃ h1_, stH h a4 l2_ 0 = some h1_ ∧ ∃ v3_, ldv true 5 h1_ a4 = some v3_ ∧ R (Value.tuple #[v3_, (Value.int .i64 (3 : Int))]) h1_) (f85.j2 R A0 n0 c0 x1 a4 x7 x8 x9 h)
set_option maxRecDepth 100000 in
theorem f85.j3_in {R : Value → Heap → Prop} {A0 : Option Addr} {n0 : Nat} {c0 : Nat} {x1 : Int} {a4 : Addr} {x7 : Int} {x8 : Int} {x9 : Int} {b53 : Bool} {h : Heap} (H : f85.j3T R A0 n0 c0 x1 a4 x7 x8 x9 b53 h) : f85.j3 R A0 n0 c0 x1 a4 x7 x8 x9 b53 h :=
  pt_intro mixed f85.good (Eq.mpr (show (Fwd Try.prog f85.T f85.kp Try.f85 R [true, false, true, true, true, true] (mkFr [(0, (Value.slice A0 n0 c0)), (1, (Value.int .i64 x1)), (4, (Value.pointer (some a4))), (7, (Value.int .i64 x7)), (8, (Value.int .i64 x8)), (9, (Value.int .i64 x9)), (53, (Value.bool b53))]) h) = (f85.j3T R A0 n0 c0 x1 a4 x7 x8 x9 b53 h) by kernel_rfl) H)
set_option maxRecDepth 100000 in
def f85.j2T (R : Value → Heap → Prop) (A0 : Option Addr) (n0 : Nat) (c0 : Nat) (x1 : Int) (a4 : Addr) (x7 : Int) (x8 : Int) (x9 : Int) (h : Heap) : Prop :=
  newH h (Obj.cells #[(Value.int .i64 (0 : Int)), (Value.int .i64 (0 : Int)), (Value.int .i64 (0 : Int)), (Value.string (ByteArray.mk #[])), (Value.slice none 0 0)] 63) fun h1_ => ∃ l3_ : List Value, (Value.agg #[(Value.int .i64 x1), (Value.int .i64 x7), (Value.int .i64 (0 : Int)), (Value.string (ByteArray.mk #[])), (Value.slice none 0 0)]) = Value.agg l3_.toArray ∧ l3_.length = 5 ∧ ∃ h2_, stH h1_ (⟨Array.size h, 0, none⟩) l3_ 0 = some h2_ ∧ splitB (x7 == (1 : Int)) (f85.j5 R A0 n0 c0 (IntKind.wrap .i64 (x1 + (1 : Int))) a4 x8 x9 (⟨Array.size h, 0, none⟩) true h2_) (f85.j5 R A0 n0 c0 (IntKind.wrap .i64 (x1 + (1 : Int))) a4 x8 x9 (⟨Array.size h, 0, none⟩) (x7 == (4 : Int)) h2_)
set_option maxRecDepth 100000 in
theorem f85.j2_in {R : Value → Heap → Prop} {A0 : Option Addr} {n0 : Nat} {c0 : Nat} {x1 : Int} {a4 : Addr} {x7 : Int} {x8 : Int} {x9 : Int} {h : Heap} (H : f85.j2T R A0 n0 c0 x1 a4 x7 x8 x9 h) : f85.j2 R A0 n0 c0 x1 a4 x7 x8 x9 h :=
  pt_intro mixed f85.good (Eq.mpr (show (Fwd Try.prog f85.T f85.kp Try.f85 R [true, true, true, true, true] (mkFr [(0, (Value.slice A0 n0 c0)), (1, (Value.int .i64 x1)), (4, (Value.pointer (some a4))), (7, (Value.int .i64 x7)), (8, (Value.int .i64 x8)), (9, (Value.int .i64 x9))]) h) = (f85.j2T R A0 n0 c0 x1 a4 x7 x8 x9 h) by kernel_rfl) H)
set_option maxRecDepth 100000 in
def f85.j5T (R : Value → Heap → Prop) (A0 : Option Addr) (n0 : Nat) (c0 : Nat) (x1 : Int) (a4 : Addr) (x8 : Int) (x9 : Int) (a10 : Addr) (b65 : Bool) (h : Heap) : Prop :=
  splitB b65 (ptrOk A0 fun a1_ => 0 ≤ x1 ∧ x1 < ((n0 : Nat) : Int) ∧ (∃ v2_, ldv false 1 h (Addr.add a1_ (Int.toNat x1 * 1)) = some v2_ ∧ ∃ x3_, v2_ = (Value.int .u64 x3_) ∧ ∃ h4_, st1 h (Addr.add a10 2) (Value.int .i64 (IntKind.wrap .i64 x3_)) = some h4_ ∧ f85.j4 R A0 n0 c0 (IntKind.wrap .i64 (x1 + (1 : Int))) a4 x8 x9 a10 h4_)) (f85.j4 R A0 n0 c0 x1 a4 x8 x9 a10 h)
set_option maxRecDepth 100000 in
theorem f85.j5_in {R : Value → Heap → Prop} {A0 : Option Addr} {n0 : Nat} {c0 : Nat} {x1 : Int} {a4 : Addr} {x8 : Int} {x9 : Int} {a10 : Addr} {b65 : Bool} {h : Heap} (H : f85.j5T R A0 n0 c0 x1 a4 x8 x9 a10 b65 h) : f85.j5 R A0 n0 c0 x1 a4 x8 x9 a10 b65 h :=
  pt_intro mixed f85.good (Eq.mpr (show (Fwd Try.prog f85.T f85.kp Try.f85 R [true, false, true, true, true, true, true, true, true] (mkFr [(0, (Value.slice A0 n0 c0)), (1, (Value.int .i64 x1)), (4, (Value.pointer (some a4))), (8, (Value.int .i64 x8)), (9, (Value.int .i64 x9)), (10, (Value.pointer (some a10))), (65, (Value.bool b65))]) h) = (f85.j5T R A0 n0 c0 x1 a4 x8 x9 a10 b65 h) by kernel_rfl) H)
set_option maxRecDepth 100000 in
def f85.j4T (R : Value → Heap → Prop) (A0 : Option Addr) (n0 : Nat) (c0 : Nat) (x1 : Int) (a4 : Addr) (x8 : Int) (x9 : Int) (a10 : Addr) (h : Heap) : Prop :=
  f85.l0 R A0 n0 c0 x1 a4 x8 x9 a10 none 0 0 x8 (0 : Int) h
set_option maxRecDepth 100000 in
theorem f85.j4_in {R : Value → Heap → Prop} {A0 : Option Addr} {n0 : Nat} {c0 : Nat} {x1 : Int} {a4 : Addr} {x8 : Int} {x9 : Int} {a10 : Addr} {h : Heap} (H : f85.j4T R A0 n0 c0 x1 a4 x8 x9 a10 h) : f85.j4 R A0 n0 c0 x1 a4 x8 x9 a10 h :=
  pt_intro mixed f85.good (Eq.mpr (show (Fwd Try.prog f85.T f85.kp Try.f85 R [true, true, true, true, true, true, true, true] (mkFr [(0, (Value.slice A0 n0 c0)), (1, (Value.int .i64 x1)), (4, (Value.pointer (some a4))), (8, (Value.int .i64 x8)), (9, (Value.int .i64 x9)), (10, (Value.pointer (some a10)))]) h) = (f85.j4T R A0 n0 c0 x1 a4 x8 x9 a10 h) by kernel_rfl) H)
set_option maxRecDepth 100000 in
def f85.l0T (R : Value → Heap → Prop) (A0 : Option Addr) (n0 : Nat) (c0 : Nat) (x1 : Int) (a4 : Addr) (x8 : Int) (x9 : Int) (a10 : Addr) (A11 : Option Addr) (n11 : Nat) (c11 : Nat) (x74 : Int) (x75 : Int) (h : Heap) : Prop :=
  splitB (decide (x75 < x74)) ((8 : Int) ≠ 0 ∧ (ptrOk A0 fun a1_ => 0 ≤ (IntKind.wrap .i64 (x1 + (IntKind.wrap .i64 (Int.tdiv x75 (8 : Int))))) ∧ (IntKind.wrap .i64 (x1 + (IntKind.wrap .i64 (Int.tdiv x75 (8 : Int))))) < ((n0 : Nat) : Int) ∧ (∃ v2_, ldv false 1 h (Addr.add a1_ (Int.toNat (IntKind.wrap .i64 (x1 + (IntKind.wrap .i64 (Int.tdiv x75 (8 : Int))))) * 1)) = some v2_ ∧ ∃ x3_, v2_ = (Value.int .u64 x3_) ∧ (8 : Int) ≠ 0 ∧ (0 ≤ (IntKind.wrap .i64 ((8 : Int) * (Int.tmod x75 (8 : Int)))) ∧ (newH h (Obj.cells #[(Value.int .u8 (IntKind.wrap .u8 (shrI .u64 x3_ (IntKind.wrap .i64 ((8 : Int) * (Int.tmod x75 (8 : Int)))))))] 5) fun h4_ => AppW 5 1 1 #[(Value.int .u8 (0 : Int))] A11 n11 c11 (Value.slice (some ⟨Array.size h, 0, none⟩) 1 1) h4_ fun v5_ h6_ => ∃ A7_, ∃ n7_, ∃ c7_, v5_ = (Value.slice A7_ n7_ c7_) ∧ f85.l0 R A0 n0 c0 x1 a4 x8 x9 a10 A7_ n7_ c7_ x74 (IntKind.wrap .i64 (x75 + (1 : Int))) h6_))))) (Gen Try.prog (convert 117 9 (Value.slice A11 n11 c11)) h fun v8_ h9_ => ∃ s10_, v8_ = (Value.string s10_) ∧ (8 : Int) ≠ 0 ∧ (∃ h11_, st1 h9_ (Addr.add a10 3) (Value.string s10_) = some h11_ ∧ 0 ≤ (IntKind.wrap .i64 (x1 + (IntKind.wrap .i64 (Int.tdiv (IntKind.wrap .i64 (x8 + (7 : Int))) (8 : Int))))) ∧ (IntKind.wrap .i64 (x1 + (IntKind.wrap .i64 (Int.tdiv (IntKind.wrap .i64 (x8 + (7 : Int))) (8 : Int))))) ≤ (IntKind.wrap .i64 ((IntKind.wrap .i64 (x1 + (IntKind.wrap .i64 (Int.tdiv (IntKind.wrap .i64 (x8 + (7 : Int))) (8 : Int))))) + x9)) ∧ (IntKind.wrap .i64 ((IntKind.wrap .i64 (x1 + (IntKind.wrap .i64 (Int.tdiv (IntKind.wrap .i64 (x8 + (7 : Int))) (8 : Int))))) + x9)) ≤ ((c0 : Nat) : Int) ∧ (∃ v12_, ldv false 1 h11_ (Addr.add a10 4) = some v12_ ∧ ∃ A13_, ∃ n13_, ∃ c13_, v12_ = (Value.slice A13_ n13_ c13_) ∧ AppW 54 1 8 #[(Value.int .u64 (0 : Int))] A13_ n13_ c13_ (Value.slice (sliceA A0 (Int.toNat (IntKind.wrap .i64 (x1 + (IntKind.wrap .i64 (Int.tdiv (IntKind.wrap .i64 (x8 + (7 : Int))) (8 : Int)))))) c0 1) (Int.toNat (IntKind.wrap .i64 ((IntKind.wrap .i64 (x1 + (IntKind.wrap .i64 (Int.tdiv (IntKind.wrap .i64 (x8 + (7 : Int))) (8 : Int))))) + x9)) - Int.toNat (IntKind.wrap .i64 (x1 + (IntKind.wrap .i64 (Int.tdiv (IntKind.wrap .i64 (x8 + (7 : Int))) (8 : Int)))))) (c0 - Int.toNat (IntKind.wrap .i64 (x1 + (IntKind.wrap .i64 (Int.tdiv (IntKind.wrap .i64 (x8 + (7 : Int))) (8 : Int))))))) h11_ fun v14_ h15_ => ∃ A16_, ∃ n16_, ∃ c16_, v14_ = (Value.slice A16_ n16_ c16_) ∧ ∃ h17_, st1 h15_ (Addr.add a10 4) (Value.slice A16_ n16_ c16_) = some h17_ ∧ ∃ v18_, ldv true 5 h17_ a10 = some v18_ ∧ Run Try.prog 134 #[(Value.slice none 0 0), v18_] h17_ fun v19_ h20_ => ∃ A21_, ∃ n21_, ∃ c21_, ∃ x22_, ∃ x23_, v19_ = (Value.tuple #[(Value.slice A21_ n21_ c21_), (Value.int .i64 x22_), (Value.int .i64 x23_)]) ∧ splitB (x23_ != (0 : Int)) (f85.j7 R a4 a10 true h20_) (∃ v24_, ldv false 1 h20_ a10 = some v24_ ∧ ∃ x25_, v24_ = (Value.int .i64 x25_) ∧ 0 ≤ x25_ ∧ x25_ ≤ (IntKind.wrap .i64 ((IntKind.wrap .i64 (x1 + (IntKind.wrap .i64 (Int.tdiv (IntKind.wrap .i64 (x8 + (7 : Int))) (8 : Int))))) + x9)) ∧ (IntKind.wrap .i64 ((IntKind.wrap .i64 (x1 + (IntKind.wrap .i64 (Int.tdiv (IntKind.wrap .i64 (x8 + (7 : Int))) (8 : Int))))) + x9)) ≤ ((c0 : Nat) : Int) ∧ (Run Try.prog 135 #[(Value.slice A21_ n21_ c21_), (Value.slice (sliceA A0 (Int.toNat x25_) c0 1) (Int.toNat (IntKind.wrap .i64 ((IntKind.wrap .i64 (x1 + (IntKind.wrap .i64 (Int.tdiv (IntKind.wrap .i64 (x8 + (7 : Int))) (8 : Int))))) + x9)) - Int.toNat x25_) (c0 - Int.toNat x25_))] h20_ fun v26_ h27_ => ∃ b28_, v26_ = (Value.bool b28_) ∧ f85.j7 R a4 a10 (!b28_) h27_)))))
set_option maxRecDepth 100000 in
theorem f85.l0_in {R : Value → Heap → Prop} {A0 : Option Addr} {n0 : Nat} {c0 : Nat} {x1 : Int} {a4 : Addr} {x8 : Int} {x9 : Int} {a10 : Addr} {A11 : Option Addr} {n11 : Nat} {c11 : Nat} {x74 : Int} {x75 : Int} {h : Heap} (H : f85.l0T R A0 n0 c0 x1 a4 x8 x9 a10 A11 n11 c11 x74 x75 h) : f85.l0 R A0 n0 c0 x1 a4 x8 x9 a10 A11 n11 c11 x74 x75 h :=
  pt_intro mixed f85.good (Eq.mpr (show (Fwd Try.prog f85.T f85.kp Try.f85 R [false, false, true, false, true, true, true, true, true, true, true, true, true] (mkFr [(0, (Value.slice A0 n0 c0)), (1, (Value.int .i64 x1)), (4, (Value.pointer (some a4))), (8, (Value.int .i64 x8)), (9, (Value.int .i64 x9)), (10, (Value.pointer (some a10))), (11, (Value.slice A11 n11 c11)), (74, (Value.int .i64 x74)), (75, (Value.int .i64 x75))]) h) = (f85.l0T R A0 n0 c0 x1 a4 x8 x9 a10 A11 n11 c11 x74 x75 h) by kernel_rfl) H)
set_option maxRecDepth 100000 in
def f85.j7T (R : Value → Heap → Prop) (a4 : Addr) (a10 : Addr) (b131 : Bool) (h : Heap) : Prop :=
  splitB b131 (∃ l2_ : List Value, (Value.agg #[(Value.int .i64 (0 : Int)), (Value.int .i64 (0 : Int)), (Value.int .i64 (0 : Int)), (Value.string (ByteArray.mk #[])), (Value.slice none 0 0)]) = Value.agg l2_.toArray ∧ l2_.length = 5 ∧ ∃ h1_, stH h a4 l2_ 0 = some h1_ ∧ ∃ v3_, ldv true 5 h1_ a4 = some v3_ ∧ R (Value.tuple #[v3_, (Value.int .i64 (3 : Int))]) h1_) (f85.j6 R a4 a10 h)
set_option maxRecDepth 100000 in
theorem f85.j7_in {R : Value → Heap → Prop} {a4 : Addr} {a10 : Addr} {b131 : Bool} {h : Heap} (H : f85.j7T R a4 a10 b131 h) : f85.j7 R a4 a10 b131 h :=
  pt_intro mixed f85.good (Eq.mpr (show (Fwd Try.prog f85.T f85.kp Try.f85 R [true, true, false, true, true, true, true, true, true, true, true, true, true, true, true] (mkFr [(4, (Value.pointer (some a4))), (10, (Value.pointer (some a10))), (131, (Value.bool b131))]) h) = (f85.j7T R a4 a10 b131 h) by kernel_rfl) H)
set_option maxRecDepth 100000 in
def f85.j6T (R : Value → Heap → Prop) (a4 : Addr) (a10 : Addr) (h : Heap) : Prop :=
  ∃ v1_, ldv true 5 h a10 = some v1_ ∧ ∃ l3_ : List Value, v1_ = Value.agg l3_.toArray ∧ l3_.length = 5 ∧ ∃ h2_, stH h a4 l3_ 0 = some h2_ ∧ ∃ v4_, ldv true 5 h2_ a4 = some v4_ ∧ R (Value.tuple #[v4_, (Value.int .i64 (0 : Int))]) h2_
set_option maxRecDepth 100000 in
theorem f85.j6_in {R : Value → Heap → Prop} {a4 : Addr} {a10 : Addr} {h : Heap} (H : f85.j6T R a4 a10 h) : f85.j6 R a4 a10 h :=
  pt_intro mixed f85.good (Eq.mpr (show (Fwd Try.prog f85.T f85.kp Try.f85 R [true, true, true, true, true, true, true, true, true, true, true, true, true] (mkFr [(4, (Value.pointer (some a4))), (10, (Value.pointer (some a10)))]) h) = (f85.j6T R a4 a10 h) by kernel_rfl) H)
set_option maxRecDepth 100000 in
def f85.runT (R : Value → Heap → Prop) (A0 : Option Addr) (n0 : Nat) (c0 : Nat) (x1 : Int) (h : Heap) : Prop :=
  newH h (Obj.cells #[(Value.int .i64 (0 : Int)), (Value.int .i64 (0 : Int)), (Value.int .i64 (0 : Int)), (Value.string (ByteArray.mk #[])), (Value.slice none 0 0)] 63) fun h1_ => splitB (decide (x1 < (0 : Int))) (f85.j1 R A0 n0 c0 x1 (⟨Array.size h, 0, none⟩) true h1_) (f85.j1 R A0 n0 c0 x1 (⟨Array.size h, 0, none⟩) (decide (x1 ≥ ((n0 : Nat) : Int))) h1_)
set_option maxRecDepth 100000 in
theorem f85.run {R : Value → Heap → Prop} {A0 : Option Addr} {n0 : Nat} {c0 : Nat} {x1 : Int} {h : Heap} (H : f85.runT R A0 n0 c0 x1 h) : Run Try.prog 85 #[(Value.slice A0 n0 c0), (Value.int .i64 x1)] h R :=
  run_of mixed Try.func85 (by kernel_rfl) (by kernel_rfl) f85.good (Eq.mpr (show (Fwd Try.prog f85.T f85.kp Try.f85 R [] (mkFr (argL [(Value.slice A0 n0 c0), (Value.int .i64 x1)] 0)) h) = (f85.runT R A0 n0 c0 x1 h) by kernel_rfl) H)
def f83.T : Tab := { sh := tSh, tup := tTup, keep := [], plan := [] }
def f83.kp : Keep := [([false, false, true, false, true, true, true], [0, 4, 5])]
theorem f83.good : goodCode Try.prog f83.T (rootOf Try.f83) = true := by kernel_rfl
def f83.l0 (R : Value → Heap → Prop) (A0 : Option Addr) (n0 : Nat) (c0 : Nat) (A4 : Option Addr) (n4 : Nat) (c4 : Nat) (x5 : Int) (h : Heap) : Prop := Pt Try.prog Try.f83 R [false, false, true, false, true, true, true] (mkFr [(0, (Value.slice A0 n0 c0)), (4, (Value.slice A4 n4 c4)), (5, (Value.int .i64 x5))]) h
set_option maxRecDepth 100000 in
def f83.l0T (R : Value → Heap → Prop) (A0 : Option Addr) (n0 : Nat) (c0 : Nat) (A4 : Option Addr) (n4 : Nat) (c4 : Nat) (x5 : Int) (h : Heap) : Prop :=
  splitB (decide (x5 < ((n0 : Nat) : Int))) (Run Try.prog 85 #[(Value.slice A0 n0 c0), (Value.int .i64 x5)] h fun v1_ h2_ => ∃ v3_, ∃ x4_, v1_ = (Value.tuple #[v3_, (Value.int .i64 x4_)]) ∧ newH h2_ (Obj.cells #[(Value.int .i64 (0 : Int)), (Value.int .i64 (0 : Int)), (Value.int .i64 (0 : Int)), (Value.string (ByteArray.mk #[])), (Value.slice none 0 0)] 63) fun h5_ => ∃ l7_ : List Value, v3_ = Value.agg l7_.toArray ∧ l7_.length = 5 ∧ ∃ h6_, stH h5_ (⟨Array.size h2_, 0, none⟩) l7_ 0 = some h6_ ∧ splitB (x4_ != (0 : Int)) (R (Value.tuple #[(Value.slice none 0 0), (Value.int .i64 (3 : Int))]) h6_) (∃ v8_, ldv true 5 h6_ (⟨Array.size h2_, 0, none⟩) = some v8_ ∧ ∃ l9_ : List Value, v8_ = Value.agg l9_.toArray ∧ l9_.length = 5 ∧ (newH h6_ (Obj.cells ((List.take 0 ([(Value.int .i64 (0 : Int)), (Value.int .i64 (0 : Int)), (Value.int .i64 (0 : Int)), (Value.string (ByteArray.mk #[])), (Value.slice none 0 0)]) ++ l9_ ++ List.drop 5 ([(Value.int .i64 (0 : Int)), (Value.int .i64 (0 : Int)), (Value.int .i64 (0 : Int)), (Value.string (ByteArray.mk #[])), (Value.slice none 0 0)])).toArray) 63) fun h10_ => AppW 63 5 64 #[(Value.int .i64 (0 : Int)), (Value.int .i64 (0 : Int)), (Value.int .i64 (0 : Int)), (Value.string (ByteArray.mk #[])), (Value.slice none 0 0)] A4 n4 c4 (Value.slice (some ⟨Array.size h6_, 0, none⟩) 1 1) h10_ fun v11_ h12_ => ∃ A13_, ∃ n13_, ∃ c13_, v11_ = (Value.slice A13_ n13_ c13_) ∧ ∃ v14_, ldv false 1 h12_ (Addr.add (⟨Array.size h2_, 0, none⟩) 1) = some v14_ ∧ ∃ x15_, v14_ = (Value.int .i64 x15_) ∧ ∃ v16_, ldv false 1 h12_ (Addr.add (⟨Array.size h2_, 0, none⟩) 3) = some v16_ ∧ ∃ s17_, v16_ = (Value.string s17_) ∧ ∃ v18_, ldv false 1 h12_ (Addr.add (⟨Array.size h2_, 0, none⟩) 4) = some v18_ ∧ ∃ A19_, ∃ n19_, ∃ c19_, v18_ = (Value.slice A19_ n19_ c19_) ∧ Run Try.prog 132 #[(Value.int .i64 x15_), (Value.int .i64 ((ByteArray.size s17_ : Nat) : Int)), (Value.int .i64 ((n19_ : Nat) : Int))] h12_ fun v20_ h21_ => ∃ x22_, v20_ = (Value.int .i64 x22_) ∧ f83.l0 R A0 n0 c0 A13_ n13_ c13_ (IntKind.wrap .i64 (x5 + x22_)) h21_))) (R (Value.tuple #[(Value.slice A4 n4 c4), (Value.int .i64 (0 : Int))]) h)
set_option maxRecDepth 100000 in
theorem f83.l0_in {R : Value → Heap → Prop} {A0 : Option Addr} {n0 : Nat} {c0 : Nat} {A4 : Option Addr} {n4 : Nat} {c4 : Nat} {x5 : Int} {h : Heap} (H : f83.l0T R A0 n0 c0 A4 n4 c4 x5 h) : f83.l0 R A0 n0 c0 A4 n4 c4 x5 h :=
  pt_intro mixed f83.good (Eq.mpr (show (Fwd Try.prog f83.T f83.kp Try.f83 R [false, false, true, false, true, true, true] (mkFr [(0, (Value.slice A0 n0 c0)), (4, (Value.slice A4 n4 c4)), (5, (Value.int .i64 x5))]) h) = (f83.l0T R A0 n0 c0 A4 n4 c4 x5 h) by kernel_rfl) H)
set_option maxRecDepth 100000 in
def f83.runT (R : Value → Heap → Prop) (A0 : Option Addr) (n0 : Nat) (c0 : Nat) (h : Heap) : Prop :=
  splitB (decide (((n0 : Nat) : Int) > (4000 : Int))) (R (Value.tuple #[(Value.slice none 0 0), (Value.int .i64 (2 : Int))]) h) (f83.l0 R A0 n0 c0 none 0 0 (0 : Int) h)
set_option maxRecDepth 100000 in
theorem f83.run {R : Value → Heap → Prop} {A0 : Option Addr} {n0 : Nat} {c0 : Nat} {h : Heap} (H : f83.runT R A0 n0 c0 h) : Run Try.prog 83 #[(Value.slice A0 n0 c0)] h R :=
  run_of mixed Try.func83 (by kernel_rfl) (by kernel_rfl) f83.good (Eq.mpr (show (Fwd Try.prog f83.T f83.kp Try.f83 R [] (mkFr (argL [(Value.slice A0 n0 c0)] 0)) h) = (f83.runT R A0 n0 c0 h) by kernel_rfl) H)
def f161.T : Tab := { sh := tSh, tup := tTup, keep := [], plan := [] }
def f161.kp : Keep := []
theorem f161.good : goodCode Try.prog f161.T (rootOf Try.f161) = true := by kernel_rfl
set_option maxRecDepth 100000 in
def f161.runT (R : Value → Heap → Prop) (x0 : Int) (h : Heap) : Prop :=
  splitB (decide (x0 ≥ (-1152921504606846976 : Int))) (R (Value.bool (decide (x0 < (1152921504606846976 : Int)))) h) (R (Value.bool false) h)
set_option maxRecDepth 100000 in
theorem f161.run {R : Value → Heap → Prop} {x0 : Int} {h : Heap} (H : f161.runT R x0 h) : Run Try.prog 161 #[(Value.int .i64 x0)] h R :=
  run_of mixed Try.func161 (by kernel_rfl) (by kernel_rfl) f161.good (Eq.mpr (show (Fwd Try.prog f161.T f161.kp Try.f161 R [] (mkFr (argL [(Value.int .i64 x0)] 0)) h) = (f161.runT R x0 h) by kernel_rfl) H)
def f133.T : Tab := { sh := tSh, tup := tTup, keep := [], plan := [] }
def f133.kp : Keep := [([true, false, false, false, true], [0, 1, 6]), ([true, true, true, false, false, false, true], [0, 1, 6]), ([true, true, true, true, true, false, false, false, true], [0, 1, 6]), ([true, false, false, true], [0, 1, 6]), ([true, true, true, false, false, true], [49])]
theorem f133.good : goodCode Try.prog f133.T (rootOf Try.f133) = true := by kernel_rfl
def f133.j1 (R : Value → Heap → Prop) (x0 : Int) (x1 : Int) (b6 : Bool) (h : Heap) : Prop := Pt Try.prog Try.f133 R [true, false, false, false, true] (mkFr [(0, (Value.int .i64 x0)), (1, (Value.int .i64 x1)), (6, (Value.bool b6))]) h
def f133.j0 (R : Value → Heap → Prop) (x0 : Int) (x1 : Int) (b6 : Bool) (h : Heap) : Prop := Pt Try.prog Try.f133 R [true, false, false, true] (mkFr [(0, (Value.int .i64 x0)), (1, (Value.int .i64 x1)), (6, (Value.bool b6))]) h
def f133.j3 (R : Value → Heap → Prop) (x0 : Int) (x1 : Int) (b6 : Bool) (h : Heap) : Prop := Pt Try.prog Try.f133 R [true, true, true, false, false, false, true] (mkFr [(0, (Value.int .i64 x0)), (1, (Value.int .i64 x1)), (6, (Value.bool b6))]) h
def f133.j2 (R : Value → Heap → Prop) (b49 : Bool) (h : Heap) : Prop := Pt Try.prog Try.f133 R [true, true, true, false, false, true] (mkFr [(49, (Value.bool b49))]) h
def f133.j4 (R : Value → Heap → Prop) (x0 : Int) (x1 : Int) (b6 : Bool) (h : Heap) : Prop := Pt Try.prog Try.f133 R [true, true, true, true, true, false, false, false, true] (mkFr [(0, (Value.int .i64 x0)), (1, (Value.int .i64 x1)), (6, (Value.bool b6))]) h
set_option maxRecDepth 100000 in
def f133.j1T (R : Value → Heap → Prop) (x0 : Int) (x1 : Int) (b6 : Bool) (h : Heap) : Prop :=
  splitB b6 (f133.j0 R x0 x1 b6 h) (splitB (x0 == (2 : Int)) (splitB (x1 == (0 : Int)) (f133.j3 R x0 x1 true h) (f133.j3 R x0 x1 (x1 == (1 : Int)) h)) (f133.j3 R x0 x1 false h))
set_option maxRecDepth 100000 in
theorem f133.j1_in {R : Value → Heap → Prop} {x0 : Int} {x1 : Int} {b6 : Bool} {h : Heap} (H : f133.j1T R x0 x1 b6 h) : f133.j1 R x0 x1 b6 h :=
  pt_intro mixed f133.good (Eq.mpr (show (Fwd Try.prog f133.T f133.kp Try.f133 R [true, false, false, false, true] (mkFr [(0, (Value.int .i64 x0)), (1, (Value.int .i64 x1)), (6, (Value.bool b6))]) h) = (f133.j1T R x0 x1 b6 h) by kernel_rfl) H)
set_option maxRecDepth 100000 in
def f133.j0T (R : Value → Heap → Prop) (x0 : Int) (x1 : Int) (b6 : Bool) (h : Heap) : Prop :=
  splitB b6 (0 ≤ (3 : Int) ∧ (R (Value.tuple #[(Value.int .u64 (bitsI .or .u64 (shlI .u64 (IntKind.wrap .u64 x1) (3 : Int)) (IntKind.wrap .u64 x0))), (Value.int .i64 (0 : Int))]) h)) (splitB (decide (x0 < (0 : Int))) (f133.j2 R true h) (f133.j2 R (decide (x0 > (4 : Int))) h))
set_option maxRecDepth 100000 in
theorem f133.j0_in {R : Value → Heap → Prop} {x0 : Int} {x1 : Int} {b6 : Bool} {h : Heap} (H : f133.j0T R x0 x1 b6 h) : f133.j0 R x0 x1 b6 h :=
  pt_intro mixed f133.good (Eq.mpr (show (Fwd Try.prog f133.T f133.kp Try.f133 R [true, false, false, true] (mkFr [(0, (Value.int .i64 x0)), (1, (Value.int .i64 x1)), (6, (Value.bool b6))]) h) = (f133.j0T R x0 x1 b6 h) by kernel_rfl) H)
set_option maxRecDepth 100000 in
def f133.j3T (R : Value → Heap → Prop) (x0 : Int) (x1 : Int) (b6 : Bool) (h : Heap) : Prop :=
  splitB b6 (f133.j0 R x0 x1 b6 h) (splitB (x0 == (1 : Int)) (Run Try.prog 161 #[(Value.int .i64 x1)] h fun v1_ h2_ => ∃ b3_, v1_ = (Value.bool b3_) ∧ f133.j4 R x0 x1 b3_ h2_) (f133.j4 R x0 x1 false h))
set_option maxRecDepth 100000 in
theorem f133.j3_in {R : Value → Heap → Prop} {x0 : Int} {x1 : Int} {b6 : Bool} {h : Heap} (H : f133.j3T R x0 x1 b6 h) : f133.j3 R x0 x1 b6 h :=
  pt_intro mixed f133.good (Eq.mpr (show (Fwd Try.prog f133.T f133.kp Try.f133 R [true, true, true, false, false, false, true] (mkFr [(0, (Value.int .i64 x0)), (1, (Value.int .i64 x1)), (6, (Value.bool b6))]) h) = (f133.j3T R x0 x1 b6 h) by kernel_rfl) H)
set_option maxRecDepth 100000 in
def f133.j2T (R : Value → Heap → Prop) (b49 : Bool) (h : Heap) : Prop :=
  splitB b49 (R (Value.tuple #[(Value.int .u64 (0 : Int)), (Value.int .i64 (1 : Int))]) h) (R (Value.tuple #[(Value.int .u64 (0 : Int)), (Value.int .i64 (2 : Int))]) h)
set_option maxRecDepth 100000 in
theorem f133.j2_in {R : Value → Heap → Prop} {b49 : Bool} {h : Heap} (H : f133.j2T R b49 h) : f133.j2 R b49 h :=
  pt_intro mixed f133.good (Eq.mpr (show (Fwd Try.prog f133.T f133.kp Try.f133 R [true, true, true, false, false, true] (mkFr [(49, (Value.bool b49))]) h) = (f133.j2T R b49 h) by kernel_rfl) H)
set_option maxRecDepth 100000 in
def f133.j4T (R : Value → Heap → Prop) (x0 : Int) (x1 : Int) (b6 : Bool) (h : Heap) : Prop :=
  splitB b6 (f133.j0 R x0 x1 b6 h) (splitB (x0 == (3 : Int)) (splitB (decide (x1 ≥ (0 : Int))) (f133.j0 R x0 x1 (decide (x1 < (1152921504606846976 : Int))) h) (f133.j0 R x0 x1 false h)) (splitB (x0 == (4 : Int)) (splitB (decide (x1 ≥ (0 : Int))) (f133.j0 R x0 x1 (decide (x1 < (1152921504606846976 : Int))) h) (f133.j0 R x0 x1 false h)) (f133.j0 R x0 x1 false h)))
set_option maxRecDepth 100000 in
theorem f133.j4_in {R : Value → Heap → Prop} {x0 : Int} {x1 : Int} {b6 : Bool} {h : Heap} (H : f133.j4T R x0 x1 b6 h) : f133.j4 R x0 x1 b6 h :=
  pt_intro mixed f133.good (Eq.mpr (show (Fwd Try.prog f133.T f133.kp Try.f133 R [true, true, true, true, true, false, false, false, true] (mkFr [(0, (Value.int .i64 x0)), (1, (Value.int .i64 x1)), (6, (Value.bool b6))]) h) = (f133.j4T R x0 x1 b6 h) by kernel_rfl) H)
set_option maxRecDepth 100000 in
def f133.runT (R : Value → Heap → Prop) (x0 : Int) (x1 : Int) (h : Heap) : Prop :=
  splitB (x0 == (0 : Int)) (f133.j1 R x0 x1 (x1 == (0 : Int)) h) (f133.j1 R x0 x1 false h)
set_option maxRecDepth 100000 in
theorem f133.run {R : Value → Heap → Prop} {x0 : Int} {x1 : Int} {h : Heap} (H : f133.runT R x0 x1 h) : Run Try.prog 133 #[(Value.int .i64 x0), (Value.int .i64 x1)] h R :=
  run_of mixed Try.func133 (by kernel_rfl) (by kernel_rfl) f133.good (Eq.mpr (show (Fwd Try.prog f133.T f133.kp Try.f133 R [] (mkFr (argL [(Value.int .i64 x0), (Value.int .i64 x1)] 0)) h) = (f133.runT R x0 x1 h) by kernel_rfl) H)
def f84.T : Tab := { sh := tSh, tup := tTup, keep := [], plan := [] }
def f84.kp : Keep := [([true, true, true], [0, 5, 6]), ([true, true, false, true, true, true], [5, 6, 32]), ([true, true, true, true], [5, 6])]
theorem f84.good : goodCode Try.prog f84.T (rootOf Try.f84) = true := by kernel_rfl
def f84.j0 (R : Value → Heap → Prop) (x0 : Int) (x5 : Int) (x6 : Int) (h : Heap) : Prop := Pt Try.prog Try.f84 R [true, true, true] (mkFr [(0, (Value.int .u64 x0)), (5, (Value.int .i64 x5)), (6, (Value.int .i64 x6))]) h
def f84.j2 (R : Value → Heap → Prop) (x5 : Int) (x6 : Int) (b32 : Bool) (h : Heap) : Prop := Pt Try.prog Try.f84 R [true, true, false, true, true, true] (mkFr [(5, (Value.int .i64 x5)), (6, (Value.int .i64 x6)), (32, (Value.bool b32))]) h
def f84.j1 (R : Value → Heap → Prop) (x5 : Int) (x6 : Int) (h : Heap) : Prop := Pt Try.prog Try.f84 R [true, true, true, true] (mkFr [(5, (Value.int .i64 x5)), (6, (Value.int .i64 x6))]) h
set_option maxRecDepth 100000 in
def f84.j0T (R : Value → Heap → Prop) (x0 : Int) (x5 : Int) (x6 : Int) (h : Heap) : Prop :=
  Run Try.prog 133 #[(Value.int .i64 x5), (Value.int .i64 x6)] h fun v1_ h2_ => ∃ x3_, ∃ x4_, v1_ = (Value.tuple #[(Value.int .u64 x3_), (Value.int .i64 x4_)]) ∧ splitB (x4_ != (0 : Int)) (f84.j2 R x5 x6 true h2_) (f84.j2 R x5 x6 (x3_ != x0) h2_)
set_option maxRecDepth 100000 in
theorem f84.j0_in {R : Value → Heap → Prop} {x0 : Int} {x5 : Int} {x6 : Int} {h : Heap} (H : f84.j0T R x0 x5 x6 h) : f84.j0 R x0 x5 x6 h :=
  pt_intro mixed f84.good (Eq.mpr (show (Fwd Try.prog f84.T f84.kp Try.f84 R [true, true, true] (mkFr [(0, (Value.int .u64 x0)), (5, (Value.int .i64 x5)), (6, (Value.int .i64 x6))]) h) = (f84.j0T R x0 x5 x6 h) by kernel_rfl) H)
set_option maxRecDepth 100000 in
def f84.j2T (R : Value → Heap → Prop) (x5 : Int) (x6 : Int) (b32 : Bool) (h : Heap) : Prop :=
  splitB b32 (R (Value.tuple #[(Value.int .i64 (0 : Int)), (Value.int .i64 (0 : Int)), (Value.int .i64 (3 : Int))]) h) (f84.j1 R x5 x6 h)
set_option maxRecDepth 100000 in
theorem f84.j2_in {R : Value → Heap → Prop} {x5 : Int} {x6 : Int} {b32 : Bool} {h : Heap} (H : f84.j2T R x5 x6 b32 h) : f84.j2 R x5 x6 b32 h :=
  pt_intro mixed f84.good (Eq.mpr (show (Fwd Try.prog f84.T f84.kp Try.f84 R [true, true, false, true, true, true] (mkFr [(5, (Value.int .i64 x5)), (6, (Value.int .i64 x6)), (32, (Value.bool b32))]) h) = (f84.j2T R x5 x6 b32 h) by kernel_rfl) H)
set_option maxRecDepth 100000 in
def f84.j1T (R : Value → Heap → Prop) (x5 : Int) (x6 : Int) (h : Heap) : Prop :=
  R (Value.tuple #[(Value.int .i64 x5), (Value.int .i64 x6), (Value.int .i64 (0 : Int))]) h
set_option maxRecDepth 100000 in
theorem f84.j1_in {R : Value → Heap → Prop} {x5 : Int} {x6 : Int} {h : Heap} (H : f84.j1T R x5 x6 h) : f84.j1 R x5 x6 h :=
  pt_intro mixed f84.good (Eq.mpr (show (Fwd Try.prog f84.T f84.kp Try.f84 R [true, true, true, true] (mkFr [(5, (Value.int .i64 x5)), (6, (Value.int .i64 x6))]) h) = (f84.j1T R x5 x6 h) by kernel_rfl) H)
set_option maxRecDepth 100000 in
def f84.runT (R : Value → Heap → Prop) (x0 : Int) (h : Heap) : Prop :=
  (8 : Int) ≠ 0 ∧ (0 ≤ (3 : Int) ∧ (splitB ((IntKind.wrap .i64 (Int.tmod x0 (8 : Int))) == (1 : Int)) (0 ≤ (3 : Int) ∧ (f84.j0 R x0 (IntKind.wrap .i64 (Int.tmod x0 (8 : Int))) (shrI .i64 (IntKind.wrap .i64 x0) (3 : Int)) h)) (f84.j0 R x0 (IntKind.wrap .i64 (Int.tmod x0 (8 : Int))) (IntKind.wrap .i64 (shrI .u64 x0 (3 : Int))) h)))
set_option maxRecDepth 100000 in
theorem f84.run {R : Value → Heap → Prop} {x0 : Int} {h : Heap} (H : f84.runT R x0 h) : Run Try.prog 84 #[(Value.int .u64 x0)] h R :=
  run_of mixed Try.func84 (by kernel_rfl) (by kernel_rfl) f84.good (Eq.mpr (show (Fwd Try.prog f84.T f84.kp Try.f84 R [] (mkFr (argL [(Value.int .u64 x0)] 0)) h) = (f84.runT R x0 h) by kernel_rfl) H)
def f29.T : Tab := { sh := tSh, tup := tTup, keep := [], plan := [] }
def f29.kp : Keep := [([false, false, false, true, true, true, true, true], [0, 8, 9, 10]), ([true, true, true, true, false, true, false, false, false, true, true, true, true, true], [0, 8, 9, 10, 12]), ([true, true, true, true, true, true, true, true, false, true, false, false, false, true, true, true, true, true], [0, 8, 9, 10, 14])]
theorem f29.good : goodCode Try.prog f29.T (rootOf Try.f29) = true := by kernel_rfl
def f29.l0 (R : Value → Heap → Prop) (A0 : Option Addr) (n0 : Nat) (c0 : Nat) (v8 : Value) (A9 : Option Addr) (n9 : Nat) (c9 : Nat) (A10 : Option Addr) (n10 : Nat) (c10 : Nat) (h : Heap) : Prop := Pt Try.prog Try.f29 R [false, false, false, true, true, true, true, true] (mkFr [(0, (Value.slice A0 n0 c0)), (8, v8), (9, (Value.slice A9 n9 c9)), (10, (Value.slice A10 n10 c10))]) h
def f29.j0 (R : Value → Heap → Prop) (A0 : Option Addr) (n0 : Nat) (c0 : Nat) (v8 : Value) (A9 : Option Addr) (n9 : Nat) (c9 : Nat) (A10 : Option Addr) (n10 : Nat) (c10 : Nat) (x12 : Int) (h : Heap) : Prop := Pt Try.prog Try.f29 R [true, true, true, true, false, true, false, false, false, true, true, true, true, true] (mkFr [(0, (Value.slice A0 n0 c0)), (8, v8), (9, (Value.slice A9 n9 c9)), (10, (Value.slice A10 n10 c10)), (12, (Value.int .i64 x12))]) h
def f29.j1 (R : Value → Heap → Prop) (A0 : Option Addr) (n0 : Nat) (c0 : Nat) (v8 : Value) (A9 : Option Addr) (n9 : Nat) (c9 : Nat) (A10 : Option Addr) (n10 : Nat) (c10 : Nat) (a14 : Addr) (h : Heap) : Prop := Pt Try.prog Try.f29 R [true, true, true, true, true, true, true, true, false, true, false, false, false, true, true, true, true, true] (mkFr [(0, (Value.slice A0 n0 c0)), (8, v8), (9, (Value.slice A9 n9 c9)), (10, (Value.slice A10 n10 c10)), (14, (Value.pointer (some a14)))]) h
set_option maxRecDepth 100000 in
def f29.l0T (R : Value → Heap → Prop) (A0 : Option Addr) (n0 : Nat) (c0 : Nat) (v8 : Value) (A9 : Option Addr) (n9 : Nat) (c9 : Nat) (A10 : Option Addr) (n10 : Nat) (c10 : Nat) (h : Heap) : Prop :=
  splitB (decide (((n9 : Nat) : Int) > (0 : Int))) (ptrOk A9 fun a1_ => 0 ≤ (0 : Int) ∧ (0 : Int) < ((n9 : Nat) : Int) ∧ (∃ v2_, ldv false 1 h (Addr.add a1_ (Int.toNat (0 : Int) * 1)) = some v2_ ∧ ∃ x3_, v2_ = (Value.int .u64 x3_) ∧ Run Try.prog 84 #[(Value.int .u64 x3_)] h fun v4_ h5_ => ∃ x6_, ∃ x7_, ∃ x8_, v4_ = (Value.tuple #[(Value.int .i64 x6_), (Value.int .i64 x7_), (Value.int .i64 x8_)]) ∧ 0 ≤ (1 : Int) ∧ (1 : Int) ≤ ((n9 : Nat) : Int) ∧ ((n9 : Nat) : Int) ≤ ((c9 : Nat) : Int) ∧ (splitB (x8_ != (0 : Int)) (R (Value.tuple #[(Value.slice none 0 0), (Value.int .i64 x8_)]) h5_) (splitB (x6_ != (4 : Int)) (f29.l0 R A0 n0 c0 v8 (sliceA A9 (Int.toNat (1 : Int)) c9 1) (Int.toNat ((n9 : Nat) : Int) - Int.toNat (1 : Int)) (c9 - Int.toNat (1 : Int)) A10 n10 c10 h5_) (Gen Try.prog (Instr.lookup 59 v8 (Value.int .i64 x7_) false) h5_ fun v9_ h10_ => ∃ b11_, v9_ = (Value.bool b11_) ∧ splitB b11_ (f29.l0 R A0 n0 c0 v8 (sliceA A9 (Int.toNat (1 : Int)) c9 1) (Int.toNat ((n9 : Nat) : Int) - Int.toNat (1 : Int)) (c9 - Int.toNat (1 : Int)) A10 n10 c10 h10_) (f29.j0 R A0 n0 c0 v8 (sliceA A9 (Int.toNat (1 : Int)) c9 1) (Int.toNat ((n9 : Nat) : Int) - Int.toNat (1 : Int)) (c9 - Int.toNat (1 : Int)) A10 n10 c10 x7_ h10_)))))) (Run Try.prog 14 #[(Value.slice A10 n10 c10)] h fun v12_ h13_ => v12_ = (Value.tuple #[]) ∧ R (Value.tuple #[(Value.slice A10 n10 c10), (Value.int .i64 (0 : Int))]) h13_)
set_option maxRecDepth 100000 in
theorem f29.l0_in {R : Value → Heap → Prop} {A0 : Option Addr} {n0 : Nat} {c0 : Nat} {v8 : Value} {A9 : Option Addr} {n9 : Nat} {c9 : Nat} {A10 : Option Addr} {n10 : Nat} {c10 : Nat} {h : Heap} (H : f29.l0T R A0 n0 c0 v8 A9 n9 c9 A10 n10 c10 h) : f29.l0 R A0 n0 c0 v8 A9 n9 c9 A10 n10 c10 h :=
  pt_intro mixed f29.good (Eq.mpr (show (Fwd Try.prog f29.T f29.kp Try.f29 R [false, false, false, true, true, true, true, true] (mkFr [(0, (Value.slice A0 n0 c0)), (8, v8), (9, (Value.slice A9 n9 c9)), (10, (Value.slice A10 n10 c10))]) h) = (f29.l0T R A0 n0 c0 v8 A9 n9 c9 A10 n10 c10 h) by kernel_rfl) H)
set_option maxRecDepth 100000 in
def f29.j0T (R : Value → Heap → Prop) (A0 : Option Addr) (n0 : Nat) (c0 : Nat) (v8 : Value) (A9 : Option Addr) (n9 : Nat) (c9 : Nat) (A10 : Option Addr) (n10 : Nat) (c10 : Nat) (x12 : Int) (h : Heap) : Prop :=
  Run Try.prog 85 #[(Value.slice A0 n0 c0), (Value.int .i64 x12)] h fun v1_ h2_ => ∃ v3_, ∃ x4_, v1_ = (Value.tuple #[v3_, (Value.int .i64 x4_)]) ∧ newH h2_ (Obj.cells #[(Value.int .i64 (0 : Int)), (Value.int .i64 (0 : Int)), (Value.int .i64 (0 : Int)), (Value.string (ByteArray.mk #[])), (Value.slice none 0 0)] 63) fun h5_ => ∃ l7_ : List Value, v3_ = Value.agg l7_.toArray ∧ l7_.length = 5 ∧ ∃ h6_, stH h5_ (⟨Array.size h2_, 0, none⟩) l7_ 0 = some h6_ ∧ splitB (x4_ != (0 : Int)) (R (Value.tuple #[(Value.slice none 0 0), (Value.int .i64 x4_)]) h6_) (Hwp Try.prog (Instr.mapUpdate 59 v8 (Value.int .i64 x12) (Value.bool true)) h6_ fun _ h8_ => ∃ v9_, ldv false 1 h8_ (Addr.add (⟨Array.size h2_, 0, none⟩) 1) = some v9_ ∧ ∃ x10_, v9_ = (Value.int .i64 x10_) ∧ splitB (x10_ == (5 : Int)) (newH h8_ (Obj.cells #[(Value.int .i64 x12)] 3) fun h11_ => AppW 3 1 8 #[(Value.int .i64 (0 : Int))] A10 n10 c10 (Value.slice (some ⟨Array.size h8_, 0, none⟩) 1 1) h11_ fun v12_ h13_ => ∃ A14_, ∃ n14_, ∃ c14_, v12_ = (Value.slice A14_ n14_ c14_) ∧ f29.j1 R A0 n0 c0 v8 A9 n9 c9 A14_ n14_ c14_ (⟨Array.size h2_, 0, none⟩) h13_) (f29.j1 R A0 n0 c0 v8 A9 n9 c9 A10 n10 c10 (⟨Array.size h2_, 0, none⟩) h8_))
set_option maxRecDepth 100000 in
theorem f29.j0_in {R : Value → Heap → Prop} {A0 : Option Addr} {n0 : Nat} {c0 : Nat} {v8 : Value} {A9 : Option Addr} {n9 : Nat} {c9 : Nat} {A10 : Option Addr} {n10 : Nat} {c10 : Nat} {x12 : Int} {h : Heap} (H : f29.j0T R A0 n0 c0 v8 A9 n9 c9 A10 n10 c10 x12 h) : f29.j0 R A0 n0 c0 v8 A9 n9 c9 A10 n10 c10 x12 h :=
  pt_intro mixed f29.good (Eq.mpr (show (Fwd Try.prog f29.T f29.kp Try.f29 R [true, true, true, true, false, true, false, false, false, true, true, true, true, true] (mkFr [(0, (Value.slice A0 n0 c0)), (8, v8), (9, (Value.slice A9 n9 c9)), (10, (Value.slice A10 n10 c10)), (12, (Value.int .i64 x12))]) h) = (f29.j0T R A0 n0 c0 v8 A9 n9 c9 A10 n10 c10 x12 h) by kernel_rfl) H)
set_option maxRecDepth 100000 in
def f29.j1T (R : Value → Heap → Prop) (A0 : Option Addr) (n0 : Nat) (c0 : Nat) (v8 : Value) (A9 : Option Addr) (n9 : Nat) (c9 : Nat) (A10 : Option Addr) (n10 : Nat) (c10 : Nat) (a14 : Addr) (h : Heap) : Prop :=
  ∃ v1_, ldv false 1 h (Addr.add a14 4) = some v1_ ∧ ∃ A2_, ∃ n2_, ∃ c2_, v1_ = (Value.slice A2_ n2_ c2_) ∧ AppW 54 1 8 #[(Value.int .u64 (0 : Int))] A9 n9 c9 (Value.slice A2_ n2_ c2_) h fun v3_ h4_ => ∃ A5_, ∃ n5_, ∃ c5_, v3_ = (Value.slice A5_ n5_ c5_) ∧ f29.l0 R A0 n0 c0 v8 A5_ n5_ c5_ A10 n10 c10 h4_
set_option maxRecDepth 100000 in
theorem f29.j1_in {R : Value → Heap → Prop} {A0 : Option Addr} {n0 : Nat} {c0 : Nat} {v8 : Value} {A9 : Option Addr} {n9 : Nat} {c9 : Nat} {A10 : Option Addr} {n10 : Nat} {c10 : Nat} {a14 : Addr} {h : Heap} (H : f29.j1T R A0 n0 c0 v8 A9 n9 c9 A10 n10 c10 a14 h) : f29.j1 R A0 n0 c0 v8 A9 n9 c9 A10 n10 c10 a14 h :=
  pt_intro mixed f29.good (Eq.mpr (show (Fwd Try.prog f29.T f29.kp Try.f29 R [true, true, true, true, true, true, true, true, false, true, false, false, false, true, true, true, true, true] (mkFr [(0, (Value.slice A0 n0 c0)), (8, v8), (9, (Value.slice A9 n9 c9)), (10, (Value.slice A10 n10 c10)), (14, (Value.pointer (some a14)))]) h) = (f29.j1T R A0 n0 c0 v8 A9 n9 c9 A10 n10 c10 a14 h) by kernel_rfl) H)
set_option maxRecDepth 100000 in
def f29.runT (R : Value → Heap → Prop) (A0 : Option Addr) (n0 : Nat) (c0 : Nat) (x1 : Int) (h : Heap) : Prop :=
  Run Try.prog 83 #[(Value.slice A0 n0 c0)] h fun v1_ h2_ => ∃ A3_, ∃ n3_, ∃ c3_, ∃ x4_, v1_ = (Value.tuple #[(Value.slice A3_ n3_ c3_), (Value.int .i64 x4_)]) ∧ splitB (x4_ != (0 : Int)) (R (Value.tuple #[(Value.slice none 0 0), (Value.int .i64 x4_)]) h2_) (Gen Try.prog (Instr.makeMap 59 none) h2_ fun v5_ h6_ => newH h6_ (Obj.cells #[(Value.int .u64 x1)] 54) fun h7_ => f29.l0 R A0 n0 c0 v5_ (some ⟨Array.size h6_, 0, none⟩) 1 1 none 0 0 h7_)
set_option maxRecDepth 100000 in
theorem f29.run {R : Value → Heap → Prop} {A0 : Option Addr} {n0 : Nat} {c0 : Nat} {x1 : Int} {h : Heap} (H : f29.runT R A0 n0 c0 x1 h) : Run Try.prog 29 #[(Value.slice A0 n0 c0), (Value.int .u64 x1)] h R :=
  run_of mixed Try.func29 (by kernel_rfl) (by kernel_rfl) f29.good (Eq.mpr (show (Fwd Try.prog f29.T f29.kp Try.f29 R [] (mkFr (argL [(Value.slice A0 n0 c0), (Value.int .u64 x1)] 0)) h) = (f29.runT R A0 n0 c0 x1 h) by kernel_rfl) H)
def f86.T : Tab := { sh := tSh, tup := tTup, keep := [], plan := [(12, (.take 0 (.take 1 (.take 4 (.take 5 (.take 6 (.eff false 2 (.eff false 3 (.take 7 (.take 8 .done))))))))))] }
def f86.kp : Keep := [([true, false, true, true], [1, 3, 31]), ([true, true, true], [1, 3]), ([false, false, true, false, true, true, true], [1, 3, 4]), ([false, false, true, false, true, true, false, true, false, false, true, false, true, true, true], [1, 3, 4, 5, 6, 7])]
theorem f86.good : goodCode Try.prog f86.T (rootOf Try.f86) = true := by kernel_rfl
def f86.j1 (R : Value → Heap → Prop) (a1 : Addr) (A3 : Option Addr) (n3 : Nat) (c3 : Nat) (b31 : Bool) (h : Heap) : Prop := Pt Try.prog Try.f86 R [true, false, true, true] (mkFr [(1, (Value.pointer (some a1))), (3, (Value.slice A3 n3 c3)), (31, (Value.bool b31))]) h
def f86.j0 (R : Value → Heap → Prop) (a1 : Addr) (A3 : Option Addr) (n3 : Nat) (c3 : Nat) (h : Heap) : Prop := Pt Try.prog Try.f86 R [true, true, true] (mkFr [(1, (Value.pointer (some a1))), (3, (Value.slice A3 n3 c3))]) h
def f86.l0 (R : Value → Heap → Prop) (a1 : Addr) (A3 : Option Addr) (n3 : Nat) (c3 : Nat) (s4 : ByteArray) (h : Heap) : Prop := Pt Try.prog Try.f86 R [false, false, true, false, true, true, true] (mkFr [(1, (Value.pointer (some a1))), (3, (Value.slice A3 n3 c3)), (4, (Value.string s4))]) h
def f86.l1 (R : Value → Heap → Prop) (a1 : Addr) (A3 : Option Addr) (n3 : Nat) (c3 : Nat) (s4 : ByteArray) (x5 : Int) (x6 : Int) (x7 : Int) (h : Heap) : Prop := Pt Try.prog Try.f86 R [false, false, true, false, true, true, false, true, false, false, true, false, true, true, true] (mkFr [(1, (Value.pointer (some a1))), (3, (Value.slice A3 n3 c3)), (4, (Value.string s4)), (5, (Value.int .i64 x5)), (6, (Value.int .u64 x6)), (7, (Value.int .i64 x7))]) h
set_option maxRecDepth 100000 in
def f86.j1T (R : Value → Heap → Prop) (a1 : Addr) (A3 : Option Addr) (n3 : Nat) (c3 : Nat) (b31 : Bool) (h : Heap) : Prop :=
  splitB b31 (∃ v1_, ldv false 1 h (Addr.add a1 2) = some v1_ ∧ ∃ x2_, v1_ = (Value.int .i64 x2_) ∧ newH h (Obj.cells #[(Value.int .u64 (IntKind.wrap .u64 x2_))] 54) fun h3_ => AppW 54 1 8 #[(Value.int .u64 (0 : Int))] A3 n3 c3 (Value.slice (some ⟨Array.size h, 0, none⟩) 1 1) h3_ fun v4_ h5_ => ∃ A6_, ∃ n6_, ∃ c6_, v4_ = (Value.slice A6_ n6_ c6_) ∧ f86.j0 R a1 A6_ n6_ c6_ h5_) (f86.j0 R a1 A3 n3 c3 h)
set_option maxRecDepth 100000 in
theorem f86.j1_in {R : Value → Heap → Prop} {a1 : Addr} {A3 : Option Addr} {n3 : Nat} {c3 : Nat} {b31 : Bool} {h : Heap} (H : f86.j1T R a1 A3 n3 c3 b31 h) : f86.j1 R a1 A3 n3 c3 b31 h :=
  pt_intro mixed f86.good (Eq.mpr (show (Fwd Try.prog f86.T f86.kp Try.f86 R [true, false, true, true] (mkFr [(1, (Value.pointer (some a1))), (3, (Value.slice A3 n3 c3)), (31, (Value.bool b31))]) h) = (f86.j1T R a1 A3 n3 c3 b31 h) by kernel_rfl) H)
set_option maxRecDepth 100000 in
def f86.j0T (R : Value → Heap → Prop) (a1 : Addr) (A3 : Option Addr) (n3 : Nat) (c3 : Nat) (h : Heap) : Prop :=
  ∃ v1_, ldv false 1 h (Addr.add a1 3) = some v1_ ∧ ∃ s2_, v1_ = (Value.string s2_) ∧ f86.l0 R a1 A3 n3 c3 s2_ h
set_option maxRecDepth 100000 in
theorem f86.j0_in {R : Value → Heap → Prop} {a1 : Addr} {A3 : Option Addr} {n3 : Nat} {c3 : Nat} {h : Heap} (H : f86.j0T R a1 A3 n3 c3 h) : f86.j0 R a1 A3 n3 c3 h :=
  pt_intro mixed f86.good (Eq.mpr (show (Fwd Try.prog f86.T f86.kp Try.f86 R [true, true, true] (mkFr [(1, (Value.pointer (some a1))), (3, (Value.slice A3 n3 c3))]) h) = (f86.j0T R a1 A3 n3 c3 h) by kernel_rfl) H)
set_option maxRecDepth 100000 in
def f86.l0T (R : Value → Heap → Prop) (a1 : Addr) (A3 : Option Addr) (n3 : Nat) (c3 : Nat) (s4 : ByteArray) (h : Heap) : Prop :=
  splitB (!(ByteArray.toList s4 == ByteArray.toList (ByteArray.mk #[]))) (f86.l1 R a1 A3 n3 c3 s4 (if ((ByteArray.size s4 : Nat) : Int) < (8 : Int) then ((ByteArray.size s4 : Nat) : Int) else (8 : Int)) (0 : Int) (IntKind.wrap .i64 ((if ((ByteArray.size s4 : Nat) : Int) < (8 : Int) then ((ByteArray.size s4 : Nat) : Int) else (8 : Int)) - (1 : Int))) h) (∃ v1_, ldv false 1 h (Addr.add a1 4) = some v1_ ∧ ∃ A2_, ∃ n2_, ∃ c2_, v1_ = (Value.slice A2_ n2_ c2_) ∧ AppW 54 1 8 #[(Value.int .u64 (0 : Int))] A3 n3 c3 (Value.slice A2_ n2_ c2_) h fun v3_ h4_ => ∃ A5_, ∃ n5_, ∃ c5_, v3_ = (Value.slice A5_ n5_ c5_) ∧ R (Value.slice A5_ n5_ c5_) h4_)
set_option maxRecDepth 100000 in
theorem f86.l0_in {R : Value → Heap → Prop} {a1 : Addr} {A3 : Option Addr} {n3 : Nat} {c3 : Nat} {s4 : ByteArray} {h : Heap} (H : f86.l0T R a1 A3 n3 c3 s4 h) : f86.l0 R a1 A3 n3 c3 s4 h :=
  pt_intro mixed f86.good (Eq.mpr (show (Fwd Try.prog f86.T f86.kp Try.f86 R [false, false, true, false, true, true, true] (mkFr [(1, (Value.pointer (some a1))), (3, (Value.slice A3 n3 c3)), (4, (Value.string s4))]) h) = (f86.l0T R a1 A3 n3 c3 s4 h) by kernel_rfl) H)
set_option maxRecDepth 100000 in
def f86.l1T (R : Value → Heap → Prop) (a1 : Addr) (A3 : Option Addr) (n3 : Nat) (c3 : Nat) (s4 : ByteArray) (x5 : Int) (x6 : Int) (x7 : Int) (h : Heap) : Prop :=
  splitB (decide (x7 ≥ (0 : Int))) (0 ≤ x7 ∧ ∃ y1_, s4[Int.toNat x7]? = some y1_ ∧ (f86.l1 R a1 A3 n3 c3 s4 x5 (IntKind.wrap .u64 ((IntKind.wrap .u64 ((256 : Int) * x6)) + (IntKind.wrap .u64 ((UInt8.toNat y1_ : Nat) : Int)))) (IntKind.wrap .i64 (x7 - (1 : Int))) h)) (0 ≤ x5 ∧ x5 ≤ ((ByteArray.size s4 : Nat) : Int) ∧ ((ByteArray.size s4 : Nat) : Int) ≤ ((ByteArray.size s4 : Nat) : Int) ∧ (newH h (Obj.cells #[(Value.int .u64 x6)] 54) fun h2_ => AppW 54 1 8 #[(Value.int .u64 (0 : Int))] A3 n3 c3 (Value.slice (some ⟨Array.size h, 0, none⟩) 1 1) h2_ fun v3_ h4_ => ∃ A5_, ∃ n5_, ∃ c5_, v3_ = (Value.slice A5_ n5_ c5_) ∧ f86.l0 R a1 A5_ n5_ c5_ (ByteArray.extract s4 (Int.toNat x5) (Int.toNat ((ByteArray.size s4 : Nat) : Int))) h4_))
set_option maxRecDepth 100000 in
theorem f86.l1_in {R : Value → Heap → Prop} {a1 : Addr} {A3 : Option Addr} {n3 : Nat} {c3 : Nat} {s4 : ByteArray} {x5 : Int} {x6 : Int} {x7 : Int} {h : Heap} (H : f86.l1T R a1 A3 n3 c3 s4 x5 x6 x7 h) : f86.l1 R a1 A3 n3 c3 s4 x5 x6 x7 h :=
  pt_intro mixed f86.good (Eq.mpr (show (Fwd Try.prog f86.T f86.kp Try.f86 R [false, false, true, false, true, true, false, true, false, false, true, false, true, true, true] (mkFr [(1, (Value.pointer (some a1))), (3, (Value.slice A3 n3 c3)), (4, (Value.string s4)), (5, (Value.int .i64 x5)), (6, (Value.int .u64 x6)), (7, (Value.int .i64 x7))]) h) = (f86.l1T R a1 A3 n3 c3 s4 x5 x6 x7 h) by kernel_rfl) H)
set_option maxRecDepth 100000 in
def f86.runT (R : Value → Heap → Prop) (v0 : Value) (h : Heap) : Prop :=
  newH h (Obj.cells ((v0).cells) 63) fun h1_ => ∃ v2_, ldv false 1 h1_ (Addr.add (⟨Array.size h, 0, none⟩) 1) = some v2_ ∧ ∃ x3_, v2_ = (Value.int .i64 x3_) ∧ ∃ v4_, ldv false 1 h1_ (Addr.add (⟨Array.size h, 0, none⟩) 3) = some v4_ ∧ ∃ s5_, v4_ = (Value.string s5_) ∧ ∃ v6_, ldv false 1 h1_ (Addr.add (⟨Array.size h, 0, none⟩) 4) = some v6_ ∧ ∃ A7_, ∃ n7_, ∃ c7_, v6_ = (Value.slice A7_ n7_ c7_) ∧ newH h1_ (Obj.cells #[(Value.int .u64 (IntKind.wrap .u64 ((IntKind.wrap .u64 ((IntKind.wrap .u64 x3_) + (IntKind.wrap .u64 ((256 : Int) * (IntKind.wrap .u64 ((ByteArray.size s5_ : Nat) : Int)))))) + (IntKind.wrap .u64 ((1048576 : Int) * (IntKind.wrap .u64 ((n7_ : Nat) : Int)))))))] 54) fun h8_ => ∃ v9_, ldv false 1 h8_ (Addr.add (⟨Array.size h, 0, none⟩) 1) = some v9_ ∧ ∃ x10_, v9_ = (Value.int .i64 x10_) ∧ splitB (x10_ == (1 : Int)) (f86.j1 R (⟨Array.size h, 0, none⟩) (some ⟨Array.size h1_, 0, none⟩) 1 1 true h8_) (∃ v11_, ldv false 1 h8_ (Addr.add (⟨Array.size h, 0, none⟩) 1) = some v11_ ∧ ∃ x12_, v11_ = (Value.int .i64 x12_) ∧ f86.j1 R (⟨Array.size h, 0, none⟩) (some ⟨Array.size h1_, 0, none⟩) 1 1 (x12_ == (4 : Int)) h8_)
set_option maxRecDepth 100000 in
theorem f86.run {R : Value → Heap → Prop} {v0 : Value} {h : Heap} (H : f86.runT R v0 h) : Run Try.prog 86 #[v0] h R :=
  run_of mixed Try.func86 (by kernel_rfl) (by kernel_rfl) f86.good (Eq.mpr (show (Fwd Try.prog f86.T f86.kp Try.f86 R [] (mkFr (argL [v0] 0)) h) = (f86.runT R v0 h) by kernel_rfl) H)
def f89.T : Tab := { sh := tSh, tup := tTup, keep := [], plan := [] }
def f89.kp : Keep := []
theorem f89.good : goodCode Try.prog f89.T (rootOf Try.f89) = true := by kernel_rfl
set_option maxRecDepth 100000 in
def f89.runT (R : Value → Heap → Prop) (x0 : Int) (x1 : Int) (x2 : Int) (h : Heap) : Prop :=
  splitB (decide (x0 ≥ x1)) (R (Value.bool (decide (x0 ≤ x2))) h) (R (Value.bool false) h)
set_option maxRecDepth 100000 in
theorem f89.run {R : Value → Heap → Prop} {x0 : Int} {x1 : Int} {x2 : Int} {h : Heap} (H : f89.runT R x0 x1 x2 h) : Run Try.prog 89 #[(Value.int .i64 x0), (Value.int .i64 x1), (Value.int .i64 x2)] h R :=
  run_of mixed Try.func89 (by kernel_rfl) (by kernel_rfl) f89.good (Eq.mpr (show (Fwd Try.prog f89.T f89.kp Try.f89 R [] (mkFr (argL [(Value.int .i64 x0), (Value.int .i64 x1), (Value.int .i64 x2)] 0)) h) = (f89.runT R x0 x1 x2 h) by kernel_rfl) H)
def f90.T : Tab := { sh := tSh, tup := tTup, keep := [], plan := [(1, (.take 0 (.take 8 (.take 16 (.take 1 (.take 2 (.take 3 (.split 3 (.take 4 (.take 5 (.take 6 (.take 7 (.take 9 (.take 10 (.take 11 (.split 11 (.take 12 (.take 19 (.take 13 (.take 14 (.take 15 (.take 20 (.take 17 (.take 18 (.take 21 .done)))))))))))))))))))))))))] }
def f90.kp : Keep := [([true, true], [1, 3, 4, 5]), ([true, true, true], [1, 3, 4, 5])]
theorem f90.good : goodCode Try.prog f90.T (rootOf Try.f90) = true := by kernel_rfl
def f90.j0 (R : Value → Heap → Prop) (a1 : Addr) (b3 : Bool) (b4 : Bool) (b5 : Bool) (h : Heap) : Prop := Pt Try.prog Try.f90 R [true, true] (mkFr [(1, (Value.pointer (some a1))), (3, (Value.bool b3)), (4, (Value.bool b4)), (5, (Value.bool b5))]) h
def f90.j1 (R : Value → Heap → Prop) (a1 : Addr) (b3 : Bool) (b4 : Bool) (b5 : Bool) (h : Heap) : Prop := Pt Try.prog Try.f90 R [true, true, true] (mkFr [(1, (Value.pointer (some a1))), (3, (Value.bool b3)), (4, (Value.bool b4)), (5, (Value.bool b5))]) h
set_option maxRecDepth 100000 in
def f90.j0T (R : Value → Heap → Prop) (a1 : Addr) (b3 : Bool) (b4 : Bool) (b5 : Bool) (h : Heap) : Prop :=
  ∃ v1_, ldv false 1 h (Addr.add a1 1) = some v1_ ∧ ∃ x2_, v1_ = (Value.int .i64 x2_) ∧ Run Try.prog 89 #[(Value.int .i64 x2_), (Value.int .i64 (1 : Int)), (Value.int .i64 (5 : Int))] h fun v3_ h4_ => ∃ b5_, v3_ = (Value.bool b5_) ∧ splitB (!b5_) (R (Value.bool false) h4_) (∃ v6_, ldv false 1 h4_ (Addr.add a1 3) = some v6_ ∧ ∃ s7_, v6_ = (Value.string s7_) ∧ splitB (decide (((ByteArray.size s7_ : Nat) : Int) > (64 : Int))) (R (Value.bool false) h4_) (∃ v8_, ldv false 1 h4_ (Addr.add a1 4) = some v8_ ∧ ∃ A9_, ∃ n9_, ∃ c9_, v8_ = (Value.slice A9_ n9_ c9_) ∧ splitB (decide (((n9_ : Nat) : Int) > (400 : Int))) (R (Value.bool false) h4_) (∃ v10_, ldv false 1 h4_ (Addr.add a1 1) = some v10_ ∧ ∃ x11_, v10_ = (Value.int .i64 x11_) ∧ splitB (x11_ == (5 : Int)) (∃ v12_, ldv false 1 h4_ (Addr.add a1 4) = some v12_ ∧ ∃ A13_, ∃ n13_, ∃ c13_, v12_ = (Value.slice A13_ n13_ c13_) ∧ splitB (decide (((n13_ : Nat) : Int) > (1 : Int))) (R (Value.bool false) h4_) (f90.j1 R a1 b3 b4 b5 h4_)) (f90.j1 R a1 b3 b4 b5 h4_))))
set_option maxRecDepth 100000 in
theorem f90.j0_in {R : Value → Heap → Prop} {a1 : Addr} {b3 : Bool} {b4 : Bool} {b5 : Bool} {h : Heap} (H : f90.j0T R a1 b3 b4 b5 h) : f90.j0 R a1 b3 b4 b5 h :=
  pt_intro mixed f90.good (Eq.mpr (show (Fwd Try.prog f90.T f90.kp Try.f90 R [true, true] (mkFr [(1, (Value.pointer (some a1))), (3, (Value.bool b3)), (4, (Value.bool b4)), (5, (Value.bool b5))]) h) = (f90.j0T R a1 b3 b4 b5 h) by kernel_rfl) H)
set_option maxRecDepth 100000 in
def f90.j1T (R : Value → Heap → Prop) (a1 : Addr) (b3 : Bool) (b4 : Bool) (b5 : Bool) (h : Heap) : Prop :=
  splitB b3 (splitB b4 (splitB b5 (R (Value.bool true) h) (∃ v1_, ldv false 1 h (Addr.add a1 4) = some v1_ ∧ ∃ A2_, ∃ n2_, ∃ c2_, v1_ = (Value.slice A2_ n2_ c2_) ∧ R (Value.bool (((n2_ : Nat) : Int) == (0 : Int))) h)) (∃ v3_, ldv false 1 h (Addr.add a1 2) = some v3_ ∧ ∃ x4_, v3_ = (Value.int .i64 x4_) ∧ splitB (x4_ == (0 : Int)) (splitB b5 (R (Value.bool true) h) (∃ v5_, ldv false 1 h (Addr.add a1 4) = some v5_ ∧ ∃ A6_, ∃ n6_, ∃ c6_, v5_ = (Value.slice A6_ n6_ c6_) ∧ R (Value.bool (((n6_ : Nat) : Int) == (0 : Int))) h)) (R (Value.bool false) h))) (∃ v7_, ldv false 1 h (Addr.add a1 3) = some v7_ ∧ ∃ s8_, v7_ = (Value.string s8_) ∧ splitB (ByteArray.toList s8_ == ByteArray.toList (ByteArray.mk #[])) (splitB b4 (splitB b5 (R (Value.bool true) h) (∃ v9_, ldv false 1 h (Addr.add a1 4) = some v9_ ∧ ∃ A10_, ∃ n10_, ∃ c10_, v9_ = (Value.slice A10_ n10_ c10_) ∧ R (Value.bool (((n10_ : Nat) : Int) == (0 : Int))) h)) (∃ v11_, ldv false 1 h (Addr.add a1 2) = some v11_ ∧ ∃ x12_, v11_ = (Value.int .i64 x12_) ∧ splitB (x12_ == (0 : Int)) (splitB b5 (R (Value.bool true) h) (∃ v13_, ldv false 1 h (Addr.add a1 4) = some v13_ ∧ ∃ A14_, ∃ n14_, ∃ c14_, v13_ = (Value.slice A14_ n14_ c14_) ∧ R (Value.bool (((n14_ : Nat) : Int) == (0 : Int))) h)) (R (Value.bool false) h))) (R (Value.bool false) h))
set_option maxRecDepth 100000 in
theorem f90.j1_in {R : Value → Heap → Prop} {a1 : Addr} {b3 : Bool} {b4 : Bool} {b5 : Bool} {h : Heap} (H : f90.j1T R a1 b3 b4 b5 h) : f90.j1 R a1 b3 b4 b5 h :=
  pt_intro mixed f90.good (Eq.mpr (show (Fwd Try.prog f90.T f90.kp Try.f90 R [true, true, true] (mkFr [(1, (Value.pointer (some a1))), (3, (Value.bool b3)), (4, (Value.bool b4)), (5, (Value.bool b5))]) h) = (f90.j1T R a1 b3 b4 b5 h) by kernel_rfl) H)
set_option maxRecDepth 100000 in
def f90.runT (R : Value → Heap → Prop) (v0 : Value) (h : Heap) : Prop :=
  newH h (Obj.cells ((v0).cells) 63) fun h1_ => ∃ v2_, ldv false 1 h1_ (Addr.add (⟨Array.size h, 0, none⟩) 1) = some v2_ ∧ ∃ x3_, v2_ = (Value.int .i64 x3_) ∧ splitB (x3_ == (2 : Int)) (∃ v4_, ldv false 1 h1_ (Addr.add (⟨Array.size h, 0, none⟩) 1) = some v4_ ∧ ∃ x5_, v4_ = (Value.int .i64 x5_) ∧ splitB (x5_ == (1 : Int)) (∃ v6_, ldv false 1 h1_ (Addr.add (⟨Array.size h, 0, none⟩) 1) = some v6_ ∧ ∃ x7_, v6_ = (Value.int .i64 x7_) ∧ f90.j0 R (⟨Array.size h, 0, none⟩) true true (decide (x7_ > (2 : Int))) h1_) (∃ v8_, ldv false 1 h1_ (Addr.add (⟨Array.size h, 0, none⟩) 1) = some v8_ ∧ ∃ x9_, v8_ = (Value.int .i64 x9_) ∧ ∃ v10_, ldv false 1 h1_ (Addr.add (⟨Array.size h, 0, none⟩) 1) = some v10_ ∧ ∃ x11_, v10_ = (Value.int .i64 x11_) ∧ f90.j0 R (⟨Array.size h, 0, none⟩) true (x9_ == (4 : Int)) (decide (x11_ > (2 : Int))) h1_)) (∃ v12_, ldv false 1 h1_ (Addr.add (⟨Array.size h, 0, none⟩) 1) = some v12_ ∧ ∃ x13_, v12_ = (Value.int .i64 x13_) ∧ ∃ v14_, ldv false 1 h1_ (Addr.add (⟨Array.size h, 0, none⟩) 1) = some v14_ ∧ ∃ x15_, v14_ = (Value.int .i64 x15_) ∧ splitB (x15_ == (1 : Int)) (∃ v16_, ldv false 1 h1_ (Addr.add (⟨Array.size h, 0, none⟩) 1) = some v16_ ∧ ∃ x17_, v16_ = (Value.int .i64 x17_) ∧ f90.j0 R (⟨Array.size h, 0, none⟩) (x13_ == (3 : Int)) true (decide (x17_ > (2 : Int))) h1_) (∃ v18_, ldv false 1 h1_ (Addr.add (⟨Array.size h, 0, none⟩) 1) = some v18_ ∧ ∃ x19_, v18_ = (Value.int .i64 x19_) ∧ ∃ v20_, ldv false 1 h1_ (Addr.add (⟨Array.size h, 0, none⟩) 1) = some v20_ ∧ ∃ x21_, v20_ = (Value.int .i64 x21_) ∧ f90.j0 R (⟨Array.size h, 0, none⟩) (x13_ == (3 : Int)) (x19_ == (4 : Int)) (decide (x21_ > (2 : Int))) h1_))
set_option maxRecDepth 100000 in
theorem f90.run {R : Value → Heap → Prop} {v0 : Value} {h : Heap} (H : f90.runT R v0 h) : Run Try.prog 90 #[v0] h R :=
  run_of mixed Try.func90 (by kernel_rfl) (by kernel_rfl) f90.good (Eq.mpr (show (Fwd Try.prog f90.T f90.kp Try.f90 R [] (mkFr (argL [v0] 0)) h) = (f90.runT R v0 h) by kernel_rfl) H)
def f32.T : Tab := { sh := tSh, tup := tTup, keep := [], plan := [(4, (.take 0 (.take 1 (.take 2 (.take 7 (.take 8 (.take 9 (.take 3 (.take 4 (.take 5 (.take 6 (.take 13 (.take 10 (.take 11 (.take 12 (.take 14 .done)))))))))))))))), (9, (.take 0 (.take 1 (.take 4 (.take 5 (.take 2 (.take 3 (.take 6 (.eff false 7 (.take 8 .done)))))))))), (23, (.take 0 (.take 2 (.take 3 (.take 4 (.take 5 (.take 6 (.take 7 (.take 1 (.eff false 8 (.take 9 (.eff false 10 .done))))))))))))] }
def f32.kp : Keep := [([true, false, true], [0, 1, 4, 28]), ([true, true], [0, 1, 4]), ([true, false, true, true, true, true, true], [0, 1, 4, 6, 7, 8, 9, 62]), ([true, true, true, true, true, true], [0, 1, 4, 6, 7, 8, 9]), ([false, false, true, false, true, true, true, true, true, true, true, true], [0, 1, 4, 6, 8, 9, 10, 84, 85]), ([false, false, true, false, true, true, false, false, true, true, false, false, true, false, true, true, true, true, true, true, true, true], [0, 1, 4, 6, 8, 9, 10, 12, 84, 85, 94, 95]), ([false, false, true, false, true, true, true, true, true, true, true, true, true, true, true], [0, 1, 4, 6, 125, 126, 127])]
theorem f32.good : goodCode Try.prog f32.T (rootOf Try.f32) = true := by kernel_rfl
def f32.j1 (R : Value → Heap → Prop) (A0 : Option Addr) (n0 : Nat) (c0 : Nat) (x1 : Int) (a4 : Addr) (b28 : Bool) (h : Heap) : Prop := Pt Try.prog Try.f32 R [true, false, true] (mkFr [(0, (Value.slice A0 n0 c0)), (1, (Value.int .i64 x1)), (4, (Value.pointer (some a4))), (28, (Value.bool b28))]) h
def f32.j0 (R : Value → Heap → Prop) (A0 : Option Addr) (n0 : Nat) (c0 : Nat) (x1 : Int) (a4 : Addr) (h : Heap) : Prop := Pt Try.prog Try.f32 R [true, true] (mkFr [(0, (Value.slice A0 n0 c0)), (1, (Value.int .i64 x1)), (4, (Value.pointer (some a4)))]) h
def f32.j3 (R : Value → Heap → Prop) (A0 : Option Addr) (n0 : Nat) (c0 : Nat) (x1 : Int) (a4 : Addr) (a6 : Addr) (x7 : Int) (x8 : Int) (A9 : Option Addr) (n9 : Nat) (c9 : Nat) (b62 : Bool) (h : Heap) : Prop := Pt Try.prog Try.f32 R [true, false, true, true, true, true, true] (mkFr [(0, (Value.slice A0 n0 c0)), (1, (Value.int .i64 x1)), (4, (Value.pointer (some a4))), (6, (Value.pointer (some a6))), (7, (Value.int .i64 x7)), (8, (Value.int .i64 x8)), (9, (Value.slice A9 n9 c9)), (62, (Value.bool b62))]) h
def f32.j2 (R : Value → Heap → Prop) (A0 : Option Addr) (n0 : Nat) (c0 : Nat) (x1 : Int) (a4 : Addr) (a6 : Addr) (x7 : Int) (x8 : Int) (A9 : Option Addr) (n9 : Nat) (c9 : Nat) (h : Heap) : Prop := Pt Try.prog Try.f32 R [true, true, true, true, true, true] (mkFr [(0, (Value.slice A0 n0 c0)), (1, (Value.int .i64 x1)), (4, (Value.pointer (some a4))), (6, (Value.pointer (some a6))), (7, (Value.int .i64 x7)), (8, (Value.int .i64 x8)), (9, (Value.slice A9 n9 c9))]) h
def f32.l0 (R : Value → Heap → Prop) (A0 : Option Addr) (n0 : Nat) (c0 : Nat) (x1 : Int) (a4 : Addr) (a6 : Addr) (x8 : Int) (A9 : Option Addr) (n9 : Nat) (c9 : Nat) (x10 : Int) (x84 : Int) (x85 : Int) (h : Heap) : Prop := Pt Try.prog Try.f32 R [false, false, true, false, true, true, true, true, true, true, true, true] (mkFr [(0, (Value.slice A0 n0 c0)), (1, (Value.int .i64 x1)), (4, (Value.pointer (some a4))), (6, (Value.pointer (some a6))), (8, (Value.int .i64 x8)), (9, (Value.slice A9 n9 c9)), (10, (Value.int .i64 x10)), (84, (Value.int .i64 x84)), (85, (Value.int .i64 x85))]) h
def f32.l2 (R : Value → Heap → Prop) (A0 : Option Addr) (n0 : Nat) (c0 : Nat) (x1 : Int) (a4 : Addr) (a6 : Addr) (x8 : Int) (A9 : Option Addr) (n9 : Nat) (c9 : Nat) (x10 : Int) (x12 : Int) (x84 : Int) (x85 : Int) (x94 : Int) (x95 : Int) (h : Heap) : Prop := Pt Try.prog Try.f32 R [false, false, true, false, true, true, false, false, true, true, false, false, true, false, true, true, true, true, true, true, true, true] (mkFr [(0, (Value.slice A0 n0 c0)), (1, (Value.int .i64 x1)), (4, (Value.pointer (some a4))), (6, (Value.pointer (some a6))), (8, (Value.int .i64 x8)), (9, (Value.slice A9 n9 c9)), (10, (Value.int .i64 x10)), (12, (Value.int .u64 x12)), (84, (Value.int .i64 x84)), (85, (Value.int .i64 x85)), (94, (Value.int .i64 x94)), (95, (Value.int .i64 x95))]) h
def f32.l1 (R : Value → Heap → Prop) (A0 : Option Addr) (n0 : Nat) (c0 : Nat) (x1 : Int) (a4 : Addr) (a6 : Addr) (A125 : Option Addr) (n125 : Nat) (c125 : Nat) (x126 : Int) (x127 : Int) (h : Heap) : Prop := Pt Try.prog Try.f32 R [false, false, true, false, true, true, true, true, true, true, true, true, true, true, true] (mkFr [(0, (Value.slice A0 n0 c0)), (1, (Value.int .i64 x1)), (4, (Value.pointer (some a4))), (6, (Value.pointer (some a6))), (125, (Value.slice A125 n125 c125)), (126, (Value.int .i64 x126)), (127, (Value.int .i64 x127))]) h
set_option maxRecDepth 100000 in
def f32.j1T (R : Value → Heap → Prop) (A0 : Option Addr) (n0 : Nat) (c0 : Nat) (x1 : Int) (a4 : Addr) (b28 : Bool) (h : Heap) : Prop :=
  splitB b28 (∃ l2_ : List Value, (Value.agg #[(Value.int .i64 (0 : Int)), (Value.int .i64 (0 : Int)), (Value.int .i64 (0 : Int)), (Value.string (ByteArray.mk #[])), (Value.slice none 0 0)]) = Value.agg l2_.toArray ∧ l2_.length = 5 ∧ ∃ h1_, stH h a4 l2_ 0 = some h1_ ∧ ∃ v3_, ldv true 5 h1_ a4 = some v3_ ∧ R (Value.tuple #[v3_, (Value.bool false)]) h1_) (f32.j0 R A0 n0 c0 x1 a4 h)
set_option maxRecDepth 100000 in
theorem f32.j1_in {R : Value → Heap → Prop} {A0 : Option Addr} {n0 : Nat} {c0 : Nat} {x1 : Int} {a4 : Addr} {b28 : Bool} {h : Heap} (H : f32.j1T R A0 n0 c0 x1 a4 b28 h) : f32.j1 R A0 n0 c0 x1 a4 b28 h :=
  pt_intro mixed f32.good (Eq.mpr (show (Fwd Try.prog f32.T f32.kp Try.f32 R [true, false, true] (mkFr [(0, (Value.slice A0 n0 c0)), (1, (Value.int .i64 x1)), (4, (Value.pointer (some a4))), (28, (Value.bool b28))]) h) = (f32.j1T R A0 n0 c0 x1 a4 b28 h) by kernel_rfl) H)
set_option maxRecDepth 100000 in
def f32.j0T (R : Value → Heap → Prop) (A0 : Option Addr) (n0 : Nat) (c0 : Nat) (x1 : Int) (a4 : Addr) (h : Heap) : Prop :=
  ptrOk A0 fun a1_ => 0 ≤ x1 ∧ x1 < ((n0 : Nat) : Int) ∧ (∃ v2_, ldv false 1 h (Addr.add a1_ (Int.toNat x1 * 1)) = some v2_ ∧ ∃ x3_, v2_ = (Value.int .u64 x3_) ∧ (256 : Int) ≠ 0 ∧ (newH h (Obj.cells #[(Value.int .i64 (0 : Int)), (Value.int .i64 (0 : Int)), (Value.int .i64 (0 : Int)), (Value.string (ByteArray.mk #[])), (Value.slice none 0 0)] 63) fun h4_ => ∃ l6_ : List Value, (Value.agg #[(Value.int .i64 x1), (Value.int .i64 (IntKind.wrap .i64 (Int.tmod x3_ (256 : Int)))), (Value.int .i64 (0 : Int)), (Value.string (ByteArray.mk #[])), (Value.slice none 0 0)]) = Value.agg l6_.toArray ∧ l6_.length = 5 ∧ ∃ h5_, stH h4_ (⟨Array.size h, 0, none⟩) l6_ 0 = some h5_ ∧ ptrOk A0 fun a7_ => 0 ≤ x1 ∧ x1 < ((n0 : Nat) : Int) ∧ (ptrOk A0 fun a8_ => 0 ≤ x1 ∧ x1 < ((n0 : Nat) : Int) ∧ (∃ v9_, ldv false 1 h5_ (Addr.add a7_ (Int.toNat x1 * 1)) = some v9_ ∧ ∃ x10_, v9_ = (Value.int .u64 x10_) ∧ (256 : Int) ≠ 0 ∧ ((4096 : Int) ≠ 0 ∧ (∃ v11_, ldv false 1 h5_ (Addr.add a8_ (Int.toNat x1 * 1)) = some v11_ ∧ ∃ x12_, v11_ = (Value.int .u64 x12_) ∧ (1048576 : Int) ≠ 0 ∧ (0 ≤ (IntKind.wrap .i64 (x1 + (1 : Int))) ∧ (IntKind.wrap .i64 (x1 + (1 : Int))) ≤ ((n0 : Nat) : Int) ∧ ((n0 : Nat) : Int) ≤ ((c0 : Nat) : Int) ∧ (∃ v13_, ldv false 1 h5_ (Addr.add (⟨Array.size h, 0, none⟩) 1) = some v13_ ∧ ∃ x14_, v13_ = (Value.int .i64 x14_) ∧ splitB (x14_ == (1 : Int)) (f32.j3 R A0 n0 c0 x1 a4 (⟨Array.size h, 0, none⟩) (IntKind.wrap .i64 (Int.tmod (IntKind.wrap .u64 (Int.tdiv x10_ (256 : Int))) (4096 : Int))) (IntKind.wrap .i64 (IntKind.wrap .u64 (Int.tdiv x12_ (1048576 : Int)))) (sliceA A0 (Int.toNat (IntKind.wrap .i64 (x1 + (1 : Int)))) c0 1) (Int.toNat ((n0 : Nat) : Int) - Int.toNat (IntKind.wrap .i64 (x1 + (1 : Int)))) (c0 - Int.toNat (IntKind.wrap .i64 (x1 + (1 : Int)))) true h5_) (∃ v15_, ldv false 1 h5_ (Addr.add (⟨Array.size h, 0, none⟩) 1) = some v15_ ∧ ∃ x16_, v15_ = (Value.int .i64 x16_) ∧ f32.j3 R A0 n0 c0 x1 a4 (⟨Array.size h, 0, none⟩) (IntKind.wrap .i64 (Int.tmod (IntKind.wrap .u64 (Int.tdiv x10_ (256 : Int))) (4096 : Int))) (IntKind.wrap .i64 (IntKind.wrap .u64 (Int.tdiv x12_ (1048576 : Int)))) (sliceA A0 (Int.toNat (IntKind.wrap .i64 (x1 + (1 : Int)))) c0 1) (Int.toNat ((n0 : Nat) : Int) - Int.toNat (IntKind.wrap .i64 (x1 + (1 : Int)))) (c0 - Int.toNat (IntKind.wrap .i64 (x1 + (1 : Int)))) (x16_ == (4 : Int)) h5_)))))))))
set_option maxRecDepth 100000 in
theorem f32.j0_in {R : Value → Heap → Prop} {A0 : Option Addr} {n0 : Nat} {c0 : Nat} {x1 : Int} {a4 : Addr} {h : Heap} (H : f32.j0T R A0 n0 c0 x1 a4 h) : f32.j0 R A0 n0 c0 x1 a4 h :=
  pt_intro mixed f32.good (Eq.mpr (show (Fwd Try.prog f32.T f32.kp Try.f32 R [true, true] (mkFr [(0, (Value.slice A0 n0 c0)), (1, (Value.int .i64 x1)), (4, (Value.pointer (some a4)))]) h) = (f32.j0T R A0 n0 c0 x1 a4 h) by kernel_rfl) H)
set_option maxRecDepth 100000 in
def f32.j3T (R : Value → Heap → Prop) (A0 : Option Addr) (n0 : Nat) (c0 : Nat) (x1 : Int) (a4 : Addr) (a6 : Addr) (x7 : Int) (x8 : Int) (A9 : Option Addr) (n9 : Nat) (c9 : Nat) (b62 : Bool) (h : Heap) : Prop :=
  splitB b62 (splitB (((n9 : Nat) : Int) == (0 : Int)) (∃ l2_ : List Value, (Value.agg #[(Value.int .i64 (0 : Int)), (Value.int .i64 (0 : Int)), (Value.int .i64 (0 : Int)), (Value.string (ByteArray.mk #[])), (Value.slice none 0 0)]) = Value.agg l2_.toArray ∧ l2_.length = 5 ∧ ∃ h1_, stH h a4 l2_ 0 = some h1_ ∧ ∃ v3_, ldv true 5 h1_ a4 = some v3_ ∧ R (Value.tuple #[v3_, (Value.bool false)]) h1_) (ptrOk A9 fun a4_ => 0 ≤ (0 : Int) ∧ (0 : Int) < ((n9 : Nat) : Int) ∧ (0 ≤ (1 : Int) ∧ (1 : Int) ≤ ((n9 : Nat) : Int) ∧ ((n9 : Nat) : Int) ≤ ((c9 : Nat) : Int) ∧ (∃ v5_, ldv false 1 h (Addr.add a4_ (Int.toNat (0 : Int) * 1)) = some v5_ ∧ ∃ x6_, v5_ = (Value.int .u64 x6_) ∧ ∃ h7_, st1 h (Addr.add a6 2) (Value.int .i64 (IntKind.wrap .i64 x6_)) = some h7_ ∧ f32.j2 R A0 n0 c0 x1 a4 a6 x7 x8 (sliceA A9 (Int.toNat (1 : Int)) c9 1) (Int.toNat ((n9 : Nat) : Int) - Int.toNat (1 : Int)) (c9 - Int.toNat (1 : Int)) h7_)))) (f32.j2 R A0 n0 c0 x1 a4 a6 x7 x8 A9 n9 c9 h)
set_option maxRecDepth 100000 in
theorem f32.j3_in {R : Value → Heap → Prop} {A0 : Option Addr} {n0 : Nat} {c0 : Nat} {x1 : Int} {a4 : Addr} {a6 : Addr} {x7 : Int} {x8 : Int} {A9 : Option Addr} {n9 : Nat} {c9 : Nat} {b62 : Bool} {h : Heap} (H : f32.j3T R A0 n0 c0 x1 a4 a6 x7 x8 A9 n9 c9 b62 h) : f32.j3 R A0 n0 c0 x1 a4 a6 x7 x8 A9 n9 c9 b62 h :=
  pt_intro mixed f32.good (Eq.mpr (show (Fwd Try.prog f32.T f32.kp Try.f32 R [true, false, true, true, true, true, true] (mkFr [(0, (Value.slice A0 n0 c0)), (1, (Value.int .i64 x1)), (4, (Value.pointer (some a4))), (6, (Value.pointer (some a6))), (7, (Value.int .i64 x7)), (8, (Value.int .i64 x8)), (9, (Value.slice A9 n9 c9)), (62, (Value.bool b62))]) h) = (f32.j3T R A0 n0 c0 x1 a4 a6 x7 x8 A9 n9 c9 b62 h) by kernel_rfl) H)
set_option maxRecDepth 100000 in
def f32.j2T (R : Value → Heap → Prop) (A0 : Option Addr) (n0 : Nat) (c0 : Nat) (x1 : Int) (a4 : Addr) (a6 : Addr) (x7 : Int) (x8 : Int) (A9 : Option Addr) (n9 : Nat) (c9 : Nat) (h : Heap) : Prop :=
  (8 : Int) ≠ 0 ∧ (splitB (decide (((n9 : Nat) : Int) < (IntKind.wrap .i64 ((IntKind.wrap .i64 (Int.tdiv (IntKind.wrap .i64 (x7 + (7 : Int))) (8 : Int))) + x8)))) (∃ l2_ : List Value, (Value.agg #[(Value.int .i64 (0 : Int)), (Value.int .i64 (0 : Int)), (Value.int .i64 (0 : Int)), (Value.string (ByteArray.mk #[])), (Value.slice none 0 0)]) = Value.agg l2_.toArray ∧ l2_.length = 5 ∧ ∃ h1_, stH h a4 l2_ 0 = some h1_ ∧ ∃ v3_, ldv true 5 h1_ a4 = some v3_ ∧ R (Value.tuple #[v3_, (Value.bool false)]) h1_) (f32.l0 R A0 n0 c0 x1 a4 a6 x8 A9 n9 c9 (IntKind.wrap .i64 (Int.tdiv (IntKind.wrap .i64 (x7 + (7 : Int))) (8 : Int))) x7 (0 : Int) h))
set_option maxRecDepth 100000 in
theorem f32.j2_in {R : Value → Heap → Prop} {A0 : Option Addr} {n0 : Nat} {c0 : Nat} {x1 : Int} {a4 : Addr} {a6 : Addr} {x7 : Int} {x8 : Int} {A9 : Option Addr} {n9 : Nat} {c9 : Nat} {h : Heap} (H : f32.j2T R A0 n0 c0 x1 a4 a6 x7 x8 A9 n9 c9 h) : f32.j2 R A0 n0 c0 x1 a4 a6 x7 x8 A9 n9 c9 h :=
  pt_intro mixed f32.good (Eq.mpr (show (Fwd Try.prog f32.T f32.kp Try.f32 R [true, true, true, true, true, true] (mkFr [(0, (Value.slice A0 n0 c0)), (1, (Value.int .i64 x1)), (4, (Value.pointer (some a4))), (6, (Value.pointer (some a6))), (7, (Value.int .i64 x7)), (8, (Value.int .i64 x8)), (9, (Value.slice A9 n9 c9))]) h) = (f32.j2T R A0 n0 c0 x1 a4 a6 x7 x8 A9 n9 c9 h) by kernel_rfl) H)
set_option maxRecDepth 100000 in
def f32.l0T (R : Value → Heap → Prop) (A0 : Option Addr) (n0 : Nat) (c0 : Nat) (x1 : Int) (a4 : Addr) (a6 : Addr) (x8 : Int) (A9 : Option Addr) (n9 : Nat) (c9 : Nat) (x10 : Int) (x84 : Int) (x85 : Int) (h : Heap) : Prop :=
  splitB (decide (x85 < x84)) ((8 : Int) ≠ 0 ∧ (ptrOk A9 fun a1_ => 0 ≤ (IntKind.wrap .i64 (Int.tdiv x85 (8 : Int))) ∧ (IntKind.wrap .i64 (Int.tdiv x85 (8 : Int))) < ((n9 : Nat) : Int) ∧ (∃ v2_, ldv false 1 h (Addr.add a1_ (Int.toNat (IntKind.wrap .i64 (Int.tdiv x85 (8 : Int))) * 1)) = some v2_ ∧ ∃ x3_, v2_ = (Value.int .u64 x3_) ∧ (8 : Int) ≠ 0 ∧ (f32.l2 R A0 n0 c0 x1 a4 a6 x8 A9 n9 c9 x10 x3_ x84 x85 (Int.tmod x85 (8 : Int)) (0 : Int) h)))) (0 ≤ x10 ∧ x10 ≤ (IntKind.wrap .i64 (x10 + x8)) ∧ (IntKind.wrap .i64 (x10 + x8)) ≤ ((c9 : Nat) : Int) ∧ (∃ v4_, ldv false 1 h (Addr.add a6 4) = some v4_ ∧ ∃ A5_, ∃ n5_, ∃ c5_, v4_ = (Value.slice A5_ n5_ c5_) ∧ AppW 54 1 8 #[(Value.int .u64 (0 : Int))] A5_ n5_ c5_ (Value.slice (sliceA A9 (Int.toNat x10) c9 1) (Int.toNat (IntKind.wrap .i64 (x10 + x8)) - Int.toNat x10) (c9 - Int.toNat x10)) h fun v6_ h7_ => ∃ A8_, ∃ n8_, ∃ c8_, v6_ = (Value.slice A8_ n8_ c8_) ∧ ∃ h9_, st1 h7_ (Addr.add a6 4) (Value.slice A8_ n8_ c8_) = some h9_ ∧ ∃ v10_, ldv true 5 h9_ a6 = some v10_ ∧ Run Try.prog 90 #[v10_] h9_ fun v11_ h12_ => ∃ b13_, v11_ = (Value.bool b13_) ∧ splitB (!b13_) (∃ l15_ : List Value, (Value.agg #[(Value.int .i64 (0 : Int)), (Value.int .i64 (0 : Int)), (Value.int .i64 (0 : Int)), (Value.string (ByteArray.mk #[])), (Value.slice none 0 0)]) = Value.agg l15_.toArray ∧ l15_.length = 5 ∧ ∃ h14_, stH h12_ a4 l15_ 0 = some h14_ ∧ ∃ v16_, ldv true 5 h14_ a4 = some v16_ ∧ R (Value.tuple #[v16_, (Value.bool false)]) h14_) (∃ v17_, ldv true 5 h12_ a6 = some v17_ ∧ Run Try.prog 86 #[v17_] h12_ fun v18_ h19_ => ∃ A20_, ∃ n20_, ∃ c20_, v18_ = (Value.slice A20_ n20_ c20_) ∧ f32.l1 R A0 n0 c0 x1 a4 a6 A20_ n20_ c20_ ((n20_ : Nat) : Int) (0 : Int) h19_)))
set_option maxRecDepth 100000 in
theorem f32.l0_in {R : Value → Heap → Prop} {A0 : Option Addr} {n0 : Nat} {c0 : Nat} {x1 : Int} {a4 : Addr} {a6 : Addr} {x8 : Int} {A9 : Option Addr} {n9 : Nat} {c9 : Nat} {x10 : Int} {x84 : Int} {x85 : Int} {h : Heap} (H : f32.l0T R A0 n0 c0 x1 a4 a6 x8 A9 n9 c9 x10 x84 x85 h) : f32.l0 R A0 n0 c0 x1 a4 a6 x8 A9 n9 c9 x10 x84 x85 h :=
  pt_intro mixed f32.good (Eq.mpr (show (Fwd Try.prog f32.T f32.kp Try.f32 R [false, false, true, false, true, true, true, true, true, true, true, true] (mkFr [(0, (Value.slice A0 n0 c0)), (1, (Value.int .i64 x1)), (4, (Value.pointer (some a4))), (6, (Value.pointer (some a6))), (8, (Value.int .i64 x8)), (9, (Value.slice A9 n9 c9)), (10, (Value.int .i64 x10)), (84, (Value.int .i64 x84)), (85, (Value.int .i64 x85))]) h) = (f32.l0T R A0 n0 c0 x1 a4 a6 x8 A9 n9 c9 x10 x84 x85 h) by kernel_rfl) H)
set_option maxRecDepth 100000 in
def f32.l2T (R : Value → Heap → Prop) (A0 : Option Addr) (n0 : Nat) (c0 : Nat) (x1 : Int) (a4 : Addr) (a6 : Addr) (x8 : Int) (A9 : Option Addr) (n9 : Nat) (c9 : Nat) (x10 : Int) (x12 : Int) (x84 : Int) (x85 : Int) (x94 : Int) (x95 : Int) (h : Heap) : Prop :=
  splitB (decide (x95 < x94)) ((256 : Int) ≠ 0 ∧ (f32.l2 R A0 n0 c0 x1 a4 a6 x8 A9 n9 c9 x10 (IntKind.wrap .u64 (Int.tdiv x12 (256 : Int))) x84 x85 x94 (IntKind.wrap .i64 (x95 + (1 : Int))) h)) (∃ v1_, ldv false 1 h (Addr.add a6 3) = some v1_ ∧ ∃ s2_, v1_ = (Value.string s2_) ∧ (256 : Int) ≠ 0 ∧ (newH h (Obj.cells #[(Value.int .u8 (IntKind.wrap .u8 (Int.tmod x12 (256 : Int))))] 5) fun h3_ => Gen Try.prog (convert 117 9 (Value.slice (some ⟨Array.size h, 0, none⟩) 1 1)) h3_ fun v4_ h5_ => ∃ s6_, v4_ = (Value.string s6_) ∧ ByteArray.size s2_ + ByteArray.size s6_ ≤ 9223372036854775807 ∧ (∃ h7_, st1 h5_ (Addr.add a6 3) (Value.string (s2_ ++ s6_)) = some h7_ ∧ f32.l0 R A0 n0 c0 x1 a4 a6 x8 A9 n9 c9 x10 x84 (IntKind.wrap .i64 (x85 + (1 : Int))) h7_)))
set_option maxRecDepth 100000 in
theorem f32.l2_in {R : Value → Heap → Prop} {A0 : Option Addr} {n0 : Nat} {c0 : Nat} {x1 : Int} {a4 : Addr} {a6 : Addr} {x8 : Int} {A9 : Option Addr} {n9 : Nat} {c9 : Nat} {x10 : Int} {x12 : Int} {x84 : Int} {x85 : Int} {x94 : Int} {x95 : Int} {h : Heap} (H : f32.l2T R A0 n0 c0 x1 a4 a6 x8 A9 n9 c9 x10 x12 x84 x85 x94 x95 h) : f32.l2 R A0 n0 c0 x1 a4 a6 x8 A9 n9 c9 x10 x12 x84 x85 x94 x95 h :=
  pt_intro mixed f32.good (Eq.mpr (show (Fwd Try.prog f32.T f32.kp Try.f32 R [false, false, true, false, true, true, false, false, true, true, false, false, true, false, true, true, true, true, true, true, true, true] (mkFr [(0, (Value.slice A0 n0 c0)), (1, (Value.int .i64 x1)), (4, (Value.pointer (some a4))), (6, (Value.pointer (some a6))), (8, (Value.int .i64 x8)), (9, (Value.slice A9 n9 c9)), (10, (Value.int .i64 x10)), (12, (Value.int .u64 x12)), (84, (Value.int .i64 x84)), (85, (Value.int .i64 x85)), (94, (Value.int .i64 x94)), (95, (Value.int .i64 x95))]) h) = (f32.l2T R A0 n0 c0 x1 a4 a6 x8 A9 n9 c9 x10 x12 x84 x85 x94 x95 h) by kernel_rfl) H)
set_option maxRecDepth 100000 in
def f32.l1T (R : Value → Heap → Prop) (A0 : Option Addr) (n0 : Nat) (c0 : Nat) (x1 : Int) (a4 : Addr) (a6 : Addr) (A125 : Option Addr) (n125 : Nat) (c125 : Nat) (x126 : Int) (x127 : Int) (h : Heap) : Prop :=
  splitB (decide (x127 < x126)) (ptrOk A125 fun a1_ => 0 ≤ x127 ∧ x127 < ((n125 : Nat) : Int) ∧ (∃ v2_, ldv false 1 h (Addr.add a1_ (Int.toNat x127 * 1)) = some v2_ ∧ ∃ x3_, v2_ = (Value.int .u64 x3_) ∧ ptrOk A0 fun a4_ => 0 ≤ (IntKind.wrap .i64 (x1 + x127)) ∧ (IntKind.wrap .i64 (x1 + x127)) < ((n0 : Nat) : Int) ∧ (∃ v5_, ldv false 1 h (Addr.add a4_ (Int.toNat (IntKind.wrap .i64 (x1 + x127)) * 1)) = some v5_ ∧ ∃ x6_, v5_ = (Value.int .u64 x6_) ∧ splitB (x6_ != x3_) (∃ l8_ : List Value, (Value.agg #[(Value.int .i64 (0 : Int)), (Value.int .i64 (0 : Int)), (Value.int .i64 (0 : Int)), (Value.string (ByteArray.mk #[])), (Value.slice none 0 0)]) = Value.agg l8_.toArray ∧ l8_.length = 5 ∧ ∃ h7_, stH h a4 l8_ 0 = some h7_ ∧ ∃ v9_, ldv true 5 h7_ a4 = some v9_ ∧ R (Value.tuple #[v9_, (Value.bool false)]) h7_) (f32.l1 R A0 n0 c0 x1 a4 a6 A125 n125 c125 x126 (IntKind.wrap .i64 (x127 + (1 : Int))) h)))) (∃ v10_, ldv true 5 h a6 = some v10_ ∧ ∃ l12_ : List Value, v10_ = Value.agg l12_.toArray ∧ l12_.length = 5 ∧ ∃ h11_, stH h a4 l12_ 0 = some h11_ ∧ ∃ v13_, ldv true 5 h11_ a4 = some v13_ ∧ R (Value.tuple #[v13_, (Value.bool true)]) h11_)
set_option maxRecDepth 100000 in
theorem f32.l1_in {R : Value → Heap → Prop} {A0 : Option Addr} {n0 : Nat} {c0 : Nat} {x1 : Int} {a4 : Addr} {a6 : Addr} {A125 : Option Addr} {n125 : Nat} {c125 : Nat} {x126 : Int} {x127 : Int} {h : Heap} (H : f32.l1T R A0 n0 c0 x1 a4 a6 A125 n125 c125 x126 x127 h) : f32.l1 R A0 n0 c0 x1 a4 a6 A125 n125 c125 x126 x127 h :=
  pt_intro mixed f32.good (Eq.mpr (show (Fwd Try.prog f32.T f32.kp Try.f32 R [false, false, true, false, true, true, true, true, true, true, true, true, true, true, true] (mkFr [(0, (Value.slice A0 n0 c0)), (1, (Value.int .i64 x1)), (4, (Value.pointer (some a4))), (6, (Value.pointer (some a6))), (125, (Value.slice A125 n125 c125)), (126, (Value.int .i64 x126)), (127, (Value.int .i64 x127))]) h) = (f32.l1T R A0 n0 c0 x1 a4 a6 A125 n125 c125 x126 x127 h) by kernel_rfl) H)
set_option maxRecDepth 100000 in
def f32.runT (R : Value → Heap → Prop) (A0 : Option Addr) (n0 : Nat) (c0 : Nat) (x1 : Int) (h : Heap) : Prop :=
  newH h (Obj.cells #[(Value.int .i64 (0 : Int)), (Value.int .i64 (0 : Int)), (Value.int .i64 (0 : Int)), (Value.string (ByteArray.mk #[])), (Value.slice none 0 0)] 63) fun h1_ => Run Try.prog 89 #[(Value.int .i64 x1), (Value.int .i64 (0 : Int)), (Value.int .i64 (IntKind.wrap .i64 (((n0 : Nat) : Int) - (1 : Int))))] h1_ fun v2_ h3_ => ∃ b4_, v2_ = (Value.bool b4_) ∧ splitB (!b4_) (f32.j1 R A0 n0 c0 x1 (⟨Array.size h, 0, none⟩) true h3_) (ptrOk A0 fun a5_ => 0 ≤ x1 ∧ x1 < ((n0 : Nat) : Int) ∧ (∃ v6_, ldv false 1 h3_ (Addr.add a5_ (Int.toNat x1 * 1)) = some v6_ ∧ ∃ x7_, v6_ = (Value.int .u64 x7_) ∧ (4294967296 : Int) ≠ 0 ∧ (f32.j1 R A0 n0 c0 x1 (⟨Array.size h, 0, none⟩) (decide ((IntKind.wrap .u64 (Int.tdiv x7_ (4294967296 : Int))) > (0 : Int))) h3_)))
set_option maxRecDepth 100000 in
theorem f32.run {R : Value → Heap → Prop} {A0 : Option Addr} {n0 : Nat} {c0 : Nat} {x1 : Int} {h : Heap} (H : f32.runT R A0 n0 c0 x1 h) : Run Try.prog 32 #[(Value.slice A0 n0 c0), (Value.int .i64 x1)] h R :=
  run_of mixed Try.func32 (by kernel_rfl) (by kernel_rfl) f32.good (Eq.mpr (show (Fwd Try.prog f32.T f32.kp Try.f32 R [] (mkFr (argL [(Value.slice A0 n0 c0), (Value.int .i64 x1)] 0)) h) = (f32.runT R A0 n0 c0 x1 h) by kernel_rfl) H)
def f30.T : Tab := { sh := tSh, tup := tTup, keep := [], plan := [] }
def f30.kp : Keep := [([false, false, true, false, true, true, true], [0, 4, 5])]
theorem f30.good : goodCode Try.prog f30.T (rootOf Try.f30) = true := by kernel_rfl
def f30.l0 (R : Value → Heap → Prop) (A0 : Option Addr) (n0 : Nat) (c0 : Nat) (A4 : Option Addr) (n4 : Nat) (c4 : Nat) (x5 : Int) (h : Heap) : Prop := Pt Try.prog Try.f30 R [false, false, true, false, true, true, true] (mkFr [(0, (Value.slice A0 n0 c0)), (4, (Value.slice A4 n4 c4)), (5, (Value.int .i64 x5))]) h
set_option maxRecDepth 100000 in
def f30.l0T (R : Value → Heap → Prop) (A0 : Option Addr) (n0 : Nat) (c0 : Nat) (A4 : Option Addr) (n4 : Nat) (c4 : Nat) (x5 : Int) (h : Heap) : Prop :=
  splitB (decide (x5 < ((n0 : Nat) : Int))) (Run Try.prog 32 #[(Value.slice A0 n0 c0), (Value.int .i64 x5)] h fun v1_ h2_ => ∃ v3_, ∃ b4_, v1_ = (Value.tuple #[v3_, (Value.bool b4_)]) ∧ newH h2_ (Obj.cells #[(Value.int .i64 (0 : Int)), (Value.int .i64 (0 : Int)), (Value.int .i64 (0 : Int)), (Value.string (ByteArray.mk #[])), (Value.slice none 0 0)] 63) fun h5_ => ∃ l7_ : List Value, v3_ = Value.agg l7_.toArray ∧ l7_.length = 5 ∧ ∃ h6_, stH h5_ (⟨Array.size h2_, 0, none⟩) l7_ 0 = some h6_ ∧ splitB (!b4_) (R (Value.tuple #[(Value.slice none 0 0), (Value.int .i64 (3 : Int))]) h6_) (∃ v8_, ldv true 5 h6_ (⟨Array.size h2_, 0, none⟩) = some v8_ ∧ ∃ l9_ : List Value, v8_ = Value.agg l9_.toArray ∧ l9_.length = 5 ∧ (newH h6_ (Obj.cells ((List.take 0 ([(Value.int .i64 (0 : Int)), (Value.int .i64 (0 : Int)), (Value.int .i64 (0 : Int)), (Value.string (ByteArray.mk #[])), (Value.slice none 0 0)]) ++ l9_ ++ List.drop 5 ([(Value.int .i64 (0 : Int)), (Value.int .i64 (0 : Int)), (Value.int .i64 (0 : Int)), (Value.string (ByteArray.mk #[])), (Value.slice none 0 0)])).toArray) 63) fun h10_ => AppW 63 5 64 #[(Value.int .i64 (0 : Int)), (Value.int .i64 (0 : Int)), (Value.int .i64 (0 : Int)), (Value.string (ByteArray.mk #[])), (Value.slice none 0 0)] A4 n4 c4 (Value.slice (some ⟨Array.size h6_, 0, none⟩) 1 1) h10_ fun v11_ h12_ => ∃ A13_, ∃ n13_, ∃ c13_, v11_ = (Value.slice A13_ n13_ c13_) ∧ ∃ v14_, ldv true 5 h12_ (⟨Array.size h2_, 0, none⟩) = some v14_ ∧ Run Try.prog 86 #[v14_] h12_ fun v15_ h16_ => ∃ A17_, ∃ n17_, ∃ c17_, v15_ = (Value.slice A17_ n17_ c17_) ∧ f30.l0 R A0 n0 c0 A13_ n13_ c13_ (IntKind.wrap .i64 (x5 + ((n17_ : Nat) : Int))) h16_))) (R (Value.tuple #[(Value.slice A4 n4 c4), (Value.int .i64 (0 : Int))]) h)
set_option maxRecDepth 100000 in
theorem f30.l0_in {R : Value → Heap → Prop} {A0 : Option Addr} {n0 : Nat} {c0 : Nat} {A4 : Option Addr} {n4 : Nat} {c4 : Nat} {x5 : Int} {h : Heap} (H : f30.l0T R A0 n0 c0 A4 n4 c4 x5 h) : f30.l0 R A0 n0 c0 A4 n4 c4 x5 h :=
  pt_intro mixed f30.good (Eq.mpr (show (Fwd Try.prog f30.T f30.kp Try.f30 R [false, false, true, false, true, true, true] (mkFr [(0, (Value.slice A0 n0 c0)), (4, (Value.slice A4 n4 c4)), (5, (Value.int .i64 x5))]) h) = (f30.l0T R A0 n0 c0 A4 n4 c4 x5 h) by kernel_rfl) H)
set_option maxRecDepth 100000 in
def f30.runT (R : Value → Heap → Prop) (A0 : Option Addr) (n0 : Nat) (c0 : Nat) (h : Heap) : Prop :=
  splitB (decide (((n0 : Nat) : Int) > (4000 : Int))) (R (Value.tuple #[(Value.slice none 0 0), (Value.int .i64 (2 : Int))]) h) (f30.l0 R A0 n0 c0 none 0 0 (0 : Int) h)
set_option maxRecDepth 100000 in
theorem f30.run {R : Value → Heap → Prop} {A0 : Option Addr} {n0 : Nat} {c0 : Nat} {h : Heap} (H : f30.runT R A0 n0 c0 h) : Run Try.prog 30 #[(Value.slice A0 n0 c0)] h R :=
  run_of mixed Try.func30 (by kernel_rfl) (by kernel_rfl) f30.good (Eq.mpr (show (Fwd Try.prog f30.T f30.kp Try.f30 R [] (mkFr (argL [(Value.slice A0 n0 c0)] 0)) h) = (f30.runT R A0 n0 c0 h) by kernel_rfl) H)
def f87.T : Tab := { sh := tSh, tup := tTup, keep := [], plan := [] }
def f87.kp : Keep := [([true, true, true], [0, 1, 5, 6])]
theorem f87.good : goodCode Try.prog f87.T (rootOf Try.f87) = true := by kernel_rfl
def f87.j0 (R : Value → Heap → Prop) (x0 : Int) (x1 : Int) (x5 : Int) (x6 : Int) (h : Heap) : Prop := Pt Try.prog Try.f87 R [true, true, true] (mkFr [(0, (Value.int .i64 x0)), (1, (Value.int .i64 x1)), (5, (Value.int .i64 x5)), (6, (Value.int .i64 x6))]) h
set_option maxRecDepth 100000 in
def f87.j0T (R : Value → Heap → Prop) (x0 : Int) (x1 : Int) (x5 : Int) (x6 : Int) (h : Heap) : Prop :=
  Run Try.prog 89 #[(Value.int .i64 x0), (Value.int .i64 (0 : Int)), (Value.int .i64 (4 : Int))] h fun v1_ h2_ => ∃ b3_, v1_ = (Value.bool b3_) ∧ splitB b3_ (Run Try.prog 89 #[(Value.int .i64 x1), (Value.int .i64 x5), (Value.int .i64 x6)] h2_ fun v4_ h5_ => ∃ b6_, v4_ = (Value.bool b6_) ∧ R (Value.bool b6_) h5_) (R (Value.bool false) h2_)
set_option maxRecDepth 100000 in
theorem f87.j0_in {R : Value → Heap → Prop} {x0 : Int} {x1 : Int} {x5 : Int} {x6 : Int} {h : Heap} (H : f87.j0T R x0 x1 x5 x6 h) : f87.j0 R x0 x1 x5 x6 h :=
  pt_intro mixed f87.good (Eq.mpr (show (Fwd Try.prog f87.T f87.kp Try.f87 R [true, true, true] (mkFr [(0, (Value.int .i64 x0)), (1, (Value.int .i64 x1)), (5, (Value.int .i64 x5)), (6, (Value.int .i64 x6))]) h) = (f87.j0T R x0 x1 x5 x6 h) by kernel_rfl) H)
set_option maxRecDepth 100000 in
def f87.runT (R : Value → Heap → Prop) (x0 : Int) (x1 : Int) (h : Heap) : Prop :=
  splitB (x0 == (0 : Int)) (f87.j0 R x0 x1 (0 : Int) (0 : Int) h) (splitB (x0 == (1 : Int)) (f87.j0 R x0 x1 (-1152921504606846976 : Int) (1152921504606846975 : Int) h) (splitB (x0 == (2 : Int)) (f87.j0 R x0 x1 (0 : Int) (1 : Int) h) (f87.j0 R x0 x1 (0 : Int) (1152921504606846975 : Int) h)))
set_option maxRecDepth 100000 in
theorem f87.run {R : Value → Heap → Prop} {x0 : Int} {x1 : Int} {h : Heap} (H : f87.runT R x0 x1 h) : Run Try.prog 87 #[(Value.int .i64 x0), (Value.int .i64 x1)] h R :=
  run_of mixed Try.func87 (by kernel_rfl) (by kernel_rfl) f87.good (Eq.mpr (show (Fwd Try.prog f87.T f87.kp Try.f87 R [] (mkFr (argL [(Value.int .i64 x0), (Value.int .i64 x1)] 0)) h) = (f87.runT R x0 x1 h) by kernel_rfl) H)
def f88.T : Tab := { sh := tSh, tup := tTup, keep := [], plan := [] }
def f88.kp : Keep := []
theorem f88.good : goodCode Try.prog f88.T (rootOf Try.f88) = true := by kernel_rfl
set_option maxRecDepth 100000 in
def f88.runT (R : Value → Heap → Prop) (x0 : Int) (x1 : Int) (h : Heap) : Prop :=
  R (Value.int .u64 (IntKind.wrap .u64 ((IntKind.wrap .u64 ((8 : Int) * (IntKind.wrap .u64 x1))) + (IntKind.wrap .u64 x0)))) h
set_option maxRecDepth 100000 in
theorem f88.run {R : Value → Heap → Prop} {x0 : Int} {x1 : Int} {h : Heap} (H : f88.runT R x0 x1 h) : Run Try.prog 88 #[(Value.int .i64 x0), (Value.int .i64 x1)] h R :=
  run_of mixed Try.func88 (by kernel_rfl) (by kernel_rfl) f88.good (Eq.mpr (show (Fwd Try.prog f88.T f88.kp Try.f88 R [] (mkFr (argL [(Value.int .i64 x0), (Value.int .i64 x1)] 0)) h) = (f88.runT R x0 x1 h) by kernel_rfl) H)
def f31.T : Tab := { sh := tSh, tup := tTup, keep := [], plan := [] }
def f31.kp : Keep := [([true, false, true, true, true], [0, 5, 6, 18]), ([true, true, true, true], [0, 5, 6]), ([true, false, true, true, true, true], [5, 6, 31]), ([true, true, true, true, true], [5, 6])]
theorem f31.good : goodCode Try.prog f31.T (rootOf Try.f31) = true := by kernel_rfl
def f31.j1 (R : Value → Heap → Prop) (x0 : Int) (x5 : Int) (x6 : Int) (b18 : Bool) (h : Heap) : Prop := Pt Try.prog Try.f31 R [true, false, true, true, true] (mkFr [(0, (Value.int .u64 x0)), (5, (Value.int .i64 x5)), (6, (Value.int .i64 x6)), (18, (Value.bool b18))]) h
def f31.j0 (R : Value → Heap → Prop) (x0 : Int) (x5 : Int) (x6 : Int) (h : Heap) : Prop := Pt Try.prog Try.f31 R [true, true, true, true] (mkFr [(0, (Value.int .u64 x0)), (5, (Value.int .i64 x5)), (6, (Value.int .i64 x6))]) h
def f31.j3 (R : Value → Heap → Prop) (x5 : Int) (x6 : Int) (b31 : Bool) (h : Heap) : Prop := Pt Try.prog Try.f31 R [true, false, true, true, true, true] (mkFr [(5, (Value.int .i64 x5)), (6, (Value.int .i64 x6)), (31, (Value.bool b31))]) h
def f31.j2 (R : Value → Heap → Prop) (x5 : Int) (x6 : Int) (h : Heap) : Prop := Pt Try.prog Try.f31 R [true, true, true, true, true] (mkFr [(5, (Value.int .i64 x5)), (6, (Value.int .i64 x6))]) h
set_option maxRecDepth 100000 in
def f31.j1T (R : Value → Heap → Prop) (x0 : Int) (x5 : Int) (x6 : Int) (b18 : Bool) (h : Heap) : Prop :=
  splitB b18 (f31.j0 R x0 x5 (IntKind.wrap .i64 (x6 - (2305843009213693952 : Int))) h) (f31.j0 R x0 x5 x6 h)
set_option maxRecDepth 100000 in
theorem f31.j1_in {R : Value → Heap → Prop} {x0 : Int} {x5 : Int} {x6 : Int} {b18 : Bool} {h : Heap} (H : f31.j1T R x0 x5 x6 b18 h) : f31.j1 R x0 x5 x6 b18 h :=
  pt_intro mixed f31.good (Eq.mpr (show (Fwd Try.prog f31.T f31.kp Try.f31 R [true, false, true, true, true] (mkFr [(0, (Value.int .u64 x0)), (5, (Value.int .i64 x5)), (6, (Value.int .i64 x6)), (18, (Value.bool b18))]) h) = (f31.j1T R x0 x5 x6 b18 h) by kernel_rfl) H)
set_option maxRecDepth 100000 in
def f31.j0T (R : Value → Heap → Prop) (x0 : Int) (x5 : Int) (x6 : Int) (h : Heap) : Prop :=
  Run Try.prog 87 #[(Value.int .i64 x5), (Value.int .i64 x6)] h fun v1_ h2_ => ∃ b3_, v1_ = (Value.bool b3_) ∧ splitB (!b3_) (f31.j3 R x5 x6 true h2_) (Run Try.prog 88 #[(Value.int .i64 x5), (Value.int .i64 x6)] h2_ fun v4_ h5_ => ∃ x6_, v4_ = (Value.int .u64 x6_) ∧ f31.j3 R x5 x6 (x6_ != x0) h5_)
set_option maxRecDepth 100000 in
theorem f31.j0_in {R : Value → Heap → Prop} {x0 : Int} {x5 : Int} {x6 : Int} {h : Heap} (H : f31.j0T R x0 x5 x6 h) : f31.j0 R x0 x5 x6 h :=
  pt_intro mixed f31.good (Eq.mpr (show (Fwd Try.prog f31.T f31.kp Try.f31 R [true, true, true, true] (mkFr [(0, (Value.int .u64 x0)), (5, (Value.int .i64 x5)), (6, (Value.int .i64 x6))]) h) = (f31.j0T R x0 x5 x6 h) by kernel_rfl) H)
set_option maxRecDepth 100000 in
def f31.j3T (R : Value → Heap → Prop) (x5 : Int) (x6 : Int) (b31 : Bool) (h : Heap) : Prop :=
  splitB b31 (R (Value.tuple #[(Value.int .i64 (0 : Int)), (Value.int .i64 (0 : Int)), (Value.bool false)]) h) (f31.j2 R x5 x6 h)
set_option maxRecDepth 100000 in
theorem f31.j3_in {R : Value → Heap → Prop} {x5 : Int} {x6 : Int} {b31 : Bool} {h : Heap} (H : f31.j3T R x5 x6 b31 h) : f31.j3 R x5 x6 b31 h :=
  pt_intro mixed f31.good (Eq.mpr (show (Fwd Try.prog f31.T f31.kp Try.f31 R [true, false, true, true, true, true] (mkFr [(5, (Value.int .i64 x5)), (6, (Value.int .i64 x6)), (31, (Value.bool b31))]) h) = (f31.j3T R x5 x6 b31 h) by kernel_rfl) H)
set_option maxRecDepth 100000 in
def f31.j2T (R : Value → Heap → Prop) (x5 : Int) (x6 : Int) (h : Heap) : Prop :=
  R (Value.tuple #[(Value.int .i64 x5), (Value.int .i64 x6), (Value.bool true)]) h
set_option maxRecDepth 100000 in
theorem f31.j2_in {R : Value → Heap → Prop} {x5 : Int} {x6 : Int} {h : Heap} (H : f31.j2T R x5 x6 h) : f31.j2 R x5 x6 h :=
  pt_intro mixed f31.good (Eq.mpr (show (Fwd Try.prog f31.T f31.kp Try.f31 R [true, true, true, true, true] (mkFr [(5, (Value.int .i64 x5)), (6, (Value.int .i64 x6))]) h) = (f31.j2T R x5 x6 h) by kernel_rfl) H)
set_option maxRecDepth 100000 in
def f31.runT (R : Value → Heap → Prop) (x0 : Int) (h : Heap) : Prop :=
  (8 : Int) ≠ 0 ∧ ((8 : Int) ≠ 0 ∧ (splitB ((IntKind.wrap .i64 (Int.tmod x0 (8 : Int))) == (1 : Int)) (f31.j1 R x0 (IntKind.wrap .i64 (Int.tmod x0 (8 : Int))) (IntKind.wrap .i64 (IntKind.wrap .u64 (Int.tdiv x0 (8 : Int)))) (decide ((IntKind.wrap .i64 (IntKind.wrap .u64 (Int.tdiv x0 (8 : Int)))) ≥ (1152921504606846976 : Int))) h) (f31.j1 R x0 (IntKind.wrap .i64 (Int.tmod x0 (8 : Int))) (IntKind.wrap .i64 (IntKind.wrap .u64 (Int.tdiv x0 (8 : Int)))) false h)))
set_option maxRecDepth 100000 in
theorem f31.run {R : Value → Heap → Prop} {x0 : Int} {h : Heap} (H : f31.runT R x0 h) : Run Try.prog 31 #[(Value.int .u64 x0)] h R :=
  run_of mixed Try.func31 (by kernel_rfl) (by kernel_rfl) f31.good (Eq.mpr (show (Fwd Try.prog f31.T f31.kp Try.f31 R [] (mkFr (argL [(Value.int .u64 x0)] 0)) h) = (f31.runT R x0 h) by kernel_rfl) H)
end Go.Proofs.Ythnlhffpmlgmfad.Fw

end
section
namespace Go.Proofs.Ythnlhffpmlgmfad.Fw
open Go Go.Hw Go.Proofs
set_option linter.unusedVariables false
def f5.T : Tab := { sh := tSh, tup := tTup, keep := [], plan := [] }
def f5.kp : Keep := [([false, false, true, false, true, true, true, true, true], [0, 5, 6, 9, 10, 11]), ([true, true, true, false, false, true, true, false, false, true, false, false, true, false, true, true, true, true, true], [0, 5, 6, 9, 10, 11, 13, 15, 16, 70]), ([true, true, true, false, false, true, false, false, true, false, true, true, true, true, true], [0, 5, 6, 9, 10, 11, 13, 15]), ([true, true, true, true, true, false, false, true, false, false, true, false, true, true, true, true, true], [0, 5, 6, 9, 10, 11, 15]), ([true, true, false, false, true, false, true, true, true, true, true], [0, 5, 6, 9, 10, 11])]
theorem f5.good : goodCode Try.prog f5.T (rootOf Try.f5) = true := by kernel_rfl
def f5.l0 (R : Value → Heap → Prop) (A0 : Option Addr) (n0 : Nat) (c0 : Nat) (A5 : Option Addr) (n5 : Nat) (c5 : Nat) (x6 : Int) (v9 : Value) (A10 : Option Addr) (n10 : Nat) (c10 : Nat) (A11 : Option Addr) (n11 : Nat) (c11 : Nat) (h : Heap) : Prop := Pt Try.prog Try.f5 R [false, false, true, false, true, true, true, true, true] (mkFr [(0, (Value.slice A0 n0 c0)), (5, (Value.slice A5 n5 c5)), (6, (Value.int .i64 x6)), (9, v9), (10, (Value.slice A10 n10 c10)), (11, (Value.slice A11 n11 c11))]) h
def f5.j3 (R : Value → Heap → Prop) (A0 : Option Addr) (n0 : Nat) (c0 : Nat) (A5 : Option Addr) (n5 : Nat) (c5 : Nat) (x6 : Int) (v9 : Value) (A10 : Option Addr) (n10 : Nat) (c10 : Nat) (A11 : Option Addr) (n11 : Nat) (c11 : Nat) (x13 : Int) (a15 : Addr) (b16 : Bool) (b70 : Bool) (h : Heap) : Prop := Pt Try.prog Try.f5 R [true, true, true, false, false, true, true, false, false, true, false, false, true, false, true, true, true, true, true] (mkFr [(0, (Value.slice A0 n0 c0)), (5, (Value.slice A5 n5 c5)), (6, (Value.int .i64 x6)), (9, v9), (10, (Value.slice A10 n10 c10)), (11, (Value.slice A11 n11 c11)), (13, (Value.int .i64 x13)), (15, (Value.pointer (some a15))), (16, (Value.bool b16)), (70, (Value.bool b70))]) h
def f5.j0 (R : Value → Heap → Prop) (A0 : Option Addr) (n0 : Nat) (c0 : Nat) (A5 : Option Addr) (n5 : Nat) (c5 : Nat) (x6 : Int) (v9 : Value) (A10 : Option Addr) (n10 : Nat) (c10 : Nat) (A11 : Option Addr) (n11 : Nat) (c11 : Nat) (h : Heap) : Prop := Pt Try.prog Try.f5 R [true, true, false, false, true, false, true, true, true, true, true] (mkFr [(0, (Value.slice A0 n0 c0)), (5, (Value.slice A5 n5 c5)), (6, (Value.int .i64 x6)), (9, v9), (10, (Value.slice A10 n10 c10)), (11, (Value.slice A11 n11 c11))]) h
def f5.j1 (R : Value → Heap → Prop) (A0 : Option Addr) (n0 : Nat) (c0 : Nat) (A5 : Option Addr) (n5 : Nat) (c5 : Nat) (x6 : Int) (v9 : Value) (A10 : Option Addr) (n10 : Nat) (c10 : Nat) (A11 : Option Addr) (n11 : Nat) (c11 : Nat) (x13 : Int) (a15 : Addr) (h : Heap) : Prop := Pt Try.prog Try.f5 R [true, true, true, false, false, true, false, false, true, false, true, true, true, true, true] (mkFr [(0, (Value.slice A0 n0 c0)), (5, (Value.slice A5 n5 c5)), (6, (Value.int .i64 x6)), (9, v9), (10, (Value.slice A10 n10 c10)), (11, (Value.slice A11 n11 c11)), (13, (Value.int .i64 x13)), (15, (Value.pointer (some a15)))]) h
def f5.j2 (R : Value → Heap → Prop) (A0 : Option Addr) (n0 : Nat) (c0 : Nat) (A5 : Option Addr) (n5 : Nat) (c5 : Nat) (x6 : Int) (v9 : Value) (A10 : Option Addr) (n10 : Nat) (c10 : Nat) (A11 : Option Addr) (n11 : Nat) (c11 : Nat) (a15 : Addr) (h : Heap) : Prop := Pt Try.prog Try.f5 R [true, true, true, true, true, false, false, true, false, false, true, false, true, true, true, true, true] (mkFr [(0, (Value.slice A0 n0 c0)), (5, (Value.slice A5 n5 c5)), (6, (Value.int .i64 x6)), (9, v9), (10, (Value.slice A10 n10 c10)), (11, (Value.slice A11 n11 c11)), (15, (Value.pointer (some a15)))]) h
set_option maxRecDepth 100000 in
def f5.l0T (R : Value → Heap → Prop) (A0 : Option Addr) (n0 : Nat) (c0 : Nat) (A5 : Option Addr) (n5 : Nat) (c5 : Nat) (x6 : Int) (v9 : Value) (A10 : Option Addr) (n10 : Nat) (c10 : Nat) (A11 : Option Addr) (n11 : Nat) (c11 : Nat) (h : Heap) : Prop :=
  splitB (decide (((n11 : Nat) : Int) > (0 : Int))) (ptrOk A11 fun a1_ => 0 ≤ (0 : Int) ∧ (0 : Int) < ((n11 : Nat) : Int) ∧ (∃ v2_, ldv false 1 h (Addr.add a1_ (Int.toNat (0 : Int) * 1)) = some v2_ ∧ ∃ x3_, v2_ = (Value.int .u64 x3_) ∧ Run Try.prog 31 #[(Value.int .u64 x3_)] h fun v4_ h5_ => ∃ x6_, ∃ x7_, ∃ b8_, v4_ = (Value.tuple #[(Value.int .i64 x6_), (Value.int .i64 x7_), (Value.bool b8_)]) ∧ Run Try.prog 32 #[(Value.slice A0 n0 c0), (Value.int .i64 x7_)] h5_ fun v9_ h10_ => ∃ v11_, ∃ b12_, v9_ = (Value.tuple #[v11_, (Value.bool b12_)]) ∧ newH h10_ (Obj.cells #[(Value.int .i64 (0 : Int)), (Value.int .i64 (0 : Int)), (Value.int .i64 (0 : Int)), (Value.string (ByteArray.mk #[])), (Value.slice none 0 0)] 63) fun h13_ => ∃ l15_ : List Value, v11_ = Value.agg l15_.toArray ∧ l15_.length = 5 ∧ ∃ h14_, stH h13_ (⟨Array.size h10_, 0, none⟩) l15_ 0 = some h14_ ∧ splitB (!b8_) (splitB (((n5 : Nat) : Int) == (0 : Int)) (R (Value.bool (x6 == (3 : Int))) h14_) (R (Value.bool false) h14_)) (splitB (x6_ != (4 : Int)) (f5.j3 R A0 n0 c0 A5 n5 c5 x6 v9 A10 n10 c10 A11 n11 c11 x7_ (⟨Array.size h10_, 0, none⟩) b12_ true h14_) (Gen Try.prog (Instr.lookup 59 v9 (Value.int .i64 x7_) false) h14_ fun v16_ h17_ => ∃ b18_, v16_ = (Value.bool b18_) ∧ f5.j3 R A0 n0 c0 A5 n5 c5 x6 v9 A10 n10 c10 A11 n11 c11 x7_ (⟨Array.size h10_, 0, none⟩) b12_ b18_ h17_)))) (Run Try.prog 14 #[(Value.slice A10 n10 c10)] h fun v19_ h20_ => v19_ = (Value.tuple #[]) ∧ Run Try.prog 10 #[(Value.slice A5 n5 c5), (Value.slice A10 n10 c10)] h20_ fun v21_ h22_ => ∃ b23_, v21_ = (Value.bool b23_) ∧ splitB b23_ (R (Value.bool (x6 == (0 : Int))) h22_) (R (Value.bool false) h22_))
set_option maxRecDepth 100000 in
theorem f5.l0_in {R : Value → Heap → Prop} {A0 : Option Addr} {n0 : Nat} {c0 : Nat} {A5 : Option Addr} {n5 : Nat} {c5 : Nat} {x6 : Int} {v9 : Value} {A10 : Option Addr} {n10 : Nat} {c10 : Nat} {A11 : Option Addr} {n11 : Nat} {c11 : Nat} {h : Heap} (H : f5.l0T R A0 n0 c0 A5 n5 c5 x6 v9 A10 n10 c10 A11 n11 c11 h) : f5.l0 R A0 n0 c0 A5 n5 c5 x6 v9 A10 n10 c10 A11 n11 c11 h :=
  pt_intro mixed f5.good (Eq.mpr (show (Fwd Try.prog f5.T f5.kp Try.f5 R [false, false, true, false, true, true, true, true, true] (mkFr [(0, (Value.slice A0 n0 c0)), (5, (Value.slice A5 n5 c5)), (6, (Value.int .i64 x6)), (9, v9), (10, (Value.slice A10 n10 c10)), (11, (Value.slice A11 n11 c11))]) h) = (f5.l0T R A0 n0 c0 A5 n5 c5 x6 v9 A10 n10 c10 A11 n11 c11 h) by kernel_rfl) H)
set_option maxRecDepth 100000 in
def f5.j3T (R : Value → Heap → Prop) (A0 : Option Addr) (n0 : Nat) (c0 : Nat) (A5 : Option Addr) (n5 : Nat) (c5 : Nat) (x6 : Int) (v9 : Value) (A10 : Option Addr) (n10 : Nat) (c10 : Nat) (A11 : Option Addr) (n11 : Nat) (c11 : Nat) (x13 : Int) (a15 : Addr) (b16 : Bool) (b70 : Bool) (h : Heap) : Prop :=
  splitB b70 (f5.j0 R A0 n0 c0 A5 n5 c5 x6 v9 A10 n10 c10 A11 n11 c11 h) (splitB (decide (x13 ≥ ((n0 : Nat) : Int))) (splitB (((n5 : Nat) : Int) == (0 : Int)) (R (Value.bool (x6 == (4 : Int))) h) (R (Value.bool false) h)) (splitB (!b16) (splitB (((n5 : Nat) : Int) == (0 : Int)) (R (Value.bool (x6 == (3 : Int))) h) (R (Value.bool false) h)) (f5.j1 R A0 n0 c0 A5 n5 c5 x6 v9 A10 n10 c10 A11 n11 c11 x13 a15 h)))
set_option maxRecDepth 100000 in
theorem f5.j3_in {R : Value → Heap → Prop} {A0 : Option Addr} {n0 : Nat} {c0 : Nat} {A5 : Option Addr} {n5 : Nat} {c5 : Nat} {x6 : Int} {v9 : Value} {A10 : Option Addr} {n10 : Nat} {c10 : Nat} {A11 : Option Addr} {n11 : Nat} {c11 : Nat} {x13 : Int} {a15 : Addr} {b16 : Bool} {b70 : Bool} {h : Heap} (H : f5.j3T R A0 n0 c0 A5 n5 c5 x6 v9 A10 n10 c10 A11 n11 c11 x13 a15 b16 b70 h) : f5.j3 R A0 n0 c0 A5 n5 c5 x6 v9 A10 n10 c10 A11 n11 c11 x13 a15 b16 b70 h :=
  pt_intro mixed f5.good (Eq.mpr (show (Fwd Try.prog f5.T f5.kp Try.f5 R [true, true, true, false, false, true, true, false, false, true, false, false, true, false, true, true, true, true, true] (mkFr [(0, (Value.slice A0 n0 c0)), (5, (Value.slice A5 n5 c5)), (6, (Value.int .i64 x6)), (9, v9), (10, (Value.slice A10 n10 c10)), (11, (Value.slice A11 n11 c11)), (13, (Value.int .i64 x13)), (15, (Value.pointer (some a15))), (16, (Value.bool b16)), (70, (Value.bool b70))]) h) = (f5.j3T R A0 n0 c0 A5 n5 c5 x6 v9 A10 n10 c10 A11 n11 c11 x13 a15 b16 b70 h) by kernel_rfl) H)
set_option maxRecDepth 100000 in
def f5.j0T (R : Value → Heap → Prop) (A0 : Option Addr) (n0 : Nat) (c0 : Nat) (A5 : Option Addr) (n5 : Nat) (c5 : Nat) (x6 : Int) (v9 : Value) (A10 : Option Addr) (n10 : Nat) (c10 : Nat) (A11 : Option Addr) (n11 : Nat) (c11 : Nat) (h : Heap) : Prop :=
  0 ≤ (1 : Int) ∧ (1 : Int) ≤ ((n11 : Nat) : Int) ∧ ((n11 : Nat) : Int) ≤ ((c11 : Nat) : Int) ∧ (f5.l0 R A0 n0 c0 A5 n5 c5 x6 v9 A10 n10 c10 (sliceA A11 (Int.toNat (1 : Int)) c11 1) (Int.toNat ((n11 : Nat) : Int) - Int.toNat (1 : Int)) (c11 - Int.toNat (1 : Int)) h)
set_option maxRecDepth 100000 in
theorem f5.j0_in {R : Value → Heap → Prop} {A0 : Option Addr} {n0 : Nat} {c0 : Nat} {A5 : Option Addr} {n5 : Nat} {c5 : Nat} {x6 : Int} {v9 : Value} {A10 : Option Addr} {n10 : Nat} {c10 : Nat} {A11 : Option Addr} {n11 : Nat} {c11 : Nat} {h : Heap} (H : f5.j0T R A0 n0 c0 A5 n5 c5 x6 v9 A10 n10 c10 A11 n11 c11 h) : f5.j0 R A0 n0 c0 A5 n5 c5 x6 v9 A10 n10 c10 A11 n11 c11 h :=
  pt_intro mixed f5.good (Eq.mpr (show (Fwd Try.prog f5.T f5.kp Try.f5 R [true, true, false, false, true, false, true, true, true, true, true] (mkFr [(0, (Value.slice A0 n0 c0)), (5, (Value.slice A5 n5 c5)), (6, (Value.int .i64 x6)), (9, v9), (10, (Value.slice A10 n10 c10)), (11, (Value.slice A11 n11 c11))]) h) = (f5.j0T R A0 n0 c0 A5 n5 c5 x6 v9 A10 n10 c10 A11 n11 c11 h) by kernel_rfl) H)
set_option maxRecDepth 100000 in
def f5.j1T (R : Value → Heap → Prop) (A0 : Option Addr) (n0 : Nat) (c0 : Nat) (A5 : Option Addr) (n5 : Nat) (c5 : Nat) (x6 : Int) (v9 : Value) (A10 : Option Addr) (n10 : Nat) (c10 : Nat) (A11 : Option Addr) (n11 : Nat) (c11 : Nat) (x13 : Int) (a15 : Addr) (h : Heap) : Prop :=
  Hwp Try.prog (Instr.mapUpdate 59 v9 (Value.int .i64 x13) (Value.bool true)) h fun _ h1_ => ∃ v2_, ldv false 1 h1_ (Addr.add a15 1) = some v2_ ∧ ∃ x3_, v2_ = (Value.int .i64 x3_) ∧ splitB (x3_ == (5 : Int)) (newH h1_ (Obj.cells #[(Value.int .i64 x13)] 3) fun h4_ => AppW 3 1 8 #[(Value.int .i64 (0 : Int))] A10 n10 c10 (Value.slice (some ⟨Array.size h1_, 0, none⟩) 1 1) h4_ fun v5_ h6_ => ∃ A7_, ∃ n7_, ∃ c7_, v5_ = (Value.slice A7_ n7_ c7_) ∧ f5.j2 R A0 n0 c0 A5 n5 c5 x6 v9 A7_ n7_ c7_ A11 n11 c11 a15 h6_) (f5.j2 R A0 n0 c0 A5 n5 c5 x6 v9 A10 n10 c10 A11 n11 c11 a15 h1_)
set_option maxRecDepth 100000 in
theorem f5.j1_in {R : Value → Heap → Prop} {A0 : Option Addr} {n0 : Nat} {c0 : Nat} {A5 : Option Addr} {n5 : Nat} {c5 : Nat} {x6 : Int} {v9 : Value} {A10 : Option Addr} {n10 : Nat} {c10 : Nat} {A11 : Option Addr} {n11 : Nat} {c11 : Nat} {x13 : Int} {a15 : Addr} {h : Heap} (H : f5.j1T R A0 n0 c0 A5 n5 c5 x6 v9 A10 n10 c10 A11 n11 c11 x13 a15 h) : f5.j1 R A0 n0 c0 A5 n5 c5 x6 v9 A10 n10 c10 A11 n11 c11 x13 a15 h :=
  pt_intro mixed f5.good (Eq.mpr (show (Fwd Try.prog f5.T f5.kp Try.f5 R [true, true, true, false, false, true, false, false, true, false, true, true, true, true, true] (mkFr [(0, (Value.slice A0 n0 c0)), (5, (Value.slice A5 n5 c5)), (6, (Value.int .i64 x6)), (9, v9), (10, (Value.slice A10 n10 c10)), (11, (Value.slice A11 n11 c11)), (13, (Value.int .i64 x13)), (15, (Value.pointer (some a15)))]) h) = (f5.j1T R A0 n0 c0 A5 n5 c5 x6 v9 A10 n10 c10 A11 n11 c11 x13 a15 h) by kernel_rfl) H)
set_option maxRecDepth 100000 in
def f5.j2T (R : Value → Heap → Prop) (A0 : Option Addr) (n0 : Nat) (c0 : Nat) (A5 : Option Addr) (n5 : Nat) (c5 : Nat) (x6 : Int) (v9 : Value) (A10 : Option Addr) (n10 : Nat) (c10 : Nat) (A11 : Option Addr) (n11 : Nat) (c11 : Nat) (a15 : Addr) (h : Heap) : Prop :=
  ∃ v1_, ldv false 1 h (Addr.add a15 4) = some v1_ ∧ ∃ A2_, ∃ n2_, ∃ c2_, v1_ = (Value.slice A2_ n2_ c2_) ∧ AppW 54 1 8 #[(Value.int .u64 (0 : Int))] A11 n11 c11 (Value.slice A2_ n2_ c2_) h fun v3_ h4_ => ∃ A5_, ∃ n5_, ∃ c5_, v3_ = (Value.slice A5_ n5_ c5_) ∧ f5.j0 R A0 n0 c0 A5 n5 c5 x6 v9 A10 n10 c10 A5_ n5_ c5_ h4_
set_option maxRecDepth 100000 in
theorem f5.j2_in {R : Value → Heap → Prop} {A0 : Option Addr} {n0 : Nat} {c0 : Nat} {A5 : Option Addr} {n5 : Nat} {c5 : Nat} {x6 : Int} {v9 : Value} {A10 : Option Addr} {n10 : Nat} {c10 : Nat} {A11 : Option Addr} {n11 : Nat} {c11 : Nat} {a15 : Addr} {h : Heap} (H : f5.j2T R A0 n0 c0 A5 n5 c5 x6 v9 A10 n10 c10 A11 n11 c11 a15 h) : f5.j2 R A0 n0 c0 A5 n5 c5 x6 v9 A10 n10 c10 A11 n11 c11 a15 h :=
  pt_intro mixed f5.good (Eq.mpr (show (Fwd Try.prog f5.T f5.kp Try.f5 R [true, true, true, true, true, false, false, true, false, false, true, false, true, true, true, true, true] (mkFr [(0, (Value.slice A0 n0 c0)), (5, (Value.slice A5 n5 c5)), (6, (Value.int .i64 x6)), (9, v9), (10, (Value.slice A10 n10 c10)), (11, (Value.slice A11 n11 c11)), (15, (Value.pointer (some a15)))]) h) = (f5.j2T R A0 n0 c0 A5 n5 c5 x6 v9 A10 n10 c10 A11 n11 c11 a15 h) by kernel_rfl) H)
set_option maxRecDepth 100000 in
def f5.runT (R : Value → Heap → Prop) (A0 : Option Addr) (n0 : Nat) (c0 : Nat) (x1 : Int) (h : Heap) : Prop :=
  Run Try.prog 29 #[(Value.slice A0 n0 c0), (Value.int .u64 x1)] h fun v1_ h2_ => ∃ A3_, ∃ n3_, ∃ c3_, ∃ x4_, v1_ = (Value.tuple #[(Value.slice A3_ n3_ c3_), (Value.int .i64 x4_)]) ∧ Run Try.prog 30 #[(Value.slice A0 n0 c0)] h2_ fun v5_ h6_ => ∃ A7_, ∃ n7_, ∃ c7_, ∃ x8_, v5_ = (Value.tuple #[(Value.slice A7_ n7_ c7_), (Value.int .i64 x8_)]) ∧ splitB (x8_ != (0 : Int)) (splitB (((n3_ : Nat) : Int) == (0 : Int)) (R (Value.bool (x4_ == x8_)) h6_) (R (Value.bool false) h6_)) (Gen Try.prog (Instr.makeMap 59 none) h6_ fun v9_ h10_ => newH h10_ (Obj.cells #[(Value.int .u64 x1)] 54) fun h11_ => f5.l0 R A0 n0 c0 A3_ n3_ c3_ x4_ v9_ none 0 0 (some ⟨Array.size h10_, 0, none⟩) 1 1 h11_)
set_option maxRecDepth 100000 in
theorem f5.run {R : Value → Heap → Prop} {A0 : Option Addr} {n0 : Nat} {c0 : Nat} {x1 : Int} {h : Heap} (H : f5.runT R A0 n0 c0 x1 h) : Run Try.prog 5 #[(Value.slice A0 n0 c0), (Value.int .u64 x1)] h R :=
  run_of mixed Try.func5 (by kernel_rfl) (by kernel_rfl) f5.good (Eq.mpr (show (Fwd Try.prog f5.T f5.kp Try.f5 R [] (mkFr (argL [(Value.slice A0 n0 c0), (Value.int .u64 x1)] 0)) h) = (f5.runT R A0 n0 c0 x1 h) by kernel_rfl) H)
end Go.Proofs.Ythnlhffpmlgmfad.Fw

end
section
namespace Go.Hw
open Go
section tests
variable {A B : Prop}
theorem split_not {b : Bool} (h : splitB b B A) : splitB (!b) A B := by cases b <;> exact h
theorem split_t (h : A) : splitB true A B := h
theorem split_f (h : B) : splitB false A B := h
end tests
theorem wrap_in {n : Int} (h0 : -9223372036854775808 ≤ n) (h1 : n ≤ 9223372036854775807) : IntKind.wrap .i64 n = n := by
  rcases Int.le_total 0 n with h | h
  · exact wrap_nat h h1
  · rcases (show n = 0 ∨ n < 0 by omega) with h2 | h2
    · subst h2; rfl
    have e : n % (2 ^ 64 : Int) = n + 2 ^ 64 := by omega
    simp only [IntKind.wrap, IntKind.signed, IntKind.bits, e, Bool.true_and]
    rw [if_pos (by simp only [decide_eq_true_eq]; omega)]
    omega
theorem add_add (a : Addr) (m n : Nat) : (a.add m).add n = a.add (m + n) := by
  unfold Addr.add
  by_cases h1 : m = 0
  · subst h1; simp
  · by_cases h2 : n = 0
    · subst h2; simp
    · have h3 : m + n ≠ 0 := by omega
      simp only [if_neg h1, if_neg h2, if_neg h3]
      simp [Nat.add_assoc]
theorem add_block (a : Addr) (n : Nat) : (a.add n).block = a.block := by unfold Addr.add; split <;> rfl
theorem add_off (a : Addr) (n : Nat) : (a.add n).off = a.off + n := by
  unfold Addr.add
  split
  · rename_i h; subst h; rfl
  · rfl
theorem add_spot {a : Addr} (n : Nat) (h : a.spot = none) : (a.add n).spot = none := by unfold Addr.add; split; exact h; rfl
def Blk (h : Heap) (b : Nat) (c : List Value) (t : TypeId) : Prop := h[b]? = some (.cells c.toArray t (0, 0))
def Only (h h' : Heap) (b : Nat) : Prop := h'.size = h.size ∧ ∀ i, i ≠ b → h'[i]? = h[i]?
section
variable {h h' : Heap} {b : Nat} {c : List Value} {t : TypeId}
theorem Blk.lt (hb : Blk h b c t) : b < h.size := (Array.getElem?_eq_some_iff.1 hb).1
theorem Blk.cell (hb : Blk h b c t) {a : Addr} {v : Value} (h1 : a.block = b) (h2 : a.spot = none) (h3 : c[a.off]? = some v) : cellH h a = some v := by
  unfold cellH Blk at *
  rw [h1, hb, h2]
  simpa using h3
theorem Blk.cells (hb : Blk h b c t) {a : Addr} (h1 : a.block = b) (h2 : a.spot = none) : ∀ (n i : Nat), a.off + i + n ≤ c.length → cellsH h a i n = some ((c.drop (a.off + i)).take n) := by
  intro n
  induction n with
  | zero => intro i _; simp [cellsH]
  | succ n ih =>
    intro i hle
    have hlt : a.off + i < c.length := by omega
    have h3 : c[(a.add i).off]? = some c[a.off + i] := by rw [add_off]; exact List.getElem?_eq_getElem hlt
    simp only [cellsH, hb.cell (a := a.add i) (by rw [add_block]; exact h1) (add_spot i h2) h3, ih (i + 1) (by omega)]
    rw [List.drop_eq_getElem_cons hlt, List.take_succ_cons]
    rfl
theorem Blk.st (hb : Blk h b c t) {a : Addr} {v : Value} (h1 : a.block = b) (h2 : a.spot = none) (h3 : a.off < c.length) (h4 : oneCell v True) :
    ∃ h', st1 h a v = some h' ∧ Blk h' b (c.set a.off v) t ∧ Only h h' b := by
  have hc : cellH h a = some c[a.off] := hb.cell h1 h2 (List.getElem?_eq_getElem h3)
  have hf : frozenH h a = false := by
    unfold frozenH
    rw [h1, show h[b]? = some (.cells c.toArray t (0, 0)) from hb]
    simp
  refine ⟨setH h a v, ?_, ?_, ?_⟩
  · cases v <;> simp_all [st1, oneCell]
  · unfold Blk setH
    rw [Array.getElem?_modify, if_pos h1.symm.symm, show h[b]? = some (.cells c.toArray t (0, 0)) from hb]
    simp [h2]
  · refine ⟨by simp [setH], fun i hi => ?_⟩
    unfold setH
    rw [Array.getElem?_modify, if_neg (by rw [h1]; exact fun e => hi e.symm)]
theorem Blk.new (h : Heap) (c : Array Value) (t : TypeId) : Blk (h.push (.cells c t)) h.size c.toList t := by
  unfold Blk; simp
theorem Ext.push (h : Heap) (o : Obj) : Ext h (h.push o) := ⟨by simp, fun i hi => by rw [Array.getElem?_push, if_neg (by omega)]⟩
theorem Only.refl (h : Heap) (b : Nat) : Only h h b := ⟨rfl, fun _ _ => rfl⟩
theorem Only.trans {h'' : Heap} {b : Nat} (o : Only h h' b) (p : Only h' h'' b) : Only h h'' b := ⟨p.1.trans o.1, fun i hi => (p.2 i hi).trans (o.2 i hi)⟩
end
def Rd {α : Type} (sz : Nat) (E : Heap → α → List Value → Prop) (h : Heap) (A : Option Addr) (l : List α) : Prop :=
  ∀ i (hi : i < l.length), ∃ a cs, A = some a ∧ cellsH h (a.add (i * sz)) 0 sz = some cs ∧ E h l[i] cs
def eInt (k : IntKind) (_ : Heap) (x : Int) (cs : List Value) : Prop := cs = [.int k x]
def eRow {α : Type} (sz : Nat) (E : Heap → α → List Value → Prop) (h : Heap) (l : List α) (cs : List Value) : Prop := ∃ A c, cs = [.slice A l.length c] ∧ l.length ≤ c ∧ Rd sz E h A l
section
variable {α : Type} {sz : Nat} {E : Heap → α → List Value → Prop} {h h' : Heap} {A : Option Addr} {l : List α}
theorem Rd.nil : Rd sz E h A ([] : List α) := fun i hi => by cases hi
end
theorem newH_in {h : Heap} {c : Array Value} {t : TypeId} {K : Heap → Prop} (H : ∀ h', Blk h' h.size c.toList t → Ext h h' → h'.size = h.size + 1 → K h') : newH h (.cells c t) K :=
  H _ (Blk.new _ _ _) (Ext.push _ _) (by simp)
end Go.Hw

end
section
namespace Go.Hw
open Go Go.RowKit
theorem below_of {W W' : World} (e : Ext W.heap W'.heap) (s : Same W W') : Below W.heap.size W W' := ⟨s.os, s.tape, s.output, e.1, e.2⟩
section
variable {H : Type} {enc : TypeId × Value → H} {P : Program} {W : World}
theorem cells_of {base : Nat} {a : Addr} {n : Nat} {cs : List Value} (hc : W.cells? base a n = some cs) : cellsH W.heap a 0 n = some cs := by
  obtain ⟨_, hlen, hget⟩ := World.cells?_some hc
  have key : ∀ (m i : Nat), i + m = n → cellsH W.heap a i m = some (cs.drop i) := by
    intro m
    induction m with
    | zero =>
      intro i hi
      rw [List.drop_eq_nil_of_le (by omega)]
      rfl
    | succ m ih =>
      intro i hi
      have hlt : i < cs.length := by omega
      have h1 : cellH W.heap (a.add i) = some cs[i] := (hget i (by omega)).trans (List.getElem?_eq_getElem hlt)
      simp only [cellsH, h1, ih (i + 1) (by omega)]
      rw [List.drop_eq_getElem_cons hlt]
  simpa using key n 0 (by omega)
def Tells {α : Type} (enc : TypeId × Value → H) (P : Program) (W : World) (t : TypeId) (E : Heap → α → List Value → Prop) (Q : α → Prop) : Prop :=
  ∀ (fuel : Nat) (cs : List Value) (x : DataW H × List MemPlace), DataW.trod enc P W 0 (fun _ => true) true fuel t cs = some x → (x.1.weights P t).all (· ≤ reachBytes) = true → ∃ a, E W.heap a cs ∧ Q a
theorem tells_int {t : TypeId} {k : IntKind} (hu : P.underlying t = some (.int k)) : Tells enc P W t (eInt k) (fun x => (Lit.int k x).wf = true) := by
  intro fuel cs x h _
  obtain ⟨n, h1, _, h3⟩ := DataW.trod_int hu h
  exact ⟨n, h1, h3⟩
def eBool (_ : Heap) (x : Bool) (cs : List Value) : Prop := cs = [.bool x]
theorem weightsAll_all {e : TypeId} : ∀ (l : List (DataW H)), (DataW.weightsAll P e l).all (· ≤ reachBytes) = true → ∀ d ∈ l, (d.weights P e).all (· ≤ reachBytes) = true := by
  intro l
  induction l with
  | nil => intro _ d hd; cases hd
  | cons x l ih =>
    intro h d hd
    simp only [DataW.weightsAll, List.all_append, Bool.and_eq_true] at h
    rcases List.mem_cons.1 hd with rfl | hd
    · exact h.1
    · exact ih h.2 d hd
theorem list_choose {α : Type} {n : Nat} {p : Nat → α → Prop} (h : ∀ i, i < n → ∃ x, p i x) : ∃ l : List α, l.length = n ∧ ∀ i (hi : i < l.length), p i l[i] := by
  induction n with
  | zero => exact ⟨[], rfl, fun i hi => by cases hi⟩
  | succ n ih =>
    obtain ⟨l, h1, h2⟩ := ih fun i hi => h i (by omega)
    obtain ⟨x, hx⟩ := h n (by omega)
    refine ⟨l ++ [x], by simp [h1], fun i hi => ?_⟩
    rw [List.length_append, List.length_singleton] at hi
    by_cases hin : i < l.length
    · rw [List.getElem_append_left hin]; exact h2 i hin
    · have : i = l.length := by omega
      subst this
      rw [List.getElem_append_right (Nat.le_refl _)]
      simp only [Nat.sub_self, List.getElem_cons_zero]
      rw [h1]; exact hx
theorem tells_slice {α : Type} {t e : TypeId} {sz B : Nat} {E : Heap → α → List Value → Prop} {Q : α → Prop} (hu : P.underlying t = some (.slice e)) (hc : P.cellsOf e = sz) (hB : P.bytesOf e = B) (he : Tells enc P W e E Q) :
    Tells enc P W t (eRow sz E) (fun l => l.length * B ≤ reachBytes ∧ ∀ a ∈ l, Q a) := by
  intro fuel cs x h hw
  rcases DataW.trod_slice hu h with ⟨h1, h2⟩ | ⟨a, len, cap, elems, rest, n, _, h1, h2, _, hl, hm, hlen, hel, _, _⟩
  · exact ⟨[], ⟨none, 0, h1, Nat.le_refl _, Rd.nil⟩, by simp, fun a ha => by cases ha⟩
  · rw [h2] at hw
    simp only [DataW.weights, hu, List.all_cons, List.all_append, Bool.and_eq_true, decide_eq_true_eq] at hw
    obtain ⟨hw1, hw2, _⟩ := hw
    have hall := weightsAll_all _ hw2
    obtain ⟨l, h3, h4⟩ := list_choose (n := len) (p := fun i x => (∃ cs', cellsH W.heap (a.add (i * sz)) 0 sz = some cs' ∧ E W.heap x cs') ∧ Q x) (fun i hi => by
      have h5 := hel i hi
      have hlt : i < elems.length := by omega
      rw [List.getElem?_eq_getElem hlt] at h5
      obtain ⟨cs', h6, h7⟩ := Option.bind_eq_some_iff.1 h5
      obtain ⟨x, h8, h9⟩ := he _ _ _ h7 (hall _ (List.mem_map.2 ⟨_, List.getElem_mem hlt, rfl⟩))
      rw [hc] at h6
      exact ⟨x, ⟨cs', cells_of h6, h8⟩, h9⟩)
    refine ⟨l, ⟨some a, cap, by rw [h1, h3], by omega, fun i hi => ?_⟩, ?_, fun x hx => ?_⟩
    · obtain ⟨⟨cs', h5, h6⟩, _⟩ := h4 i hi
      exact ⟨a, cs', rfl, h5, h6⟩
    · rw [hB] at hw1
      have : l.length ≤ (List.map (·.1) elems).length + (List.map (·.1) rest).length := by simp; omega
      exact Nat.le_trans (Nat.mul_le_mul_right _ this) hw1
    · obtain ⟨i, hi, rfl⟩ := List.getElem_of_mem hx
      exact (h4 i hi).2
end
theorem wf_u64 {x : Int} (h : (Lit.int .u64 x).wf = true) : 0 ≤ x ∧ x ≤ 18446744073709551615 := by
  simpa [Lit.wf, IntKind.min, IntKind.max, IntKind.signed, IntKind.bits] using h
end Go.Hw

end
section
namespace Go.Hw
open Go
theorem cellsH_length {h : Heap} {a : Addr} : ∀ {n i : Nat} {cs : List Value}, cellsH h a i n = some cs → cs.length = n := by
  intro n
  induction n with
  | zero => intro i cs hc; simp only [cellsH, Option.some.injEq] at hc; subst hc; rfl
  | succ n ih =>
    intro i cs hc
    simp only [cellsH] at hc
    split at hc
    · split at hc
      · rename_i vs hv; cases hc; simp [ih hv]
      · cases hc
    · cases hc
def Flat (v : Value) : Prop := oneCell v True
theorem Blk.stH {b : Nat} {t : TypeId} : ∀ (xs : List Value) {h : Heap} {p q r : List Value} {a : Addr} {i : Nat}, Blk h b (p ++ q ++ r) t → a.block = b → a.spot = none → a.off + i = p.length → q.length = xs.length → (∀ v ∈ xs, Flat v) →
    ∃ h', stH h a xs i = some h' ∧ Blk h' b (p ++ xs ++ r) t ∧ Only h h' b := by
  intro xs
  induction xs with
  | nil =>
    intro h p q r a i hb h1 h2 h3 h4 h5
    rw [List.length_eq_zero_iff.1 h4] at hb
    exact ⟨h, rfl, hb, .refl _ _⟩
  | cons v xs ih =>
    intro h p q r a i hb h1 h2 h3 h4 h5
    obtain ⟨u, q', rfl⟩ : ∃ u q', q = u :: q' := by cases q with | nil => cases h4 | cons u q' => exact ⟨u, q', rfl⟩
    have hoff : (a.add i).off = p.length := by rw [add_off, h3]
    obtain ⟨h', s1, b1, o1⟩ := hb.st (a := a.add i) (v := v) (by rw [add_block, h1]) (add_spot _ h2) (by rw [hoff]; simp) (h5 v (List.mem_cons_self ..))
    rw [hoff] at b1
    have e : (p ++ u :: q' ++ r).set p.length v = (p ++ [v]) ++ q' ++ r := by
      rw [List.append_assoc, List.set_append_right _ _ (Nat.le_refl _)]; simp
    rw [e] at b1
    obtain ⟨h'', s2, b2, o2⟩ := ih (p := p ++ [v]) (q := q') (r := r) (a := a) (i := i + 1) b1 h1 h2 (by simp; omega) (by simpa using h4) (fun x hx => h5 x (List.mem_cons_of_mem _ hx))
    refine ⟨h'', ?_, by simpa using b2, o1.trans o2⟩
    simp only [Go.Hw.stH, s1, s2]
theorem zcells_size (z : Array Value) (n : Nat) : (zcells z n).size = n * z.size := by
  unfold zcells Builtin.zeroCells
  simp
end Go.Hw

end
section
namespace Go.Hw
open Go Go.RowKit
def eSt {α : Type} (f : α → List Value) (_ : Heap) (x : α) (cs : List Value) : Prop := cs = f x
theorem cellsH_get {h : Heap} {a : Addr} : ∀ {n i : Nat} {cs : List Value} {k : Nat} {v : Value}, cellsH h a i n = some cs → cs[k]? = some v → cellH h (a.add (i + k)) = some v := by
  intro n
  induction n with
  | zero => intro i cs k v hc hv; simp only [cellsH, Option.some.injEq] at hc; subst hc; cases hv
  | succ n ih =>
    intro i cs k v hc hv
    simp only [cellsH] at hc
    split at hc
    · rename_i u hu
      split at hc
      · rename_i vs hvs
        cases hc
        cases k with
        | zero => cases hv; exact hu
        | succ k => rw [show i + (k + 1) = i + 1 + k by omega]; exact ih hvs (by simpa using hv)
      · cases hc
    · cases hc
section
variable {α : Type} {sz : Nat} {E : Heap → α → List Value → Prop} {h h' : Heap} {A : Option Addr} {l : List α}
theorem cellsH_append {h : Heap} {a : Addr} : ∀ {m i n : Nat} {cs ds : List Value}, cellsH h a i m = some cs → cellsH h a (i + m) n = some ds → cellsH h a i (m + n) = some (cs ++ ds) := by
  intro m
  induction m with
  | zero => intro i n cs ds h1 h2; simp only [cellsH, Option.some.injEq] at h1; subst h1; simpa using h2
  | succ m ih =>
    intro i n cs ds h1 h2
    simp only [cellsH] at h1
    split at h1
    · rename_i u hu
      split at h1
      · rename_i vs hvs
        cases h1
        rw [show m + 1 + n = (m + n) + 1 by omega]
        have h3 := ih hvs (n := n) (ds := ds) (by rw [show i + 1 + m = i + (m + 1) by omega]; exact h2)
        simp only [cellsH, hu, h3, List.cons_append]
      · cases h1
    · cases h1
theorem cellsH_shift {h : Heap} {a : Addr} {j : Nat} : ∀ {n i : Nat}, cellsH h (a.add j) i n = cellsH h a (j + i) n := by
  intro n
  induction n with
  | zero => intro i; rfl
  | succ n ih =>
    intro i
    simp only [cellsH, add_add]
    rw [ih, Nat.add_assoc]
theorem Rd.src {f : α → List Value} (hr : Rd sz (eSt f) h A l) (c : Nat) : srcCells sz (.slice A l.length c) h = some (l.length, l.flatMap f) := by
  cases A with
  | none =>
    cases l with
    | nil => rfl
    | cons x l => obtain ⟨a, _, h1, _⟩ := hr 0 (by simp); cases h1
  | some a =>
    have key : ∀ (k : Nat), k ≤ l.length → cellsH h a 0 (k * sz) = some ((l.take k).flatMap f) := by
      intro k
      induction k with
      | zero => intro _; simp [cellsH]
      | succ k ih =>
        intro hk
        obtain ⟨a', cs, h1, h2, h3⟩ := hr k (by omega)
        cases h1
        rw [cellsH_shift] at h2
        rw [Nat.succ_mul, List.take_succ_eq_append_getElem (by omega), List.flatMap_append]
        refine cellsH_append (ih (by omega)) ?_
        rw [show cs = f l[k] from h3] at h2
        simpa using h2
    have := key l.length (Nat.le_refl _)
    rw [List.take_length] at this
    simp only [srcCells, this, Option.map_some]
theorem flatMap_one {f : α → Value} (l : List α) : l.flatMap (fun x => [f x]) = l.map f := by
  induction l with
  | nil => rfl
  | cons x l ih => rw [List.flatMap_cons, ih]; rfl
theorem Rd.src1 {f : α → Value} (hr : Rd 1 E h A l) (hE : ∀ x ∈ l, ∀ cs, E h x cs → cs = [f x]) (c : Nat) : srcCells 1 (.slice A l.length c) h = some (l.length, l.map f) := by
  have h1 : Rd 1 (eSt fun x => [f x]) h A l := fun i hi => let ⟨a, cs, h1, h2, h3⟩ := hr i hi; ⟨a, cs, h1, h2, hE _ (List.getElem_mem hi) _ h3⟩
  have := h1.src c
  rw [this, flatMap_one]
theorem Rd.srcInt {k : IntKind} {l : List Int} (hr : Rd 1 (eInt k) h A l) (c : Nat) : srcCells 1 (.slice A l.length c) h = some (l.length, l.map (.int k)) := hr.src1 (fun _ _ _ h => h) c
end
theorem Blk.stAll {h : Heap} {b : Nat} {c : List Value} {t : TypeId} (hb : Blk h b c t) (l : List Value) (hn : l.length = c.length) (hf : ∀ v ∈ l, Flat v) :
    ∃ h', Go.Hw.stH h ⟨b, 0, none⟩ l 0 = some h' ∧ Blk h' b l t ∧ Only h h' b := by
  obtain ⟨h', s1, b1, o1⟩ := Blk.stH l (p := []) (q := c) (r := []) (a := ⟨b, 0, none⟩) (i := 0) (by simpa using hb) rfl rfl rfl hn.symm hf
  exact ⟨h', s1, by simpa using b1, o1⟩
section
variable {H : Type} {enc : TypeId × Value → H} {P : Program} {W : World}
theorem tells_map {α β : Type} {E : Heap → α → List Value → Prop} {F : Heap → β → List Value → Prop} {Q : α → Prop} {Q' : β → Prop} {t : TypeId} (he : Tells enc P W t E Q) (hm : ∀ a cs, E W.heap a cs → Q a → ∃ b, F W.heap b cs ∧ Q' b) : Tells enc P W t F Q' :=
  fun fuel cs x h hw => let ⟨a, ha, qa⟩ := he fuel cs x h hw; hm a cs ha qa
end
end Go.Hw

end
