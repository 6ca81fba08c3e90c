/- Part 2: what the law StealTells needs, put together out of texts of this session. -/
import Derived.ProofKit
import Derived.OpenShut
import Derived.ShutString
import Derived.ChangeOld
import Derived.Below
import Derived.SizedLaws
import Derived.ChangeArms
import Derived.Laws.StructEq
import Derived.Test.YtdlihfedhojdgaaZStealTellsa
section
namespace Go.Proofs.Ytdlihfedhojdgaa.Fw
open Go Go.Hw Go.Proofs
set_option linter.unusedVariables false
def f68.T : Tab := { sh := tSh, tup := tTup, keep := [], plan := [] }
def f68.kp : Keep := [([false, false, true, false, true], [0, 1, 7, 8])]
theorem f68.good : goodCode Try.prog f68.T (rootOf Try.f68) = true := by kernel_rfl
def f68.l0 (R : Value → Heap → Prop) (A0 : Option Addr) (n0 : Nat) (c0 : Nat) (x1 : Int) (x7 : Int) (x8 : Int) (h : Heap) : Prop := Pt Try.prog Try.f68 R [false, false, true, false, true] (mkFr [(0, (Value.slice A0 n0 c0)), (1, (Value.int .i64 x1)), (7, (Value.int .i64 x7)), (8, (Value.int .i64 x8))]) h
set_option maxRecDepth 100000 in
def f68.l0T (R : Value → Heap → Prop) (A0 : Option Addr) (n0 : Nat) (c0 : Nat) (x1 : Int) (x7 : Int) (x8 : Int) (h : Heap) : Prop :=
  splitB (decide (x8 < x7)) (ptrOk A0 fun a1_ => 0 ≤ x8 ∧ x8 < ((n0 : Nat) : Int) ∧ (∃ v2_, ldv false 1 h (Addr.add a1_ (Int.toNat x8 * 1)) = some v2_ ∧ ∃ x3_, v2_ = (Value.int .i64 x3_) ∧ splitB (x1 == x3_) (R (Value.int .i64 x8) h) (f68.l0 R A0 n0 c0 x1 x7 (IntKind.wrap .i64 (x8 + (1 : Int))) h))) (R (Value.int .i64 (-1 : Int)) h)
set_option maxRecDepth 100000 in
theorem f68.l0_in {R : Value → Heap → Prop} {A0 : Option Addr} {n0 : Nat} {c0 : Nat} {x1 : Int} {x7 : Int} {x8 : Int} {h : Heap} (H : f68.l0T R A0 n0 c0 x1 x7 x8 h) : f68.l0 R A0 n0 c0 x1 x7 x8 h :=
  pt_intro mixed f68.good (Eq.mpr (show (Fwd Try.prog f68.T f68.kp Try.f68 R [false, false, true, false, true] (mkFr [(0, (Value.slice A0 n0 c0)), (1, (Value.int .i64 x1)), (7, (Value.int .i64 x7)), (8, (Value.int .i64 x8))]) h) = (f68.l0T R A0 n0 c0 x1 x7 x8 h) by kernel_rfl) H)
set_option maxRecDepth 100000 in
def f68.runT (R : Value → Heap → Prop) (A0 : Option Addr) (n0 : Nat) (c0 : Nat) (x1 : Int) (h : Heap) : Prop :=
  f68.l0 R A0 n0 c0 x1 ((n0 : Nat) : Int) (0 : Int) h
set_option maxRecDepth 100000 in
theorem f68.run {R : Value → Heap → Prop} {A0 : Option Addr} {n0 : Nat} {c0 : Nat} {x1 : Int} {h : Heap} (H : f68.runT R A0 n0 c0 x1 h) : Run Try.prog 68 #[(Value.slice A0 n0 c0), (Value.int .i64 x1)] h R :=
  run_of mixed Try.func68 (by kernel_rfl) (by kernel_rfl) f68.good (Eq.mpr (show (Fwd Try.prog f68.T f68.kp Try.f68 R [] (mkFr (argL [(Value.slice A0 n0 c0), (Value.int .i64 x1)] 0)) h) = (f68.runT R A0 n0 c0 x1 h) by kernel_rfl) H)
def f35.T : Tab := { sh := tSh, tup := tTup, keep := [], plan := [] }
def f35.kp : Keep := []
theorem f35.good : goodCode Try.prog f35.T (rootOf Try.f35) = true := by kernel_rfl
set_option maxRecDepth 100000 in
def f35.runT (R : Value → Heap → Prop) (A0 : Option Addr) (n0 : Nat) (c0 : Nat) (x1 : Int) (h : Heap) : Prop :=
  Run Try.prog 68 #[(Value.slice A0 n0 c0), (Value.int .i64 x1)] h fun v1_ h2_ => ∃ x3_, v1_ = (Value.int .i64 x3_) ∧ R (Value.bool (decide (x3_ ≥ (0 : Int)))) h2_
set_option maxRecDepth 100000 in
theorem f35.run {R : Value → Heap → Prop} {A0 : Option Addr} {n0 : Nat} {c0 : Nat} {x1 : Int} {h : Heap} (H : f35.runT R A0 n0 c0 x1 h) : Run Try.prog 35 #[(Value.slice A0 n0 c0), (Value.int .i64 x1)] h R :=
  run_of mixed Try.func35 (by kernel_rfl) (by kernel_rfl) f35.good (Eq.mpr (show (Fwd Try.prog f35.T f35.kp Try.f35 R [] (mkFr (argL [(Value.slice A0 n0 c0), (Value.int .i64 x1)] 0)) h) = (f35.runT R A0 n0 c0 x1 h) by kernel_rfl) H)
def f28.T : Tab := { sh := tSh, tup := tTup, keep := [], plan := [] }
def f28.kp : Keep := [([true, true], [0]), ([false, false, true, false, true, true, true, true], [3, 4, 18, 19, 20]), ([false, false, true, true, true, false, false, true, true, false, false, true, false, true, true, true, true], [3, 4, 18, 19, 20, 30, 31, 32])]
theorem f28.good : goodCode Try.prog f28.T (rootOf Try.f28) = true := by kernel_rfl
def f28.j0 (R : Value → Heap → Prop) (A0 : Option Addr) (n0 : Nat) (c0 : Nat) (h : Heap) : Prop := Pt Try.prog Try.f28 R [true, true] (mkFr [(0, (Value.slice A0 n0 c0))]) h
def f28.l0 (R : Value → Heap → Prop) (v3 : Value) (x4 : Int) (A18 : Option Addr) (n18 : Nat) (c18 : Nat) (x19 : Int) (x20 : Int) (h : Heap) : Prop := Pt Try.prog Try.f28 R [false, false, true, false, true, true, true, true] (mkFr [(3, v3), (4, (Value.int .i64 x4)), (18, (Value.slice A18 n18 c18)), (19, (Value.int .i64 x19)), (20, (Value.int .i64 x20))]) h
def f28.l1 (R : Value → Heap → Prop) (v3 : Value) (x4 : Int) (A18 : Option Addr) (n18 : Nat) (c18 : Nat) (x19 : Int) (x20 : Int) (A30 : Option Addr) (n30 : Nat) (c30 : Nat) (x31 : Int) (x32 : Int) (h : Heap) : Prop := Pt Try.prog Try.f28 R [false, false, true, true, true, false, false, true, true, false, false, true, false, true, true, true, true] (mkFr [(3, v3), (4, (Value.int .i64 x4)), (18, (Value.slice A18 n18 c18)), (19, (Value.int .i64 x19)), (20, (Value.int .i64 x20)), (30, (Value.slice A30 n30 c30)), (31, (Value.int .i64 x31)), (32, (Value.int .i64 x32))]) h
set_option maxRecDepth 100000 in
def f28.j0T (R : Value → Heap → Prop) (A0 : Option Addr) (n0 : Nat) (c0 : Nat) (h : Heap) : Prop :=
  Gen Try.prog (Instr.makeMap 128 none) h fun v1_ h2_ => f28.l0 R v1_ (0 : Int) A0 n0 c0 ((n0 : Nat) : Int) (0 : Int) h2_
set_option maxRecDepth 100000 in
theorem f28.j0_in {R : Value → Heap → Prop} {A0 : Option Addr} {n0 : Nat} {c0 : Nat} {h : Heap} (H : f28.j0T R A0 n0 c0 h) : f28.j0 R A0 n0 c0 h :=
  pt_intro mixed f28.good (Eq.mpr (show (Fwd Try.prog f28.T f28.kp Try.f28 R [true, true] (mkFr [(0, (Value.slice A0 n0 c0))]) h) = (f28.j0T R A0 n0 c0 h) by kernel_rfl) H)
set_option maxRecDepth 100000 in
def f28.l0T (R : Value → Heap → Prop) (v3 : Value) (x4 : Int) (A18 : Option Addr) (n18 : Nat) (c18 : Nat) (x19 : Int) (x20 : Int) (h : Heap) : Prop :=
  splitB (decide (x20 < x19)) (ptrOk A18 fun a1_ => 0 ≤ x20 ∧ x20 < ((n18 : Nat) : Int) ∧ (∃ v2_, ldv false 1 h (Addr.add a1_ (Int.toNat x20 * 1)) = some v2_ ∧ ∃ A3_, ∃ n3_, ∃ c3_, v2_ = (Value.slice A3_ n3_ c3_) ∧ splitB (decide ((IntKind.wrap .i64 (x4 + ((n3_ : Nat) : Int))) > (100 : Int))) (R (Value.int .i64 (2 : Int)) h) (f28.l1 R v3 (IntKind.wrap .i64 (x4 + ((n3_ : Nat) : Int))) A18 n18 c18 x19 x20 A3_ n3_ c3_ ((n3_ : Nat) : Int) (0 : Int) h))) (R (Value.int .i64 (0 : Int)) h)
set_option maxRecDepth 100000 in
theorem f28.l0_in {R : Value → Heap → Prop} {v3 : Value} {x4 : Int} {A18 : Option Addr} {n18 : Nat} {c18 : Nat} {x19 : Int} {x20 : Int} {h : Heap} (H : f28.l0T R v3 x4 A18 n18 c18 x19 x20 h) : f28.l0 R v3 x4 A18 n18 c18 x19 x20 h :=
  pt_intro mixed f28.good (Eq.mpr (show (Fwd Try.prog f28.T f28.kp Try.f28 R [false, false, true, false, true, true, true, true] (mkFr [(3, v3), (4, (Value.int .i64 x4)), (18, (Value.slice A18 n18 c18)), (19, (Value.int .i64 x19)), (20, (Value.int .i64 x20))]) h) = (f28.l0T R v3 x4 A18 n18 c18 x19 x20 h) by kernel_rfl) H)
set_option maxRecDepth 100000 in
def f28.l1T (R : Value → Heap → Prop) (v3 : Value) (x4 : Int) (A18 : Option Addr) (n18 : Nat) (c18 : Nat) (x19 : Int) (x20 : Int) (A30 : Option Addr) (n30 : Nat) (c30 : Nat) (x31 : Int) (x32 : Int) (h : Heap) : Prop :=
  splitB (decide (x32 < x31)) (ptrOk A30 fun a1_ => 0 ≤ x32 ∧ x32 < ((n30 : Nat) : Int) ∧ (∃ v2_, ldv false 1 h (Addr.add a1_ (Int.toNat x32 * 1)) = some v2_ ∧ ∃ x3_, v2_ = (Value.int .i64 x3_) ∧ Gen Try.prog (Instr.lookup 128 v3 (Value.int .i64 x3_) false) h fun v4_ h5_ => ∃ b6_, v4_ = (Value.bool b6_) ∧ splitB b6_ (R (Value.int .i64 (5 : Int)) h5_) (Hwp Try.prog (Instr.mapUpdate 128 v3 (Value.int .i64 x3_) (Value.bool true)) h5_ fun _ h7_ => f28.l1 R v3 x4 A18 n18 c18 x19 x20 A30 n30 c30 x31 (IntKind.wrap .i64 (x32 + (1 : Int))) h7_))) (f28.l0 R v3 x4 A18 n18 c18 x19 (IntKind.wrap .i64 (x20 + (1 : Int))) h)
set_option maxRecDepth 100000 in
theorem f28.l1_in {R : Value → Heap → Prop} {v3 : Value} {x4 : Int} {A18 : Option Addr} {n18 : Nat} {c18 : Nat} {x19 : Int} {x20 : Int} {A30 : Option Addr} {n30 : Nat} {c30 : Nat} {x31 : Int} {x32 : Int} {h : Heap} (H : f28.l1T R v3 x4 A18 n18 c18 x19 x20 A30 n30 c30 x31 x32 h) : f28.l1 R v3 x4 A18 n18 c18 x19 x20 A30 n30 c30 x31 x32 h :=
  pt_intro mixed f28.good (Eq.mpr (show (Fwd Try.prog f28.T f28.kp Try.f28 R [false, false, true, true, true, false, false, true, true, false, false, true, false, true, true, true, true] (mkFr [(3, v3), (4, (Value.int .i64 x4)), (18, (Value.slice A18 n18 c18)), (19, (Value.int .i64 x19)), (20, (Value.int .i64 x20)), (30, (Value.slice A30 n30 c30)), (31, (Value.int .i64 x31)), (32, (Value.int .i64 x32))]) h) = (f28.l1T R v3 x4 A18 n18 c18 x19 x20 A30 n30 c30 x31 x32 h) by kernel_rfl) H)
set_option maxRecDepth 100000 in
def f28.runT (R : Value → Heap → Prop) (A0 : Option Addr) (n0 : Nat) (c0 : Nat) (h : Heap) : Prop :=
  splitB (decide (((n0 : Nat) : Int) < (1 : Int))) (R (Value.int .i64 (1 : Int)) h) (splitB (decide (((n0 : Nat) : Int) > (8 : Int))) (R (Value.int .i64 (1 : Int)) h) (f28.j0 R A0 n0 c0 h))
set_option maxRecDepth 100000 in
theorem f28.run {R : Value → Heap → Prop} {A0 : Option Addr} {n0 : Nat} {c0 : Nat} {h : Heap} (H : f28.runT R A0 n0 c0 h) : Run Try.prog 28 #[(Value.slice A0 n0 c0)] h R :=
  run_of mixed Try.func28 (by kernel_rfl) (by kernel_rfl) f28.good (Eq.mpr (show (Fwd Try.prog f28.T f28.kp Try.f28 R [] (mkFr (argL [(Value.slice A0 n0 c0)] 0)) h) = (f28.runT R A0 n0 c0 h) by kernel_rfl) H)
def f64.T : Tab := { sh := tSh, tup := tTup, keep := [], plan := [] }
def f64.kp : Keep := []
theorem f64.good : goodCode Try.prog f64.T (rootOf Try.f64) = true := by kernel_rfl
set_option maxRecDepth 100000 in
def f64.runT (R : Value → Heap → Prop) (A0 : Option Addr) (n0 : Nat) (c0 : Nat) (x1 : Int) (h : Heap) : Prop :=
  Run Try.prog 28 #[(Value.slice A0 n0 c0)] h fun v1_ h2_ => ∃ x3_, v1_ = (Value.int .i64 x3_) ∧ splitB (x3_ == (0 : Int)) (splitB (decide (x1 < (0 : Int))) (R (Value.int .i64 (4 : Int)) h2_) (splitB (decide (x1 ≥ ((n0 : Nat) : Int))) (R (Value.int .i64 (4 : Int)) h2_) (R (Value.int .i64 x3_) h2_))) (R (Value.int .i64 x3_) h2_)
set_option maxRecDepth 100000 in
theorem f64.run {R : Value → Heap → Prop} {A0 : Option Addr} {n0 : Nat} {c0 : Nat} {x1 : Int} {h : Heap} (H : f64.runT R A0 n0 c0 x1 h) : Run Try.prog 64 #[(Value.slice A0 n0 c0), (Value.int .i64 x1)] h R :=
  run_of mixed Try.func64 (by kernel_rfl) (by kernel_rfl) f64.good (Eq.mpr (show (Fwd Try.prog f64.T f64.kp Try.f64 R [] (mkFr (argL [(Value.slice A0 n0 c0), (Value.int .i64 x1)] 0)) h) = (f64.runT R A0 n0 c0 x1 h) by kernel_rfl) H)
def f36.T : Tab := { sh := tSh, tup := tTup, keep := [], plan := [] }
def f36.kp : Keep := []
theorem f36.good : goodCode Try.prog f36.T (rootOf Try.f36) = true := by kernel_rfl
set_option maxRecDepth 100000 in
def f36.runT (R : Value → Heap → Prop) (A0 : Option Addr) (n0 : Nat) (c0 : Nat) (h : Heap) : Prop :=
  splitB (Option.isNone A0) (R (Value.slice none 0 0) h) (newH h (Obj.cells #[] 45) fun h1_ => AppW 45 1 24 #[(Value.slice none 0 0)] (some ⟨Array.size h, 0, none⟩) 0 0 (Value.slice A0 n0 c0) h1_ fun v2_ h3_ => ∃ A4_, ∃ n4_, ∃ c4_, v2_ = (Value.slice A4_ n4_ c4_) ∧ R (Value.slice A4_ n4_ c4_) h3_)
set_option maxRecDepth 100000 in
theorem f36.run {R : Value → Heap → Prop} {A0 : Option Addr} {n0 : Nat} {c0 : Nat} {h : Heap} (H : f36.runT R A0 n0 c0 h) : Run Try.prog 36 #[(Value.slice A0 n0 c0)] h R :=
  run_of mixed Try.func36 (by kernel_rfl) (by kernel_rfl) f36.good (Eq.mpr (show (Fwd Try.prog f36.T f36.kp Try.f36 R [] (mkFr (argL [(Value.slice A0 n0 c0)] 0)) h) = (f36.runT R A0 n0 c0 h) by kernel_rfl) H)
def f37.T : Tab := { sh := tSh, tup := tTup, keep := [], plan := [] }
def f37.kp : Keep := []
theorem f37.good : goodCode Try.prog f37.T (rootOf Try.f37) = true := by kernel_rfl
set_option maxRecDepth 100000 in
def f37.runT (R : Value → Heap → Prop) (A0 : Option Addr) (n0 : Nat) (c0 : Nat) (h : Heap) : Prop :=
  splitB (Option.isNone A0) (R (Value.slice none 0 0) h) (newH h (Obj.cells #[] 3) fun h1_ => AppW 3 1 8 #[(Value.int .i64 (0 : Int))] (some ⟨Array.size h, 0, none⟩) 0 0 (Value.slice A0 n0 c0) h1_ fun v2_ h3_ => ∃ A4_, ∃ n4_, ∃ c4_, v2_ = (Value.slice A4_ n4_ c4_) ∧ R (Value.slice A4_ n4_ c4_) h3_)
set_option maxRecDepth 100000 in
theorem f37.run {R : Value → Heap → Prop} {A0 : Option Addr} {n0 : Nat} {c0 : Nat} {h : Heap} (H : f37.runT R A0 n0 c0 h) : Run Try.prog 37 #[(Value.slice A0 n0 c0)] h R :=
  run_of mixed Try.func37 (by kernel_rfl) (by kernel_rfl) f37.good (Eq.mpr (show (Fwd Try.prog f37.T f37.kp Try.f37 R [] (mkFr (argL [(Value.slice A0 n0 c0)] 0)) h) = (f37.runT R A0 n0 c0 h) by kernel_rfl) H)
def f65.T : Tab := { sh := tSh, tup := tTup, keep := [], plan := [] }
def f65.kp : Keep := [([false, false, true, false, true, true], [3, 8, 9])]
theorem f65.good : goodCode Try.prog f65.T (rootOf Try.f65) = true := by kernel_rfl
def f65.l0 (R : Value → Heap → Prop) (A3 : Option Addr) (n3 : Nat) (c3 : Nat) (x8 : Int) (x9 : Int) (h : Heap) : Prop := Pt Try.prog Try.f65 R [false, false, true, false, true, true] (mkFr [(3, (Value.slice A3 n3 c3)), (8, (Value.int .i64 x8)), (9, (Value.int .i64 x9))]) h
set_option maxRecDepth 100000 in
def f65.l0T (R : Value → Heap → Prop) (A3 : Option Addr) (n3 : Nat) (c3 : Nat) (x8 : Int) (x9 : Int) (h : Heap) : Prop :=
  splitB (decide (x9 < x8)) (ptrOk A3 fun a1_ => 0 ≤ x9 ∧ x9 < ((n3 : Nat) : Int) ∧ (∃ v2_, ldv false 1 h (Addr.add a1_ (Int.toNat x9 * 1)) = some v2_ ∧ ∃ A3_, ∃ n3_, ∃ c3_, v2_ = (Value.slice A3_ n3_ c3_) ∧ Run Try.prog 37 #[(Value.slice A3_ n3_ c3_)] h fun v4_ h5_ => ∃ A6_, ∃ n6_, ∃ c6_, v4_ = (Value.slice A6_ n6_ c6_) ∧ ptrOk A3 fun a7_ => 0 ≤ x9 ∧ x9 < ((n3 : Nat) : Int) ∧ (∃ h8_, st1 h5_ (Addr.add a7_ (Int.toNat x9 * 1)) (Value.slice A6_ n6_ c6_) = some h8_ ∧ f65.l0 R A3 n3 c3 x8 (IntKind.wrap .i64 (x9 + (1 : Int))) h8_))) (R (Value.slice A3 n3 c3) h)
set_option maxRecDepth 100000 in
theorem f65.l0_in {R : Value → Heap → Prop} {A3 : Option Addr} {n3 : Nat} {c3 : Nat} {x8 : Int} {x9 : Int} {h : Heap} (H : f65.l0T R A3 n3 c3 x8 x9 h) : f65.l0 R A3 n3 c3 x8 x9 h :=
  pt_intro mixed f65.good (Eq.mpr (show (Fwd Try.prog f65.T f65.kp Try.f65 R [false, false, true, false, true, true] (mkFr [(3, (Value.slice A3 n3 c3)), (8, (Value.int .i64 x8)), (9, (Value.int .i64 x9))]) h) = (f65.l0T R A3 n3 c3 x8 x9 h) by kernel_rfl) H)
set_option maxRecDepth 100000 in
def f65.runT (R : Value → Heap → Prop) (A0 : Option Addr) (n0 : Nat) (c0 : Nat) (h : Heap) : Prop :=
  Run Try.prog 36 #[(Value.slice A0 n0 c0)] h fun v1_ h2_ => ∃ A3_, ∃ n3_, ∃ c3_, v1_ = (Value.slice A3_ n3_ c3_) ∧ f65.l0 R A3_ n3_ c3_ ((n3_ : Nat) : Int) (0 : Int) h2_
set_option maxRecDepth 100000 in
theorem f65.run {R : Value → Heap → Prop} {A0 : Option Addr} {n0 : Nat} {c0 : Nat} {h : Heap} (H : f65.runT R A0 n0 c0 h) : Run Try.prog 65 #[(Value.slice A0 n0 c0)] h R :=
  run_of mixed Try.func65 (by kernel_rfl) (by kernel_rfl) f65.good (Eq.mpr (show (Fwd Try.prog f65.T f65.kp Try.f65 R [] (mkFr (argL [(Value.slice A0 n0 c0)] 0)) h) = (f65.runT R A0 n0 c0 h) by kernel_rfl) H)
def f23.T : Tab := { sh := tSh, tup := tTup, keep := [], plan := [] }
def f23.kp : Keep := [([false, false, true, false, true, true, true], [0, 1, 2, 9, 19, 20, 21])]
theorem f23.good : goodCode Try.prog f23.T (rootOf Try.f23) = true := by kernel_rfl
def f23.l0 (R : Value → Heap → Prop) (A0 : Option Addr) (n0 : Nat) (c0 : Nat) (x1 : Int) (x2 : Int) (x9 : Int) (A19 : Option Addr) (n19 : Nat) (c19 : Nat) (x20 : Int) (x21 : Int) (h : Heap) : Prop := Pt Try.prog Try.f23 R [false, false, true, false, true, true, true] (mkFr [(0, (Value.slice A0 n0 c0)), (1, (Value.int .i64 x1)), (2, (Value.int .i64 x2)), (9, (Value.int .i64 x9)), (19, (Value.slice A19 n19 c19)), (20, (Value.int .i64 x20)), (21, (Value.int .i64 x21))]) h
set_option maxRecDepth 100000 in
def f23.l0T (R : Value → Heap → Prop) (A0 : Option Addr) (n0 : Nat) (c0 : Nat) (x1 : Int) (x2 : Int) (x9 : Int) (A19 : Option Addr) (n19 : Nat) (c19 : Nat) (x20 : Int) (x21 : Int) (h : Heap) : Prop :=
  splitB (decide (x21 < x20)) (ptrOk A19 fun a1_ => 0 ≤ x21 ∧ x21 < ((n19 : Nat) : Int) ∧ (∃ v2_, ldv false 1 h (Addr.add a1_ (Int.toNat x21 * 1)) = some v2_ ∧ ∃ A3_, ∃ n3_, ∃ c3_, v2_ = (Value.slice A3_ n3_ c3_) ∧ Run Try.prog 35 #[(Value.slice A3_ n3_ c3_), (Value.int .i64 x2)] h fun v4_ h5_ => ∃ b6_, v4_ = (Value.bool b6_) ∧ splitB b6_ (R (Value.tuple #[(Value.slice none 0 0), (Value.int .i64 (5 : Int))]) h5_) (f23.l0 R A0 n0 c0 x1 x2 (IntKind.wrap .i64 (x9 + ((n3_ : Nat) : Int))) A19 n19 c19 x20 (IntKind.wrap .i64 (x21 + (1 : Int))) h5_))) (splitB (x9 == (100 : Int)) (R (Value.tuple #[(Value.slice none 0 0), (Value.int .i64 (6 : Int))]) h) (Run Try.prog 65 #[(Value.slice A0 n0 c0)] h fun v7_ h8_ => ∃ A9_, ∃ n9_, ∃ c9_, v7_ = (Value.slice A9_ n9_ c9_) ∧ ptrOk A9_ fun a10_ => 0 ≤ x1 ∧ x1 < ((n9_ : Nat) : Int) ∧ (∃ v11_, ldv false 1 h8_ (Addr.add a10_ (Int.toNat x1 * 1)) = some v11_ ∧ ∃ A12_, ∃ n12_, ∃ c12_, v11_ = (Value.slice A12_ n12_ c12_) ∧ newH h8_ (Obj.cells #[(Value.int .i64 x2)] 3) fun h13_ => AppW 3 1 8 #[(Value.int .i64 (0 : Int))] A12_ n12_ c12_ (Value.slice (some ⟨Array.size h8_, 0, none⟩) 1 1) h13_ fun v14_ h15_ => ∃ A16_, ∃ n16_, ∃ c16_, v14_ = (Value.slice A16_ n16_ c16_) ∧ ptrOk A9_ fun a17_ => 0 ≤ x1 ∧ x1 < ((n9_ : Nat) : Int) ∧ (∃ h18_, st1 h15_ (Addr.add a17_ (Int.toNat x1 * 1)) (Value.slice A16_ n16_ c16_) = some h18_ ∧ R (Value.tuple #[(Value.slice A9_ n9_ c9_), (Value.int .i64 (0 : Int))]) h18_))))
set_option maxRecDepth 100000 in
theorem f23.l0_in {R : Value → Heap → Prop} {A0 : Option Addr} {n0 : Nat} {c0 : Nat} {x1 : Int} {x2 : Int} {x9 : Int} {A19 : Option Addr} {n19 : Nat} {c19 : Nat} {x20 : Int} {x21 : Int} {h : Heap} (H : f23.l0T R A0 n0 c0 x1 x2 x9 A19 n19 c19 x20 x21 h) : f23.l0 R A0 n0 c0 x1 x2 x9 A19 n19 c19 x20 x21 h :=
  pt_intro mixed f23.good (Eq.mpr (show (Fwd Try.prog f23.T f23.kp Try.f23 R [false, false, true, false, true, true, true] (mkFr [(0, (Value.slice A0 n0 c0)), (1, (Value.int .i64 x1)), (2, (Value.int .i64 x2)), (9, (Value.int .i64 x9)), (19, (Value.slice A19 n19 c19)), (20, (Value.int .i64 x20)), (21, (Value.int .i64 x21))]) h) = (f23.l0T R A0 n0 c0 x1 x2 x9 A19 n19 c19 x20 x21 h) by kernel_rfl) H)
set_option maxRecDepth 100000 in
def f23.runT (R : Value → Heap → Prop) (A0 : Option Addr) (n0 : Nat) (c0 : Nat) (x1 : Int) (x2 : Int) (h : Heap) : Prop :=
  Run Try.prog 64 #[(Value.slice A0 n0 c0), (Value.int .i64 x1)] h fun v1_ h2_ => ∃ x3_, v1_ = (Value.int .i64 x3_) ∧ splitB (x3_ != (0 : Int)) (R (Value.tuple #[(Value.slice none 0 0), (Value.int .i64 x3_)]) h2_) (f23.l0 R A0 n0 c0 x1 x2 (0 : Int) A0 n0 c0 ((n0 : Nat) : Int) (0 : Int) h2_)
set_option maxRecDepth 100000 in
theorem f23.run {R : Value → Heap → Prop} {A0 : Option Addr} {n0 : Nat} {c0 : Nat} {x1 : Int} {x2 : Int} {h : Heap} (H : f23.runT R A0 n0 c0 x1 x2 h) : Run Try.prog 23 #[(Value.slice A0 n0 c0), (Value.int .i64 x1), (Value.int .i64 x2)] h R :=
  run_of mixed Try.func23 (by kernel_rfl) (by kernel_rfl) f23.good (Eq.mpr (show (Fwd Try.prog f23.T f23.kp Try.f23 R [] (mkFr (argL [(Value.slice A0 n0 c0), (Value.int .i64 x1), (Value.int .i64 x2)] 0)) h) = (f23.runT R A0 n0 c0 x1 x2 h) by kernel_rfl) H)
def f25.T : Tab := { sh := tSh, tup := tTup, keep := [], plan := [(8, (.take 0 (.take 1 (.take 2 (.take 3 (.take 4 (.take 5 (.take 6 (.split 6 (.take 7 (.take 8 (.take 9 (.split 9 (.take 10 (.take 11 (.take 12 (.take 15 (.take 16 (.take 17 (.take 13 (.take 14 (.take 18 (.take 19 (.take 20 (.take 21 (.take 22 .done))))))))))))))))))))))))))] }
def f25.kp : Keep := [([false, false, true, false, true, true, true], [0, 1, 5, 6]), ([true, true, false, false, true, false, false, true, false, true, true, true], [0, 1, 5, 6, 7, 46]), ([true, true, false, false, true, false, true, true, true], [0, 1, 5, 6])]
theorem f25.good : goodCode Try.prog f25.T (rootOf Try.f25) = true := by kernel_rfl
def f25.l0 (R : Value → Heap → Prop) (A0 : Option Addr) (n0 : Nat) (c0 : Nat) (x1 : Int) (x5 : Int) (x6 : Int) (h : Heap) : Prop := Pt Try.prog Try.f25 R [false, false, true, false, true, true, true] (mkFr [(0, (Value.slice A0 n0 c0)), (1, (Value.int .i64 x1)), (5, (Value.int .i64 x5)), (6, (Value.int .i64 x6))]) h
def f25.j1 (R : Value → Heap → Prop) (A0 : Option Addr) (n0 : Nat) (c0 : Nat) (x1 : Int) (x5 : Int) (x6 : Int) (x7 : Int) (b46 : Bool) (h : Heap) : Prop := Pt Try.prog Try.f25 R [true, true, false, false, true, false, false, true, false, true, true, true] (mkFr [(0, (Value.slice A0 n0 c0)), (1, (Value.int .i64 x1)), (5, (Value.int .i64 x5)), (6, (Value.int .i64 x6)), (7, (Value.int .i64 x7)), (46, (Value.bool b46))]) h
def f25.j0 (R : Value → Heap → Prop) (A0 : Option Addr) (n0 : Nat) (c0 : Nat) (x1 : Int) (x5 : Int) (x6 : Int) (h : Heap) : Prop := Pt Try.prog Try.f25 R [true, true, false, false, true, false, true, true, true] (mkFr [(0, (Value.slice A0 n0 c0)), (1, (Value.int .i64 x1)), (5, (Value.int .i64 x5)), (6, (Value.int .i64 x6))]) h
set_option maxRecDepth 100000 in
def f25.l0T (R : Value → Heap → Prop) (A0 : Option Addr) (n0 : Nat) (c0 : Nat) (x1 : Int) (x5 : Int) (x6 : Int) (h : Heap) : Prop :=
  splitB (decide (x6 < ((n0 : Nat) : Int))) (((n0 : Nat) : Int) ≠ 0 ∧ (ptrOk A0 fun a1_ => 0 ≤ (Int.tmod (IntKind.wrap .i64 (x1 + x6)) ((n0 : Nat) : Int)) ∧ (Int.tmod (IntKind.wrap .i64 (x1 + x6)) ((n0 : Nat) : Int)) < ((n0 : Nat) : Int) ∧ (∃ v2_, ldv false 1 h (Addr.add a1_ (Int.toNat (Int.tmod (IntKind.wrap .i64 (x1 + x6)) ((n0 : Nat) : Int)) * 1)) = some v2_ ∧ ∃ A3_, ∃ n3_, ∃ c3_, v2_ = (Value.slice A3_ n3_ c3_) ∧ splitB (decide (((n3_ : Nat) : Int) > (0 : Int))) (splitB (decide (x5 < (0 : Int))) (f25.j1 R A0 n0 c0 x1 x5 x6 (Int.tmod (IntKind.wrap .i64 (x1 + x6)) ((n0 : Nat) : Int)) true h) (ptrOk A0 fun a4_ => 0 ≤ (Int.tmod (IntKind.wrap .i64 (x1 + x6)) ((n0 : Nat) : Int)) ∧ (Int.tmod (IntKind.wrap .i64 (x1 + x6)) ((n0 : Nat) : Int)) < ((n0 : Nat) : Int) ∧ (ptrOk A0 fun a5_ => 0 ≤ x5 ∧ x5 < ((n0 : Nat) : Int) ∧ (∃ v6_, ldv false 1 h (Addr.add a4_ (Int.toNat (Int.tmod (IntKind.wrap .i64 (x1 + x6)) ((n0 : Nat) : Int)) * 1)) = some v6_ ∧ ∃ A7_, ∃ n7_, ∃ c7_, v6_ = (Value.slice A7_ n7_ c7_) ∧ ∃ v8_, ldv false 1 h (Addr.add a5_ (Int.toNat x5 * 1)) = some v8_ ∧ ∃ A9_, ∃ n9_, ∃ c9_, v8_ = (Value.slice A9_ n9_ c9_) ∧ f25.j1 R A0 n0 c0 x1 x5 x6 (Int.tmod (IntKind.wrap .i64 (x1 + x6)) ((n0 : Nat) : Int)) (decide (((n7_ : Nat) : Int) > ((n9_ : Nat) : Int))) h)))) (f25.j1 R A0 n0 c0 x1 x5 x6 (Int.tmod (IntKind.wrap .i64 (x1 + x6)) ((n0 : Nat) : Int)) false h)))) (R (Value.int .i64 x5) h)
set_option maxRecDepth 100000 in
theorem f25.l0_in {R : Value → Heap → Prop} {A0 : Option Addr} {n0 : Nat} {c0 : Nat} {x1 : Int} {x5 : Int} {x6 : Int} {h : Heap} (H : f25.l0T R A0 n0 c0 x1 x5 x6 h) : f25.l0 R A0 n0 c0 x1 x5 x6 h :=
  pt_intro mixed f25.good (Eq.mpr (show (Fwd Try.prog f25.T f25.kp Try.f25 R [false, false, true, false, true, true, true] (mkFr [(0, (Value.slice A0 n0 c0)), (1, (Value.int .i64 x1)), (5, (Value.int .i64 x5)), (6, (Value.int .i64 x6))]) h) = (f25.l0T R A0 n0 c0 x1 x5 x6 h) by kernel_rfl) H)
set_option maxRecDepth 100000 in
def f25.j1T (R : Value → Heap → Prop) (A0 : Option Addr) (n0 : Nat) (c0 : Nat) (x1 : Int) (x5 : Int) (x6 : Int) (x7 : Int) (b46 : Bool) (h : Heap) : Prop :=
  splitB b46 (f25.j0 R A0 n0 c0 x1 x7 x6 h) (f25.j0 R A0 n0 c0 x1 x5 x6 h)
set_option maxRecDepth 100000 in
theorem f25.j1_in {R : Value → Heap → Prop} {A0 : Option Addr} {n0 : Nat} {c0 : Nat} {x1 : Int} {x5 : Int} {x6 : Int} {x7 : Int} {b46 : Bool} {h : Heap} (H : f25.j1T R A0 n0 c0 x1 x5 x6 x7 b46 h) : f25.j1 R A0 n0 c0 x1 x5 x6 x7 b46 h :=
  pt_intro mixed f25.good (Eq.mpr (show (Fwd Try.prog f25.T f25.kp Try.f25 R [true, true, false, false, true, false, false, true, false, true, true, true] (mkFr [(0, (Value.slice A0 n0 c0)), (1, (Value.int .i64 x1)), (5, (Value.int .i64 x5)), (6, (Value.int .i64 x6)), (7, (Value.int .i64 x7)), (46, (Value.bool b46))]) h) = (f25.j1T R A0 n0 c0 x1 x5 x6 x7 b46 h) by kernel_rfl) H)
set_option maxRecDepth 100000 in
def f25.j0T (R : Value → Heap → Prop) (A0 : Option Addr) (n0 : Nat) (c0 : Nat) (x1 : Int) (x5 : Int) (x6 : Int) (h : Heap) : Prop :=
  f25.l0 R A0 n0 c0 x1 x5 (IntKind.wrap .i64 (x6 + (1 : Int))) h
set_option maxRecDepth 100000 in
theorem f25.j0_in {R : Value → Heap → Prop} {A0 : Option Addr} {n0 : Nat} {c0 : Nat} {x1 : Int} {x5 : Int} {x6 : Int} {h : Heap} (H : f25.j0T R A0 n0 c0 x1 x5 x6 h) : f25.j0 R A0 n0 c0 x1 x5 x6 h :=
  pt_intro mixed f25.good (Eq.mpr (show (Fwd Try.prog f25.T f25.kp Try.f25 R [true, true, false, false, true, false, true, true, true] (mkFr [(0, (Value.slice A0 n0 c0)), (1, (Value.int .i64 x1)), (5, (Value.int .i64 x5)), (6, (Value.int .i64 x6))]) h) = (f25.j0T R A0 n0 c0 x1 x5 x6 h) by kernel_rfl) H)
set_option maxRecDepth 100000 in
def f25.runT (R : Value → Heap → Prop) (A0 : Option Addr) (n0 : Nat) (c0 : Nat) (x1 : Int) (h : Heap) : Prop :=
  Run Try.prog 64 #[(Value.slice A0 n0 c0), (Value.int .i64 x1)] h fun v1_ h2_ => ∃ x3_, v1_ = (Value.int .i64 x3_) ∧ splitB (x3_ != (0 : Int)) (R (Value.int .i64 (-1 : Int)) h2_) (f25.l0 R A0 n0 c0 x1 (-1 : Int) (1 : Int) h2_)
set_option maxRecDepth 100000 in
theorem f25.run {R : Value → Heap → Prop} {A0 : Option Addr} {n0 : Nat} {c0 : Nat} {x1 : Int} {h : Heap} (H : f25.runT R A0 n0 c0 x1 h) : Run Try.prog 25 #[(Value.slice A0 n0 c0), (Value.int .i64 x1)] h R :=
  run_of mixed Try.func25 (by kernel_rfl) (by kernel_rfl) f25.good (Eq.mpr (show (Fwd Try.prog f25.T f25.kp Try.f25 R [] (mkFr (argL [(Value.slice A0 n0 c0), (Value.int .i64 x1)] 0)) h) = (f25.runT R A0 n0 c0 x1 h) by kernel_rfl) H)
def f24.T : Tab := { sh := tSh, tup := tTup, keep := [], plan := [(10, (.take 0 (.take 1 (.take 2 (.take 3 (.take 4 (.take 5 (.take 6 (.take 8 (.take 11 (.take 12 (.take 13 (.take 15 (.take 7 (.take 9 (.take 14 (.take 16 (.eff true 10 (.eff false 17 (.take 18 (.eff false 19 (.take 20 (.eff false 21 .done)))))))))))))))))))))))] }
def f24.kp : Keep := [([true, true, true, true], [1, 8])]
theorem f24.good : goodCode Try.prog f24.T (rootOf Try.f24) = true := by kernel_rfl
def f24.j0 (R : Value → Heap → Prop) (x1 : Int) (A8 : Option Addr) (n8 : Nat) (c8 : Nat) (h : Heap) : Prop := Pt Try.prog Try.f24 R [true, true, true, true] (mkFr [(1, (Value.int .i64 x1)), (8, (Value.slice A8 n8 c8))]) h
set_option maxRecDepth 100000 in
def f24.j0T (R : Value → Heap → Prop) (x1 : Int) (A8 : Option Addr) (n8 : Nat) (c8 : Nat) (h : Heap) : Prop :=
  ptrOk A8 fun a1_ => 0 ≤ x1 ∧ x1 < ((n8 : Nat) : Int) ∧ (∃ v2_, ldv false 1 h (Addr.add a1_ (Int.toNat x1 * 1)) = some v2_ ∧ ∃ A3_, ∃ n3_, ∃ c3_, v2_ = (Value.slice A3_ n3_ c3_) ∧ ptrOk A8 fun a4_ => 0 ≤ x1 ∧ x1 < ((n8 : Nat) : Int) ∧ (∃ v5_, ldv false 1 h (Addr.add a4_ (Int.toNat x1 * 1)) = some v5_ ∧ ∃ A6_, ∃ n6_, ∃ c6_, v5_ = (Value.slice A6_ n6_ c6_) ∧ ptrOk A6_ fun a7_ => 0 ≤ (IntKind.wrap .i64 (((n3_ : Nat) : Int) - (1 : Int))) ∧ (IntKind.wrap .i64 (((n3_ : Nat) : Int) - (1 : Int))) < ((n6_ : Nat) : Int) ∧ (∃ v8_, ldv false 1 h (Addr.add a7_ (Int.toNat (IntKind.wrap .i64 (((n3_ : Nat) : Int) - (1 : Int))) * 1)) = some v8_ ∧ ∃ x9_, v8_ = (Value.int .i64 x9_) ∧ ptrOk A8 fun a10_ => 0 ≤ x1 ∧ x1 < ((n8 : Nat) : Int) ∧ (∃ v11_, ldv false 1 h (Addr.add a10_ (Int.toNat x1 * 1)) = some v11_ ∧ ∃ A12_, ∃ n12_, ∃ c12_, v11_ = (Value.slice A12_ n12_ c12_) ∧ 0 ≤ (0 : Int) ∧ (0 : Int) ≤ (IntKind.wrap .i64 (((n3_ : Nat) : Int) - (1 : Int))) ∧ (IntKind.wrap .i64 (((n3_ : Nat) : Int) - (1 : Int))) ≤ ((c12_ : Nat) : Int) ∧ (ptrOk A8 fun a13_ => 0 ≤ x1 ∧ x1 < ((n8 : Nat) : Int) ∧ (∃ h14_, st1 h (Addr.add a13_ (Int.toNat x1 * 1)) (Value.slice (sliceA A12_ (Int.toNat (0 : Int)) c12_ 1) (Int.toNat (IntKind.wrap .i64 (((n3_ : Nat) : Int) - (1 : Int))) - Int.toNat (0 : Int)) (c12_ - Int.toNat (0 : Int))) = some h14_ ∧ R (Value.tuple #[(Value.slice A8 n8 c8), (Value.int .i64 x9_), (Value.int .i64 (0 : Int))]) h14_))))))
set_option maxRecDepth 100000 in
theorem f24.j0_in {R : Value → Heap → Prop} {x1 : Int} {A8 : Option Addr} {n8 : Nat} {c8 : Nat} {h : Heap} (H : f24.j0T R x1 A8 n8 c8 h) : f24.j0 R x1 A8 n8 c8 h :=
  pt_intro mixed f24.good (Eq.mpr (show (Fwd Try.prog f24.T f24.kp Try.f24 R [true, true, true, true] (mkFr [(1, (Value.int .i64 x1)), (8, (Value.slice A8 n8 c8))]) h) = (f24.j0T R x1 A8 n8 c8 h) by kernel_rfl) H)
set_option maxRecDepth 100000 in
def f24.runT (R : Value → Heap → Prop) (A0 : Option Addr) (n0 : Nat) (c0 : Nat) (x1 : Int) (h : Heap) : Prop :=
  Run Try.prog 64 #[(Value.slice A0 n0 c0), (Value.int .i64 x1)] h fun v1_ h2_ => ∃ x3_, v1_ = (Value.int .i64 x3_) ∧ splitB (x3_ != (0 : Int)) (R (Value.tuple #[(Value.slice none 0 0), (Value.int .i64 (0 : Int)), (Value.int .i64 x3_)]) h2_) (Run Try.prog 65 #[(Value.slice A0 n0 c0)] h2_ fun v4_ h5_ => ∃ A6_, ∃ n6_, ∃ c6_, v4_ = (Value.slice A6_ n6_ c6_) ∧ ptrOk A6_ fun a7_ => 0 ≤ x1 ∧ x1 < ((n6_ : Nat) : Int) ∧ (∃ v8_, ldv false 1 h5_ (Addr.add a7_ (Int.toNat x1 * 1)) = some v8_ ∧ ∃ A9_, ∃ n9_, ∃ c9_, v8_ = (Value.slice A9_ n9_ c9_) ∧ splitB (((n9_ : Nat) : Int) == (0 : Int)) (Run Try.prog 25 #[(Value.slice A0 n0 c0), (Value.int .i64 x1)] h5_ fun v10_ h11_ => ∃ x12_, v10_ = (Value.int .i64 x12_) ∧ splitB (decide (x12_ < (0 : Int))) (R (Value.tuple #[(Value.slice none 0 0), (Value.int .i64 (0 : Int)), (Value.int .i64 (4 : Int))]) h11_) (ptrOk A0 fun a13_ => 0 ≤ x12_ ∧ x12_ < ((n0 : Nat) : Int) ∧ (∃ v14_, ldv false 1 h11_ (Addr.add a13_ (Int.toNat x12_ * 1)) = some v14_ ∧ ∃ A15_, ∃ n15_, ∃ c15_, v14_ = (Value.slice A15_ n15_ c15_) ∧ (2 : Int) ≠ 0 ∧ (ptrOk A0 fun a16_ => 0 ≤ x12_ ∧ x12_ < ((n0 : Nat) : Int) ∧ (ptrOk A0 fun a17_ => 0 ≤ x12_ ∧ x12_ < ((n0 : Nat) : Int) ∧ (∃ v18_, ldv false 1 h11_ (Addr.add a16_ (Int.toNat x12_ * 1)) = some v18_ ∧ ∃ A19_, ∃ n19_, ∃ c19_, v18_ = (Value.slice A19_ n19_ c19_) ∧ 0 ≤ (0 : Int) ∧ (0 : Int) ≤ (IntKind.wrap .i64 (Int.tdiv (IntKind.wrap .i64 (((n15_ : Nat) : Int) + (1 : Int))) (2 : Int))) ∧ (IntKind.wrap .i64 (Int.tdiv (IntKind.wrap .i64 (((n15_ : Nat) : Int) + (1 : Int))) (2 : Int))) ≤ ((c19_ : Nat) : Int) ∧ (∃ v20_, ldv false 1 h11_ (Addr.add a17_ (Int.toNat x12_ * 1)) = some v20_ ∧ ∃ A21_, ∃ n21_, ∃ c21_, v20_ = (Value.slice A21_ n21_ c21_) ∧ 0 ≤ (IntKind.wrap .i64 (Int.tdiv (IntKind.wrap .i64 (((n15_ : Nat) : Int) + (1 : Int))) (2 : Int))) ∧ (IntKind.wrap .i64 (Int.tdiv (IntKind.wrap .i64 (((n15_ : Nat) : Int) + (1 : Int))) (2 : Int))) ≤ ((n21_ : Nat) : Int) ∧ ((n21_ : Nat) : Int) ≤ ((c21_ : Nat) : Int) ∧ (Run Try.prog 37 #[(Value.slice (sliceA A19_ (Int.toNat (0 : Int)) c19_ 1) (Int.toNat (IntKind.wrap .i64 (Int.tdiv (IntKind.wrap .i64 (((n15_ : Nat) : Int) + (1 : Int))) (2 : Int))) - Int.toNat (0 : Int)) (c19_ - Int.toNat (0 : Int)))] h11_ fun v22_ h23_ => ∃ A24_, ∃ n24_, ∃ c24_, v22_ = (Value.slice A24_ n24_ c24_) ∧ Ext h11_ h23_ ∧ (Run Try.prog 37 #[(Value.slice (sliceA A21_ (Int.toNat (IntKind.wrap .i64 (Int.tdiv (IntKind.wrap .i64 (((n15_ : Nat) : Int) + (1 : Int))) (2 : Int)))) c21_ 1) (Int.toNat ((n21_ : Nat) : Int) - Int.toNat (IntKind.wrap .i64 (Int.tdiv (IntKind.wrap .i64 (((n15_ : Nat) : Int) + (1 : Int))) (2 : Int)))) (c21_ - Int.toNat (IntKind.wrap .i64 (Int.tdiv (IntKind.wrap .i64 (((n15_ : Nat) : Int) + (1 : Int))) (2 : Int)))))] h23_ fun v25_ h26_ => ∃ A27_, ∃ n27_, ∃ c27_, v25_ = (Value.slice A27_ n27_ c27_) ∧ ptrOk A6_ fun a28_ => 0 ≤ x1 ∧ x1 < ((n6_ : Nat) : Int) ∧ (∃ h29_, st1 h26_ (Addr.add a28_ (Int.toNat x1 * 1)) (Value.slice A24_ n24_ c24_) = some h29_ ∧ ptrOk A6_ fun a30_ => 0 ≤ x12_ ∧ x12_ < ((n6_ : Nat) : Int) ∧ (∃ h31_, st1 h29_ (Addr.add a30_ (Int.toNat x12_ * 1)) (Value.slice A27_ n27_ c27_) = some h31_ ∧ f24.j0 R x1 A6_ n6_ c6_ h31_))))))))))) (f24.j0 R x1 A6_ n6_ c6_ h5_)))
set_option maxRecDepth 100000 in
theorem f24.run {R : Value → Heap → Prop} {A0 : Option Addr} {n0 : Nat} {c0 : Nat} {x1 : Int} {h : Heap} (H : f24.runT R A0 n0 c0 x1 h) : Run Try.prog 24 #[(Value.slice A0 n0 c0), (Value.int .i64 x1)] h R :=
  run_of mixed Try.func24 (by kernel_rfl) (by kernel_rfl) f24.good (Eq.mpr (show (Fwd Try.prog f24.T f24.kp Try.f24 R [] (mkFr (argL [(Value.slice A0 n0 c0), (Value.int .i64 x1)] 0)) h) = (f24.runT R A0 n0 c0 x1 h) by kernel_rfl) H)
def f26.T : Tab := { sh := tSh, tup := tTup, keep := [], plan := [] }
def f26.kp : Keep := [([false, false, true, false, true, true, true, true, true], [8, 9, 25, 26, 27])]
theorem f26.good : goodCode Try.prog f26.T (rootOf Try.f26) = true := by kernel_rfl
def f26.l0 (R : Value → Heap → Prop) (A8 : Option Addr) (n8 : Nat) (c8 : Nat) (A9 : Option Addr) (n9 : Nat) (c9 : Nat) (A25 : Option Addr) (n25 : Nat) (c25 : Nat) (x26 : Int) (x27 : Int) (h : Heap) : Prop := Pt Try.prog Try.f26 R [false, false, true, false, true, true, true, true, true] (mkFr [(8, (Value.slice A8 n8 c8)), (9, (Value.slice A9 n9 c9)), (25, (Value.slice A25 n25 c25)), (26, (Value.int .i64 x26)), (27, (Value.int .i64 x27))]) h
set_option maxRecDepth 100000 in
def f26.l0T (R : Value → Heap → Prop) (A8 : Option Addr) (n8 : Nat) (c8 : Nat) (A9 : Option Addr) (n9 : Nat) (c9 : Nat) (A25 : Option Addr) (n25 : Nat) (c25 : Nat) (x26 : Int) (x27 : Int) (h : Heap) : Prop :=
  splitB (decide (x27 < x26)) (ptrOk A25 fun a1_ => 0 ≤ x27 ∧ x27 < ((n25 : Nat) : Int) ∧ (∃ v2_, ldv false 1 h (Addr.add a1_ (Int.toNat x27 * 1)) = some v2_ ∧ ∃ x3_, v2_ = (Value.int .i64 x3_) ∧ Run Try.prog 24 #[(Value.slice A8 n8 c8), (Value.int .i64 x3_)] h fun v4_ h5_ => ∃ A6_, ∃ n6_, ∃ c6_, ∃ x7_, ∃ x8_, v4_ = (Value.tuple #[(Value.slice A6_ n6_ c6_), (Value.int .i64 x7_), (Value.int .i64 x8_)]) ∧ splitB (x8_ == (0 : Int)) (∃ l9_ : List Value, (Value.agg #[(Value.int .i64 x3_), (Value.int .i64 x7_)]) = Value.agg l9_.toArray ∧ l9_.length = 2 ∧ (newH h5_ (Obj.cells ((List.take 0 ([(Value.int .i64 (0 : Int)), (Value.int .i64 (0 : Int))]) ++ l9_ ++ List.drop 2 ([(Value.int .i64 (0 : Int)), (Value.int .i64 (0 : Int))])).toArray) 67) fun h10_ => AppW 67 2 16 #[(Value.int .i64 (0 : Int)), (Value.int .i64 (0 : Int))] A9 n9 c9 (Value.slice (some ⟨Array.size h5_, 0, none⟩) 1 1) h10_ fun v11_ h12_ => ∃ A13_, ∃ n13_, ∃ c13_, v11_ = (Value.slice A13_ n13_ c13_) ∧ f26.l0 R A6_ n6_ c6_ A13_ n13_ c13_ A25 n25 c25 x26 (IntKind.wrap .i64 (x27 + (1 : Int))) h12_)) (f26.l0 R A8 n8 c8 A9 n9 c9 A25 n25 c25 x26 (IntKind.wrap .i64 (x27 + (1 : Int))) h5_))) (R (Value.tuple #[(Value.slice A9 n9 c9), (Value.slice A8 n8 c8), (Value.int .i64 (0 : Int))]) h)
set_option maxRecDepth 100000 in
theorem f26.l0_in {R : Value → Heap → Prop} {A8 : Option Addr} {n8 : Nat} {c8 : Nat} {A9 : Option Addr} {n9 : Nat} {c9 : Nat} {A25 : Option Addr} {n25 : Nat} {c25 : Nat} {x26 : Int} {x27 : Int} {h : Heap} (H : f26.l0T R A8 n8 c8 A9 n9 c9 A25 n25 c25 x26 x27 h) : f26.l0 R A8 n8 c8 A9 n9 c9 A25 n25 c25 x26 x27 h :=
  pt_intro mixed f26.good (Eq.mpr (show (Fwd Try.prog f26.T f26.kp Try.f26 R [false, false, true, false, true, true, true, true, true] (mkFr [(8, (Value.slice A8 n8 c8)), (9, (Value.slice A9 n9 c9)), (25, (Value.slice A25 n25 c25)), (26, (Value.int .i64 x26)), (27, (Value.int .i64 x27))]) h) = (f26.l0T R A8 n8 c8 A9 n9 c9 A25 n25 c25 x26 x27 h) by kernel_rfl) H)
set_option maxRecDepth 100000 in
def f26.runT (R : Value → Heap → Prop) (A0 : Option Addr) (n0 : Nat) (c0 : Nat) (A1 : Option Addr) (n1 : Nat) (c1 : Nat) (h : Heap) : Prop :=
  Run Try.prog 28 #[(Value.slice A0 n0 c0)] h fun v1_ h2_ => ∃ x3_, v1_ = (Value.int .i64 x3_) ∧ splitB (x3_ != (0 : Int)) (R (Value.tuple #[(Value.slice none 0 0), (Value.slice none 0 0), (Value.int .i64 x3_)]) h2_) (splitB (decide (((n1 : Nat) : Int) > (100 : Int))) (R (Value.tuple #[(Value.slice none 0 0), (Value.slice none 0 0), (Value.int .i64 (2 : Int))]) h2_) (Run Try.prog 65 #[(Value.slice A0 n0 c0)] h2_ fun v4_ h5_ => ∃ A6_, ∃ n6_, ∃ c6_, v4_ = (Value.slice A6_ n6_ c6_) ∧ f26.l0 R A6_ n6_ c6_ none 0 0 A1 n1 c1 ((n1 : Nat) : Int) (0 : Int) h5_))
set_option maxRecDepth 100000 in
theorem f26.run {R : Value → Heap → Prop} {A0 : Option Addr} {n0 : Nat} {c0 : Nat} {A1 : Option Addr} {n1 : Nat} {c1 : Nat} {h : Heap} (H : f26.runT R A0 n0 c0 A1 n1 c1 h) : Run Try.prog 26 #[(Value.slice A0 n0 c0), (Value.slice A1 n1 c1)] h R :=
  run_of mixed Try.func26 (by kernel_rfl) (by kernel_rfl) f26.good (Eq.mpr (show (Fwd Try.prog f26.T f26.kp Try.f26 R [] (mkFr (argL [(Value.slice A0 n0 c0), (Value.slice A1 n1 c1)] 0)) h) = (f26.runT R A0 n0 c0 A1 n1 c1 h) by kernel_rfl) H)
def f29.T : Tab := { sh := tSh, tup := tTup, keep := [], plan := [] }
def f29.kp : Keep := []
theorem f29.good : goodCode Try.prog f29.T (rootOf Try.f29) = true := by kernel_rfl
set_option maxRecDepth 100000 in
def f29.runT (R : Value → Heap → Prop) (x0 : Int) (x1 : Int) (x2 : Int) (h : Heap) : Prop :=
  splitB (decide (x0 ≥ x1)) (R (Value.bool (decide (x0 ≤ x2))) h) (R (Value.bool false) h)
set_option maxRecDepth 100000 in
theorem f29.run {R : Value → Heap → Prop} {x0 : Int} {x1 : Int} {x2 : Int} {h : Heap} (H : f29.runT R x0 x1 x2 h) : Run Try.prog 29 #[(Value.int .i64 x0), (Value.int .i64 x1), (Value.int .i64 x2)] h R :=
  run_of mixed Try.func29 (by kernel_rfl) (by kernel_rfl) f29.good (Eq.mpr (show (Fwd Try.prog f29.T f29.kp Try.f29 R [] (mkFr (argL [(Value.int .i64 x0), (Value.int .i64 x1), (Value.int .i64 x2)] 0)) h) = (f29.runT R x0 x1 x2 h) by kernel_rfl) H)
def f27.T : Tab := { sh := tSh, tup := tTup, keep := [], plan := [] }
def f27.kp : Keep := [([false, false, true, false, true, true, true], [3, 14, 15, 16]), ([false, false, true, true, true, false, false, true, true, false, false, true, false, true, true, true], [3, 14, 15, 16, 26, 27, 28]), ([false, false, true, false, true, false, false, true, true, false, false, true, true, true, false, false, true, true, false, false, true, false, true, true, true], [3, 7, 14, 15, 16, 26, 27, 28, 32, 33, 34])]
theorem f27.good : goodCode Try.prog f27.T (rootOf Try.f27) = true := by kernel_rfl
def f27.l0 (R : Value → Heap → Prop) (A3 : Option Addr) (n3 : Nat) (c3 : Nat) (A14 : Option Addr) (n14 : Nat) (c14 : Nat) (x15 : Int) (x16 : Int) (h : Heap) : Prop := Pt Try.prog Try.f27 R [false, false, true, false, true, true, true] (mkFr [(3, (Value.slice A3 n3 c3)), (14, (Value.slice A14 n14 c14)), (15, (Value.int .i64 x15)), (16, (Value.int .i64 x16))]) h
def f27.l1 (R : Value → Heap → Prop) (A3 : Option Addr) (n3 : Nat) (c3 : Nat) (A14 : Option Addr) (n14 : Nat) (c14 : Nat) (x15 : Int) (x16 : Int) (A26 : Option Addr) (n26 : Nat) (c26 : Nat) (x27 : Int) (x28 : Int) (h : Heap) : Prop := Pt Try.prog Try.f27 R [false, false, true, true, true, false, false, true, true, false, false, true, false, true, true, true] (mkFr [(3, (Value.slice A3 n3 c3)), (14, (Value.slice A14 n14 c14)), (15, (Value.int .i64 x15)), (16, (Value.int .i64 x16)), (26, (Value.slice A26 n26 c26)), (27, (Value.int .i64 x27)), (28, (Value.int .i64 x28))]) h
def f27.l2 (R : Value → Heap → Prop) (A3 : Option Addr) (n3 : Nat) (c3 : Nat) (x7 : Int) (A14 : Option Addr) (n14 : Nat) (c14 : Nat) (x15 : Int) (x16 : Int) (A26 : Option Addr) (n26 : Nat) (c26 : Nat) (x27 : Int) (x28 : Int) (A32 : Option Addr) (n32 : Nat) (c32 : Nat) (x33 : Int) (x34 : Int) (h : Heap) : Prop := Pt Try.prog Try.f27 R [false, false, true, false, true, false, false, true, true, false, false, true, true, true, false, false, true, true, false, false, true, false, true, true, true] (mkFr [(3, (Value.slice A3 n3 c3)), (7, (Value.int .i64 x7)), (14, (Value.slice A14 n14 c14)), (15, (Value.int .i64 x15)), (16, (Value.int .i64 x16)), (26, (Value.slice A26 n26 c26)), (27, (Value.int .i64 x27)), (28, (Value.int .i64 x28)), (32, (Value.slice A32 n32 c32)), (33, (Value.int .i64 x33)), (34, (Value.int .i64 x34))]) h
set_option maxRecDepth 100000 in
def f27.l0T (R : Value → Heap → Prop) (A3 : Option Addr) (n3 : Nat) (c3 : Nat) (A14 : Option Addr) (n14 : Nat) (c14 : Nat) (x15 : Int) (x16 : Int) (h : Heap) : Prop :=
  splitB (decide (x16 < x15)) (ptrOk A14 fun a1_ => 0 ≤ x16 ∧ x16 < ((n14 : Nat) : Int) ∧ (∃ v2_, ldv false 1 h (Addr.add a1_ (Int.toNat x16 * 1)) = some v2_ ∧ ∃ A3_, ∃ n3_, ∃ c3_, v2_ = (Value.slice A3_ n3_ c3_) ∧ splitB (decide ((IntKind.wrap .i64 (((n3 : Nat) : Int) + ((n3_ : Nat) : Int))) > (100 : Int))) (R (Value.int .i64 (2 : Int)) h) (f27.l1 R A3 n3 c3 A14 n14 c14 x15 x16 A3_ n3_ c3_ ((n3_ : Nat) : Int) (0 : Int) h))) (R (Value.int .i64 (0 : Int)) h)
set_option maxRecDepth 100000 in
theorem f27.l0_in {R : Value → Heap → Prop} {A3 : Option Addr} {n3 : Nat} {c3 : Nat} {A14 : Option Addr} {n14 : Nat} {c14 : Nat} {x15 : Int} {x16 : Int} {h : Heap} (H : f27.l0T R A3 n3 c3 A14 n14 c14 x15 x16 h) : f27.l0 R A3 n3 c3 A14 n14 c14 x15 x16 h :=
  pt_intro mixed f27.good (Eq.mpr (show (Fwd Try.prog f27.T f27.kp Try.f27 R [false, false, true, false, true, true, true] (mkFr [(3, (Value.slice A3 n3 c3)), (14, (Value.slice A14 n14 c14)), (15, (Value.int .i64 x15)), (16, (Value.int .i64 x16))]) h) = (f27.l0T R A3 n3 c3 A14 n14 c14 x15 x16 h) by kernel_rfl) H)
set_option maxRecDepth 100000 in
def f27.l1T (R : Value → Heap → Prop) (A3 : Option Addr) (n3 : Nat) (c3 : Nat) (A14 : Option Addr) (n14 : Nat) (c14 : Nat) (x15 : Int) (x16 : Int) (A26 : Option Addr) (n26 : Nat) (c26 : Nat) (x27 : Int) (x28 : Int) (h : Heap) : Prop :=
  splitB (decide (x28 < x27)) (ptrOk A26 fun a1_ => 0 ≤ x28 ∧ x28 < ((n26 : Nat) : Int) ∧ (∃ v2_, ldv false 1 h (Addr.add a1_ (Int.toNat x28 * 1)) = some v2_ ∧ ∃ x3_, v2_ = (Value.int .i64 x3_) ∧ f27.l2 R A3 n3 c3 x3_ A14 n14 c14 x15 x16 A26 n26 c26 x27 x28 A3 n3 c3 ((n3 : Nat) : Int) (0 : Int) h)) (f27.l0 R A3 n3 c3 A14 n14 c14 x15 (IntKind.wrap .i64 (x16 + (1 : Int))) h)
set_option maxRecDepth 100000 in
theorem f27.l1_in {R : Value → Heap → Prop} {A3 : Option Addr} {n3 : Nat} {c3 : Nat} {A14 : Option Addr} {n14 : Nat} {c14 : Nat} {x15 : Int} {x16 : Int} {A26 : Option Addr} {n26 : Nat} {c26 : Nat} {x27 : Int} {x28 : Int} {h : Heap} (H : f27.l1T R A3 n3 c3 A14 n14 c14 x15 x16 A26 n26 c26 x27 x28 h) : f27.l1 R A3 n3 c3 A14 n14 c14 x15 x16 A26 n26 c26 x27 x28 h :=
  pt_intro mixed f27.good (Eq.mpr (show (Fwd Try.prog f27.T f27.kp Try.f27 R [false, false, true, true, true, false, false, true, true, false, false, true, false, true, true, true] (mkFr [(3, (Value.slice A3 n3 c3)), (14, (Value.slice A14 n14 c14)), (15, (Value.int .i64 x15)), (16, (Value.int .i64 x16)), (26, (Value.slice A26 n26 c26)), (27, (Value.int .i64 x27)), (28, (Value.int .i64 x28))]) h) = (f27.l1T R A3 n3 c3 A14 n14 c14 x15 x16 A26 n26 c26 x27 x28 h) by kernel_rfl) H)
set_option maxRecDepth 100000 in
def f27.l2T (R : Value → Heap → Prop) (A3 : Option Addr) (n3 : Nat) (c3 : Nat) (x7 : Int) (A14 : Option Addr) (n14 : Nat) (c14 : Nat) (x15 : Int) (x16 : Int) (A26 : Option Addr) (n26 : Nat) (c26 : Nat) (x27 : Int) (x28 : Int) (A32 : Option Addr) (n32 : Nat) (c32 : Nat) (x33 : Int) (x34 : Int) (h : Heap) : Prop :=
  splitB (decide (x34 < x33)) (ptrOk A32 fun a1_ => 0 ≤ x34 ∧ x34 < ((n32 : Nat) : Int) ∧ (∃ v2_, ldv false 1 h (Addr.add a1_ (Int.toNat x34 * 1)) = some v2_ ∧ ∃ x3_, v2_ = (Value.int .i64 x3_) ∧ splitB (x3_ == x7) (R (Value.int .i64 (5 : Int)) h) (f27.l2 R A3 n3 c3 x7 A14 n14 c14 x15 x16 A26 n26 c26 x27 x28 A32 n32 c32 x33 (IntKind.wrap .i64 (x34 + (1 : Int))) h))) (newH h (Obj.cells #[(Value.int .i64 x7)] 3) fun h4_ => AppW 3 1 8 #[(Value.int .i64 (0 : Int))] A3 n3 c3 (Value.slice (some ⟨Array.size h, 0, none⟩) 1 1) h4_ fun v5_ h6_ => ∃ A7_, ∃ n7_, ∃ c7_, v5_ = (Value.slice A7_ n7_ c7_) ∧ f27.l1 R A7_ n7_ c7_ A14 n14 c14 x15 x16 A26 n26 c26 x27 (IntKind.wrap .i64 (x28 + (1 : Int))) h6_)
set_option maxRecDepth 100000 in
theorem f27.l2_in {R : Value → Heap → Prop} {A3 : Option Addr} {n3 : Nat} {c3 : Nat} {x7 : Int} {A14 : Option Addr} {n14 : Nat} {c14 : Nat} {x15 : Int} {x16 : Int} {A26 : Option Addr} {n26 : Nat} {c26 : Nat} {x27 : Int} {x28 : Int} {A32 : Option Addr} {n32 : Nat} {c32 : Nat} {x33 : Int} {x34 : Int} {h : Heap} (H : f27.l2T R A3 n3 c3 x7 A14 n14 c14 x15 x16 A26 n26 c26 x27 x28 A32 n32 c32 x33 x34 h) : f27.l2 R A3 n3 c3 x7 A14 n14 c14 x15 x16 A26 n26 c26 x27 x28 A32 n32 c32 x33 x34 h :=
  pt_intro mixed f27.good (Eq.mpr (show (Fwd Try.prog f27.T f27.kp Try.f27 R [false, false, true, false, true, false, false, true, true, false, false, true, true, true, false, false, true, true, false, false, true, false, true, true, true] (mkFr [(3, (Value.slice A3 n3 c3)), (7, (Value.int .i64 x7)), (14, (Value.slice A14 n14 c14)), (15, (Value.int .i64 x15)), (16, (Value.int .i64 x16)), (26, (Value.slice A26 n26 c26)), (27, (Value.int .i64 x27)), (28, (Value.int .i64 x28)), (32, (Value.slice A32 n32 c32)), (33, (Value.int .i64 x33)), (34, (Value.int .i64 x34))]) h) = (f27.l2T R A3 n3 c3 x7 A14 n14 c14 x15 x16 A26 n26 c26 x27 x28 A32 n32 c32 x33 x34 h) by kernel_rfl) H)
set_option maxRecDepth 100000 in
def f27.runT (R : Value → Heap → Prop) (A0 : Option Addr) (n0 : Nat) (c0 : Nat) (h : Heap) : Prop :=
  Run Try.prog 29 #[(Value.int .i64 ((n0 : Nat) : Int)), (Value.int .i64 (1 : Int)), (Value.int .i64 (8 : Int))] h fun v1_ h2_ => ∃ b3_, v1_ = (Value.bool b3_) ∧ splitB (!b3_) (R (Value.int .i64 (1 : Int)) h2_) (f27.l0 R none 0 0 A0 n0 c0 ((n0 : Nat) : Int) (0 : Int) h2_)
set_option maxRecDepth 100000 in
theorem f27.run {R : Value → Heap → Prop} {A0 : Option Addr} {n0 : Nat} {c0 : Nat} {h : Heap} (H : f27.runT R A0 n0 c0 h) : Run Try.prog 27 #[(Value.slice A0 n0 c0)] h R :=
  run_of mixed Try.func27 (by kernel_rfl) (by kernel_rfl) f27.good (Eq.mpr (show (Fwd Try.prog f27.T f27.kp Try.f27 R [] (mkFr (argL [(Value.slice A0 n0 c0)] 0)) h) = (f27.runT R A0 n0 c0 h) by kernel_rfl) H)
def f33.T : Tab := { sh := tSh, tup := tTup, keep := [], plan := [] }
def f33.kp : Keep := [([false, false, true, false, true, true], [0, 1, 5, 10, 11, 12]), ([false, false, true, false, true, true, true], [0, 1, 5, 26, 27]), ([true, true, true, false, false, true, true, false, false, true, false, true, true, true], [0, 1, 5, 9, 26, 27, 52])]
theorem f33.good : goodCode Try.prog f33.T (rootOf Try.f33) = true := by kernel_rfl
def f33.l0 (R : Value → Heap → Prop) (A0 : Option Addr) (n0 : Nat) (c0 : Nat) (x1 : Int) (x5 : Int) (A10 : Option Addr) (n10 : Nat) (c10 : Nat) (x11 : Int) (x12 : Int) (h : Heap) : Prop := Pt Try.prog Try.f33 R [false, false, true, false, true, true] (mkFr [(0, (Value.slice A0 n0 c0)), (1, (Value.int .i64 x1)), (5, (Value.int .i64 x5)), (10, (Value.slice A10 n10 c10)), (11, (Value.int .i64 x11)), (12, (Value.int .i64 x12))]) h
def f33.l1 (R : Value → Heap → Prop) (A0 : Option Addr) (n0 : Nat) (c0 : Nat) (x1 : Int) (x5 : Int) (x26 : Int) (x27 : Int) (h : Heap) : Prop := Pt Try.prog Try.f33 R [false, false, true, false, true, true, true] (mkFr [(0, (Value.slice A0 n0 c0)), (1, (Value.int .i64 x1)), (5, (Value.int .i64 x5)), (26, (Value.int .i64 x26)), (27, (Value.int .i64 x27))]) h
def f33.j0 (R : Value → Heap → Prop) (A0 : Option Addr) (n0 : Nat) (c0 : Nat) (x1 : Int) (x5 : Int) (x9 : Int) (x26 : Int) (x27 : Int) (b52 : Bool) (h : Heap) : Prop := Pt Try.prog Try.f33 R [true, true, true, false, false, true, true, false, false, true, false, true, true, true] (mkFr [(0, (Value.slice A0 n0 c0)), (1, (Value.int .i64 x1)), (5, (Value.int .i64 x5)), (9, (Value.int .i64 x9)), (26, (Value.int .i64 x26)), (27, (Value.int .i64 x27)), (52, (Value.bool b52))]) h
set_option maxRecDepth 100000 in
def f33.l0T (R : Value → Heap → Prop) (A0 : Option Addr) (n0 : Nat) (c0 : Nat) (x1 : Int) (x5 : Int) (A10 : Option Addr) (n10 : Nat) (c10 : Nat) (x11 : Int) (x12 : Int) (h : Heap) : Prop :=
  splitB (decide (x12 < x11)) (ptrOk A10 fun a1_ => 0 ≤ x12 ∧ x12 < ((n10 : Nat) : Int) ∧ (∃ v2_, ldv false 1 h (Addr.add a1_ (Int.toNat x12 * 1)) = some v2_ ∧ ∃ A3_, ∃ n3_, ∃ c3_, v2_ = (Value.slice A3_ n3_ c3_) ∧ splitB (x12 != x1) (f33.l0 R A0 n0 c0 x1 (if ((n3_ : Nat) : Int) > x5 then ((n3_ : Nat) : Int) else x5) A10 n10 c10 x11 (IntKind.wrap .i64 (x12 + (1 : Int))) h) (f33.l0 R A0 n0 c0 x1 x5 A10 n10 c10 x11 (IntKind.wrap .i64 (x12 + (1 : Int))) h))) (f33.l1 R A0 n0 c0 x1 x5 ((n0 : Nat) : Int) (0 : Int) h)
set_option maxRecDepth 100000 in
theorem f33.l0_in {R : Value → Heap → Prop} {A0 : Option Addr} {n0 : Nat} {c0 : Nat} {x1 : Int} {x5 : Int} {A10 : Option Addr} {n10 : Nat} {c10 : Nat} {x11 : Int} {x12 : Int} {h : Heap} (H : f33.l0T R A0 n0 c0 x1 x5 A10 n10 c10 x11 x12 h) : f33.l0 R A0 n0 c0 x1 x5 A10 n10 c10 x11 x12 h :=
  pt_intro mixed f33.good (Eq.mpr (show (Fwd Try.prog f33.T f33.kp Try.f33 R [false, false, true, false, true, true] (mkFr [(0, (Value.slice A0 n0 c0)), (1, (Value.int .i64 x1)), (5, (Value.int .i64 x5)), (10, (Value.slice A10 n10 c10)), (11, (Value.int .i64 x11)), (12, (Value.int .i64 x12))]) h) = (f33.l0T R A0 n0 c0 x1 x5 A10 n10 c10 x11 x12 h) by kernel_rfl) H)
set_option maxRecDepth 100000 in
def f33.l1T (R : Value → Heap → Prop) (A0 : Option Addr) (n0 : Nat) (c0 : Nat) (x1 : Int) (x5 : Int) (x26 : Int) (x27 : Int) (h : Heap) : Prop :=
  splitB (decide (x27 < x26)) (((n0 : Nat) : Int) ≠ 0 ∧ (splitB ((Int.tmod (IntKind.wrap .i64 ((IntKind.wrap .i64 (x1 + (1 : Int))) + x27)) ((n0 : Nat) : Int)) != x1) (splitB (decide (x5 > (0 : Int))) (ptrOk A0 fun a1_ => 0 ≤ (Int.tmod (IntKind.wrap .i64 ((IntKind.wrap .i64 (x1 + (1 : Int))) + x27)) ((n0 : Nat) : Int)) ∧ (Int.tmod (IntKind.wrap .i64 ((IntKind.wrap .i64 (x1 + (1 : Int))) + x27)) ((n0 : Nat) : Int)) < ((n0 : Nat) : Int) ∧ (∃ v2_, ldv false 1 h (Addr.add a1_ (Int.toNat (Int.tmod (IntKind.wrap .i64 ((IntKind.wrap .i64 (x1 + (1 : Int))) + x27)) ((n0 : Nat) : Int)) * 1)) = some v2_ ∧ ∃ A3_, ∃ n3_, ∃ c3_, v2_ = (Value.slice A3_ n3_ c3_) ∧ f33.j0 R A0 n0 c0 x1 x5 (Int.tmod (IntKind.wrap .i64 ((IntKind.wrap .i64 (x1 + (1 : Int))) + x27)) ((n0 : Nat) : Int)) x26 x27 (((n3_ : Nat) : Int) == x5) h)) (f33.j0 R A0 n0 c0 x1 x5 (Int.tmod (IntKind.wrap .i64 ((IntKind.wrap .i64 (x1 + (1 : Int))) + x27)) ((n0 : Nat) : Int)) x26 x27 false h)) (f33.j0 R A0 n0 c0 x1 x5 (Int.tmod (IntKind.wrap .i64 ((IntKind.wrap .i64 (x1 + (1 : Int))) + x27)) ((n0 : Nat) : Int)) x26 x27 false h))) (R (Value.int .i64 (-1 : Int)) h)
set_option maxRecDepth 100000 in
theorem f33.l1_in {R : Value → Heap → Prop} {A0 : Option Addr} {n0 : Nat} {c0 : Nat} {x1 : Int} {x5 : Int} {x26 : Int} {x27 : Int} {h : Heap} (H : f33.l1T R A0 n0 c0 x1 x5 x26 x27 h) : f33.l1 R A0 n0 c0 x1 x5 x26 x27 h :=
  pt_intro mixed f33.good (Eq.mpr (show (Fwd Try.prog f33.T f33.kp Try.f33 R [false, false, true, false, true, true, true] (mkFr [(0, (Value.slice A0 n0 c0)), (1, (Value.int .i64 x1)), (5, (Value.int .i64 x5)), (26, (Value.int .i64 x26)), (27, (Value.int .i64 x27))]) h) = (f33.l1T R A0 n0 c0 x1 x5 x26 x27 h) by kernel_rfl) H)
set_option maxRecDepth 100000 in
def f33.j0T (R : Value → Heap → Prop) (A0 : Option Addr) (n0 : Nat) (c0 : Nat) (x1 : Int) (x5 : Int) (x9 : Int) (x26 : Int) (x27 : Int) (b52 : Bool) (h : Heap) : Prop :=
  splitB b52 (R (Value.int .i64 x9) h) (f33.l1 R A0 n0 c0 x1 x5 x26 (IntKind.wrap .i64 (x27 + (1 : Int))) h)
set_option maxRecDepth 100000 in
theorem f33.j0_in {R : Value → Heap → Prop} {A0 : Option Addr} {n0 : Nat} {c0 : Nat} {x1 : Int} {x5 : Int} {x9 : Int} {x26 : Int} {x27 : Int} {b52 : Bool} {h : Heap} (H : f33.j0T R A0 n0 c0 x1 x5 x9 x26 x27 b52 h) : f33.j0 R A0 n0 c0 x1 x5 x9 x26 x27 b52 h :=
  pt_intro mixed f33.good (Eq.mpr (show (Fwd Try.prog f33.T f33.kp Try.f33 R [true, true, true, false, false, true, true, false, false, true, false, true, true, true] (mkFr [(0, (Value.slice A0 n0 c0)), (1, (Value.int .i64 x1)), (5, (Value.int .i64 x5)), (9, (Value.int .i64 x9)), (26, (Value.int .i64 x26)), (27, (Value.int .i64 x27)), (52, (Value.bool b52))]) h) = (f33.j0T R A0 n0 c0 x1 x5 x9 x26 x27 b52 h) by kernel_rfl) H)
set_option maxRecDepth 100000 in
def f33.runT (R : Value → Heap → Prop) (A0 : Option Addr) (n0 : Nat) (c0 : Nat) (x1 : Int) (h : Heap) : Prop :=
  f33.l0 R A0 n0 c0 x1 (0 : Int) A0 n0 c0 ((n0 : Nat) : Int) (0 : Int) h
set_option maxRecDepth 100000 in
theorem f33.run {R : Value → Heap → Prop} {A0 : Option Addr} {n0 : Nat} {c0 : Nat} {x1 : Int} {h : Heap} (H : f33.runT R A0 n0 c0 x1 h) : Run Try.prog 33 #[(Value.slice A0 n0 c0), (Value.int .i64 x1)] h R :=
  run_of mixed Try.func33 (by kernel_rfl) (by kernel_rfl) f33.good (Eq.mpr (show (Fwd Try.prog f33.T f33.kp Try.f33 R [] (mkFr (argL [(Value.slice A0 n0 c0), (Value.int .i64 x1)] 0)) h) = (f33.runT R A0 n0 c0 x1 h) by kernel_rfl) H)
def f30.T : Tab := { sh := tSh, tup := tTup, keep := [], plan := [(14, (.take 0 (.take 1 (.take 2 (.take 3 (.take 4 (.take 6 (.take 7 (.take 8 (.take 5 (.take 9 (.take 10 (.take 11 (.eff true 12 (.eff false 13 (.take 14 (.eff false 15 .done)))))))))))))))))] }
def f30.kp : Keep := [([false, false, true, false, true, true], [0, 1, 7, 14, 15, 16]), ([false, false, true, true, true, false, true, false, true, true, true], [1, 7, 10, 11]), ([true, true, true, true], [1, 7])]
theorem f30.good : goodCode Try.prog f30.T (rootOf Try.f30) = true := by kernel_rfl
def f30.l0 (R : Value → Heap → Prop) (A0 : Option Addr) (n0 : Nat) (c0 : Nat) (x1 : Int) (A7 : Option Addr) (n7 : Nat) (c7 : Nat) (A14 : Option Addr) (n14 : Nat) (c14 : Nat) (x15 : Int) (x16 : Int) (h : Heap) : Prop := Pt Try.prog Try.f30 R [false, false, true, false, true, true] (mkFr [(0, (Value.slice A0 n0 c0)), (1, (Value.int .i64 x1)), (7, (Value.slice A7 n7 c7)), (14, (Value.slice A14 n14 c14)), (15, (Value.int .i64 x15)), (16, (Value.int .i64 x16))]) h
def f30.l1 (R : Value → Heap → Prop) (x1 : Int) (A7 : Option Addr) (n7 : Nat) (c7 : Nat) (x10 : Int) (x11 : Int) (h : Heap) : Prop := Pt Try.prog Try.f30 R [false, false, true, true, true, false, true, false, true, true, true] (mkFr [(1, (Value.int .i64 x1)), (7, (Value.slice A7 n7 c7)), (10, (Value.int .i64 x10)), (11, (Value.int .i64 x11))]) h
def f30.j0 (R : Value → Heap → Prop) (x1 : Int) (A7 : Option Addr) (n7 : Nat) (c7 : Nat) (h : Heap) : Prop := Pt Try.prog Try.f30 R [true, true, true, true] (mkFr [(1, (Value.int .i64 x1)), (7, (Value.slice A7 n7 c7))]) h
set_option maxRecDepth 100000 in
def f30.l0T (R : Value → Heap → Prop) (A0 : Option Addr) (n0 : Nat) (c0 : Nat) (x1 : Int) (A7 : Option Addr) (n7 : Nat) (c7 : Nat) (A14 : Option Addr) (n14 : Nat) (c14 : Nat) (x15 : Int) (x16 : Int) (h : Heap) : Prop :=
  splitB (decide (x16 < x15)) (ptrOk A14 fun a1_ => 0 ≤ x16 ∧ x16 < ((n14 : Nat) : Int) ∧ (∃ v2_, ldv false 1 h (Addr.add a1_ (Int.toNat x16 * 1)) = some v2_ ∧ ∃ A3_, ∃ n3_, ∃ c3_, v2_ = (Value.slice A3_ n3_ c3_) ∧ AppW 3 1 8 #[(Value.int .i64 (0 : Int))] none 0 0 (Value.slice A3_ n3_ c3_) h fun v4_ h5_ => ∃ A6_, ∃ n6_, ∃ c6_, v4_ = (Value.slice A6_ n6_ c6_) ∧ newH h5_ (Obj.cells #[(Value.slice A6_ n6_ c6_)] 45) fun h7_ => AppW 45 1 24 #[(Value.slice none 0 0)] A7 n7 c7 (Value.slice (some ⟨Array.size h5_, 0, none⟩) 1 1) h7_ fun v8_ h9_ => ∃ A10_, ∃ n10_, ∃ c10_, v8_ = (Value.slice A10_ n10_ c10_) ∧ f30.l0 R A0 n0 c0 x1 A10_ n10_ c10_ A14 n14 c14 x15 (IntKind.wrap .i64 (x16 + (1 : Int))) h9_)) (ptrOk A7 fun a11_ => 0 ≤ x1 ∧ x1 < ((n7 : Nat) : Int) ∧ (∃ v12_, ldv false 1 h (Addr.add a11_ (Int.toNat x1 * 1)) = some v12_ ∧ ∃ A13_, ∃ n13_, ∃ c13_, v12_ = (Value.slice A13_ n13_ c13_) ∧ splitB (((n13_ : Nat) : Int) == (0 : Int)) (Run Try.prog 33 #[(Value.slice A0 n0 c0), (Value.int .i64 x1)] h fun v14_ h15_ => ∃ x16_, v14_ = (Value.int .i64 x16_) ∧ splitB (decide (x16_ < (0 : Int))) (R (Value.tuple #[(Value.slice none 0 0), (Value.int .i64 (0 : Int)), (Value.bool false)]) h15_) (ptrOk A0 fun a17_ => 0 ≤ x16_ ∧ x16_ < ((n0 : Nat) : Int) ∧ (∃ v18_, ldv false 1 h15_ (Addr.add a17_ (Int.toNat x16_ * 1)) = some v18_ ∧ ∃ A19_, ∃ n19_, ∃ c19_, v18_ = (Value.slice A19_ n19_ c19_) ∧ (2 : Int) ≠ 0 ∧ (f30.l1 R x1 A7 n7 c7 x16_ (IntKind.wrap .i64 (Int.tdiv (IntKind.wrap .i64 (((n19_ : Nat) : Int) + (1 : Int))) (2 : Int))) h15_)))) (f30.j0 R x1 A7 n7 c7 h)))
set_option maxRecDepth 100000 in
theorem f30.l0_in {R : Value → Heap → Prop} {A0 : Option Addr} {n0 : Nat} {c0 : Nat} {x1 : Int} {A7 : Option Addr} {n7 : Nat} {c7 : Nat} {A14 : Option Addr} {n14 : Nat} {c14 : Nat} {x15 : Int} {x16 : Int} {h : Heap} (H : f30.l0T R A0 n0 c0 x1 A7 n7 c7 A14 n14 c14 x15 x16 h) : f30.l0 R A0 n0 c0 x1 A7 n7 c7 A14 n14 c14 x15 x16 h :=
  pt_intro mixed f30.good (Eq.mpr (show (Fwd Try.prog f30.T f30.kp Try.f30 R [false, false, true, false, true, true] (mkFr [(0, (Value.slice A0 n0 c0)), (1, (Value.int .i64 x1)), (7, (Value.slice A7 n7 c7)), (14, (Value.slice A14 n14 c14)), (15, (Value.int .i64 x15)), (16, (Value.int .i64 x16))]) h) = (f30.l0T R A0 n0 c0 x1 A7 n7 c7 A14 n14 c14 x15 x16 h) by kernel_rfl) H)
set_option maxRecDepth 100000 in
def f30.l1T (R : Value → Heap → Prop) (x1 : Int) (A7 : Option Addr) (n7 : Nat) (c7 : Nat) (x10 : Int) (x11 : Int) (h : Heap) : Prop :=
  splitB (decide (x11 > (0 : Int))) (ptrOk A7 fun a1_ => 0 ≤ x1 ∧ x1 < ((n7 : Nat) : Int) ∧ (ptrOk A7 fun a2_ => 0 ≤ x10 ∧ x10 < ((n7 : Nat) : Int) ∧ (∃ v3_, ldv false 1 h (Addr.add a1_ (Int.toNat x1 * 1)) = some v3_ ∧ ∃ A4_, ∃ n4_, ∃ c4_, v3_ = (Value.slice A4_ n4_ c4_) ∧ ∃ v5_, ldv false 1 h (Addr.add a2_ (Int.toNat x10 * 1)) = some v5_ ∧ ∃ A6_, ∃ n6_, ∃ c6_, v5_ = (Value.slice A6_ n6_ c6_) ∧ ptrOk A6_ fun a7_ => 0 ≤ (0 : Int) ∧ (0 : Int) < ((n6_ : Nat) : Int) ∧ (∃ v8_, ldv false 1 h (Addr.add a7_ (Int.toNat (0 : Int) * 1)) = some v8_ ∧ ∃ x9_, v8_ = (Value.int .i64 x9_) ∧ newH h (Obj.cells #[(Value.int .i64 x9_)] 3) fun h10_ => Ext h h10_ ∧ (AppW 3 1 8 #[(Value.int .i64 (0 : Int))] A4_ n4_ c4_ (Value.slice (some ⟨Array.size h, 0, none⟩) 1 1) h10_ fun v11_ h12_ => ∃ A13_, ∃ n13_, ∃ c13_, v11_ = (Value.slice A13_ n13_ c13_) ∧ ptrOk A7 fun a14_ => 0 ≤ x1 ∧ x1 < ((n7 : Nat) : Int) ∧ (∃ h15_, st1 h12_ (Addr.add a14_ (Int.toNat x1 * 1)) (Value.slice A13_ n13_ c13_) = some h15_ ∧ ptrOk A7 fun a16_ => 0 ≤ x10 ∧ x10 < ((n7 : Nat) : Int) ∧ (∃ v17_, ldv false 1 h15_ (Addr.add a16_ (Int.toNat x10 * 1)) = some v17_ ∧ ∃ A18_, ∃ n18_, ∃ c18_, v17_ = (Value.slice A18_ n18_ c18_) ∧ 0 ≤ (1 : Int) ∧ (1 : Int) ≤ ((n18_ : Nat) : Int) ∧ ((n18_ : Nat) : Int) ≤ ((c18_ : Nat) : Int) ∧ (ptrOk A7 fun a19_ => 0 ≤ x10 ∧ x10 < ((n7 : Nat) : Int) ∧ (∃ h20_, st1 h15_ (Addr.add a19_ (Int.toNat x10 * 1)) (Value.slice (sliceA A18_ (Int.toNat (1 : Int)) c18_ 1) (Int.toNat ((n18_ : Nat) : Int) - Int.toNat (1 : Int)) (c18_ - Int.toNat (1 : Int))) = some h20_ ∧ f30.l1 R x1 A7 n7 c7 x10 (IntKind.wrap .i64 (x11 - (1 : Int))) h20_))))))))) (f30.j0 R x1 A7 n7 c7 h)
set_option maxRecDepth 100000 in
theorem f30.l1_in {R : Value → Heap → Prop} {x1 : Int} {A7 : Option Addr} {n7 : Nat} {c7 : Nat} {x10 : Int} {x11 : Int} {h : Heap} (H : f30.l1T R x1 A7 n7 c7 x10 x11 h) : f30.l1 R x1 A7 n7 c7 x10 x11 h :=
  pt_intro mixed f30.good (Eq.mpr (show (Fwd Try.prog f30.T f30.kp Try.f30 R [false, false, true, true, true, false, true, false, true, true, true] (mkFr [(1, (Value.int .i64 x1)), (7, (Value.slice A7 n7 c7)), (10, (Value.int .i64 x10)), (11, (Value.int .i64 x11))]) h) = (f30.l1T R x1 A7 n7 c7 x10 x11 h) by kernel_rfl) H)
set_option maxRecDepth 100000 in
def f30.j0T (R : Value → Heap → Prop) (x1 : Int) (A7 : Option Addr) (n7 : Nat) (c7 : Nat) (h : Heap) : Prop :=
  ptrOk A7 fun a1_ => 0 ≤ x1 ∧ x1 < ((n7 : Nat) : Int) ∧ (∃ v2_, ldv false 1 h (Addr.add a1_ (Int.toNat x1 * 1)) = some v2_ ∧ ∃ A3_, ∃ n3_, ∃ c3_, v2_ = (Value.slice A3_ n3_ c3_) ∧ ptrOk A7 fun a4_ => 0 ≤ x1 ∧ x1 < ((n7 : Nat) : Int) ∧ (∃ v5_, ldv false 1 h (Addr.add a4_ (Int.toNat x1 * 1)) = some v5_ ∧ ∃ A6_, ∃ n6_, ∃ c6_, v5_ = (Value.slice A6_ n6_ c6_) ∧ ptrOk A6_ fun a7_ => 0 ≤ (IntKind.wrap .i64 (((n3_ : Nat) : Int) - (1 : Int))) ∧ (IntKind.wrap .i64 (((n3_ : Nat) : Int) - (1 : Int))) < ((n6_ : Nat) : Int) ∧ (∃ v8_, ldv false 1 h (Addr.add a7_ (Int.toNat (IntKind.wrap .i64 (((n3_ : Nat) : Int) - (1 : Int))) * 1)) = some v8_ ∧ ∃ x9_, v8_ = (Value.int .i64 x9_) ∧ ptrOk A7 fun a10_ => 0 ≤ x1 ∧ x1 < ((n7 : Nat) : Int) ∧ (∃ v11_, ldv false 1 h (Addr.add a10_ (Int.toNat x1 * 1)) = some v11_ ∧ ∃ A12_, ∃ n12_, ∃ c12_, v11_ = (Value.slice A12_ n12_ c12_) ∧ 0 ≤ (0 : Int) ∧ (0 : Int) ≤ (IntKind.wrap .i64 (((n3_ : Nat) : Int) - (1 : Int))) ∧ (IntKind.wrap .i64 (((n3_ : Nat) : Int) - (1 : Int))) ≤ ((c12_ : Nat) : Int) ∧ (ptrOk A7 fun a13_ => 0 ≤ x1 ∧ x1 < ((n7 : Nat) : Int) ∧ (∃ h14_, st1 h (Addr.add a13_ (Int.toNat x1 * 1)) (Value.slice (sliceA A12_ (Int.toNat (0 : Int)) c12_ 1) (Int.toNat (IntKind.wrap .i64 (((n3_ : Nat) : Int) - (1 : Int))) - Int.toNat (0 : Int)) (c12_ - Int.toNat (0 : Int))) = some h14_ ∧ R (Value.tuple #[(Value.slice A7 n7 c7), (Value.int .i64 x9_), (Value.bool true)]) h14_))))))
set_option maxRecDepth 100000 in
theorem f30.j0_in {R : Value → Heap → Prop} {x1 : Int} {A7 : Option Addr} {n7 : Nat} {c7 : Nat} {h : Heap} (H : f30.j0T R x1 A7 n7 c7 h) : f30.j0 R x1 A7 n7 c7 h :=
  pt_intro mixed f30.good (Eq.mpr (show (Fwd Try.prog f30.T f30.kp Try.f30 R [true, true, true, true] (mkFr [(1, (Value.int .i64 x1)), (7, (Value.slice A7 n7 c7))]) h) = (f30.j0T R x1 A7 n7 c7 h) by kernel_rfl) H)
set_option maxRecDepth 100000 in
def f30.runT (R : Value → Heap → Prop) (A0 : Option Addr) (n0 : Nat) (c0 : Nat) (x1 : Int) (h : Heap) : Prop :=
  f30.l0 R A0 n0 c0 x1 none 0 0 A0 n0 c0 ((n0 : Nat) : Int) (0 : Int) h
set_option maxRecDepth 100000 in
theorem f30.run {R : Value → Heap → Prop} {A0 : Option Addr} {n0 : Nat} {c0 : Nat} {x1 : Int} {h : Heap} (H : f30.runT R A0 n0 c0 x1 h) : Run Try.prog 30 #[(Value.slice A0 n0 c0), (Value.int .i64 x1)] h R :=
  run_of mixed Try.func30 (by kernel_rfl) (by kernel_rfl) f30.good (Eq.mpr (show (Fwd Try.prog f30.T f30.kp Try.f30 R [] (mkFr (argL [(Value.slice A0 n0 c0), (Value.int .i64 x1)] 0)) h) = (f30.runT R A0 n0 c0 x1 h) by kernel_rfl) H)
def f31.T : Tab := { sh := tSh, tup := tTup, keep := [], plan := [(6, (.take 0 (.take 1 (.take 2 (.take 4 (.take 5 (.take 6 (.take 3 (.take 7 (.eff false 8 .done))))))))))] }
def f31.kp : Keep := [([false, false, true, false, true, true], [0, 1, 12, 13])]
theorem f31.good : goodCode Try.prog f31.T (rootOf Try.f31) = true := by kernel_rfl
def f31.l0 (R : Value → Heap → Prop) (A0 : Option Addr) (n0 : Nat) (c0 : Nat) (A1 : Option Addr) (n1 : Nat) (c1 : Nat) (x12 : Int) (x13 : Int) (h : Heap) : Prop := Pt Try.prog Try.f31 R [false, false, true, false, true, true] (mkFr [(0, (Value.slice A0 n0 c0)), (1, (Value.slice A1 n1 c1)), (12, (Value.int .i64 x12)), (13, (Value.int .i64 x13))]) h
set_option maxRecDepth 100000 in
def f31.l0T (R : Value → Heap → Prop) (A0 : Option Addr) (n0 : Nat) (c0 : Nat) (A1 : Option Addr) (n1 : Nat) (c1 : Nat) (x12 : Int) (x13 : Int) (h : Heap) : Prop :=
  splitB (decide (x13 < x12)) (ptrOk A0 fun a1_ => 0 ≤ x13 ∧ x13 < ((n0 : Nat) : Int) ∧ (ptrOk A1 fun a2_ => 0 ≤ x13 ∧ x13 < ((n1 : Nat) : Int) ∧ (∃ v3_, ldv true 2 h (Addr.add a1_ (Int.toNat x13 * 2)) = some v3_ ∧ ∃ v4_, ldv true 2 h (Addr.add a2_ (Int.toNat x13 * 2)) = some v4_ ∧ Gen Try.prog (do eqGuard .neq 67 (.tmp 19) (.tmp 23) v3_ v4_; binOp .neq 67 v3_ v4_) h fun v5_ h6_ => ∃ b7_, v5_ = Value.bool b7_ ∧ splitB b7_ (R (Value.bool false) h6_) (f31.l0 R A0 n0 c0 A1 n1 c1 x12 (IntKind.wrap .i64 (x13 + (1 : Int))) h6_)))) (R (Value.bool true) h)
set_option maxRecDepth 100000 in
theorem f31.l0_in {R : Value → Heap → Prop} {A0 : Option Addr} {n0 : Nat} {c0 : Nat} {A1 : Option Addr} {n1 : Nat} {c1 : Nat} {x12 : Int} {x13 : Int} {h : Heap} (H : f31.l0T R A0 n0 c0 A1 n1 c1 x12 x13 h) : f31.l0 R A0 n0 c0 A1 n1 c1 x12 x13 h :=
  pt_intro mixed f31.good (Eq.mpr (show (Fwd Try.prog f31.T f31.kp Try.f31 R [false, false, true, false, true, true] (mkFr [(0, (Value.slice A0 n0 c0)), (1, (Value.slice A1 n1 c1)), (12, (Value.int .i64 x12)), (13, (Value.int .i64 x13))]) h) = (f31.l0T R A0 n0 c0 A1 n1 c1 x12 x13 h) by kernel_rfl) H)
set_option maxRecDepth 100000 in
def f31.runT (R : Value → Heap → Prop) (A0 : Option Addr) (n0 : Nat) (c0 : Nat) (A1 : Option Addr) (n1 : Nat) (c1 : Nat) (h : Heap) : Prop :=
  splitB (((n0 : Nat) : Int) != ((n1 : Nat) : Int)) (R (Value.bool false) h) (f31.l0 R A0 n0 c0 A1 n1 c1 ((n0 : Nat) : Int) (0 : Int) h)
set_option maxRecDepth 100000 in
theorem f31.run {R : Value → Heap → Prop} {A0 : Option Addr} {n0 : Nat} {c0 : Nat} {A1 : Option Addr} {n1 : Nat} {c1 : Nat} {h : Heap} (H : f31.runT R A0 n0 c0 A1 n1 c1 h) : Run Try.prog 31 #[(Value.slice A0 n0 c0), (Value.slice A1 n1 c1)] h R :=
  run_of mixed Try.func31 (by kernel_rfl) (by kernel_rfl) f31.good (Eq.mpr (show (Fwd Try.prog f31.T f31.kp Try.f31 R [] (mkFr (argL [(Value.slice A0 n0 c0), (Value.slice A1 n1 c1)] 0)) h) = (f31.runT R A0 n0 c0 A1 n1 c1 h) by kernel_rfl) H)
def f66.T : Tab := { sh := tSh, tup := tTup, keep := [], plan := [(6, (.take 0 (.take 1 (.take 2 (.take 4 (.take 5 (.take 6 (.take 3 (.take 7 (.take 8 .done))))))))))] }
def f66.kp : Keep := [([false, false, true, false, true, true], [0, 1, 12, 13])]
theorem f66.good : goodCode Try.prog f66.T (rootOf Try.f66) = true := by kernel_rfl
def f66.l0 (R : Value → Heap → Prop) (A0 : Option Addr) (n0 : Nat) (c0 : Nat) (A1 : Option Addr) (n1 : Nat) (c1 : Nat) (x12 : Int) (x13 : Int) (h : Heap) : Prop := Pt Try.prog Try.f66 R [false, false, true, false, true, true] (mkFr [(0, (Value.slice A0 n0 c0)), (1, (Value.slice A1 n1 c1)), (12, (Value.int .i64 x12)), (13, (Value.int .i64 x13))]) h
set_option maxRecDepth 100000 in
def f66.l0T (R : Value → Heap → Prop) (A0 : Option Addr) (n0 : Nat) (c0 : Nat) (A1 : Option Addr) (n1 : Nat) (c1 : Nat) (x12 : Int) (x13 : Int) (h : Heap) : Prop :=
  splitB (decide (x13 < x12)) (ptrOk A0 fun a1_ => 0 ≤ x13 ∧ x13 < ((n0 : Nat) : Int) ∧ (ptrOk A1 fun a2_ => 0 ≤ x13 ∧ x13 < ((n1 : Nat) : Int) ∧ (∃ v3_, ldv false 1 h (Addr.add a1_ (Int.toNat x13 * 1)) = some v3_ ∧ ∃ x4_, v3_ = (Value.int .i64 x4_) ∧ ∃ v5_, ldv false 1 h (Addr.add a2_ (Int.toNat x13 * 1)) = some v5_ ∧ ∃ x6_, v5_ = (Value.int .i64 x6_) ∧ splitB (x4_ != x6_) (R (Value.bool false) h) (f66.l0 R A0 n0 c0 A1 n1 c1 x12 (IntKind.wrap .i64 (x13 + (1 : Int))) h)))) (R (Value.bool true) h)
set_option maxRecDepth 100000 in
theorem f66.l0_in {R : Value → Heap → Prop} {A0 : Option Addr} {n0 : Nat} {c0 : Nat} {A1 : Option Addr} {n1 : Nat} {c1 : Nat} {x12 : Int} {x13 : Int} {h : Heap} (H : f66.l0T R A0 n0 c0 A1 n1 c1 x12 x13 h) : f66.l0 R A0 n0 c0 A1 n1 c1 x12 x13 h :=
  pt_intro mixed f66.good (Eq.mpr (show (Fwd Try.prog f66.T f66.kp Try.f66 R [false, false, true, false, true, true] (mkFr [(0, (Value.slice A0 n0 c0)), (1, (Value.slice A1 n1 c1)), (12, (Value.int .i64 x12)), (13, (Value.int .i64 x13))]) h) = (f66.l0T R A0 n0 c0 A1 n1 c1 x12 x13 h) by kernel_rfl) H)
set_option maxRecDepth 100000 in
def f66.runT (R : Value → Heap → Prop) (A0 : Option Addr) (n0 : Nat) (c0 : Nat) (A1 : Option Addr) (n1 : Nat) (c1 : Nat) (h : Heap) : Prop :=
  splitB (((n0 : Nat) : Int) != ((n1 : Nat) : Int)) (R (Value.bool false) h) (f66.l0 R A0 n0 c0 A1 n1 c1 ((n0 : Nat) : Int) (0 : Int) h)
set_option maxRecDepth 100000 in
theorem f66.run {R : Value → Heap → Prop} {A0 : Option Addr} {n0 : Nat} {c0 : Nat} {A1 : Option Addr} {n1 : Nat} {c1 : Nat} {h : Heap} (H : f66.runT R A0 n0 c0 A1 n1 c1 h) : Run Try.prog 66 #[(Value.slice A0 n0 c0), (Value.slice A1 n1 c1)] h R :=
  run_of mixed Try.func66 (by kernel_rfl) (by kernel_rfl) f66.good (Eq.mpr (show (Fwd Try.prog f66.T f66.kp Try.f66 R [] (mkFr (argL [(Value.slice A0 n0 c0), (Value.slice A1 n1 c1)] 0)) h) = (f66.runT R A0 n0 c0 A1 n1 c1 h) by kernel_rfl) H)
def f32.T : Tab := { sh := tSh, tup := tTup, keep := [], plan := [(6, (.take 0 (.take 1 (.take 2 (.take 4 (.take 5 (.take 6 (.take 3 (.take 7 (.eff false 8 (.take 9 .done)))))))))))] }
def f32.kp : Keep := [([false, false, true, false, true, true], [0, 1, 12, 13])]
theorem f32.good : goodCode Try.prog f32.T (rootOf Try.f32) = true := by kernel_rfl
def f32.l0 (R : Value → Heap → Prop) (A0 : Option Addr) (n0 : Nat) (c0 : Nat) (A1 : Option Addr) (n1 : Nat) (c1 : Nat) (x12 : Int) (x13 : Int) (h : Heap) : Prop := Pt Try.prog Try.f32 R [false, false, true, false, true, true] (mkFr [(0, (Value.slice A0 n0 c0)), (1, (Value.slice A1 n1 c1)), (12, (Value.int .i64 x12)), (13, (Value.int .i64 x13))]) h
set_option maxRecDepth 100000 in
def f32.l0T (R : Value → Heap → Prop) (A0 : Option Addr) (n0 : Nat) (c0 : Nat) (A1 : Option Addr) (n1 : Nat) (c1 : Nat) (x12 : Int) (x13 : Int) (h : Heap) : Prop :=
  splitB (decide (x13 < x12)) (ptrOk A0 fun a1_ => 0 ≤ x13 ∧ x13 < ((n0 : Nat) : Int) ∧ (ptrOk A1 fun a2_ => 0 ≤ x13 ∧ x13 < ((n1 : Nat) : Int) ∧ (∃ v3_, ldv false 1 h (Addr.add a1_ (Int.toNat x13 * 1)) = some v3_ ∧ ∃ A4_, ∃ n4_, ∃ c4_, v3_ = (Value.slice A4_ n4_ c4_) ∧ ∃ v5_, ldv false 1 h (Addr.add a2_ (Int.toNat x13 * 1)) = some v5_ ∧ ∃ A6_, ∃ n6_, ∃ c6_, v5_ = (Value.slice A6_ n6_ c6_) ∧ Run Try.prog 66 #[(Value.slice A4_ n4_ c4_), (Value.slice A6_ n6_ c6_)] h fun v7_ h8_ => ∃ b9_, v7_ = (Value.bool b9_) ∧ splitB (!b9_) (R (Value.bool false) h8_) (f32.l0 R A0 n0 c0 A1 n1 c1 x12 (IntKind.wrap .i64 (x13 + (1 : Int))) h8_)))) (R (Value.bool true) h)
set_option maxRecDepth 100000 in
theorem f32.l0_in {R : Value → Heap → Prop} {A0 : Option Addr} {n0 : Nat} {c0 : Nat} {A1 : Option Addr} {n1 : Nat} {c1 : Nat} {x12 : Int} {x13 : Int} {h : Heap} (H : f32.l0T R A0 n0 c0 A1 n1 c1 x12 x13 h) : f32.l0 R A0 n0 c0 A1 n1 c1 x12 x13 h :=
  pt_intro mixed f32.good (Eq.mpr (show (Fwd Try.prog f32.T f32.kp Try.f32 R [false, false, true, false, true, true] (mkFr [(0, (Value.slice A0 n0 c0)), (1, (Value.slice A1 n1 c1)), (12, (Value.int .i64 x12)), (13, (Value.int .i64 x13))]) h) = (f32.l0T R A0 n0 c0 A1 n1 c1 x12 x13 h) by kernel_rfl) H)
set_option maxRecDepth 100000 in
def f32.runT (R : Value → Heap → Prop) (A0 : Option Addr) (n0 : Nat) (c0 : Nat) (A1 : Option Addr) (n1 : Nat) (c1 : Nat) (h : Heap) : Prop :=
  splitB (((n0 : Nat) : Int) != ((n1 : Nat) : Int)) (R (Value.bool false) h) (f32.l0 R A0 n0 c0 A1 n1 c1 ((n0 : Nat) : Int) (0 : Int) h)
set_option maxRecDepth 100000 in
theorem f32.run {R : Value → Heap → Prop} {A0 : Option Addr} {n0 : Nat} {c0 : Nat} {A1 : Option Addr} {n1 : Nat} {c1 : Nat} {h : Heap} (H : f32.runT R A0 n0 c0 A1 n1 c1 h) : Run Try.prog 32 #[(Value.slice A0 n0 c0), (Value.slice A1 n1 c1)] h R :=
  run_of mixed Try.func32 (by kernel_rfl) (by kernel_rfl) f32.good (Eq.mpr (show (Fwd Try.prog f32.T f32.kp Try.f32 R [] (mkFr (argL [(Value.slice A0 n0 c0), (Value.slice A1 n1 c1)] 0)) h) = (f32.runT R A0 n0 c0 A1 n1 c1 h) by kernel_rfl) H)
def f67.T : Tab := { sh := tSh, tup := tTup, keep := [], plan := [] }
def f67.kp : Keep := [([true, true], [0, 1])]
theorem f67.good : goodCode Try.prog f67.T (rootOf Try.f67) = true := by kernel_rfl
def f67.j0 (R : Value → Heap → Prop) (A0 : Option Addr) (n0 : Nat) (c0 : Nat) (x1 : Int) (h : Heap) : Prop := Pt Try.prog Try.f67 R [true, true] (mkFr [(0, (Value.slice A0 n0 c0)), (1, (Value.int .i64 x1))]) h
set_option maxRecDepth 100000 in
def f67.j0T (R : Value → Heap → Prop) (A0 : Option Addr) (n0 : Nat) (c0 : Nat) (x1 : Int) (h : Heap) : Prop :=
  splitB (decide ((IntKind.wrap .i64 (x1 - (IntKind.wrap .i64 (((c0 : Nat) : Int) - ((n0 : Nat) : Int))))) > (0 : Int))) (0 ≤ (0 : Int) ∧ (0 : Int) ≤ ((c0 : Nat) : Int) ∧ ((c0 : Nat) : Int) ≤ ((c0 : Nat) : Int) ∧ (AppZ 3 1 8 #[(Value.int .i64 (0 : Int))] (sliceA A0 (Int.toNat (0 : Int)) c0 1) (Int.toNat ((c0 : Nat) : Int) - Int.toNat (0 : Int)) (c0 - Int.toNat (0 : Int)) (Value.int .i64 (IntKind.wrap .i64 (x1 - (IntKind.wrap .i64 (((c0 : Nat) : Int) - ((n0 : Nat) : Int)))))) h fun v1_ h2_ => ∃ A3_, ∃ n3_, ∃ c3_, v1_ = (Value.slice A3_ n3_ c3_) ∧ 0 ≤ (0 : Int) ∧ (0 : Int) ≤ ((n0 : Nat) : Int) ∧ ((n0 : Nat) : Int) ≤ ((c3_ : Nat) : Int) ∧ (R (Value.slice (sliceA A3_ (Int.toNat (0 : Int)) c3_ 1) (Int.toNat ((n0 : Nat) : Int) - Int.toNat (0 : Int)) (c3_ - Int.toNat (0 : Int))) h2_))) (R (Value.slice A0 n0 c0) h)
set_option maxRecDepth 100000 in
theorem f67.j0_in {R : Value → Heap → Prop} {A0 : Option Addr} {n0 : Nat} {c0 : Nat} {x1 : Int} {h : Heap} (H : f67.j0T R A0 n0 c0 x1 h) : f67.j0 R A0 n0 c0 x1 h :=
  pt_intro mixed f67.good (Eq.mpr (show (Fwd Try.prog f67.T f67.kp Try.f67 R [true, true] (mkFr [(0, (Value.slice A0 n0 c0)), (1, (Value.int .i64 x1))]) h) = (f67.j0T R A0 n0 c0 x1 h) by kernel_rfl) H)
set_option maxRecDepth 100000 in
def f67.runT (R : Value → Heap → Prop) (A0 : Option Addr) (n0 : Nat) (c0 : Nat) (x1 : Int) (h : Heap) : Prop :=
  splitB (decide (x1 < (0 : Int))) (Gen Try.prog (Instr.makeInterface 9 (Value.string (ByteArray.mk #[99, 97, 110, 110, 111, 116, 32, 98, 101, 32, 110, 101, 103, 97, 116, 105, 118, 101]))) h fun v1_ h2_ => False) (f67.j0 R A0 n0 c0 x1 h)
set_option maxRecDepth 100000 in
theorem f67.run {R : Value → Heap → Prop} {A0 : Option Addr} {n0 : Nat} {c0 : Nat} {x1 : Int} {h : Heap} (H : f67.runT R A0 n0 c0 x1 h) : Run Try.prog 67 #[(Value.slice A0 n0 c0), (Value.int .i64 x1)] h R :=
  run_of mixed Try.func67 (by kernel_rfl) (by kernel_rfl) f67.good (Eq.mpr (show (Fwd Try.prog f67.T f67.kp Try.f67 R [] (mkFr (argL [(Value.slice A0 n0 c0), (Value.int .i64 x1)] 0)) h) = (f67.runT R A0 n0 c0 x1 h) by kernel_rfl) H)
def f34.T : Tab := { sh := tSh, tup := tTup, keep := [], plan := [] }
def f34.kp : Keep := [([false, false, true, false, true, true], [0, 3, 9, 10, 11]), ([false, false, true, false, true, true, true, true], [6, 25, 26, 27])]
theorem f34.good : goodCode Try.prog f34.T (rootOf Try.f34) = true := by kernel_rfl
def f34.l0 (R : Value → Heap → Prop) (A0 : Option Addr) (n0 : Nat) (c0 : Nat) (x3 : Int) (A9 : Option Addr) (n9 : Nat) (c9 : Nat) (x10 : Int) (x11 : Int) (h : Heap) : Prop := Pt Try.prog Try.f34 R [false, false, true, false, true, true] (mkFr [(0, (Value.slice A0 n0 c0)), (3, (Value.int .i64 x3)), (9, (Value.slice A9 n9 c9)), (10, (Value.int .i64 x10)), (11, (Value.int .i64 x11))]) h
def f34.l1 (R : Value → Heap → Prop) (A6 : Option Addr) (n6 : Nat) (c6 : Nat) (A25 : Option Addr) (n25 : Nat) (c25 : Nat) (x26 : Int) (x27 : Int) (h : Heap) : Prop := Pt Try.prog Try.f34 R [false, false, true, false, true, true, true, true] (mkFr [(6, (Value.slice A6 n6 c6)), (25, (Value.slice A25 n25 c25)), (26, (Value.int .i64 x26)), (27, (Value.int .i64 x27))]) h
set_option maxRecDepth 100000 in
def f34.l0T (R : Value → Heap → Prop) (A0 : Option Addr) (n0 : Nat) (c0 : Nat) (x3 : Int) (A9 : Option Addr) (n9 : Nat) (c9 : Nat) (x10 : Int) (x11 : Int) (h : Heap) : Prop :=
  splitB (decide (x11 < x10)) (ptrOk A9 fun a1_ => 0 ≤ x11 ∧ x11 < ((n9 : Nat) : Int) ∧ (∃ v2_, ldv false 1 h (Addr.add a1_ (Int.toNat x11 * 1)) = some v2_ ∧ ∃ A3_, ∃ n3_, ∃ c3_, v2_ = (Value.slice A3_ n3_ c3_) ∧ splitB (decide ((IntKind.wrap .i64 (x3 + ((n3_ : Nat) : Int))) < (0 : Int))) (Gen Try.prog (Instr.makeInterface 9 (Value.string (ByteArray.mk #[108, 101, 110, 32, 111, 117, 116, 32, 111, 102, 32, 114, 97, 110, 103, 101]))) h fun v4_ h5_ => False) (f34.l0 R A0 n0 c0 (IntKind.wrap .i64 (x3 + ((n3_ : Nat) : Int))) A9 n9 c9 x10 (IntKind.wrap .i64 (x11 + (1 : Int))) h))) (Run Try.prog 67 #[(Value.slice none 0 0), (Value.int .i64 x3)] h fun v6_ h7_ => ∃ A8_, ∃ n8_, ∃ c8_, v6_ = (Value.slice A8_ n8_ c8_) ∧ f34.l1 R A8_ n8_ c8_ A0 n0 c0 ((n0 : Nat) : Int) (0 : Int) h7_)
set_option maxRecDepth 100000 in
theorem f34.l0_in {R : Value → Heap → Prop} {A0 : Option Addr} {n0 : Nat} {c0 : Nat} {x3 : Int} {A9 : Option Addr} {n9 : Nat} {c9 : Nat} {x10 : Int} {x11 : Int} {h : Heap} (H : f34.l0T R A0 n0 c0 x3 A9 n9 c9 x10 x11 h) : f34.l0 R A0 n0 c0 x3 A9 n9 c9 x10 x11 h :=
  pt_intro mixed f34.good (Eq.mpr (show (Fwd Try.prog f34.T f34.kp Try.f34 R [false, false, true, false, true, true] (mkFr [(0, (Value.slice A0 n0 c0)), (3, (Value.int .i64 x3)), (9, (Value.slice A9 n9 c9)), (10, (Value.int .i64 x10)), (11, (Value.int .i64 x11))]) h) = (f34.l0T R A0 n0 c0 x3 A9 n9 c9 x10 x11 h) by kernel_rfl) H)
set_option maxRecDepth 100000 in
def f34.l1T (R : Value → Heap → Prop) (A6 : Option Addr) (n6 : Nat) (c6 : Nat) (A25 : Option Addr) (n25 : Nat) (c25 : Nat) (x26 : Int) (x27 : Int) (h : Heap) : Prop :=
  splitB (decide (x27 < x26)) (ptrOk A25 fun a1_ => 0 ≤ x27 ∧ x27 < ((n25 : Nat) : Int) ∧ (∃ v2_, ldv false 1 h (Addr.add a1_ (Int.toNat x27 * 1)) = some v2_ ∧ ∃ A3_, ∃ n3_, ∃ c3_, v2_ = (Value.slice A3_ n3_ c3_) ∧ AppW 3 1 8 #[(Value.int .i64 (0 : Int))] A6 n6 c6 (Value.slice A3_ n3_ c3_) h fun v4_ h5_ => ∃ A6_, ∃ n6_, ∃ c6_, v4_ = (Value.slice A6_ n6_ c6_) ∧ f34.l1 R A6_ n6_ c6_ A25 n25 c25 x26 (IntKind.wrap .i64 (x27 + (1 : Int))) h5_)) (R (Value.slice A6 n6 c6) h)
set_option maxRecDepth 100000 in
theorem f34.l1_in {R : Value → Heap → Prop} {A6 : Option Addr} {n6 : Nat} {c6 : Nat} {A25 : Option Addr} {n25 : Nat} {c25 : Nat} {x26 : Int} {x27 : Int} {h : Heap} (H : f34.l1T R A6 n6 c6 A25 n25 c25 x26 x27 h) : f34.l1 R A6 n6 c6 A25 n25 c25 x26 x27 h :=
  pt_intro mixed f34.good (Eq.mpr (show (Fwd Try.prog f34.T f34.kp Try.f34 R [false, false, true, false, true, true, true, true] (mkFr [(6, (Value.slice A6 n6 c6)), (25, (Value.slice A25 n25 c25)), (26, (Value.int .i64 x26)), (27, (Value.int .i64 x27))]) h) = (f34.l1T R A6 n6 c6 A25 n25 c25 x26 x27 h) by kernel_rfl) H)
set_option maxRecDepth 100000 in
def f34.runT (R : Value → Heap → Prop) (A0 : Option Addr) (n0 : Nat) (c0 : Nat) (h : Heap) : Prop :=
  f34.l0 R A0 n0 c0 (0 : Int) A0 n0 c0 ((n0 : Nat) : Int) (0 : Int) h
set_option maxRecDepth 100000 in
theorem f34.run {R : Value → Heap → Prop} {A0 : Option Addr} {n0 : Nat} {c0 : Nat} {h : Heap} (H : f34.runT R A0 n0 c0 h) : Run Try.prog 34 #[(Value.slice A0 n0 c0)] h R :=
  run_of mixed Try.func34 (by kernel_rfl) (by kernel_rfl) f34.good (Eq.mpr (show (Fwd Try.prog f34.T f34.kp Try.f34 R [] (mkFr (argL [(Value.slice A0 n0 c0)] 0)) h) = (f34.runT R A0 n0 c0 h) by kernel_rfl) H)
def f5.T : Tab := { sh := tSh, tup := tTup, keep := [], plan := [] }
def f5.kp : Keep := [([true, true, true, true, true, true, true, true, true], [0, 1, 2, 3, 9, 10, 11, 12, 13, 14, 15, 16, 17, 18, 19]), ([true, true, true, true, true, true, true, true, true, true], [0, 1, 2, 3, 9, 10, 11, 12, 13, 14, 15, 16, 18, 19]), ([false, false, true, false, true, true, false, true, false, true, true, true, true, true, true, true, true, true, true], [0, 1, 2, 9, 10, 11, 12, 13, 14, 15, 16, 18, 20, 21, 88, 89, 90]), ([true, true, true, true, true, true, true, true, true, true, true], [0, 1, 2, 9, 10, 11, 12, 13, 14, 18]), ([true, true, true, true, true, true, true, true, true, true, true, true], [0, 1, 2, 9, 10, 11, 12, 13, 14, 18]), ([true, true, true, true, true, true, true, true, true, true, true, true, true, true, true], [0, 1, 2, 9, 10])]
theorem f5.good : goodCode Try.prog f5.T (rootOf Try.f5) = true := by kernel_rfl
def f5.j0 (R : Value → Heap → Prop) (A0 : Option Addr) (n0 : Nat) (c0 : Nat) (x1 : Int) (x2 : Int) (A3 : Option Addr) (n3 : Nat) (c3 : Nat) (A9 : Option Addr) (n9 : Nat) (c9 : Nat) (x10 : Int) (A11 : Option Addr) (n11 : Nat) (c11 : Nat) (x12 : Int) (x13 : Int) (x14 : Int) (A15 : Option Addr) (n15 : Nat) (c15 : Nat) (A16 : Option Addr) (n16 : Nat) (c16 : Nat) (x17 : Int) (x18 : Int) (x19 : Int) (h : Heap) : Prop := Pt Try.prog Try.f5 R [true, true, true, true, true, true, true, true, true] (mkFr [(0, (Value.slice A0 n0 c0)), (1, (Value.int .i64 x1)), (2, (Value.int .i64 x2)), (3, (Value.slice A3 n3 c3)), (9, (Value.slice A9 n9 c9)), (10, (Value.int .i64 x10)), (11, (Value.slice A11 n11 c11)), (12, (Value.int .i64 x12)), (13, (Value.int .i64 x13)), (14, (Value.int .i64 x14)), (15, (Value.slice A15 n15 c15)), (16, (Value.slice A16 n16 c16)), (17, (Value.int .i64 x17)), (18, (Value.int .i64 x18)), (19, (Value.int .i64 x19))]) h
def f5.j1 (R : Value → Heap → Prop) (A0 : Option Addr) (n0 : Nat) (c0 : Nat) (x1 : Int) (x2 : Int) (A3 : Option Addr) (n3 : Nat) (c3 : Nat) (A9 : Option Addr) (n9 : Nat) (c9 : Nat) (x10 : Int) (A11 : Option Addr) (n11 : Nat) (c11 : Nat) (x12 : Int) (x13 : Int) (x14 : Int) (A15 : Option Addr) (n15 : Nat) (c15 : Nat) (A16 : Option Addr) (n16 : Nat) (c16 : Nat) (x18 : Int) (x19 : Int) (h : Heap) : Prop := Pt Try.prog Try.f5 R [true, true, true, true, true, true, true, true, true, true] (mkFr [(0, (Value.slice A0 n0 c0)), (1, (Value.int .i64 x1)), (2, (Value.int .i64 x2)), (3, (Value.slice A3 n3 c3)), (9, (Value.slice A9 n9 c9)), (10, (Value.int .i64 x10)), (11, (Value.slice A11 n11 c11)), (12, (Value.int .i64 x12)), (13, (Value.int .i64 x13)), (14, (Value.int .i64 x14)), (15, (Value.slice A15 n15 c15)), (16, (Value.slice A16 n16 c16)), (18, (Value.int .i64 x18)), (19, (Value.int .i64 x19))]) h
def f5.l0 (R : Value → Heap → Prop) (A0 : Option Addr) (n0 : Nat) (c0 : Nat) (x1 : Int) (x2 : Int) (A9 : Option Addr) (n9 : Nat) (c9 : Nat) (x10 : Int) (A11 : Option Addr) (n11 : Nat) (c11 : Nat) (x12 : Int) (x13 : Int) (x14 : Int) (A15 : Option Addr) (n15 : Nat) (c15 : Nat) (A16 : Option Addr) (n16 : Nat) (c16 : Nat) (x18 : Int) (A20 : Option Addr) (n20 : Nat) (c20 : Nat) (A21 : Option Addr) (n21 : Nat) (c21 : Nat) (A88 : Option Addr) (n88 : Nat) (c88 : Nat) (x89 : Int) (x90 : Int) (h : Heap) : Prop := Pt Try.prog Try.f5 R [false, false, true, false, true, true, false, true, false, true, true, true, true, true, true, true, true, true, true] (mkFr [(0, (Value.slice A0 n0 c0)), (1, (Value.int .i64 x1)), (2, (Value.int .i64 x2)), (9, (Value.slice A9 n9 c9)), (10, (Value.int .i64 x10)), (11, (Value.slice A11 n11 c11)), (12, (Value.int .i64 x12)), (13, (Value.int .i64 x13)), (14, (Value.int .i64 x14)), (15, (Value.slice A15 n15 c15)), (16, (Value.slice A16 n16 c16)), (18, (Value.int .i64 x18)), (20, (Value.slice A20 n20 c20)), (21, (Value.slice A21 n21 c21)), (88, (Value.slice A88 n88 c88)), (89, (Value.int .i64 x89)), (90, (Value.int .i64 x90))]) h
def f5.j2 (R : Value → Heap → Prop) (A0 : Option Addr) (n0 : Nat) (c0 : Nat) (x1 : Int) (x2 : Int) (A9 : Option Addr) (n9 : Nat) (c9 : Nat) (x10 : Int) (A11 : Option Addr) (n11 : Nat) (c11 : Nat) (x12 : Int) (x13 : Int) (x14 : Int) (x18 : Int) (h : Heap) : Prop := Pt Try.prog Try.f5 R [true, true, true, true, true, true, true, true, true, true, true] (mkFr [(0, (Value.slice A0 n0 c0)), (1, (Value.int .i64 x1)), (2, (Value.int .i64 x2)), (9, (Value.slice A9 n9 c9)), (10, (Value.int .i64 x10)), (11, (Value.slice A11 n11 c11)), (12, (Value.int .i64 x12)), (13, (Value.int .i64 x13)), (14, (Value.int .i64 x14)), (18, (Value.int .i64 x18))]) h
def f5.j3 (R : Value → Heap → Prop) (A0 : Option Addr) (n0 : Nat) (c0 : Nat) (x1 : Int) (x2 : Int) (A9 : Option Addr) (n9 : Nat) (c9 : Nat) (x10 : Int) (A11 : Option Addr) (n11 : Nat) (c11 : Nat) (x12 : Int) (x13 : Int) (x14 : Int) (x18 : Int) (h : Heap) : Prop := Pt Try.prog Try.f5 R [true, true, true, true, true, true, true, true, true, true, true, true] (mkFr [(0, (Value.slice A0 n0 c0)), (1, (Value.int .i64 x1)), (2, (Value.int .i64 x2)), (9, (Value.slice A9 n9 c9)), (10, (Value.int .i64 x10)), (11, (Value.slice A11 n11 c11)), (12, (Value.int .i64 x12)), (13, (Value.int .i64 x13)), (14, (Value.int .i64 x14)), (18, (Value.int .i64 x18))]) h
def f5.j4 (R : Value → Heap → Prop) (A0 : Option Addr) (n0 : Nat) (c0 : Nat) (x1 : Int) (x2 : Int) (A9 : Option Addr) (n9 : Nat) (c9 : Nat) (x10 : Int) (h : Heap) : Prop := Pt Try.prog Try.f5 R [true, true, true, true, true, true, true, true, true, true, true, true, true, true, true] (mkFr [(0, (Value.slice A0 n0 c0)), (1, (Value.int .i64 x1)), (2, (Value.int .i64 x2)), (9, (Value.slice A9 n9 c9)), (10, (Value.int .i64 x10))]) h
set_option maxRecDepth 100000 in
def f5.j0T (R : Value → Heap → Prop) (A0 : Option Addr) (n0 : Nat) (c0 : Nat) (x1 : Int) (x2 : Int) (A3 : Option Addr) (n3 : Nat) (c3 : Nat) (A9 : Option Addr) (n9 : Nat) (c9 : Nat) (x10 : Int) (A11 : Option Addr) (n11 : Nat) (c11 : Nat) (x12 : Int) (x13 : Int) (x14 : Int) (A15 : Option Addr) (n15 : Nat) (c15 : Nat) (A16 : Option Addr) (n16 : Nat) (c16 : Nat) (x17 : Int) (x18 : Int) (x19 : Int) (h : Heap) : Prop :=
  splitB (x17 != x19) (R (Value.bool false) h) (splitB (x19 != (0 : Int)) (splitB (decide ((IntKind.wrap .i64 (((n15 : Nat) : Int) + ((n16 : Nat) : Int))) > (0 : Int))) (R (Value.bool false) h) (f5.j1 R A0 n0 c0 x1 x2 A3 n3 c3 A9 n9 c9 x10 A11 n11 c11 x12 x13 x14 A15 n15 c15 A16 n16 c16 x18 x19 h)) (f5.j1 R A0 n0 c0 x1 x2 A3 n3 c3 A9 n9 c9 x10 A11 n11 c11 x12 x13 x14 A15 n15 c15 A16 n16 c16 x18 x19 h))
set_option maxRecDepth 100000 in
theorem f5.j0_in {R : Value → Heap → Prop} {A0 : Option Addr} {n0 : Nat} {c0 : Nat} {x1 : Int} {x2 : Int} {A3 : Option Addr} {n3 : Nat} {c3 : Nat} {A9 : Option Addr} {n9 : Nat} {c9 : Nat} {x10 : Int} {A11 : Option Addr} {n11 : Nat} {c11 : Nat} {x12 : Int} {x13 : Int} {x14 : Int} {A15 : Option Addr} {n15 : Nat} {c15 : Nat} {A16 : Option Addr} {n16 : Nat} {c16 : Nat} {x17 : Int} {x18 : Int} {x19 : Int} {h : Heap} (H : f5.j0T R A0 n0 c0 x1 x2 A3 n3 c3 A9 n9 c9 x10 A11 n11 c11 x12 x13 x14 A15 n15 c15 A16 n16 c16 x17 x18 x19 h) : f5.j0 R A0 n0 c0 x1 x2 A3 n3 c3 A9 n9 c9 x10 A11 n11 c11 x12 x13 x14 A15 n15 c15 A16 n16 c16 x17 x18 x19 h :=
  pt_intro mixed f5.good (Eq.mpr (show (Fwd Try.prog f5.T f5.kp Try.f5 R [true, true, true, true, true, true, true, true, true] (mkFr [(0, (Value.slice A0 n0 c0)), (1, (Value.int .i64 x1)), (2, (Value.int .i64 x2)), (3, (Value.slice A3 n3 c3)), (9, (Value.slice A9 n9 c9)), (10, (Value.int .i64 x10)), (11, (Value.slice A11 n11 c11)), (12, (Value.int .i64 x12)), (13, (Value.int .i64 x13)), (14, (Value.int .i64 x14)), (15, (Value.slice A15 n15 c15)), (16, (Value.slice A16 n16 c16)), (17, (Value.int .i64 x17)), (18, (Value.int .i64 x18)), (19, (Value.int .i64 x19))]) h) = (f5.j0T R A0 n0 c0 x1 x2 A3 n3 c3 A9 n9 c9 x10 A11 n11 c11 x12 x13 x14 A15 n15 c15 A16 n16 c16 x17 x18 x19 h) by kernel_rfl) H)
set_option maxRecDepth 100000 in
def f5.j1T (R : Value → Heap → Prop) (A0 : Option Addr) (n0 : Nat) (c0 : Nat) (x1 : Int) (x2 : Int) (A3 : Option Addr) (n3 : Nat) (c3 : Nat) (A9 : Option Addr) (n9 : Nat) (c9 : Nat) (x10 : Int) (A11 : Option Addr) (n11 : Nat) (c11 : Nat) (x12 : Int) (x13 : Int) (x14 : Int) (A15 : Option Addr) (n15 : Nat) (c15 : Nat) (A16 : Option Addr) (n16 : Nat) (c16 : Nat) (x18 : Int) (x19 : Int) (h : Heap) : Prop :=
  splitB (x19 == (0 : Int)) (f5.l0 R A0 n0 c0 x1 x2 A9 n9 c9 x10 A11 n11 c11 x12 x13 x14 A15 n15 c15 A16 n16 c16 x18 none 0 0 A0 n0 c0 A3 n3 c3 ((n3 : Nat) : Int) (0 : Int) h) (f5.j2 R A0 n0 c0 x1 x2 A9 n9 c9 x10 A11 n11 c11 x12 x13 x14 x18 h)
set_option maxRecDepth 100000 in
theorem f5.j1_in {R : Value → Heap → Prop} {A0 : Option Addr} {n0 : Nat} {c0 : Nat} {x1 : Int} {x2 : Int} {A3 : Option Addr} {n3 : Nat} {c3 : Nat} {A9 : Option Addr} {n9 : Nat} {c9 : Nat} {x10 : Int} {A11 : Option Addr} {n11 : Nat} {c11 : Nat} {x12 : Int} {x13 : Int} {x14 : Int} {A15 : Option Addr} {n15 : Nat} {c15 : Nat} {A16 : Option Addr} {n16 : Nat} {c16 : Nat} {x18 : Int} {x19 : Int} {h : Heap} (H : f5.j1T R A0 n0 c0 x1 x2 A3 n3 c3 A9 n9 c9 x10 A11 n11 c11 x12 x13 x14 A15 n15 c15 A16 n16 c16 x18 x19 h) : f5.j1 R A0 n0 c0 x1 x2 A3 n3 c3 A9 n9 c9 x10 A11 n11 c11 x12 x13 x14 A15 n15 c15 A16 n16 c16 x18 x19 h :=
  pt_intro mixed f5.good (Eq.mpr (show (Fwd Try.prog f5.T f5.kp Try.f5 R [true, true, true, true, true, true, true, true, true, true] (mkFr [(0, (Value.slice A0 n0 c0)), (1, (Value.int .i64 x1)), (2, (Value.int .i64 x2)), (3, (Value.slice A3 n3 c3)), (9, (Value.slice A9 n9 c9)), (10, (Value.int .i64 x10)), (11, (Value.slice A11 n11 c11)), (12, (Value.int .i64 x12)), (13, (Value.int .i64 x13)), (14, (Value.int .i64 x14)), (15, (Value.slice A15 n15 c15)), (16, (Value.slice A16 n16 c16)), (18, (Value.int .i64 x18)), (19, (Value.int .i64 x19))]) h) = (f5.j1T R A0 n0 c0 x1 x2 A3 n3 c3 A9 n9 c9 x10 A11 n11 c11 x12 x13 x14 A15 n15 c15 A16 n16 c16 x18 x19 h) by kernel_rfl) H)
set_option maxRecDepth 100000 in
def f5.l0T (R : Value → Heap → Prop) (A0 : Option Addr) (n0 : Nat) (c0 : Nat) (x1 : Int) (x2 : Int) (A9 : Option Addr) (n9 : Nat) (c9 : Nat) (x10 : Int) (A11 : Option Addr) (n11 : Nat) (c11 : Nat) (x12 : Int) (x13 : Int) (x14 : Int) (A15 : Option Addr) (n15 : Nat) (c15 : Nat) (A16 : Option Addr) (n16 : Nat) (c16 : Nat) (x18 : Int) (A20 : Option Addr) (n20 : Nat) (c20 : Nat) (A21 : Option Addr) (n21 : Nat) (c21 : Nat) (A88 : Option Addr) (n88 : Nat) (c88 : Nat) (x89 : Int) (x90 : Int) (h : Heap) : Prop :=
  splitB (decide (x90 < x89)) (ptrOk A88 fun a1_ => 0 ≤ x90 ∧ x90 < ((n88 : Nat) : Int) ∧ (∃ v2_, ldv false 1 h (Addr.add a1_ (Int.toNat x90 * 1)) = some v2_ ∧ ∃ x3_, v2_ = (Value.int .i64 x3_) ∧ Run Try.prog 29 #[(Value.int .i64 x3_), (Value.int .i64 (0 : Int)), (Value.int .i64 (IntKind.wrap .i64 (((n0 : Nat) : Int) - (1 : Int))))] h fun v4_ h5_ => ∃ b6_, v4_ = (Value.bool b6_) ∧ splitB (!b6_) (f5.l0 R A0 n0 c0 x1 x2 A9 n9 c9 x10 A11 n11 c11 x12 x13 x14 A15 n15 c15 A16 n16 c16 x18 A20 n20 c20 A21 n21 c21 A88 n88 c88 x89 (IntKind.wrap .i64 (x90 + (1 : Int))) h5_) (Run Try.prog 30 #[(Value.slice A21 n21 c21), (Value.int .i64 x3_)] h5_ fun v7_ h8_ => ∃ A9_, ∃ n9_, ∃ c9_, ∃ x10_, ∃ b11_, v7_ = (Value.tuple #[(Value.slice A9_ n9_ c9_), (Value.int .i64 x10_), (Value.bool b11_)]) ∧ splitB b11_ (∃ l12_ : List Value, (Value.agg #[(Value.int .i64 x3_), (Value.int .i64 x10_)]) = Value.agg l12_.toArray ∧ l12_.length = 2 ∧ (newH h8_ (Obj.cells ((List.take 0 ([(Value.int .i64 (0 : Int)), (Value.int .i64 (0 : Int))]) ++ l12_ ++ List.drop 2 ([(Value.int .i64 (0 : Int)), (Value.int .i64 (0 : Int))])).toArray) 67) fun h13_ => AppW 67 2 16 #[(Value.int .i64 (0 : Int)), (Value.int .i64 (0 : Int))] A20 n20 c20 (Value.slice (some ⟨Array.size h8_, 0, none⟩) 1 1) h13_ fun v14_ h15_ => ∃ A16_, ∃ n16_, ∃ c16_, v14_ = (Value.slice A16_ n16_ c16_) ∧ f5.l0 R A0 n0 c0 x1 x2 A9 n9 c9 x10 A11 n11 c11 x12 x13 x14 A15 n15 c15 A16 n16 c16 x18 A16_ n16_ c16_ A9_ n9_ c9_ A88 n88 c88 x89 (IntKind.wrap .i64 (x90 + (1 : Int))) h15_)) (f5.l0 R A0 n0 c0 x1 x2 A9 n9 c9 x10 A11 n11 c11 x12 x13 x14 A15 n15 c15 A16 n16 c16 x18 A20 n20 c20 A21 n21 c21 A88 n88 c88 x89 (IntKind.wrap .i64 (x90 + (1 : Int))) h8_)))) (Run Try.prog 31 #[(Value.slice A15 n15 c15), (Value.slice A20 n20 c20)] h fun v17_ h18_ => ∃ b19_, v17_ = (Value.bool b19_) ∧ splitB (!b19_) (R (Value.bool false) h18_) (Run Try.prog 32 #[(Value.slice A16 n16 c16), (Value.slice A21 n21 c21)] h18_ fun v20_ h21_ => ∃ b22_, v20_ = (Value.bool b22_) ∧ splitB (!b22_) (R (Value.bool false) h21_) (f5.j2 R A0 n0 c0 x1 x2 A9 n9 c9 x10 A11 n11 c11 x12 x13 x14 x18 h21_)))
set_option maxRecDepth 100000 in
theorem f5.l0_in {R : Value → Heap → Prop} {A0 : Option Addr} {n0 : Nat} {c0 : Nat} {x1 : Int} {x2 : Int} {A9 : Option Addr} {n9 : Nat} {c9 : Nat} {x10 : Int} {A11 : Option Addr} {n11 : Nat} {c11 : Nat} {x12 : Int} {x13 : Int} {x14 : Int} {A15 : Option Addr} {n15 : Nat} {c15 : Nat} {A16 : Option Addr} {n16 : Nat} {c16 : Nat} {x18 : Int} {A20 : Option Addr} {n20 : Nat} {c20 : Nat} {A21 : Option Addr} {n21 : Nat} {c21 : Nat} {A88 : Option Addr} {n88 : Nat} {c88 : Nat} {x89 : Int} {x90 : Int} {h : Heap} (H : f5.l0T R A0 n0 c0 x1 x2 A9 n9 c9 x10 A11 n11 c11 x12 x13 x14 A15 n15 c15 A16 n16 c16 x18 A20 n20 c20 A21 n21 c21 A88 n88 c88 x89 x90 h) : f5.l0 R A0 n0 c0 x1 x2 A9 n9 c9 x10 A11 n11 c11 x12 x13 x14 A15 n15 c15 A16 n16 c16 x18 A20 n20 c20 A21 n21 c21 A88 n88 c88 x89 x90 h :=
  pt_intro mixed f5.good (Eq.mpr (show (Fwd Try.prog f5.T f5.kp Try.f5 R [false, false, true, false, true, true, false, true, false, true, true, true, true, true, true, true, true, true, true] (mkFr [(0, (Value.slice A0 n0 c0)), (1, (Value.int .i64 x1)), (2, (Value.int .i64 x2)), (9, (Value.slice A9 n9 c9)), (10, (Value.int .i64 x10)), (11, (Value.slice A11 n11 c11)), (12, (Value.int .i64 x12)), (13, (Value.int .i64 x13)), (14, (Value.int .i64 x14)), (15, (Value.slice A15 n15 c15)), (16, (Value.slice A16 n16 c16)), (18, (Value.int .i64 x18)), (20, (Value.slice A20 n20 c20)), (21, (Value.slice A21 n21 c21)), (88, (Value.slice A88 n88 c88)), (89, (Value.int .i64 x89)), (90, (Value.int .i64 x90))]) h) = (f5.l0T R A0 n0 c0 x1 x2 A9 n9 c9 x10 A11 n11 c11 x12 x13 x14 A15 n15 c15 A16 n16 c16 x18 A20 n20 c20 A21 n21 c21 A88 n88 c88 x89 x90 h) by kernel_rfl) H)
set_option maxRecDepth 100000 in
def f5.j2T (R : Value → Heap → Prop) (A0 : Option Addr) (n0 : Nat) (c0 : Nat) (x1 : Int) (x2 : Int) (A9 : Option Addr) (n9 : Nat) (c9 : Nat) (x10 : Int) (A11 : Option Addr) (n11 : Nat) (c11 : Nat) (x12 : Int) (x13 : Int) (x14 : Int) (x18 : Int) (h : Heap) : Prop :=
  splitB (x18 == (0 : Int)) (Run Try.prog 29 #[(Value.int .i64 x1), (Value.int .i64 (0 : Int)), (Value.int .i64 (IntKind.wrap .i64 (((n0 : Nat) : Int) - (1 : Int))))] h fun v1_ h2_ => ∃ b3_, v1_ = (Value.bool b3_) ∧ splitB (!b3_) (f5.j3 R A0 n0 c0 x1 x2 A9 n9 c9 x10 A11 n11 c11 x12 x13 x14 (4 : Int) h2_) (f5.j3 R A0 n0 c0 x1 x2 A9 n9 c9 x10 A11 n11 c11 x12 x13 x14 x18 h2_)) (f5.j3 R A0 n0 c0 x1 x2 A9 n9 c9 x10 A11 n11 c11 x12 x13 x14 x18 h)
set_option maxRecDepth 100000 in
theorem f5.j2_in {R : Value → Heap → Prop} {A0 : Option Addr} {n0 : Nat} {c0 : Nat} {x1 : Int} {x2 : Int} {A9 : Option Addr} {n9 : Nat} {c9 : Nat} {x10 : Int} {A11 : Option Addr} {n11 : Nat} {c11 : Nat} {x12 : Int} {x13 : Int} {x14 : Int} {x18 : Int} {h : Heap} (H : f5.j2T R A0 n0 c0 x1 x2 A9 n9 c9 x10 A11 n11 c11 x12 x13 x14 x18 h) : f5.j2 R A0 n0 c0 x1 x2 A9 n9 c9 x10 A11 n11 c11 x12 x13 x14 x18 h :=
  pt_intro mixed f5.good (Eq.mpr (show (Fwd Try.prog f5.T f5.kp Try.f5 R [true, true, true, true, true, true, true, true, true, true, true] (mkFr [(0, (Value.slice A0 n0 c0)), (1, (Value.int .i64 x1)), (2, (Value.int .i64 x2)), (9, (Value.slice A9 n9 c9)), (10, (Value.int .i64 x10)), (11, (Value.slice A11 n11 c11)), (12, (Value.int .i64 x12)), (13, (Value.int .i64 x13)), (14, (Value.int .i64 x14)), (18, (Value.int .i64 x18))]) h) = (f5.j2T R A0 n0 c0 x1 x2 A9 n9 c9 x10 A11 n11 c11 x12 x13 x14 x18 h) by kernel_rfl) H)
set_option maxRecDepth 100000 in
def f5.j3T (R : Value → Heap → Prop) (A0 : Option Addr) (n0 : Nat) (c0 : Nat) (x1 : Int) (x2 : Int) (A9 : Option Addr) (n9 : Nat) (c9 : Nat) (x10 : Int) (A11 : Option Addr) (n11 : Nat) (c11 : Nat) (x12 : Int) (x13 : Int) (x14 : Int) (x18 : Int) (h : Heap) : Prop :=
  splitB (x18 != (0 : Int)) (splitB ((IntKind.wrap .i64 (((n9 : Nat) : Int) + ((n11 : Nat) : Int))) == (0 : Int)) (splitB (x12 == (0 : Int)) (splitB (x14 == (-1 : Int)) (splitB (x10 == x18) (R (Value.bool (x13 == x18)) h) (R (Value.bool false) h)) (R (Value.bool false) h)) (R (Value.bool false) h)) (R (Value.bool false) h)) (Run Try.prog 33 #[(Value.slice A0 n0 c0), (Value.int .i64 x1)] h fun v1_ h2_ => ∃ x3_, v1_ = (Value.int .i64 x3_) ∧ splitB (x14 != x3_) (R (Value.bool false) h2_) (Run Try.prog 30 #[(Value.slice A0 n0 c0), (Value.int .i64 x1)] h2_ fun v4_ h5_ => ∃ A6_, ∃ n6_, ∃ c6_, ∃ x7_, ∃ b8_, v4_ = (Value.tuple #[(Value.slice A6_ n6_ c6_), (Value.int .i64 x7_), (Value.bool b8_)]) ∧ splitB b8_ (Run Try.prog 32 #[(Value.slice A11 n11 c11), (Value.slice A6_ n6_ c6_)] h5_ fun v9_ h10_ => ∃ b11_, v9_ = (Value.bool b11_) ∧ splitB (!b11_) (R (Value.bool false) h10_) (splitB (x12 != x7_) (R (Value.bool false) h10_) (splitB (x13 != (0 : Int)) (R (Value.bool false) h10_) (splitB (!b8_) (splitB (decide (((n11 : Nat) : Int) > (0 : Int))) (R (Value.bool false) h10_) (splitB (x12 != (0 : Int)) (R (Value.bool false) h10_) (splitB (x13 != (4 : Int)) (R (Value.bool false) h10_) (f5.j4 R A0 n0 c0 x1 x2 A9 n9 c9 x10 h10_)))) (f5.j4 R A0 n0 c0 x1 x2 A9 n9 c9 x10 h10_))))) (splitB (!b8_) (splitB (decide (((n11 : Nat) : Int) > (0 : Int))) (R (Value.bool false) h5_) (splitB (x12 != (0 : Int)) (R (Value.bool false) h5_) (splitB (x13 != (4 : Int)) (R (Value.bool false) h5_) (f5.j4 R A0 n0 c0 x1 x2 A9 n9 c9 x10 h5_)))) (f5.j4 R A0 n0 c0 x1 x2 A9 n9 c9 x10 h5_))))
set_option maxRecDepth 100000 in
theorem f5.j3_in {R : Value → Heap → Prop} {A0 : Option Addr} {n0 : Nat} {c0 : Nat} {x1 : Int} {x2 : Int} {A9 : Option Addr} {n9 : Nat} {c9 : Nat} {x10 : Int} {A11 : Option Addr} {n11 : Nat} {c11 : Nat} {x12 : Int} {x13 : Int} {x14 : Int} {x18 : Int} {h : Heap} (H : f5.j3T R A0 n0 c0 x1 x2 A9 n9 c9 x10 A11 n11 c11 x12 x13 x14 x18 h) : f5.j3 R A0 n0 c0 x1 x2 A9 n9 c9 x10 A11 n11 c11 x12 x13 x14 x18 h :=
  pt_intro mixed f5.good (Eq.mpr (show (Fwd Try.prog f5.T f5.kp Try.f5 R [true, true, true, true, true, true, true, true, true, true, true, true] (mkFr [(0, (Value.slice A0 n0 c0)), (1, (Value.int .i64 x1)), (2, (Value.int .i64 x2)), (9, (Value.slice A9 n9 c9)), (10, (Value.int .i64 x10)), (11, (Value.slice A11 n11 c11)), (12, (Value.int .i64 x12)), (13, (Value.int .i64 x13)), (14, (Value.int .i64 x14)), (18, (Value.int .i64 x18))]) h) = (f5.j3T R A0 n0 c0 x1 x2 A9 n9 c9 x10 A11 n11 c11 x12 x13 x14 x18 h) by kernel_rfl) H)
set_option maxRecDepth 100000 in
def f5.j4T (R : Value → Heap → Prop) (A0 : Option Addr) (n0 : Nat) (c0 : Nat) (x1 : Int) (x2 : Int) (A9 : Option Addr) (n9 : Nat) (c9 : Nat) (x10 : Int) (h : Heap) : Prop :=
  Run Try.prog 34 #[(Value.slice A0 n0 c0)] h fun v1_ h2_ => ∃ A3_, ∃ n3_, ∃ c3_, v1_ = (Value.slice A3_ n3_ c3_) ∧ Run Try.prog 35 #[(Value.slice A3_ n3_ c3_), (Value.int .i64 x2)] h2_ fun v4_ h5_ => ∃ b6_, v4_ = (Value.bool b6_) ∧ splitB b6_ (splitB (((n9 : Nat) : Int) == (0 : Int)) (R (Value.bool (x10 == (5 : Int))) h5_) (R (Value.bool false) h5_)) (splitB (((n3_ : Nat) : Int) == (100 : Int)) (splitB (((n9 : Nat) : Int) == (0 : Int)) (R (Value.bool (x10 == (6 : Int))) h5_) (R (Value.bool false) h5_)) (Run Try.prog 36 #[(Value.slice A0 n0 c0)] h5_ fun v7_ h8_ => ∃ A9_, ∃ n9_, ∃ c9_, v7_ = (Value.slice A9_ n9_ c9_) ∧ ptrOk A0 fun a10_ => 0 ≤ x1 ∧ x1 < ((n0 : Nat) : Int) ∧ (∃ v11_, ldv false 1 h8_ (Addr.add a10_ (Int.toNat x1 * 1)) = some v11_ ∧ ∃ A12_, ∃ n12_, ∃ c12_, v11_ = (Value.slice A12_ n12_ c12_) ∧ Run Try.prog 37 #[(Value.slice A12_ n12_ c12_)] h8_ fun v13_ h14_ => ∃ A15_, ∃ n15_, ∃ c15_, v13_ = (Value.slice A15_ n15_ c15_) ∧ newH h14_ (Obj.cells #[(Value.int .i64 x2)] 3) fun h16_ => AppW 3 1 8 #[(Value.int .i64 (0 : Int))] A15_ n15_ c15_ (Value.slice (some ⟨Array.size h14_, 0, none⟩) 1 1) h16_ fun v17_ h18_ => ∃ A19_, ∃ n19_, ∃ c19_, v17_ = (Value.slice A19_ n19_ c19_) ∧ ptrOk A9_ fun a20_ => 0 ≤ x1 ∧ x1 < ((n9_ : Nat) : Int) ∧ (∃ h21_, st1 h18_ (Addr.add a20_ (Int.toNat x1 * 1)) (Value.slice A19_ n19_ c19_) = some h21_ ∧ Run Try.prog 32 #[(Value.slice A9 n9 c9), (Value.slice A9_ n9_ c9_)] h21_ fun v22_ h23_ => ∃ b24_, v22_ = (Value.bool b24_) ∧ splitB b24_ (R (Value.bool (x10 == (0 : Int))) h23_) (R (Value.bool false) h23_)))))
set_option maxRecDepth 100000 in
theorem f5.j4_in {R : Value → Heap → Prop} {A0 : Option Addr} {n0 : Nat} {c0 : Nat} {x1 : Int} {x2 : Int} {A9 : Option Addr} {n9 : Nat} {c9 : Nat} {x10 : Int} {h : Heap} (H : f5.j4T R A0 n0 c0 x1 x2 A9 n9 c9 x10 h) : f5.j4 R A0 n0 c0 x1 x2 A9 n9 c9 x10 h :=
  pt_intro mixed f5.good (Eq.mpr (show (Fwd Try.prog f5.T f5.kp Try.f5 R [true, true, true, true, true, true, true, true, true, true, true, true, true, true, true] (mkFr [(0, (Value.slice A0 n0 c0)), (1, (Value.int .i64 x1)), (2, (Value.int .i64 x2)), (9, (Value.slice A9 n9 c9)), (10, (Value.int .i64 x10))]) h) = (f5.j4T R A0 n0 c0 x1 x2 A9 n9 c9 x10 h) by kernel_rfl) H)
set_option maxRecDepth 100000 in
def f5.runT (R : Value → Heap → Prop) (A0 : Option Addr) (n0 : Nat) (c0 : Nat) (x1 : Int) (x2 : Int) (A3 : Option Addr) (n3 : Nat) (c3 : Nat) (h : Heap) : Prop :=
  Run Try.prog 23 #[(Value.slice A0 n0 c0), (Value.int .i64 x1), (Value.int .i64 x2)] h fun v1_ h2_ => ∃ A3_, ∃ n3_, ∃ c3_, ∃ x4_, v1_ = (Value.tuple #[(Value.slice A3_ n3_ c3_), (Value.int .i64 x4_)]) ∧ Run Try.prog 24 #[(Value.slice A0 n0 c0), (Value.int .i64 x1)] h2_ fun v5_ h6_ => ∃ A7_, ∃ n7_, ∃ c7_, ∃ x8_, ∃ x9_, v5_ = (Value.tuple #[(Value.slice A7_ n7_ c7_), (Value.int .i64 x8_), (Value.int .i64 x9_)]) ∧ Run Try.prog 25 #[(Value.slice A0 n0 c0), (Value.int .i64 x1)] h6_ fun v10_ h11_ => ∃ x12_, v10_ = (Value.int .i64 x12_) ∧ Run Try.prog 26 #[(Value.slice A0 n0 c0), (Value.slice A3 n3 c3)] h11_ fun v13_ h14_ => ∃ A15_, ∃ n15_, ∃ c15_, ∃ A16_, ∃ n16_, ∃ c16_, ∃ x17_, v13_ = (Value.tuple #[(Value.slice A15_ n15_ c15_), (Value.slice A16_ n16_ c16_), (Value.int .i64 x17_)]) ∧ Run Try.prog 27 #[(Value.slice A0 n0 c0)] h14_ fun v18_ h19_ => ∃ x20_, v18_ = (Value.int .i64 x20_) ∧ Run Try.prog 28 #[(Value.slice A0 n0 c0)] h19_ fun v21_ h22_ => ∃ x23_, v21_ = (Value.int .i64 x23_) ∧ splitB (x23_ != x20_) (R (Value.bool false) h22_) (splitB (x20_ == (0 : Int)) (splitB (decide (((n3 : Nat) : Int) > (100 : Int))) (f5.j0 R A0 n0 c0 x1 x2 A3 n3 c3 A3_ n3_ c3_ x4_ A7_ n7_ c7_ x8_ x9_ x12_ A15_ n15_ c15_ A16_ n16_ c16_ x17_ x20_ (2 : Int) h22_) (f5.j0 R A0 n0 c0 x1 x2 A3 n3 c3 A3_ n3_ c3_ x4_ A7_ n7_ c7_ x8_ x9_ x12_ A15_ n15_ c15_ A16_ n16_ c16_ x17_ x20_ x20_ h22_)) (f5.j0 R A0 n0 c0 x1 x2 A3 n3 c3 A3_ n3_ c3_ x4_ A7_ n7_ c7_ x8_ x9_ x12_ A15_ n15_ c15_ A16_ n16_ c16_ x17_ x20_ x20_ h22_))
set_option maxRecDepth 100000 in
theorem f5.run {R : Value → Heap → Prop} {A0 : Option Addr} {n0 : Nat} {c0 : Nat} {x1 : Int} {x2 : Int} {A3 : Option Addr} {n3 : Nat} {c3 : Nat} {h : Heap} (H : f5.runT R A0 n0 c0 x1 x2 A3 n3 c3 h) : Run Try.prog 5 #[(Value.slice A0 n0 c0), (Value.int .i64 x1), (Value.int .i64 x2), (Value.slice A3 n3 c3)] h R :=
  run_of mixed Try.func5 (by kernel_rfl) (by kernel_rfl) f5.good (Eq.mpr (show (Fwd Try.prog f5.T f5.kp Try.f5 R [] (mkFr (argL [(Value.slice A0 n0 c0), (Value.int .i64 x1), (Value.int .i64 x2), (Value.slice A3 n3 c3)] 0)) h) = (f5.runT R A0 n0 c0 x1 x2 A3 n3 c3 h) by kernel_rfl) H)
end Go.Proofs.Ytdlihfedhojdgaa.Fw

end
section
namespace Go.Hw
open Go
section tests
variable {A B : Prop}
theorem split_dec {p : Prop} [Decidable p] (hA : p → A) (hB : ¬ p → B) : splitB (decide p) A B := by
  by_cases h : p
  · rw [decide_eq_true h]; exact hA h
  · rw [decide_eq_false h]; exact hB h
theorem split_not {b : Bool} (h : splitB b B A) : splitB (!b) A B := by cases b <;> exact h
theorem split_t (h : A) : splitB true A B := h
theorem split_f (h : B) : splitB false A B := h
end tests
theorem wrap_in {n : Int} (h0 : -9223372036854775808 ≤ n) (h1 : n ≤ 9223372036854775807) : IntKind.wrap .i64 n = n := by
  rcases Int.le_total 0 n with h | h
  · exact wrap_nat h h1
  · rcases (show n = 0 ∨ n < 0 by omega) with h2 | h2
    · subst h2; rfl
    have e : n % (2 ^ 64 : Int) = n + 2 ^ 64 := by omega
    simp only [IntKind.wrap, IntKind.signed, IntKind.bits, e, Bool.true_and]
    rw [if_pos (by simp only [decide_eq_true_eq]; omega)]
    omega
theorem add_add (a : Addr) (m n : Nat) : (a.add m).add n = a.add (m + n) := by
  unfold Addr.add
  by_cases h1 : m = 0
  · subst h1; simp
  · by_cases h2 : n = 0
    · subst h2; simp
    · have h3 : m + n ≠ 0 := by omega
      simp only [if_neg h1, if_neg h2, if_neg h3]
      rw [Nat.add_assoc]
theorem add_block (a : Addr) (n : Nat) : (a.add n).block = a.block := by unfold Addr.add; split <;> rfl
theorem add_off (a : Addr) (n : Nat) : (a.add n).off = a.off + n := by
  unfold Addr.add
  split
  · rename_i h; subst h; rfl
  · rfl
theorem add_spot {a : Addr} (n : Nat) (h : a.spot = none) : (a.add n).spot = none := by unfold Addr.add; split; exact h; rfl
def Blk (h : Heap) (b : Nat) (c : List Value) (t : TypeId) : Prop := h[b]? = some (.cells c.toArray t (0, 0))
def Only (h h' : Heap) (b : Nat) : Prop := h'.size = h.size ∧ ∀ i, i ≠ b → h'[i]? = h[i]?
section
variable {h h' : Heap} {b : Nat} {c : List Value} {t : TypeId}
theorem Blk.lt (hb : Blk h b c t) : b < h.size := (Array.getElem?_eq_some_iff.1 hb).1
theorem Blk.cell (hb : Blk h b c t) {a : Addr} {v : Value} (h1 : a.block = b) (h2 : a.spot = none) (h3 : c[a.off]? = some v) : cellH h a = some v := by
  unfold cellH Blk at *
  rw [h1, hb, h2]
  simpa using h3
theorem Blk.cells (hb : Blk h b c t) {a : Addr} (h1 : a.block = b) (h2 : a.spot = none) : ∀ (n i : Nat), a.off + i + n ≤ c.length → cellsH h a i n = some ((c.drop (a.off + i)).take n) := by
  intro n
  induction n with
  | zero => intro i _; simp [cellsH]
  | succ n ih =>
    intro i hle
    have hlt : a.off + i < c.length := by omega
    have h3 : c[(a.add i).off]? = some c[a.off + i] := by rw [add_off]; exact List.getElem?_eq_getElem hlt
    simp only [cellsH, hb.cell (a := a.add i) (by rw [add_block]; exact h1) (add_spot i h2) h3, ih (i + 1) (by omega)]
    rw [List.drop_eq_getElem_cons hlt, List.take_succ_cons]
    rfl
theorem Blk.st (hb : Blk h b c t) {a : Addr} {v : Value} (h1 : a.block = b) (h2 : a.spot = none) (h3 : a.off < c.length) (h4 : oneCell v True) :
    ∃ h', st1 h a v = some h' ∧ Blk h' b (c.set a.off v) t ∧ Only h h' b := by
  have hc : cellH h a = some c[a.off] := hb.cell h1 h2 (List.getElem?_eq_getElem h3)
  have hf : frozenH h a = false := by
    unfold frozenH
    rw [h1, show h[b]? = some (.cells c.toArray t (0, 0)) from hb]
    simp
  refine ⟨setH h a v, ?_, ?_, ?_⟩
  · cases v <;> simp_all [st1, oneCell]
  · unfold Blk setH
    rw [Array.getElem?_modify, if_pos h1.symm.symm, show h[b]? = some (.cells c.toArray t (0, 0)) from hb]
    simp [h2]
  · refine ⟨by simp [setH], fun i hi => ?_⟩
    unfold setH
    rw [Array.getElem?_modify, if_neg (by rw [h1]; exact fun e => hi e.symm)]
theorem Blk.new (h : Heap) (c : Array Value) (t : TypeId) : Blk (h.push (.cells c t)) h.size c.toList t := by
  unfold Blk; simp
theorem Ext.push (h : Heap) (o : Obj) : Ext h (h.push o) := ⟨by simp, fun i hi => by rw [Array.getElem?_push, if_neg (by omega)]⟩
theorem Only.refl (h : Heap) (b : Nat) : Only h h b := ⟨rfl, fun _ _ => rfl⟩
theorem Only.trans {h'' : Heap} {b : Nat} (o : Only h h' b) (p : Only h' h'' b) : Only h h'' b := ⟨p.1.trans o.1, fun i hi => (p.2 i hi).trans (o.2 i hi)⟩
end
def Rd {α : Type} (sz : Nat) (E : Heap → α → List Value → Prop) (h : Heap) (A : Option Addr) (l : List α) : Prop :=
  ∀ i (hi : i < l.length), ∃ a cs, A = some a ∧ cellsH h (a.add (i * sz)) 0 sz = some cs ∧ E h l[i] cs
def eInt (k : IntKind) (_ : Heap) (x : Int) (cs : List Value) : Prop := cs = [.int k x]
def eRow {α : Type} (sz : Nat) (E : Heap → α → List Value → Prop) (h : Heap) (l : List α) (cs : List Value) : Prop := ∃ A c, cs = [.slice A l.length c] ∧ l.length ≤ c ∧ Rd sz E h A l
section
variable {α : Type} {sz : Nat} {E : Heap → α → List Value → Prop} {h h' : Heap} {A : Option Addr} {l : List α}
theorem Rd.nil : Rd sz E h A ([] : List α) := fun i hi => by cases hi
end
theorem newH_in {h : Heap} {c : Array Value} {t : TypeId} {K : Heap → Prop} (H : ∀ h', Blk h' h.size c.toList t → Ext h h' → h'.size = h.size + 1 → K h') : newH h (.cells c t) K :=
  H _ (Blk.new _ _ _) (Ext.push _ _) (by simp)
def idxOf {α : Type} (p : α → Bool) (l : List α) : Int := match l.findIdx? p with | some i => i | none => -1
theorem idxOf_ge {α : Type} (p : α → Bool) (l : List α) : decide (idxOf p l ≥ 0) = l.any p := by
  unfold idxOf
  cases h : l.findIdx? p with
  | none =>
    rw [List.findIdx?_eq_none_iff] at h
    have : l.any p = false := by simpa using h
    simp [this]
  | some i =>
    have hs : (l.findIdx? p).isSome = true := by rw [h]; rfl
    rw [List.findIdx?_isSome] at hs
    simp [hs]
end Go.Hw

end
section
namespace Go.Hw
open Go Go.RowKit
theorem below_of {W W' : World} (e : Ext W.heap W'.heap) (s : Same W W') : Below W.heap.size W W' := ⟨s.os, s.tape, s.output, e.1, e.2⟩
section
variable {H : Type} {enc : TypeId × Value → H} {P : Program} {W : World}
theorem cells_of {base : Nat} {a : Addr} {n : Nat} {cs : List Value} (hc : W.cells? base a n = some cs) : cellsH W.heap a 0 n = some cs := by
  obtain ⟨_, hlen, hget⟩ := World.cells?_some hc
  have key : ∀ (m i : Nat), i + m = n → cellsH W.heap a i m = some (cs.drop i) := by
    intro m
    induction m with
    | zero =>
      intro i hi
      rw [List.drop_eq_nil_of_le (by omega)]
      rfl
    | succ m ih =>
      intro i hi
      have hlt : i < cs.length := by omega
      have h1 : cellH W.heap (a.add i) = some cs[i] := (hget i (by omega)).trans (List.getElem?_eq_getElem hlt)
      simp only [cellsH, h1, ih (i + 1) (by omega)]
      rw [List.drop_eq_getElem_cons hlt]
  simpa using key n 0 (by omega)
def Tells {α : Type} (enc : TypeId × Value → H) (P : Program) (W : World) (t : TypeId) (E : Heap → α → List Value → Prop) (Q : α → Prop) : Prop :=
  ∀ (fuel : Nat) (cs : List Value) (x : DataW H × List MemPlace), DataW.trod enc P W 0 (fun _ => true) true fuel t cs = some x → (x.1.weights P t).all (· ≤ reachBytes) = true → ∃ a, E W.heap a cs ∧ Q a
theorem tells_int {t : TypeId} {k : IntKind} (hu : P.underlying t = some (.int k)) : Tells enc P W t (eInt k) (fun x => (Lit.int k x).wf = true) := by
  intro fuel cs x h _
  obtain ⟨n, h1, _, h3⟩ := DataW.trod_int hu h
  exact ⟨n, h1, h3⟩
def eBool (_ : Heap) (x : Bool) (cs : List Value) : Prop := cs = [.bool x]
theorem weightsAll_all {e : TypeId} : ∀ (l : List (DataW H)), (DataW.weightsAll P e l).all (· ≤ reachBytes) = true → ∀ d ∈ l, (d.weights P e).all (· ≤ reachBytes) = true := by
  intro l
  induction l with
  | nil => intro _ d hd; cases hd
  | cons x l ih =>
    intro h d hd
    simp only [DataW.weightsAll, List.all_append, Bool.and_eq_true] at h
    rcases List.mem_cons.1 hd with rfl | hd
    · exact h.1
    · exact ih h.2 d hd
theorem list_choose {α : Type} {n : Nat} {p : Nat → α → Prop} (h : ∀ i, i < n → ∃ x, p i x) : ∃ l : List α, l.length = n ∧ ∀ i (hi : i < l.length), p i l[i] := by
  induction n with
  | zero => exact ⟨[], rfl, fun i hi => by cases hi⟩
  | succ n ih =>
    obtain ⟨l, h1, h2⟩ := ih fun i hi => h i (by omega)
    obtain ⟨x, hx⟩ := h n (by omega)
    refine ⟨l ++ [x], by simp [h1], fun i hi => ?_⟩
    rw [List.length_append, List.length_singleton] at hi
    by_cases hin : i < l.length
    · rw [List.getElem_append_left hin]; exact h2 i hin
    · have : i = l.length := by omega
      subst this
      rw [List.getElem_append_right (Nat.le_refl _)]
      simp only [Nat.sub_self, List.getElem_cons_zero]
      rw [h1]; exact hx
theorem tells_slice {α : Type} {t e : TypeId} {sz B : Nat} {E : Heap → α → List Value → Prop} {Q : α → Prop} (hu : P.underlying t = some (.slice e)) (hc : P.cellsOf e = sz) (hB : P.bytesOf e = B) (he : Tells enc P W e E Q) :
    Tells enc P W t (eRow sz E) (fun l => l.length * B ≤ reachBytes ∧ ∀ a ∈ l, Q a) := by
  intro fuel cs x h hw
  rcases DataW.trod_slice hu h with ⟨h1, h2⟩ | ⟨a, len, cap, elems, rest, n, _, h1, h2, _, hl, hm, hlen, hel, _, _⟩
  · exact ⟨[], ⟨none, 0, h1, Nat.le_refl _, Rd.nil⟩, by simp, fun a ha => by cases ha⟩
  · rw [h2] at hw
    simp only [DataW.weights, hu, List.all_cons, List.all_append, Bool.and_eq_true, decide_eq_true_eq] at hw
    obtain ⟨hw1, hw2, _⟩ := hw
    have hall := weightsAll_all _ hw2
    obtain ⟨l, h3, h4⟩ := list_choose (n := len) (p := fun i x => (∃ cs', cellsH W.heap (a.add (i * sz)) 0 sz = some cs' ∧ E W.heap x cs') ∧ Q x) (fun i hi => by
      have h5 := hel i hi
      have hlt : i < elems.length := by omega
      rw [List.getElem?_eq_getElem hlt] at h5
      obtain ⟨cs', h6, h7⟩ := Option.bind_eq_some_iff.1 h5
      obtain ⟨x, h8, h9⟩ := he _ _ _ h7 (hall _ (List.mem_map.2 ⟨_, List.getElem_mem hlt, rfl⟩))
      rw [hc] at h6
      exact ⟨x, ⟨cs', cells_of h6, h8⟩, h9⟩)
    refine ⟨l, ⟨some a, cap, by rw [h1, h3], by omega, fun i hi => ?_⟩, ?_, fun x hx => ?_⟩
    · obtain ⟨⟨cs', h5, h6⟩, _⟩ := h4 i hi
      exact ⟨a, cs', rfl, h5, h6⟩
    · rw [hB] at hw1
      have : l.length ≤ (List.map (·.1) elems).length + (List.map (·.1) rest).length := by simp; omega
      exact Nat.le_trans (Nat.mul_le_mul_right _ this) hw1
    · obtain ⟨i, hi, rfl⟩ := List.getElem_of_mem hx
      exact (h4 i hi).2
end
theorem wf_i64 {x : Int} (h : (Lit.int .i64 x).wf = true) : -9223372036854775808 ≤ x ∧ x ≤ 9223372036854775807 := by
  simpa [Lit.wf, IntKind.min, IntKind.max, IntKind.signed, IntKind.bits] using h
end Go.Hw

end
section
namespace Go.Hw
open Go
theorem cellsH_length {h : Heap} {a : Addr} : ∀ {n i : Nat} {cs : List Value}, cellsH h a i n = some cs → cs.length = n := by
  intro n
  induction n with
  | zero => intro i cs hc; simp only [cellsH, Option.some.injEq] at hc; subst hc; rfl
  | succ n ih =>
    intro i cs hc
    simp only [cellsH] at hc
    split at hc
    · split at hc
      · rename_i vs hv; cases hc; simp [ih hv]
      · cases hc
    · cases hc
def Flat (v : Value) : Prop := oneCell v True
theorem Blk.stH {b : Nat} {t : TypeId} : ∀ (xs : List Value) {h : Heap} {p q r : List Value} {a : Addr} {i : Nat}, Blk h b (p ++ q ++ r) t → a.block = b → a.spot = none → a.off + i = p.length → q.length = xs.length → (∀ v ∈ xs, Flat v) →
    ∃ h', stH h a xs i = some h' ∧ Blk h' b (p ++ xs ++ r) t ∧ Only h h' b := by
  intro xs
  induction xs with
  | nil =>
    intro h p q r a i hb h1 h2 h3 h4 h5
    rw [List.length_eq_zero_iff.1 h4] at hb
    exact ⟨h, rfl, hb, .refl _ _⟩
  | cons v xs ih =>
    intro h p q r a i hb h1 h2 h3 h4 h5
    obtain ⟨u, q', rfl⟩ : ∃ u q', q = u :: q' := by cases q with | nil => cases h4 | cons u q' => exact ⟨u, q', rfl⟩
    have hoff : (a.add i).off = p.length := by rw [add_off, h3]
    obtain ⟨h', s1, b1, o1⟩ := hb.st (a := a.add i) (v := v) (by rw [add_block, h1]) (add_spot _ h2) (by rw [hoff]; simp) (h5 v (List.mem_cons_self ..))
    rw [hoff] at b1
    have e : (p ++ u :: q' ++ r).set p.length v = (p ++ [v]) ++ q' ++ r := by
      rw [List.append_assoc, List.set_append_right _ _ (Nat.le_refl _)]; simp
    rw [e] at b1
    obtain ⟨h'', s2, b2, o2⟩ := ih (p := p ++ [v]) (q := q') (r := r) (a := a) (i := i + 1) b1 h1 h2 (by simp; omega) (by simpa using h4) (fun x hx => h5 x (List.mem_cons_of_mem _ hx))
    refine ⟨h'', ?_, by simpa using b2, o1.trans o2⟩
    simp only [Go.Hw.stH, s1, s2]
theorem zcells_size (z : Array Value) (n : Nat) : (zcells z n).size = n * z.size := by
  unfold zcells Builtin.zeroCells
  simp
end Go.Hw

end
section
namespace Go.Hw
open Go Go.RowKit
theorem cellsH_get {h : Heap} {a : Addr} : ∀ {n i : Nat} {cs : List Value} {k : Nat} {v : Value}, cellsH h a i n = some cs → cs[k]? = some v → cellH h (a.add (i + k)) = some v := by
  intro n
  induction n with
  | zero => intro i cs k v hc hv; simp only [cellsH, Option.some.injEq] at hc; subst hc; cases hv
  | succ n ih =>
    intro i cs k v hc hv
    simp only [cellsH] at hc
    split at hc
    · rename_i u hu
      split at hc
      · rename_i vs hvs
        cases hc
        cases k with
        | zero => cases hv; exact hu
        | succ k => rw [show i + (k + 1) = i + 1 + k by omega]; exact ih hvs (by simpa using hv)
      · cases hc
    · cases hc
section
variable {α : Type} {sz : Nat} {E : Heap → α → List Value → Prop} {h h' : Heap} {A : Option Addr} {l : List α}
theorem cellsH_append {h : Heap} {a : Addr} : ∀ {m i n : Nat} {cs ds : List Value}, cellsH h a i m = some cs → cellsH h a (i + m) n = some ds → cellsH h a i (m + n) = some (cs ++ ds) := by
  intro m
  induction m with
  | zero => intro i n cs ds h1 h2; simp only [cellsH, Option.some.injEq] at h1; subst h1; simpa using h2
  | succ m ih =>
    intro i n cs ds h1 h2
    simp only [cellsH] at h1
    split at h1
    · rename_i u hu
      split at h1
      · rename_i vs hvs
        cases h1
        rw [show m + 1 + n = (m + n) + 1 by omega]
        have h3 := ih hvs (n := n) (ds := ds) (by rw [show i + 1 + m = i + (m + 1) by omega]; exact h2)
        simp only [cellsH, hu, h3, List.cons_append]
      · cases h1
    · cases h1
theorem cellsH_shift {h : Heap} {a : Addr} {j : Nat} : ∀ {n i : Nat}, cellsH h (a.add j) i n = cellsH h a (j + i) n := by
  intro n
  induction n with
  | zero => intro i; rfl
  | succ n ih =>
    intro i
    simp only [cellsH, add_add]
    rw [ih, Nat.add_assoc]
end
def EqF (P : Program) (d : Nat) (t : TypeId) (x y : Value) (b : Bool) : Prop := ∀ h (K : Bool → Heap → Prop), K b h → Hwp P (Op.equalIn d t x y) h K
section
variable {P : Program} {d : Nat} {t : TypeId}
theorem eqf_int {k k1 : IntKind} {a b : Int} (hu : P.underlying t = some (.int k1)) : EqF P (d + 1) t (.int k a) (.int k b) (a == b) := by
  intro h K hk
  unfold Op.equalIn
  refine hwp_bind (hwp_underlying hu ?_)
  simp only [if_true]
  exact hk
theorem eqf_bool {a b : Bool} (hu : P.underlying t = some .bool) : EqF P (d + 1) t (.bool a) (.bool b) (a == b) := by
  intro h K hk
  unfold Op.equalIn
  refine hwp_bind (hwp_underlying hu ?_)
  exact hk
theorem eqf_str {a b : ByteArray} (hu : P.underlying t = some .string) : EqF P (d + 1) t (.string a) (.string b) (a == b) := by
  intro h K hk
  unfold Op.equalIn
  refine hwp_bind (hwp_underlying hu ?_)
  exact hk
theorem hwp_part_flat {cs : Array Value} {off : Nat} {v : Value} {h : Heap} {D : TypeDesc} {K : Value → Heap → Prop} (hu : P.underlying t = some D) (hd : isAggD D = false) (hv : cs[off]? = some v) (hk : K v h) : Hwp P (part t cs off) h K := by
  unfold part
  refine hwp_bind (hwp_isAgg hu ?_)
  rw [hd]
  simp only [Bool.false_eq_true, if_false, hv]
  exact hk
def flatB (P : Program) (t : TypeId) (x y : Value) : Option Bool :=
  match P.underlying t, x, y with
  | some (.int _), .int k a, .int k' b => match kindB k k' with | true => some (a == b) | false => none
  | some .bool, .bool a, .bool b => some (a == b)
  | some .string, .string a, .string b => some (a == b)
  | _, _, _ => none
def flatsB (P : Program) (xs ys : Array Value) : List Field → Option Bool
  | [] => some true
  | f :: fs => match decide (f.name ≠ "_") with
    | false => flatsB P xs ys fs
    | true => match xs[f.offset]?, ys[f.offset]? with
      | some x, some y => match flatB P f.type x y with
        | some b => match flatsB P xs ys fs with
          | some c => some (b && c)
          | none => none
        | none => none
      | _, _ => none
def arrB (P : Program) (e : TypeId) (s : Nat) (xs ys : Array Value) : List Nat → Option Bool
  | [] => some true
  | i :: r => match xs[i * s]?, ys[i * s]? with
    | some x, some y => match flatB P e x y with
      | some b => match arrB P e s xs ys r with
        | some c => some (b && c)
        | none => none
      | none => none
    | _, _ => none
def aggB (P : Program) (t : TypeId) (xs ys : Array Value) : Option Bool :=
  match P.eqGuardType P.depth t, P.stoodInHeld t, P.underlying t with
  | false, false, some (.struct fs) => flatsB P xs ys fs.toList
  | false, _, some (.array n e) => match P.info? e with | some i => arrB P e i.size xs ys (List.range' 0 n) | none => none
  | _, _, _ => none
theorem flatB_spec {x y : Value} {b : Bool} (hb : flatB P t x y = some b) : EqF P (d + 1) t x y b ∧ ∃ D, P.underlying t = some D ∧ isAggD D = false := by
  unfold flatB at hb
  split at hb
  · rename_i k1 k a k' b' hu
    split at hb
    · rename_i hk
      cases hb
      have : k = k' := kindB_spec hk
      subst this
      exact ⟨eqf_int hu, _, hu, rfl⟩
    · cases hb
  · rename_i a b' hu; cases hb; exact ⟨eqf_bool hu, _, hu, rfl⟩
  · rename_i a b' hu; cases hb; exact ⟨eqf_str hu, _, hu, rfl⟩
  · cases hb
theorem eqf_struct {fs : Array Field} {xs ys : Array Value} {b : Bool} (hu : P.underlying t = some (.struct fs)) (hp : P.stoodInHeld t = false) (hb : flatsB P xs ys fs.toList = some b) : EqF P (d + 2) t (.agg xs) (.agg ys) b := by
  intro h K hk
  unfold Op.equalIn
  refine hwp_bind (hwp_underlying hu ?_)
  refine hwp_bind (hwp_program ?_)
  rw [hp]
  simp only [Bool.false_eq_true, if_false]
  rw [← Array.forIn_toList]
  clear hu
  generalize fs.toList = l at *
  refine hwp_bind ?_
  induction l generalizing b with
  | nil => cases hb; exact hk
  | cons f l ih =>
    rw [List.forIn_cons]
    unfold flatsB at hb
    by_cases hn : f.name ≠ "_"
    · rw [decide_eq_true hn] at hb
      rw [if_pos hn]
      simp only at hb
      split at hb
      · rename_i x y hx hy
        split at hb
        · rename_i b1 h1
          split at hb
          · rename_i c hc
            cases hb
            obtain ⟨he, D, hD, hDa⟩ := flatB_spec (d := d) h1
            refine hwp_bind (hwp_bind (hwp_part_flat hD hDa hx (hwp_bind (hwp_part_flat hD hDa hy (hwp_bind (he _ _ ?_))))))
            cases b1 with
            | false => exact hk
            | true => exact ih hk hc
          · cases hb
        · cases hb
      · cases hb
    · rw [decide_eq_false hn] at hb
      rw [if_neg hn]
      exact hwp_bind (hwp_pure (P := P) (ih hk hb))
theorem eqf_array {n : Nat} {e : TypeId} {i : TypeInfo} {xs ys : Array Value} {b : Bool} (hu : P.underlying t = some (.array n e)) (hi : P.info? e = some i) (hb : arrB P e i.size xs ys (List.range' 0 n) = some b) : EqF P (d + 2) t (.agg xs) (.agg ys) b := by
  intro h K hk
  unfold Op.equalIn
  refine hwp_bind (hwp_underlying hu ?_)
  refine hwp_bind (hwp_sizeOf hi ?_)
  simp only [Std.Legacy.Range.forIn_eq_forIn_range', Std.Legacy.Range.size, Nat.sub_zero, Nat.add_sub_cancel, Nat.div_one]
  clear hu
  generalize List.range' 0 n = l at *
  refine hwp_bind ?_
  induction l generalizing b with
  | nil => cases hb; exact hk
  | cons f l ih =>
    rw [List.forIn_cons]
    unfold arrB at hb
    split at hb
    · rename_i x y hx hy
      split at hb
      · rename_i b1 h1
        split at hb
        · rename_i c hc
          cases hb
          obtain ⟨he, D, hD, hDa⟩ := flatB_spec (d := d) h1
          refine hwp_bind (hwp_bind (hwp_part_flat hD hDa hx (hwp_bind (hwp_part_flat hD hDa hy (hwp_bind (he _ _ ?_))))))
          cases b1 with
          | false => exact hk
          | true => exact ih hk hc
        · cases hb
      · cases hb
    · cases hb
theorem equal_agg {xs ys : Array Value} {b : Bool} {h : Heap} {K : Bool → Heap → Prop} (hb : aggB P t xs ys = some b) (hk : K b h) : Hwp P (Op.equal t (.agg xs) (.agg ys)) h K := by
  unfold aggB at hb
  split at hb
  · rename_i fs h1 h2 hu
    exact eqf_struct (d := 9998) hu h2 hb h K hk
  · rename_i n e h1 hu
    split at hb
    · rename_i i hi
      exact eqf_array (d := 9998) hu hi hb h K hk
    · cases hb
  · cases hb
theorem guard_agg {xs ys : Array Value} {b : Bool} {h : Heap} {op : BinOp} {xo yo : Operand} {K : Unit → Heap → Prop} (hb : aggB P t xs ys = some b) (hk : K () h) : Hwp P (eqGuard op t xo yo (.agg xs) (.agg ys)) h K := by
  have h1 : P.eqGuardType P.depth t = false := by
    unfold aggB at hb
    split at hb
    · assumption
    · assumption
    · cases hb
  cases op <;> first | exact hk | (unfold eqGuard; refine hwp_bind (hwp_program (hwp_bind (hwp_program ?_))); rw [h1]; exact hk)
theorem gen_neq {xs ys : Array Value} {b : Bool} {h : Heap} {xo yo : Operand} {K : Value → Heap → Prop} (hb : aggB P t xs ys = some b) (hk : K (.bool (!b)) h) :
    Gen P (do eqGuard .neq t xo yo (.agg xs) (.agg ys); binOp .neq t (.agg xs) (.agg ys)) h K := hwp_bind (guard_agg hb (hwp_bind (equal_agg hb hk)))
end
section
variable {H : Type} {enc : TypeId × Value → H} {P : Program} {W : World}
theorem tells_map {α β : Type} {E : Heap → α → List Value → Prop} {F : Heap → β → List Value → Prop} {Q : α → Prop} {Q' : β → Prop} {t : TypeId} (he : Tells enc P W t E Q) (hm : ∀ a cs, E W.heap a cs → Q a → ∃ b, F W.heap b cs ∧ Q' b) : Tells enc P W t F Q' :=
  fun fuel cs x h hw => let ⟨a, ha, qa⟩ := he fuel cs x h hw; hm a cs ha qa
end
end Go.Hw

end
section
namespace Go.Hw
open Go
def Brn (e : List MapEntry) (c : Nat) : Prop := (e.map (·.born)).Pairwise (· < ·) ∧ ∀ x ∈ e, x.born < c
def MapB {α : Type} (kv : α → Value) (h : Heap) (m : Nat) (es : List (α × Value)) : Prop :=
  ∃ (e : Array MapEntry) (clock : Nat), h[m]? = some (.map e clock) ∧ e.toList.map (fun x => (x.key, x.val)) = (es.map fun x => (kv x.1, x.2)) ∧ Brn e.toList clock
theorem Brn.push {e : List MapEntry} {c : Nat} (h : Brn e c) (k v : Value) : Brn (e ++ [{ key := k, val := v, born := c }]) (c + 1) := by
  refine ⟨?_, fun x hx => ?_⟩
  · rw [List.map_append, List.pairwise_append]
    refine ⟨h.1, List.pairwise_singleton .., fun a ha b hb => ?_⟩
    simp only [List.map_cons, List.map_nil, List.mem_singleton] at hb
    obtain ⟨x, hx, rfl⟩ := List.mem_map.1 ha
    rw [hb]; exact h.2 x hx
  · rcases List.mem_append.1 hx with hx | hx
    · have := h.2 x hx; omega
    · rw [List.mem_singleton.1 hx]; exact Nat.lt_succ_self c
theorem Brn.mod {e : List MapEntry} {c : Nat} (h : Brn e c) (i : Nat) (k v : Value) : Brn (e.modify i fun x => { x with key := k, val := v }) c := by
  have hm : (e.modify i fun x => { x with key := k, val := v }).map (·.born) = e.map (·.born) := by
    induction e generalizing i with
    | nil => simp
    | cons x e ih =>
      cases i with
      | zero => simp
      | succ i =>
        rw [List.modify_succ_cons, List.map_cons, List.map_cons, ih ⟨(List.pairwise_cons.1 h.1).2, fun x hx => h.2 x (List.mem_cons_of_mem _ hx)⟩]
  refine ⟨by rw [hm]; exact h.1, fun x hx => ?_⟩
  have : x.born ∈ (e.modify i fun x => { x with key := k, val := v }).map (·.born) := List.mem_map.2 ⟨x, hx, rfl⟩
  rw [hm] at this
  obtain ⟨y, hy, e1⟩ := List.mem_map.1 this
  rw [← e1]; exact h.2 y hy
section
variable {α : Type} {kv : α → Value} {h h' : Heap} {m : Nat} {es : List (α × Value)}
theorem MapB.lt (hb : MapB kv h m es) : m < h.size := by
  obtain ⟨e, c, h1, _⟩ := hb
  exact (Array.getElem?_eq_some_iff.1 h1).1
variable {P : Program} {t : TypeId}
theorem gen_makeMap {K : Value → Heap → Prop} (hk : ∀ h', MapB kv h' h.size [] → Ext h h' → h'.size = h.size + 1 → K (.map (some h.size)) h') : Gen P (Instr.makeMap t none) h K :=
  hk _ ⟨#[], 0, by simp, rfl, .nil, fun x hx => by cases hx⟩ (Ext.push _ _) (by simp)
theorem hwp_getObj {r : Nat} {o : Obj} {K : Obj → Heap → Prop} (h1 : h[r]? = some o) (h2 : ∀ c e f, o ≠ .cells c e f) (hk : K o h) : Hwp P (getObj r) h K := ⟨o, h1, h2, hk⟩
theorem hwp_setObj {r : Nat} {o o' : Obj} {K : Unit → Heap → Prop} (h1 : h[r]? = some o') (h2 : ∀ c e f, o' ≠ .cells c e f) (hk : K () (h.setIfInBounds r o)) : Hwp P (setObj r o) h K := ⟨o', h1, h2, hk⟩
def mget {α : Type} [DecidableEq α] (es : List (α × Value)) (k : α) : Option Value := (es.find? fun x => decide (k = x.1)).map (·.2)
structure KeyOk (P : Program) (t : TypeId) {α : Type} [DecidableEq α] (kv : α → Value) (elem : TypeId) : Prop where
  key : ∃ key kind, P.underlying t = some (.map key elem) ∧ P.underlying key = some kind ∧ (∀ b n v h K, K () h → Hwp P (Instr.checkKey b (n + 1) key (kv v)) h K) ∧ ∀ a b, Instr.sameNow kind (kv a) (kv b) = some (decide (a = b))
  same : ∀ a, Instr.sameBits 10000 (kv a) (kv a) = true
variable [DecidableEq α]
theorem findNow_spec {kind : TypeDesc} (hs : ∀ a b, Instr.sameNow kind (kv a) (kv b) = some (decide (a = b))) (k : α) : ∀ (l : List MapEntry) (es : List (α × Value)) (i : Nat), l.map (fun x => (x.key, x.val)) = es.map (fun x => (kv x.1, x.2)) →
    ∃ r, Instr.findNow kind (kv k) l i = some r ∧ r.map (·.2) = mget es k ∧ (∀ j v, r = some (j, v) → i ≤ j ∧ ∃ x, es[j - i]? = some (k, x) ∧ ∀ q, q < j - i → ∀ y, es[q]? = some y → y.1 ≠ k) := by
  intro l
  induction l with
  | nil =>
    intro es i he
    cases es with
    | nil => exact ⟨none, rfl, rfl, fun j v h => by cases h⟩
    | cons x es => cases he
  | cons e l ih =>
    intro es i he
    cases es with
    | nil => cases he
    | cons x es =>
      simp only [List.map_cons, List.cons.injEq, Prod.mk.injEq] at he
      obtain ⟨⟨hkey, hval⟩, he⟩ := he
      unfold Instr.findNow
      rw [hkey, hs]
      by_cases hkx : k = x.1
      · rw [decide_eq_true hkx]
        refine ⟨_, rfl, ?_, fun j v h => ?_⟩
        · unfold mget
          rw [List.find?_cons_of_pos (by simpa using hkx)]
          simp [hval]
        · cases h
          refine ⟨Nat.le_refl _, x.2, ?_, fun q hq => by omega⟩
          simp [hkx]
      · rw [decide_eq_false hkx]
        obtain ⟨r, h1, h2, h3⟩ := ih es (i + 1) he
        refine ⟨r, h1, ?_, fun j v h => ?_⟩
        · rw [h2]; unfold mget
          rw [List.find?_cons_of_neg (by simpa using hkx)]
        · obtain ⟨h4, y, h5, h6⟩ := h3 j v h
          refine ⟨by omega, y, ?_, fun q hq z hz => ?_⟩
          · rw [show j - i = (j - (i + 1)) + 1 by omega]; simpa using h5
          · cases q with
            | zero => simp at hz; subst hz; exact fun hh => hkx hh.symm
            | succ q => exact h6 q (by omega) z (by simpa using hz)
theorem gen_lookup {elem : TypeId} {z : Value} (ok : KeyOk P t kv elem) (hb : MapB kv h m es) (k : α) (hz : zeroOf P elem = some z) {K : Value → Heap → Prop} (hk : K ((mget es k).getD z) h) : Gen P (Instr.lookup t (.map (some m)) (kv k) false) h K := by
  obtain ⟨key, kind, hu, hkind, hck, hs⟩ := ok.key
  obtain ⟨e, clock, h1, h2, hB⟩ := hb
  unfold Gen Instr.lookup
  refine hwp_bind (hwp_underlying hu ?_)
  refine hwp_bind (hwp_getObj h1 (fun _ _ _ hh => by cases hh) ?_)
  refine hwp_bind (hwp_pure (P := P) ?_)
  refine hwp_bind (hck _ _ _ _ _ ?_)
  unfold Instr.findKey
  refine hwp_bind (hwp_bind (hwp_underlying hkind ?_))
  obtain ⟨r, h3, h4, _⟩ := findNow_spec hs k e.toList es 0 h2
  rw [h3]
  cases r with
  | none =>
    have : mget es k = none := by rw [← h4]; rfl
    rw [this] at hk
    exact hwp_pure (P := P) (hwp_bind (hwp_zero hz (hwp_pure (P := P) (hwp_pure (P := P) hk))))
  | some iv =>
    have : mget es k = some iv.2 := by rw [← h4]; rfl
    rw [this] at hk
    exact hwp_pure (P := P) (hwp_pure (P := P) (hwp_pure (P := P) hk))
def mset : List (α × Value) → α → Value → List (α × Value)
  | [], k, v => [(k, v)]
  | x :: es, k, v => if k = x.1 then (k, v) :: es else x :: mset es k v
theorem findNow_set {kind : TypeDesc} (hs : ∀ a b, Instr.sameNow kind (kv a) (kv b) = some (decide (a = b))) (k : α) (v : Value) : ∀ (l : List MapEntry) (es : List (α × Value)) (i : Nat), l.map (fun x => (x.key, x.val)) = es.map (fun x => (kv x.1, x.2)) →
    ∃ r, Instr.findNow kind (kv k) l i = some r ∧ match r with
      | none => mset es k v = es ++ [(k, v)]
      | some (j, _) => i ≤ j ∧ (∃ e, l[j - i]? = some e ∧ e.key = kv k) ∧ (l.modify (j - i) fun e => { e with key := kv k, val := v }).map (fun x => (x.key, x.val)) = (mset es k v).map (fun x => (kv x.1, x.2)) := by
  intro l
  induction l with
  | nil =>
    intro es i he
    cases es with
    | nil => exact ⟨none, rfl, rfl⟩
    | cons x es => cases he
  | cons e l ih =>
    intro es i he
    cases es with
    | nil => cases he
    | cons x es =>
      simp only [List.map_cons, List.cons.injEq, Prod.mk.injEq] at he
      obtain ⟨⟨hkey, hval⟩, he⟩ := he
      unfold Instr.findNow
      rw [hkey, hs]
      by_cases hkx : k = x.1
      · rw [decide_eq_true hkx]
        refine ⟨_, rfl, Nat.le_refl _, ⟨e, by simp, by rw [hkey, hkx]⟩, ?_⟩
        unfold mset
        rw [if_pos hkx, Nat.sub_self]
        simp [he]
      · rw [decide_eq_false hkx]
        obtain ⟨r, h1, h2⟩ := ih es (i + 1) he
        refine ⟨r, h1, ?_⟩
        unfold mset
        rw [if_neg hkx]
        cases r with
        | none => simp only at h2 ⊢; rw [h2]; rfl
        | some jv =>
          simp only at h2 ⊢
          obtain ⟨h3, ⟨e', h4, h5⟩, h6⟩ := h2
          have e1 : jv.1 - i = (jv.1 - (i + 1)) + 1 := by omega
          refine ⟨by omega, ⟨e', by rw [e1]; simpa using h4, h5⟩, ?_⟩
          rw [e1, List.modify_succ_cons, List.map_cons, List.map_cons, h6, hkey, hval]
theorem gen_mapUpdate {elem : TypeId} (ok : KeyOk P t kv elem) (hb : MapB kv h m es) (k : α) (v : Value) {K : Unit → Heap → Prop} (hk : ∀ h', MapB kv h' m (mset es k v) → Only h h' m → K () h') : Hwp P (Instr.mapUpdate t (.map (some m)) (kv k) v) h K := by
  have hlt := hb.lt
  obtain ⟨key, kind, hu, hkind, hck, hs⟩ := ok.key
  obtain ⟨e, clock, h1, h2, hB⟩ := hb
  have only : ∀ o, Only h (h.setIfInBounds m o) m := fun o => ⟨by simp, fun i hi => by rw [Array.getElem?_setIfInBounds, if_neg (fun hh => hi hh.symm)]⟩
  have at' : ∀ o, (h.setIfInBounds m o)[m]? = some o := fun o => by rw [Array.getElem?_setIfInBounds, if_pos rfl, if_pos hlt]
  unfold Instr.mapUpdate
  refine hwp_bind (hwp_underlying hu ?_)
  refine hwp_bind (hwp_getObj h1 (fun _ _ _ hh => by cases hh) ?_)
  refine hwp_bind (hck _ _ _ _ _ ?_)
  unfold Instr.findKey
  refine hwp_bind (hwp_bind (hwp_underlying hkind ?_))
  obtain ⟨r, h3, h4⟩ := findNow_set hs k v e.toList es 0 h2
  rw [h3]
  cases r with
  | none =>
    simp only at h4
    refine hwp_pure (P := P) (hwp_setObj h1 (fun _ _ _ hh => by cases hh) (hk _ ⟨_, _, at' _, ?_, ?_⟩ (only _)))
    · rw [h4, Array.toList_push, List.map_append, List.map_append, h2]; rfl
    · rw [Array.toList_push]; exact hB.push _ _
  | some jv =>
    obtain ⟨j, x⟩ := jv
    simp only at h4
    obtain ⟨_, ⟨e', h5, h6⟩, h7⟩ := h4
    refine hwp_pure (P := P) ?_
    have hkey : ((e[j]?).map (·.key)).getD (kv k) = kv k := by
      have : e[j]? = some e' := by simpa using h5
      rw [this]; exact h6
    show Hwp P (Instr.keyThatStays (((e[j]?).map (·.key)).getD (kv k)) (kv k) >>= _) h K
    rw [hkey]
    refine hwp_bind ?_
    unfold Instr.keyThatStays
    rw [ok.same, if_pos rfl]
    refine hwp_pure (P := P) (hwp_setObj h1 (fun _ _ _ hh => by cases hh) (hk _ ⟨_, _, at' _, ?_, ?_⟩ (only _)))
    · rw [Array.toList_modify]
      exact h7
    · rw [Array.toList_modify]; exact hB.mod _ _ _
end
section
variable {P : Program} {t : TypeId}
theorem keyOk_int {key elem : TypeId} {k : IntKind} (hu : P.underlying t = some (.map key elem)) (hk : P.underlying key = some (.int k)) : KeyOk P t (fun n : Int => Value.int k n) elem where
  key := ⟨key, .int k, hu, hk, fun b n v h K hh => by
      unfold Instr.checkKey
      exact hwp_bind (hwp_underlying hk hh), fun a b => by
      show (if k = k then some (a == b) else none) = _
      rw [if_pos rfl]
      by_cases h : a = b
      · rw [decide_eq_true h, h]; simp
      · rw [decide_eq_false h]; simp [h]⟩
  same := fun a => by simp [Instr.sameBits]
end
end Go.Hw

end
section
namespace Go.Hw
open Go
end Go.Hw

end
section
namespace Go.Hw
open Go
end Go.Hw

end
section
namespace Go.Hw
open Go
def dead : Obj := .cells #[] 0 (0, 0)
def Live (m : Heap) (b : Nat) : Prop := ∃ o, m[b]? = some o ∧ o ≠ dead
def Sub (m h : Heap) : Prop := ∀ (b : Nat) (o : Obj), m[b]? = some o → o ≠ dead → h[b]? = some o
abbrev No : Nat → Prop := fun _ => False
section
variable {m m' h h' k h0 m0 : Heap} {b : Nat} {W W' : Nat → Prop}
theorem Sub.refl (h : Heap) : Sub h h := fun _ _ h _ => h
theorem Sub.trans (s : Sub m h) (t : Sub h k) : Sub m k := fun b o h1 h2 => t b o (s b o h1 h2) h2
theorem Sub.lt (s : Sub m h) (l : Live m b) : b < h.size := by
  obtain ⟨o, h1, h2⟩ := l
  exact (Array.getElem?_eq_some_iff.1 (s b o h1 h2)).1
theorem Sub.ext (s : Sub m h) (e : Ext h h') : Sub m h' := fun b o h1 h2 => by rw [e.2 b (s.lt ⟨o, h1, h2⟩)]; exact s b o h1 h2
theorem Sub.cell (s : Sub m h) {a : Addr} {v : Value} (hc : cellH m a = some v) : cellH h a = some v := by
  unfold cellH at hc
  split at hc
  · rename_i c e f hm
    have hne : (Obj.cells c e f) ≠ dead := by
      intro hd
      unfold dead at hd
      cases hd
      split at hc <;> simp at hc
    unfold cellH
    rw [s _ _ hm hne]; exact hc
  · cases hc
theorem Sub.cells (s : Sub m h) {a : Addr} : ∀ (n i : Nat) {vs : List Value}, cellsH m a i n = some vs → cellsH h a i n = some vs := by
  intro n
  induction n with
  | zero => intro i vs hc; exact hc
  | succ n ih =>
    intro i vs hc
    simp only [cellsH] at hc ⊢
    split at hc
    · rename_i v hv
      rw [s.cell hv]
      split at hc
      · rename_i us hu
        rw [ih _ hu]; exact hc
      · cases hc
    · cases hc
end
structure Tell {α : Type} (sz : Nat) (E : Heap → α → List Value → Prop) : Prop where
  mono : ∀ m h x cs, Sub m h → E m x cs → E h x cs
  len : ∀ h x cs, E h x cs → cs.length = sz
  flat : ∀ h x cs, E h x cs → ∀ v ∈ cs, Flat v
theorem Flats.nil : ∀ v ∈ ([] : List Value), Flat v := fun v hv => by cases hv
theorem Flats.cons {x : Value} {l : List Value} (h : Flat x) (t : ∀ v ∈ l, Flat v) : ∀ v ∈ x :: l, Flat v := fun v hv => by
  rcases List.mem_cons.1 hv with rfl | hv
  · exact h
  · exact t v hv
theorem tell_int (k : IntKind) : Tell 1 (eInt k) := ⟨fun _ _ _ _ _ h => h, fun _ _ _ h => by rw [h]; rfl, fun _ _ _ h => by rw [h]; exact Flats.cons trivial Flats.nil⟩
theorem tell_bool : Tell 1 eBool := ⟨fun _ _ _ _ _ h => h, fun _ _ _ h => by rw [h]; rfl, fun _ _ _ h => by rw [h]; exact Flats.cons trivial Flats.nil⟩
section
variable {α : Type} {sz : Nat} {E : Heap → α → List Value → Prop} {m m' h h' : Heap} {A : Option Addr} {l : List α} {c : Nat}
theorem Rd.sub (r : Rd sz E m A l) (T : Tell sz E) (s : Sub m h) : Rd sz E h A l := fun i hi =>
  let ⟨a, cs, h1, h2, h3⟩ := r i hi
  ⟨a, cs, h1, s.cells _ _ h2, T.mono _ _ _ _ s h3⟩
theorem tell_row (T : Tell sz E) : Tell 1 (eRow sz E) := ⟨fun _ _ _ _ s ⟨A, c, h1, h2, h3⟩ => ⟨A, c, h1, h2, h3.sub T s⟩, fun _ _ _ ⟨A, c, h1, _, _⟩ => by rw [h1]; rfl, fun _ _ _ ⟨A, c, h1, _, _⟩ => by rw [h1]; exact Flats.cons trivial Flats.nil⟩
end
structure St (W : Nat → Prop) (h0 m0 h m : Heap) : Prop where
  up : Sub m0 m
  s : Sub m h
  size : h0.size ≤ h.size
  fr : ∀ b, b < h0.size → ¬ W b → h[b]? = h0[b]?
  lv : ∀ b, b < h0.size → Live m b → Live m0 b ∨ W b
def fb (b0 b : Nat) : Prop := b = b0
def fp (A : Option Addr) (c : Nat) (b : Nat) : Prop := c ≠ 0 ∧ ∃ a, A = some a ∧ a.block = b
def Dj (F G : Nat → Prop) : Prop := ∀ b, F b → G b → False
section
variable {m m' h h' h0 m0 : Heap} {b b' : Nat} {W W' F G G' : Nat → Prop}
theorem Dj.symm (d : Dj F G) : Dj G F := fun b h1 h2 => d b h2 h1
theorem Dj.no : Dj No F := fun _ h _ => h
theorem St.refl (s : Sub m h) : St W h m h m := ⟨.refl _, s, Nat.le_refl _, fun _ _ _ => rfl, fun _ _ h => .inl h⟩
theorem St.of_ext (s : Sub m h) (e : Ext h h') : St W h m h' m := ⟨.refl _, s.ext e, e.1, fun b hb _ => e.2 b hb, fun _ _ h => .inl h⟩
theorem St.ext (S : St No h m h' m') : Ext h h' := ⟨S.size, fun b hb => S.fr b hb (fun h => h)⟩
theorem St.then (S : St W h0 m0 h m) (T : St W' h m h' m') (hw : ∀ b, b < h.size → W' b → h0.size ≤ b ∨ W b) : St W h0 m0 h' m' where
  up := S.up.trans T.up
  s := T.s
  size := Nat.le_trans S.size T.size
  fr b hb hn := by
    rw [T.fr b (by have := S.size; omega) (fun hw' => (hw b (by have := S.size; omega) hw').elim (fun h => by omega) hn)]
    exact S.fr b hb hn
  lv b hb hl := by
    rcases T.lv b (by have := S.size; omega) hl with h1 | h1
    · exact S.lv b hb h1
    · exact .inr ((hw b (by have := S.size; omega) h1).elim (fun h => by omega) id)
theorem St.grow (S : St W h0 m0 h m) (T : St No h m h' m') : St W h0 m0 h' m' := S.then T fun _ _ h => h.elim
theorem St.notLive (s : Sub m h) : ¬ Live m h.size := fun l => by have := s.lt l; omega
theorem St.only (s : Sub m h) (hn : ¬ Live m b) (o : Only h h' b) : St (fb b) h m h' m where
  up := .refl _
  s i x h1 h2 := by
    rw [o.2 i (fun e => hn (e ▸ ⟨x, h1, h2⟩))]; exact s i x h1 h2
  size := by rw [o.1]; exact Nat.le_refl _
  fr i _ hw := o.2 i hw
  lv i _ hl := .inl hl
end
open Classical in
noncomputable def addV (m h : Heap) (F : Nat → Prop) : Heap := Array.ofFn (n := h.size) fun i => if Live m i.1 ∨ F i.1 then h[i.1] else dead
section
variable {m h : Heap} {b : Nat} {F : Nat → Prop}
theorem addV_get (hb : b < h.size) (hl : Live m b ∨ F b) : (addV m h F)[b]? = h[b]? := by
  unfold addV
  rw [Array.getElem?_ofFn, dif_pos hb, if_pos hl, Array.getElem?_eq_getElem hb]
theorem addV_live (hl : Live (addV m h F) b) : (Live m b ∨ F b) ∧ b < h.size := by
  obtain ⟨o, h1, h2⟩ := hl
  unfold addV at h1
  rw [Array.getElem?_ofFn] at h1
  split at h1
  · rename_i hb
    refine ⟨?_, hb⟩
    by_cases hc : Live m b ∨ F b
    · exact hc
    · rw [if_neg hc] at h1; cases h1; exact (h2 rfl).elim
  · cases h1
theorem addV_sub : Sub (addV m h F) h := fun b o h1 h2 => by
  have := addV_live ⟨o, h1, h2⟩
  rw [← addV_get this.2 this.1]; exact h1
theorem addV_up (s : Sub m h) : Sub m (addV m h F) := fun b o h1 h2 => by
  rw [addV_get (s.lt ⟨o, h1, h2⟩) (.inl ⟨o, h1, h2⟩)]; exact s b o h1 h2
theorem St.settle (s : Sub m h) (F : Nat → Prop) : St F h m h (addV m h F) := ⟨addV_up s, addV_sub, Nat.le_refl _, fun _ _ _ => rfl, fun _ _ hl => (addV_live hl).1⟩
theorem Blk.settle {c : List Value} {t : TypeId} (hb : Blk h b c t) (hF : F b) : Blk (addV m h F) b c t := by
  unfold Blk at *
  rw [addV_get (Blk.lt hb) (.inr hF)]; exact hb
end
section
variable {α : Type} {sz : Nat} {E : Heap → α → List Value → Prop} {m m' h h' h0 m0 : Heap} {A : Option Addr} {l l' : List α} {c : Nat} {cs ds : List Value} {x y : α} {W W' : Nat → Prop}
def CsE (sz : Nat) (E : Heap → α → List Value → Prop) (m : Heap) : List α → List Value → Prop
  | [], cs => cs = []
  | x :: l, cs => ∃ c1 c2, cs = c1 ++ c2 ∧ c1.length = sz ∧ E m x c1 ∧ CsE sz E m l c2
theorem CsE.nil : CsE sz E m ([] : List α) [] := rfl
theorem CsE.cons {c1 : List Value} (h1 : E m x c1) (h2 : c1.length = sz) (h : CsE sz E m l cs) : CsE sz E m (x :: l) (c1 ++ cs) := ⟨c1, cs, rfl, h2, h1, h⟩
theorem CsE.len : ∀ {l : List α} {cs : List Value}, CsE sz E m l cs → cs.length = l.length * sz := by
  intro l
  induction l with
  | nil => intro cs h; rw [show cs = [] from h]; simp
  | cons x l ih => rintro cs ⟨c1, c2, rfl, h1, h2, h3⟩; rw [List.length_append, ih h3, h1, List.length_cons, Nat.succ_mul, Nat.add_comm]
theorem CsE.get : ∀ {l : List α} {cs : List Value} {i : Nat}, CsE sz E m l cs → l[i]? = some y → E m y ((cs.drop (i * sz)).take sz) ∧ i * sz + sz ≤ cs.length := by
  intro l
  induction l with
  | nil => intro cs i h h'; cases h'
  | cons x l ih =>
    rintro cs i ⟨c1, c2, rfl, h1, h2, h3⟩ hy
    cases i with
    | zero =>
      cases hy
      simp only [Nat.zero_mul, List.drop_zero]
      rw [← h1, List.take_left]
      exact ⟨h2, by simp⟩
    | succ i =>
      have := ih (i := i) h3 (by simpa using hy)
      rw [show (i + 1) * sz = c1.length + i * sz by rw [h1, Nat.succ_mul, Nat.add_comm], ← List.drop_drop, List.drop_left, List.length_append]
      exact ⟨this.1, by omega⟩
theorem CsE.set {c1 : List Value} (hx : E m x c1) (hz : c1.length = sz) : ∀ {l : List α} {cs : List Value} {i : Nat}, CsE sz E m l cs → i < l.length → CsE sz E m (l.set i x) (cs.take (i * sz) ++ c1 ++ cs.drop (i * sz + sz)) := by
  intro l
  induction l with
  | nil => intro cs i h h'; cases h'
  | cons y l ih =>
    rintro cs i ⟨d1, d2, rfl, h1, h2, h3⟩ hi
    cases i with
    | zero =>
      simp only [Nat.zero_mul, List.take_zero, List.nil_append, Nat.zero_add, List.set_cons_zero]
      rw [← h1, List.drop_left]
      exact ⟨c1, d2, rfl, by rw [hz, h1], hx, by rw [h1]; exact h3⟩
    | succ i =>
      have := ih (i := i) h3 (by simpa using hi)
      rw [show (i + 1) * sz = d1.length + i * sz by rw [h1, Nat.succ_mul, Nat.add_comm], List.take_length_add_append, show d1.length + i * sz + sz = d1.length + (i * sz + sz) by omega, List.drop_length_add_append, List.set_cons_succ]
      exact ⟨d1, _, by simp [List.append_assoc], h1, h2, this⟩
theorem Rd.tail (r : Rd sz E m A (x :: l)) : ∀ a, A = some a → Rd sz E m (some (a.add sz)) l := by
  intro a ha i hi
  obtain ⟨a', cs, h1, h2, h3⟩ := r (i + 1) (by simpa using hi)
  rw [ha] at h1; cases h1
  refine ⟨_, cs, rfl, ?_, h3⟩
  rw [add_add, show sz + i * sz = (i + 1) * sz by rw [Nat.succ_mul, Nat.add_comm]]; exact h2
theorem Rd.cse (T : Tell sz E) : ∀ {l : List α} {a : Addr}, Rd sz E m (some a) l → ∃ cs, cellsH m a 0 (l.length * sz) = some cs ∧ CsE sz E m l cs := by
  intro l
  induction l with
  | nil => intro a r; exact ⟨[], by simp [cellsH], rfl⟩
  | cons x l ih =>
    intro a r
    obtain ⟨cs, h1, h2⟩ := ih (r.tail a rfl)
    obtain ⟨a', c1, h3, h4, h5⟩ := r 0 (by simp)
    cases h3
    rw [Nat.zero_mul, show a.add 0 = a from rfl] at h4
    refine ⟨c1 ++ cs, ?_, c1, cs, rfl, T.len _ _ _ h5, h5, h2⟩
    rw [List.length_cons, Nat.succ_mul, Nat.add_comm]
    refine cellsH_append h4 ?_
    rw [cellsH_shift] at h1
    simpa using h1
theorem CsE.rd {b : Nat} {t : TypeId} {pre rest : List Value} (hb : Blk h b (pre ++ cs ++ rest) t) (hc : CsE sz E m l cs) (hm : ∀ x cs, E m x cs → E h x cs) : Rd sz E h (some ⟨b, pre.length, none⟩) l := by
  intro i hi
  have hg := hc.get (List.getElem?_eq_getElem hi)
  refine ⟨_, _, rfl, ?_, hm _ _ hg.1⟩
  have := hb.cells (a := (⟨b, pre.length, none⟩ : Addr).add (i * sz)) (by rw [add_block]) (add_spot _ rfl) sz 0 (by rw [add_off, List.length_append, List.length_append]; simp only [Nat.add_zero]; omega)
  rw [this, add_off]
  simp only [Nat.add_zero]
  rw [List.append_assoc, ← List.drop_drop, List.drop_left, List.drop_append_of_le_length (by omega), List.take_append_of_le_length (by rw [List.length_drop]; omega)]
def OS (W : Nat → Prop) (h0 : Heap) (sz : Nat) (E : Heap → α → List Value → Prop) (h m : Heap) (A : Option Addr) (l : List α) (c : Nat) : Prop :=
  (l = [] ∧ c = 0) ∨ ∃ b t pre cs rest, A = some ⟨b, pre.length, none⟩ ∧ Blk h b (pre ++ cs ++ rest) t ∧ CsE sz E m l cs ∧ l.length ≤ c ∧ (c - l.length) * sz ≤ rest.length ∧ (h0.size ≤ b ∨ W b) ∧ ¬ Live m b
theorem OS.cap (o : OS W h0 sz E h m A l c) : l.length ≤ c := by
  rcases o with ⟨rfl, rfl⟩ | ⟨b, t, pre, cs, rest, h1, h2, h3, h4, h5, h6, h7⟩
  · exact Nat.le_refl _
  · exact h4
theorem OS.wr (o : OS W h0 sz E h m A l c) : ∀ b, fp A c b → h0.size ≤ b ∨ W b := by
  rintro b ⟨hc, a, ha, rfl⟩
  rcases o with ⟨rfl, rfl⟩ | ⟨b, t, pre, cs, rest, h1, h2, h3, h4, h5, h6, h7⟩
  · exact (hc rfl).elim
  · rw [h1] at ha; cases ha; exact h6
def OB (W : Nat → Prop) (h0 h m : Heap) (b : Nat) (cs : List Value) (t : TypeId) : Prop := Blk h b cs t ∧ (h0.size ≤ b ∨ W b) ∧ ¬ Live m b
variable {b : Nat} {t : TypeId}
theorem OB.all (o : OB W h0 h m b cs t) : cellsH h ⟨b, 0, none⟩ 0 cs.length = some cs := by
  have := o.1.cells (a := ⟨b, 0, none⟩) rfl rfl cs.length 0 (by simp)
  simpa using this
end
end Go.Hw

end
section
namespace Go.Hw
def LeO {β : Type} (a b : Option β) : Prop := ∀ r, a = some r → b = some r
theorem LeO.refl {β : Type} (a : Option β) : LeO a a := fun _ h => h
theorem LeO.bind {β γ : Type} {a b : Option β} {f g : β → Option γ} (h : LeO a b) (k : ∀ x, LeO (f x) (g x)) : LeO (a.bind f) (b.bind g) := by
  intro r hr
  cases a with
  | none => cases hr
  | some x => rw [h x rfl]; exact k x r hr
theorem LeO.ite {β : Type} {p : Prop} [Decidable p] {a b a' b' : Option β} (h : LeO a a') (k : LeO b b') : LeO (if p then a else b) (if p then a' else b') := by
  by_cases c : p
  · rw [if_pos c, if_pos c]; exact h
  · rw [if_neg c, if_neg c]; exact k
section
variable {α : Type} {β : α → Type} {F : ((x : α) → Option (β x)) → (x : α) → Option (β x)}
def MonoF (F : ((x : α) → Option (β x)) → (x : α) → Option (β x)) : Prop := ∀ f g, (∀ x, LeO (f x) (g x)) → ∀ x, LeO (F f x) (F g x)
def FixR (F : ((x : α) → Option (β x)) → (x : α) → Option (β x)) (x : α) (r : β x) : Prop :=
  ∀ I : (x : α) → β x → Prop, (∀ f, (∀ x r, f x = some r → I x r) → ∀ x r, F f x = some r → I x r) → I x r
theorem FixR.close {f : (x : α) → Option (β x)} (hf : ∀ x r, f x = some r → FixR F x r) {x : α} {r : β x} (h : F f x = some r) : FixR F x r :=
  fun I hI => hI f (fun y s hs => hf y s hs I hI) x r h
theorem FixR.uniq (M : MonoF F) {x : α} {r r' : β x} (h : FixR F x r) (h' : FixR F x r') : r = r' := by
  refine (h (fun x r => FixR F x r ∧ ∀ r', FixR F x r' → r = r') ?_).2 r' h'
  intro f hf x r hr
  refine ⟨FixR.close (fun y s hs => (hf y s hs).1) hr, fun s hs => ?_⟩
  have key := hs (fun y s => FixR F y s ∧ ∀ e : x = y, (e ▸ r) = s) ?_
  · exact key.2 rfl
  intro f' hf' y t ht
  refine ⟨FixR.close (fun z s hs => (hf' z s hs).1) ht, ?_⟩
  rintro rfl
  let g : (x : α) → Option (β x) := fun z => match f z with | some u => some u | none => f' z
  have hfg : ∀ z, LeO (f z) (g z) := fun z u hu => by simp only [g, hu]
  have hfg' : ∀ z, LeO (f' z) (g z) := by
    intro z u hu
    simp only [g]
    cases hz : f z with
    | none => exact hu
    | some w => simp only; rw [(hf z w hz).2 u (hf' z u hu).1]
  have e1 := M f g hfg _ _ hr
  have e2 := M f' g hfg' _ _ ht
  rw [e1] at e2
  exact Option.some.inj e2
open Classical in
noncomputable def fixF (F : ((x : α) → Option (β x)) → (x : α) → Option (β x)) (x : α) : Option (β x) := if h : ∃ r, FixR F x r then some (Classical.choose h) else none
theorem fixF_iff (M : MonoF F) {x : α} {r : β x} : fixF F x = some r ↔ FixR F x r := by
  unfold fixF
  constructor
  · intro h
    split at h
    · rename_i hx; cases h; exact Classical.choose_spec hx
    · cases h
  · intro h
    rw [dif_pos ⟨r, h⟩, FixR.uniq M (Classical.choose_spec (⟨r, h⟩ : ∃ r, FixR F x r)) h]
theorem fixF_eq (M : MonoF F) (x : α) : fixF F x = F (fixF F) x := by
  have h1 : ∀ r, fixF F x = some r → F (fixF F) x = some r := by
    intro r hr
    refine ((fixF_iff M).1 hr (fun x r => FixR F x r ∧ F (fixF F) x = some r) ?_).2
    intro f hf y s hs
    refine ⟨FixR.close (fun z s hs => (hf z s hs).1) hs, ?_⟩
    exact M f (fixF F) (fun z u hu => (fixF_iff M).2 (hf z u hu).1) _ _ hs
  have h2 : ∀ r, F (fixF F) x = some r → fixF F x = some r := fun r hr => (fixF_iff M).2 (FixR.close (fun y s hs => (fixF_iff M).1 hs) hr)
  cases h : fixF F x with
  | some r => exact (h1 r h).symm
  | none =>
    cases k : F (fixF F) x with
    | none => rfl
    | some r => rw [h2 r k] at h; cases h
theorem fixF_ind (M : MonoF F) {I : (x : α) → β x → Prop} (hI : ∀ f, (∀ x r, f x = some r → I x r) → ∀ x r, F f x = some r → I x r) {x : α} {r : β x} (h : fixF F x = some r) : I x r := (fixF_iff M).1 h I hI
end
end Go.Hw

end
section
namespace Go.Hw
open Go
section tests
variable {A B : Prop} {β γ : Type} {a b : Option β} {r : β}
theorem bind_e {a : Option γ} {f : γ → Option β} (e : a.bind f = some r) : ∃ x, a = some x ∧ f x = some r := by
  cases a with
  | none => cases e
  | some x => exact ⟨x, rfl, e⟩
theorem guard_e {p : Prop} [Decidable p] (e : (if p then a else none) = some r) : p ∧ a = some r := by
  by_cases h : p
  · rw [if_pos h] at e; exact ⟨h, e⟩
  · rw [if_neg h] at e; cases e
theorem split_dec_e {p : Prop} [Decidable p] (e : (if p then a else b) = some r) (hA : p → a = some r → A) (hB : ¬ p → b = some r → B) : splitB (decide p) A B := by
  by_cases h : p
  · rw [if_pos h] at e; rw [decide_eq_true h]; exact hA h e
  · rw [if_neg h] at e; rw [decide_eq_false h]; exact hB h e
theorem split_eq_e {x y : Int} (e : (if x = y then a else b) = some r) (hA : x = y → a = some r → A) (hB : x ≠ y → b = some r → B) : splitB (x == y) A B := by
  by_cases h : x = y
  · rw [if_pos h] at e; rw [show (x == y) = true from beq_iff_eq.2 h]; exact hA h e
  · rw [if_neg h] at e; rw [show (x == y) = false from beq_eq_false_iff_ne.2 h]; exact hB h e
theorem split_ne_e {x y : Int} (e : (if x = y then b else a) = some r) (hA : x ≠ y → a = some r → A) (hB : x = y → b = some r → B) : splitB (x != y) A B := by
  by_cases h : x = y
  · rw [if_pos h] at e; rw [show (x != y) = false from bne_eq_false_iff_eq.2 h]; exact hB h e
  · rw [if_neg h] at e; rw [show (x != y) = true from bne_iff_ne.2 h]; exact hA h e
theorem split_any_e {t : Bool} (e : (if t = true then a else b) = some r) (hA : t = true → a = some r → A) (hB : t = false → b = some r → B) : splitB t A B := by
  cases t
  · exact hB rfl e
  · exact hA rfl e
end tests
section
variable {α : Type} {l : List α} {x : Int} {y : α}
def gi (l : List α) (x : Int) : Option α := if 0 ≤ x then l[x.toNat]? else none
theorem gi_nat (l : List α) (k : Nat) : gi l (k : Int) = l[k]? := by unfold gi; rw [if_pos (by omega)]; rfl
theorem gi_le (g : gi l x = some y) : 0 ≤ x := by unfold gi at g; split at g; assumption; cases g
theorem gi_get (g : gi l x = some y) : l[x.toNat]? = some y := by unfold gi at g; split at g; exact g; cases g
theorem gi_lt (g : gi l x = some y) : x < (l.length : Int) := by
  have h1 := gi_get g
  have h2 := gi_le g
  have := (List.getElem?_eq_some_iff.1 h1).1
  omega
theorem gi_ltN (g : gi l x = some y) : x.toNat < l.length := (List.getElem?_eq_some_iff.1 (gi_get g)).1
def sl (l : List α) (lo hi : Int) : List α := (l.take hi.toNat).drop lo.toNat
theorem sl_len {lo hi : Int} (h1 : 0 ≤ lo) (h2 : lo ≤ hi) (h3 : hi ≤ (l.length : Int)) : Int.toNat hi - Int.toNat lo = (sl l lo hi).length := by
  unfold sl; rw [List.length_drop, List.length_take]; omega
theorem sl_lo {lo : Int} : sl l lo (l.length : Int) = l.drop lo.toNat := by unfold sl; simp
theorem sl_hi {hi : Int} : sl l 0 hi = l.take hi.toNat := by unfold sl; simp
end
section
variable {α : Type} {sz : Nat} {E : Heap → α → List Value → Prop} {m m' h h' h0 m0 : Heap} {A : Option Addr} {l : List α} {c n k : Nat} {cs : List Value} {x : Int} {y : α} {W : Nat → Prop} {a : Addr} {v : Value} {b : Nat} {t : TypeId}
theorem Rd.addr {K : Addr → Prop} (r : Rd sz E m A l) (hn : n = l.length) (g : gi l x = some y) (hk : ∀ a cs, A = some a → cellsH m (a.add (Int.toNat x * sz)) 0 sz = some cs → E m y cs → K a) : ptrOk A fun a => 0 ≤ x ∧ x < ((n : Nat) : Int) ∧ K a := by
  subst hn
  have h1 := gi_get g
  obtain ⟨hi, h2⟩ := List.getElem?_eq_some_iff.1 h1
  obtain ⟨a, cs, rfl, h3, h4⟩ := r _ hi
  rw [h2] at h4
  exact ⟨gi_le g, gi_lt g, hk a cs rfl h3 h4⟩
theorem OS.cellsAt (o : OS W h0 sz E h m A l c) (g : gi l x = some y) : ∃ a cs, A = some a ∧ cellsH h (a.add (Int.toNat x * sz)) 0 sz = some cs ∧ E m y cs := by
  have h1 := gi_get g
  rcases o with ⟨rfl, rfl⟩ | ⟨b, t, pre, cs, rest, rfl, h3, h4, h5, h6, h7⟩
  · cases h1
  have h8 := h4.get h1
  refine ⟨_, _, rfl, ?_, h8.1⟩
  have := h3.cells (a := (⟨b, pre.length, none⟩ : Addr).add (x.toNat * sz)) (by rw [add_block]) (add_spot _ rfl) sz 0 (by rw [add_off, List.length_append, List.length_append]; simp only [Nat.add_zero]; omega)
  rw [this, add_off]
  simp only [Nat.add_zero]
  rw [List.append_assoc, ← List.drop_drop, List.drop_left, List.drop_append_of_le_length (by omega), List.take_append_of_le_length (by rw [List.length_drop]; omega)]
theorem OS.addr {K : Addr → Prop} (o : OS W h0 sz E h m A l c) (hn : n = l.length) (g : gi l x = some y) (hk : ∀ a cs, A = some a → cellsH h (a.add (Int.toNat x * sz)) 0 sz = some cs → E m y cs → K a) : ptrOk A fun a => 0 ≤ x ∧ x < ((n : Nat) : Int) ∧ K a := by
  subst hn
  obtain ⟨a, cs, rfl, h1, h2⟩ := o.cellsAt g
  exact ⟨gi_le g, gi_lt g, hk a cs rfl h1 h2⟩
theorem ld0 (s : Sub m h) (hc : cellsH m a 0 n = some cs) (hv : cs[0]? = some v) : ldv false 1 h a = some v := by
  have h1 : cellH h (a.add 0) = some v := cellsH_get (s.cells _ _ hc) hv
  exact h1
theorem ldA (s : Sub m h) (hc : cellsH m a 0 n = some cs) : ldv true n h a = some (.agg cs.toArray) := by
  simp only [ldv, s.cells _ _ hc, Option.map_some]
theorem OS.stP (o : OS W h0 sz E h m A l c) (T : Tell sz E) (s : Sub m h) (g : gi l x = some y) (ha : A = some a) (hc : cellsH h (Addr.add a (Int.toNat x * sz)) 0 sz = some cs) {ds : List Value} {y' : α} (k : Nat) (hk : k + ds.length ≤ sz) (hy : E m y' (cs.take k ++ ds ++ cs.drop (k + ds.length))) (hf : ∀ v ∈ ds, Flat v) :
    ∃ h', stH h (Addr.add (Addr.add a (Int.toNat x * sz)) k) ds 0 = some h' ∧ OS W h0 sz E h' m A (l.set (Int.toNat x) y') c ∧ St (fp A c) h m h' m := by
  have h1 := gi_get g
  have hlt := gi_ltN g
  rcases o with ⟨rfl, rfl⟩ | ⟨b, t, pre, es, rest, rfl, h3, h4, h5, h6, h7, h8⟩
  · cases h1
  cases ha
  have h9 := h4.get h1
  have hcs : cs = (es.drop (x.toNat * sz)).take sz := by
    have := h3.cells (a := (⟨b, pre.length, none⟩ : Addr).add (x.toNat * sz)) (by rw [add_block]) (add_spot _ rfl) sz 0 (by rw [add_off, List.length_append, List.length_append]; simp only [Nat.add_zero]; omega)
    rw [hc, add_off] at this
    simp only [Nat.add_zero, Option.some.injEq] at this
    rw [this, List.append_assoc, ← List.drop_drop, List.drop_left, List.drop_append_of_le_length (by omega), List.take_append_of_le_length (by rw [List.length_drop]; omega)]
  have hlen : cs.length = sz := cellsH_length hc
  have hes : es = es.take (x.toNat * sz) ++ cs ++ es.drop (x.toNat * sz + sz) := by
    rw [hcs, List.append_assoc, ← List.drop_drop, List.take_append_drop, List.take_append_drop]
  have hcs2 : cs = cs.take k ++ (cs.drop k).take ds.length ++ cs.drop (k + ds.length) := by
    rw [List.append_assoc, ← List.drop_drop, List.take_append_drop, List.take_append_drop]
  have hb : Blk h b ((pre ++ es.take (x.toNat * sz) ++ cs.take k) ++ (cs.drop k).take ds.length ++ (cs.drop (k + ds.length) ++ (es.drop (x.toNat * sz + sz) ++ rest))) t := by
    have : (pre ++ es.take (x.toNat * sz) ++ cs.take k) ++ (cs.drop k).take ds.length ++ (cs.drop (k + ds.length) ++ (es.drop (x.toNat * sz + sz) ++ rest)) = pre ++ es ++ rest := by
      conv => rhs; rw [hes]; rw [hcs2]
      simp only [List.append_assoc]
    rw [this]; exact h3
  obtain ⟨h', s1, b1, o1⟩ := Blk.stH ds (a := Addr.add (Addr.add ⟨b, pre.length, none⟩ (x.toNat * sz)) k) (i := 0) hb (by rw [add_block, add_block]) (add_spot _ (add_spot _ rfl))
    (by rw [add_off, add_off, List.length_append, List.length_append, List.length_take, List.length_take]; simp only [Nat.add_zero]; omega) (by rw [List.length_take, List.length_drop]; omega) hf
  refine ⟨h', s1, .inr ⟨b, t, pre, es.take (x.toNat * sz) ++ (cs.take k ++ ds ++ cs.drop (k + ds.length)) ++ es.drop (x.toNat * sz + sz), rest, rfl, ?_, ?_, ?_, ?_, h7, h8⟩, ?_⟩
  · have : pre ++ (es.take (x.toNat * sz) ++ (cs.take k ++ ds ++ cs.drop (k + ds.length)) ++ es.drop (x.toNat * sz + sz)) ++ rest = (pre ++ es.take (x.toNat * sz) ++ cs.take k) ++ ds ++ (cs.drop (k + ds.length) ++ (es.drop (x.toNat * sz + sz) ++ rest)) := by simp only [List.append_assoc]
    rw [this]; exact b1
  · exact h4.set hy (T.len _ _ _ hy) hlt
  · rwa [List.length_set]
  · rwa [List.length_set]
  · refine ⟨.refl _, fun i o1' k1 k2 => ?_, by rw [o1.1]; exact Nat.le_refl _, fun i hi hw => ?_, fun i _ hl => .inl hl⟩
    · rw [o1.2 i (fun e => h8 (e ▸ ⟨o1', k1, k2⟩))]; exact s i o1' k1 k2
    · refine o1.2 i fun e => hw ⟨?_, _, rfl, e.symm⟩
      omega
theorem OS.st1k (o : OS W h0 sz E h m A l c) (T : Tell sz E) (s : Sub m h) (g : gi l x = some y) (ha : A = some a) (hc : cellsH h (Addr.add a (Int.toNat x * sz)) 0 sz = some cs) {y' : α} (k : Nat) (hk : k < sz) (hy : E m y' (cs.set k v)) (hf : Flat v) :
    ∃ h', st1 h (Addr.add (Addr.add a (Int.toNat x * sz)) k) v = some h' ∧ OS W h0 sz E h' m A (l.set (Int.toNat x) y') c ∧ St (fp A c) h m h' m := by
  have hlen : cs.length = sz := cellsH_length hc
  obtain ⟨h', h1, h2, h3⟩ := o.stP T s g ha hc (ds := [v]) (y' := y') k hk (by rw [List.append_assoc, List.singleton_append]; rw [List.set_eq_take_append_cons_drop, if_pos (by omega)] at hy; exact hy) (Flats.cons hf Flats.nil)
  refine ⟨h', ?_, h2, h3⟩
  simp only [stH] at h1
  split at h1
  · rename_i h4 h5
    cases h1; exact h5
  · cases h1
theorem cap_in {hi : Int} (h1 : hi ≤ (l.length : Int)) (h2 : l.length ≤ c) : hi ≤ ((c : Nat) : Int) := by omega
theorem Rd.sl {lo hi : Int} {mx : Nat} (r : Rd sz E m A l) (h1 : 0 ≤ lo) (h2 : lo ≤ hi) (h3 : hi ≤ (l.length : Int)) (h4 : hi.toNat ≤ mx) : Rd sz E m (sliceA A (Int.toNat lo) mx sz) (sl l lo hi) := by
  intro i hi'
  rw [← sl_len h1 h2 h3] at hi'
  obtain ⟨a, cs, e1, e2, e3⟩ := r (lo.toNat + i) (by omega)
  refine ⟨a.add (lo.toNat * sz), cs, ?_, ?_, ?_⟩
  · unfold sliceA; rw [if_neg (by omega), e1]; rfl
  · rw [add_add, ← Nat.add_mul]; exact e2
  · simpa [Hw.sl] using e3
theorem sl_cap {lo hi : Int} {mx : Nat} (h1 : 0 ≤ lo) (h2 : lo ≤ hi) (h3 : hi ≤ (l.length : Int)) (h4 : hi.toNat ≤ mx) : (sl l lo hi).length ≤ mx - Int.toNat lo := by rw [← sl_len h1 h2 h3]; omega
theorem zc_len {z : Array Value} {n : Nat} : (zcells z n).toList.length = n * z.size := by rw [Array.length_toList, zcells_size]
def Src (sz : Nat) (E : Heap → α → List Value → Prop) (h m : Heap) (x : Value) (xs : List α) : Prop := ∃ es, srcCells sz x h = some (xs.length, es) ∧ CsE sz E m xs es
theorem Rd.srcE (r : Rd sz E m A l) (T : Tell sz E) (s : Sub m h) (hn : n = l.length) : Src sz E h m (.slice A n c) l := by
  subst hn
  cases A with
  | none =>
    have : l = [] := by
      cases l with
      | nil => rfl
      | cons x l => obtain ⟨a, _, h1, _⟩ := r 0 (by simp); cases h1
    subst this
    exact ⟨[], rfl, rfl⟩
  | some a =>
    obtain ⟨es, h1, h2⟩ := Rd.cse T r
    exact ⟨es, by simp only [srcCells, s.cells _ _ h1, Option.map_some], h2⟩
theorem OS.srcE {c' : Nat} (o : OS W h0 sz E h m A l c) (hn : n = l.length) : Src sz E h m (.slice A n c') l := by
  subst hn
  rcases o with ⟨rfl, rfl⟩ | ⟨b, t, pre, cs, rest, rfl, k1, k2, k3, k4, k5⟩
  · refine ⟨[], ?_, rfl⟩
    cases A with
    | none => rfl
    | some a => simp [srcCells, cellsH]
  · refine ⟨cs, ?_, k2⟩
    have hl := k2.len
    have := k1.cells (a := ⟨b, pre.length, none⟩) rfl rfl (l.length * sz) 0 (by simp [hl])
    simp only [srcCells, this, Nat.add_zero]
    rw [List.append_assoc, List.drop_left, List.take_append_of_le_length (by omega), List.take_of_length_le (by omega)]; rfl
def ap (B : Nat) (l xs : List α) : Option (List α) := if (l.length + xs.length) * B ≤ 140737488355328 then some (l ++ xs) else none
theorem ap_e {B : Nat} {l xs l' : List α} (g : ap B l xs = some l') : (l.length + xs.length) * B ≤ 140737488355328 ∧ l ++ xs = l' := by
  unfold ap at g
  obtain ⟨h, k⟩ := guard_e g
  exact ⟨h, Option.some.inj k⟩
def sls (l : List α) (lo hi : Int) : Option (List α) := if 0 ≤ lo ∧ lo ≤ hi ∧ hi ≤ (l.length : Int) then some (sl l lo hi) else none
theorem sls_e {lo hi : Int} {l' : List α} (g : sls l lo hi = some l') : 0 ≤ lo ∧ lo ≤ hi ∧ hi ≤ (l.length : Int) ∧ Int.toNat hi - Int.toNat lo = l'.length ∧ l' = Hw.sl l lo hi := by
  unfold sls at g
  obtain ⟨h, k⟩ := guard_e g
  cases k
  exact ⟨h.1, h.2.1, h.2.2, sl_len h.1 h.2.1 h.2.2, rfl⟩
theorem Rd.sls {lo hi : Int} {mx : Nat} {l' : List α} (r : Rd sz E m A l) (g : sls l lo hi = some l') (h4 : hi.toNat ≤ mx) : Rd sz E m (sliceA A (Int.toNat lo) mx sz) l' := by
  obtain ⟨h1, h2, h3, _, rfl⟩ := sls_e g
  exact r.sl h1 h2 h3 h4
theorem le_mx {hi : Int} (h1 : hi ≤ (l.length : Int)) (h2 : l.length ≤ c) : hi.toNat ≤ c := by omega
theorem sls_cap {lo hi : Int} {l' : List α} (g : Hw.sls l lo hi = some l') (h2 : l.length ≤ c) : l'.length ≤ c - Int.toNat lo := by
  obtain ⟨h1, h3, h4, h5, _⟩ := sls_e g
  omega
theorem OS.newNo {h' : Heap} (o : OS No h sz E h' m' A l c) : ∀ b, fp A c b → h.size ≤ b := fun b hb => (o.wr b hb).elim id (fun h => h.elim)
end
end Go.Hw

end
section
namespace Go.Hw
open Go
section
variable {α : Type} {sz : Nat} {E : Heap → α → List Value → Prop} {m m' h h' h0 m0 : Heap} {A : Option Addr} {l : List α} {c n k : Nat} {x : Int} {W : Nat → Prop}
theorem Rd.void (r : Rd sz E m none l) : l = [] := by
  cases l with
  | nil => rfl
  | cons x l => obtain ⟨a, _, h1, _⟩ := r 0 (by simp); cases h1
def gro (B : Nat) (x : Int) : Bool := decide (0 ≤ x ∧ x * (B : Int) ≤ 140737488355328)
theorem grow_nil {e : TypeId} {bytes : Nat} {z : Array Value} {R : Value → Heap → Prop} (S : St W h0 m0 h m) (hz : z.size = sz) (hb0 : 0 < bytes) (g : gro bytes x = true)
    (hk : ∀ A' c' h', OS W h0 sz E h' m A' ([] : List α) c' → Ext h h' → R (.slice A' 0 c') h') :
    splitB (decide ((IntKind.wrap .i64 (x - (IntKind.wrap .i64 (((0 : Nat) : Int) - ((0 : Nat) : Int))))) > (0 : Int))) (0 ≤ (0 : Int) ∧ (0 : Int) ≤ ((0 : Nat) : Int) ∧ ((0 : Nat) : Int) ≤ ((0 : Nat) : Int) ∧
      (AppZ e sz bytes z (sliceA none (Int.toNat (0 : Int)) 0 sz) (Int.toNat ((0 : Nat) : Int) - Int.toNat (0 : Int)) (0 - Int.toNat (0 : Int)) (Value.int .i64 (IntKind.wrap .i64 (x - (IntKind.wrap .i64 (((0 : Nat) : Int) - ((0 : Nat) : Int)))))) h fun v1 h2 =>
        ∃ A3, ∃ n3, ∃ c3, v1 = (Value.slice A3 n3 c3) ∧ 0 ≤ (0 : Int) ∧ (0 : Int) ≤ ((0 : Nat) : Int) ∧ ((0 : Nat) : Int) ≤ ((c3 : Nat) : Int) ∧ (R (Value.slice (sliceA A3 (Int.toNat (0 : Int)) c3 sz) (Int.toNat ((0 : Nat) : Int) - Int.toNat (0 : Int)) (c3 - Int.toNat (0 : Int))) h2)))
      (R (Value.slice none 0 0) h) := by
  unfold gro at g
  obtain ⟨g1, g2⟩ := of_decide_eq_true g
  obtain ⟨k, rfl⟩ : ∃ k : Nat, x = k := ⟨x.toNat, by omega⟩
  have gN : k * bytes ≤ 140737488355328 := by
    have : ((k * bytes : Nat) : Int) = (k : Int) * (bytes : Int) := by push_cast; rfl
    omega
  have hk1 : k ≤ 140737488355328 := Nat.le_trans (Nat.le_mul_of_pos_right _ hb0) gN
  have hw : (IntKind.wrap .i64 ((k : Int) - (IntKind.wrap .i64 (((0 : Nat) : Int) - ((0 : Nat) : Int))))) = (k : Int) := by
    rw [show (IntKind.wrap .i64 (((0 : Nat) : Int) - ((0 : Nat) : Int))) = 0 from rfl]
    rw [wrap_in (by omega) (by omega)]; omega
  rw [hw]
  have nul : ∀ (A' : Option Addr) (c' : Nat), sliceA A' (Int.toNat (0 : Int)) c' sz = A' := by
    intro A' c'
    unfold sliceA
    split
    · rfl
    · cases A' with
      | none => rfl
      | some a => simp [Addr.add]
  refine split_dec (fun hp => ⟨by decide, by decide, by decide, ?_⟩) (fun _ => hk _ _ _ (.inl ⟨rfl, rfl⟩) (.refl _))
  refine ⟨.i64, k, rfl, gN, by omega, .inr ⟨?_, ?_, hb0, ?_, [], ?_, fun c' hc' => ?_⟩⟩
  · show 0 < 0 + k; omega
  · show (0 + k) * bytes ≤ _; rw [Nat.zero_add]; exact gN
  · show 0 + k ≤ _; omega
  · show oldCells sz (sliceA none (Int.toNat (0 : Int)) 0 sz) 0 h = some []
    rw [nul]; rfl
  · refine ⟨_, _, _, rfl, by decide, by decide, Int.natCast_nonneg _, ?_⟩
    rw [nul]
    have e1 := Ext.push h (Obj.cells (([] : List Value).toArray ++ (if k * sz = 0 then [] else (zcells z k).toList).toArray ++ zcells z (c' - (0 + k))) e)
    refine hk _ c' _ (.inr ⟨h.size, e, [], [], (if k * sz = 0 then [] else (zcells z k).toList) ++ (zcells z (c' - (0 + k))).toList, rfl, ?_, rfl, Nat.zero_le _, ?_, .inl S.size, St.notLive S.s⟩) e1
    · have := Blk.new h (([] : List Value).toArray ++ (if k * sz = 0 then [] else (zcells z k).toList).toArray ++ zcells z (c' - (0 + k))) e
      simpa using this
    · rw [List.length_append, zc_len, hz]
      have hc2 : k ≤ c' := by
        have : (Int.toNat ((0 : Nat) : Int) - Int.toNat (0 : Int)) + k ≤ c' := hc'
        simpa using this
      have e2 : (if k * sz = 0 then ([] : List Value) else (zcells z k).toList).length = k * sz := by
        by_cases hz0 : k * sz = 0
        · rw [if_pos hz0, hz0]; rfl
        · rw [if_neg hz0, zc_len, hz]
      rw [e2, ← Nat.add_mul]
      exact Nat.mul_le_mul_right _ (by simp; omega)
end
section
variable {α : Type} {sz : Nat} {E : Heap → α → List Value → Prop} {m m' mL h h' h0 m0 : Heap} {A : Option Addr} {l : List α} {c b : Nat} {cs : List Value} {t : TypeId} {W W' : Nat → Prop}
theorem St.unlend (T : St W' h mL h' m') (s : Sub m h) (hd : ∀ b, W' b → ¬ Live m b) : St W' h m h' m where
  up := .refl _
  s b o h1 h2 := by
    rw [T.fr b (s.lt ⟨o, h1, h2⟩) (fun hw => hd b hw ⟨o, h1, h2⟩)]; exact s b o h1 h2
  size := T.size
  fr := T.fr
  lv b _ hl := .inl hl
end
section
variable {κ ν : Type} [DecidableEq κ] {h h' m m' h0 m0 : Heap} {b : Nat} {W W' : Nat → Prop} {kv : κ → Value} {es : List (κ × ν)} {vs : List (κ × Value)} {k : κ} {x zv : ν} {v z : Value} {P : Program} {t elem : TypeId} {sz : Nat}
def pget (es : List (κ × ν)) (k : κ) : Option ν := (es.find? fun x => decide (k = x.1)).map (·.2)
def pgd (es : List (κ × ν)) (k : κ) (z : ν) : ν := (pget es k).getD z
def pset : List (κ × ν) → κ → ν → List (κ × ν)
  | [], k, v => [(k, v)]
  | x :: es, k, v => if k = x.1 then (k, v) :: es else x :: pset es k v
theorem pget_nil (k : κ) : pget ([] : List (κ × ν)) k = none := rfl
theorem pget_cons (p : κ × ν) (es : List (κ × ν)) (k : κ) : pget (p :: es) k = if k = p.1 then some p.2 else pget es k := by
  unfold pget
  by_cases h : k = p.1
  · rw [if_pos h, List.find?_cons_of_pos (by simpa using h)]; rfl
  · rw [if_neg h, List.find?_cons_of_neg (by simpa using h)]
theorem pget_pset (es : List (κ × ν)) (k q : κ) (v : ν) : pget (pset es k v) q = if q = k then some v else pget es q := by
  induction es with
  | nil => unfold pset; rw [pget_cons, pget_nil]
  | cons x es ih =>
    unfold pset
    by_cases hk : k = x.1
    · rw [if_pos hk, pget_cons, pget_cons]
      by_cases h : q = k
      · rw [if_pos h, if_pos h]
      · rw [if_neg h, if_neg h, if_neg (by rw [← hk]; exact h)]
    · rw [if_neg hk, pget_cons, pget_cons, ih]
      by_cases h : q = x.1
      · rw [if_pos h, if_pos h, if_neg (fun hh => hk (by rw [← hh, h]))]
      · rw [if_neg h, if_neg h]
theorem mget_cons (p : κ × Value) (es : List (κ × Value)) (k : κ) : mget (p :: es) k = if k = p.1 then some p.2 else mget es k := pget_cons p es k
def eV0 (E : Heap → ν → List Value → Prop) (m : Heap) (x : ν) (v : Value) : Prop := E m x [v]
def MonoV (EV : Heap → ν → Value → Prop) : Prop := ∀ m h x v, Sub m h → EV m x v → EV h x v
omit [DecidableEq κ] in
theorem monoV0 {E : Heap → ν → List Value → Prop} (T : Tell sz E) : MonoV (eV0 E) := fun _ _ _ _ s h => T.mono _ _ _ _ s h
def MR (EV : ν → Value → Prop) : List (κ × ν) → List (κ × Value) → Prop
  | [], vs => vs = []
  | p :: es, vs => ∃ v vs', vs = (p.1, v) :: vs' ∧ EV p.2 v ∧ MR EV es vs'
variable {EV : Heap → ν → Value → Prop}
omit [DecidableEq κ] in
theorem MR.sub (M : MonoV EV) (s : Sub m h) : ∀ {es : List (κ × ν)} {vs : List (κ × Value)}, MR (EV m) es vs → MR (EV h) es vs := by
  intro es
  induction es with
  | nil => intro vs hh; exact hh
  | cons p es ih => rintro vs ⟨v, vs', rfl, h1, h2⟩; exact ⟨v, vs', rfl, M _ _ _ _ s h1, ih h2⟩
theorem MR.get {EV : ν → Value → Prop} (k : κ) : ∀ {es : List (κ × ν)} {vs : List (κ × Value)}, MR EV es vs → (mget vs k).isSome = (pget es k).isSome ∧ ∀ zv z, EV zv z → EV (pgd es k zv) ((mget vs k).getD z) := by
  intro es
  induction es with
  | nil => intro vs hh; rw [show vs = [] from hh]; exact ⟨rfl, fun _ _ h => h⟩
  | cons p es ih =>
    rintro vs ⟨v, vs', rfl, h1, h2⟩
    unfold pgd
    rw [mget_cons, pget_cons]
    by_cases hk : k = p.1
    · rw [if_pos hk, if_pos hk]; exact ⟨rfl, fun _ _ _ => h1⟩
    · rw [if_neg hk, if_neg hk]; exact ih h2
theorem MR.set {EV : ν → Value → Prop} (k : κ) (hx : EV x v) : ∀ {es : List (κ × ν)} {vs : List (κ × Value)}, MR EV es vs → MR EV (pset es k x) (mset vs k v) := by
  intro es
  induction es with
  | nil => intro vs hh; rw [show vs = [] from hh]; exact ⟨v, [], rfl, hx, rfl⟩
  | cons p es ih =>
    rintro vs ⟨w, vs', rfl, h1, h2⟩
    unfold pset mset
    by_cases hk : k = p.1
    · rw [if_pos hk, if_pos hk]; exact ⟨v, vs', rfl, hx, h2⟩
    · rw [if_neg hk, if_neg hk]; exact ⟨w, _, rfl, h1, ih h2⟩
def OM (W : Nat → Prop) (h0 : Heap) (EV : Heap → ν → Value → Prop) (kv : κ → Value) (h m : Heap) (b : Nat) (es : List (κ × ν)) : Prop :=
  ∃ vs, MapB kv h b vs ∧ MR (EV m) es vs ∧ (h0.size ≤ b ∨ W b) ∧ ¬ Live m b
theorem OM.look {K : Value → Heap → Prop} (o : OM W h0 EV kv h m b es) (ok : KeyOk P t kv elem) (k : κ) (hz : zeroOf P elem = some z) (hE : EV m zv z) (hk : ∀ v, EV m (pgd es k zv) v → K v h) : Gen P (Instr.lookup t (.map (some b)) (kv k) false) h K := by
  obtain ⟨vs, h1, h2, _⟩ := o
  exact gen_lookup ok h1 k hz (hk _ ((h2.get k).2 _ _ hE))
theorem OM.upd {K : Unit → Heap → Prop} (o : OM W h0 EV kv h m b es) (s : Sub m h) (ok : KeyOk P t kv elem) (k : κ) (he : EV m x v) (hk : ∀ h', OM W h0 EV kv h' m b (pset es k x) → St (fb b) h m h' m → K () h') : Hwp P (Instr.mapUpdate t (.map (some b)) (kv k) v) h K := by
  obtain ⟨vs, h1, h2, h3, h4⟩ := o
  exact gen_mapUpdate ok h1 k v fun h' b' o' => hk h' ⟨_, b', h2.set k he, h3, h4⟩ (.only s h4 o')
end
section
variable {α : Type} {f : α → Value} {d : α} {L : List α} {n : Nat}
def eArr (n : Nat) (f : α → Value) (d : α) (_ : Heap) (x : List α) (cs : List Value) : Prop := x.length = n ∧ cs = (List.range n).map fun j => f (x.getD j d)
theorem tell_arr (hf : ∀ x, Flat (f x)) : Tell n (eArr n f d) := ⟨fun _ _ _ _ _ h => h, fun _ _ _ h => by rw [h.2]; simp, fun _ _ _ h => by
  rw [h.2]; intro v hv
  obtain ⟨j, _, rfl⟩ := List.mem_map.1 hv
  exact hf _⟩
end
section
variable {H : Type} {enc : TypeId × Value → H} {P : Program} {W : World}
theorem tells_i64 {t : TypeId} (hu : P.underlying t = some (.int .i64)) : Tells enc P W t (eInt .i64) (fun x => -9223372036854775808 ≤ x ∧ x ≤ 9223372036854775807) := tells_map (tells_int hu) fun a _ h q => ⟨a, h, wf_i64 q⟩
theorem tells_sliceL {α : Type} {t e : TypeId} {sz B : Nat} {E : Heap → α → List Value → Prop} {Q : α → Prop} (hu : P.underlying t = some (.slice e)) (hc : P.cellsOf e = sz) (hB : P.bytesOf e = B) (he : Tells enc P W e E Q) :
    Tells enc P W t (eRow sz E) (fun l => l.length * B ≤ 140737488351232 ∧ ∀ a ∈ l, Q a) := tells_map (tells_slice hu hc hB he) fun a _ h q => ⟨a, h, q⟩
end
end Go.Hw

end
section
namespace Go.Hw
open Go
section
variable {α β : Type}
theorem ap_of {B : Nat} {l xs : List α} (h : (l.length + xs.length) * B ≤ 140737488355328) : ap B l xs = some (l ++ xs) := by unfold ap; rw [if_pos h]
theorem ap_nil {B : Nat} {xs : List α} (h : xs.length * B ≤ 140737488355328) : ap B ([] : List α) xs = some xs := by rw [ap_of (by simpa using h)]; rfl
theorem gi_some {l : List α} {k : Nat} {x : Int} {y : α} (hx : x = k) (h : l[k]? = some y) : gi l x = some y := by subst hx; rw [gi_nat]; exact h
theorem gi_at {l : List α} {k : Nat} (h : k < l.length) : gi l (k : Int) = some l[k] := by rw [gi_nat]; exact List.getElem?_eq_getElem h
theorem sls_of {l : List α} {lo hi : Int} (h1 : 0 ≤ lo) (h2 : lo ≤ hi) (h3 : hi ≤ (l.length : Int)) : sls l lo hi = some (sl l lo hi) := by unfold sls; rw [if_pos ⟨h1, h2, h3⟩]
theorem sls_take {l : List α} {k : Nat} {x : Int} (hx : x = k) (h : k ≤ l.length) : sls l 0 x = some (l.take k) := by subst hx; rw [sls_of (by omega) (by omega) (by omega), sl_hi]; rfl
theorem sls_drop {l : List α} {k : Nat} {x : Int} (hx : x = k) (h : k ≤ l.length) : sls l x (l.length : Int) = some (l.drop k) := by subst hx; rw [sls_of (by omega) (by omega) (by omega), sl_lo]; rfl
theorem w_succ {k : Nat} (h : k < 9223372036854775807) : IntKind.wrap .i64 ((k : Int) + 1) = ((k + 1 : Nat) : Int) := by rw [wrap_in (by omega) (by omega)]; rfl
theorem index_val [DecidableEq α] {f : List α → α → Int → Int → Option Int}
    (hf : ∀ a v n i, f a v n i = if i < n then (Option.bind (gi a i) fun y => if v = y then some i else f a v n (IntKind.wrap .i64 (i + 1))) else some (-1))
    {l : List α} (v : α) (hl : l.length ≤ 4611686018427387904) : f l v (l.length : Int) 0 = some (idxOf (fun y => decide (v = y)) l) := by
  have key : ∀ (d k : Nat), k + d = l.length → (∀ x ∈ l.take k, decide (v = x) = false) → f l v (l.length : Int) (k : Int) = some (idxOf (fun y => decide (v = y)) l) := by
    intro d
    induction d with
    | zero =>
      intro k hk hn
      rw [hf, if_neg (by omega)]
      have : l.findIdx? (fun y => decide (v = y)) = none := by
        rw [List.findIdx?_eq_none_iff]
        rw [List.take_of_length_le (by omega)] at hn
        exact hn
      simp [idxOf, this]
    | succ d ih =>
      intro k hk hn
      have hlt : k < l.length := by omega
      rw [hf, if_pos (by omega), gi_at hlt, Option.bind_some]
      by_cases hq : v = l[k]
      · rw [if_pos hq]
        have : l.findIdx? (fun y => decide (v = y)) = some k := by
          rw [List.findIdx?_eq_some_iff_getElem]
          refine ⟨hlt, decide_eq_true hq, fun j hj => ?_⟩
          have := hn l[j] (by rw [List.mem_take_iff_getElem]; exact ⟨j, by omega, rfl⟩)
          rw [this]; simp
        simp [idxOf, this]
      · rw [if_neg hq, w_succ (by omega)]
        refine ih (k + 1) (by omega) (fun x hx => ?_)
        rw [List.take_succ_eq_append_getElem hlt] at hx
        rcases List.mem_append.1 hx with hx | hx
        · exact hn x hx
        · simp at hx; subst hx; exact decide_eq_false hq
  exact key l.length 0 (by omega) (fun x hx => by simp at hx)
theorem any_eq [DecidableEq α] (v : α) (l : List α) : l.any (fun y => decide (v = y)) = decide (v ∈ l) := by
  induction l with
  | nil => simp
  | cons x l ih => simp [ih]
theorem contains_val [DecidableEq α] {f : List α → α → Int → Int → Option Int} {g : List α → α → Option Int} {c : List α → α → Option Bool}
    (hf : ∀ a v n i, f a v n i = if i < n then (Option.bind (gi a i) fun y => if v = y then some i else f a v n (IntKind.wrap .i64 (i + 1))) else some (-1))
    (hg : ∀ a v, g a v = f a v (a.length : Int) 0) (hc : ∀ a v, c a v = Option.bind (g a v) fun y => some (decide (y ≥ 0)))
    {l : List α} (v : α) (hl : l.length ≤ 4611686018427387904) : c l v = some (decide (v ∈ l)) := by
  rw [hc, hg, index_val hf v hl, Option.bind_some, idxOf_ge, any_eq]
theorem equal_val {R : α → α → Prop} [DecidableRel R] {f : List α → List α → Int → Int → Option Bool} {g : List α → List α → Option Bool}
    (hf : ∀ a b n i, f a b n i = if i < n then (Option.bind (gi a i) fun x => Option.bind (gi b i) fun y => if R x y then f a b n (IntKind.wrap .i64 (i + 1)) else some false) else some true)
    (hg : ∀ a b, g a b = if ((a.length : Nat) : Int) = ((b.length : Nat) : Int) then f a b (a.length : Int) 0 else some false) (hR : ∀ x y, R x y ↔ x = y)
    (l m : List α) (hl : l.length ≤ 4611686018427387904) : ∃ b, g l m = some b ∧ (b = true ↔ l = m) := by
  rw [hg]
  by_cases hlen : l.length = m.length
  · rw [if_pos (by omega)]
    have key : ∀ (d k : Nat), k + d = l.length → l.take k = m.take k → ∃ b, f l m (l.length : Int) (k : Int) = some b ∧ (b = true ↔ l = m) := by
      intro d
      induction d with
      | zero =>
        intro k hk he
        rw [List.take_of_length_le (by omega), List.take_of_length_le (by omega)] at he
        exact ⟨true, by rw [hf, if_neg (by omega)], by simp [he]⟩
      | succ d ih =>
        intro k hk he
        have h1 : k < l.length := by omega
        have h2 : k < m.length := by omega
        rw [hf, if_pos (by omega), gi_at h1, Option.bind_some, gi_at h2, Option.bind_some]
        by_cases hr : R l[k] m[k]
        · rw [if_pos hr, w_succ (by omega)]
          exact ih (k + 1) (by omega) (by rw [List.take_succ_eq_append_getElem h1, List.take_succ_eq_append_getElem h2, he, (hR _ _).1 hr])
        · rw [if_neg hr]
          refine ⟨false, rfl, by simp; intro e; exact hr ((hR _ _).2 (by simp [e]))⟩
    exact key l.length 0 (by omega) (by simp)
  · rw [if_neg (by omega)]
    exact ⟨false, rfl, by simp; intro e; exact hlen (by rw [e])⟩
theorem concat_val {B : Nat} (hB : 0 < B) {f1 : List α → List (List α) → Int → Int → Option (List α)} {f0 : List (List α) → Int → List (List α) → Int → Int → Option (List α)} {gr : Int → Option (List α)} {g : List (List α) → Option (List α)}
    (h1 : ∀ r a n i, f1 r a n i = if i < n then (Option.bind (gi a i) fun y => Option.bind (ap B r y) fun l => f1 l a n (IntKind.wrap .i64 (i + 1))) else some r)
    (h0 : ∀ a s b n i, f0 a s b n i = if i < n then (Option.bind (gi b i) fun y => if IntKind.wrap .i64 (s + ((y.length : Nat) : Int)) < 0 then none else f0 a (IntKind.wrap .i64 (s + ((y.length : Nat) : Int))) b n (IntKind.wrap .i64 (i + 1))) else Option.bind (gr s) fun y => f1 y a (a.length : Int) 0)
    (hgr : ∀ x, gr x = if gro B x = true then some [] else none) (hg : ∀ a, g a = f0 a 0 a (a.length : Int) 0)
    (ls : List (List α)) (hl : ls.length ≤ 4611686018427387904) (hs : ls.flatten.length * B ≤ 140737488355328) : g ls = some ls.flatten := by
  have hs' : ls.flatten.length ≤ 140737488355328 := Nat.le_trans (Nat.le_mul_of_pos_right _ hB) hs
  have pre : ∀ k, (ls.take k).flatten.length ≤ ls.flatten.length := by
    intro k
    conv => rhs; rw [← List.take_append_drop k ls, List.flatten_append, List.length_append]
    omega
  have key1 : ∀ (d k : Nat), k + d = ls.length → f1 (ls.take k).flatten ls (ls.length : Int) (k : Int) = some ls.flatten := by
    intro d
    induction d with
    | zero => intro k hk; rw [h1, if_neg (by omega), List.take_of_length_le (by omega)]
    | succ d ih =>
      intro k hk
      have hlt : k < ls.length := by omega
      have e : (ls.take (k + 1)).flatten = (ls.take k).flatten ++ ls[k] := by rw [List.take_succ_eq_append_getElem hlt, List.flatten_append]; simp
      have hle := pre (k + 1)
      rw [e, List.length_append] at hle
      rw [h1, if_pos (by omega), gi_at hlt, Option.bind_some, ap_of (Nat.le_trans (Nat.mul_le_mul_right _ hle) hs), Option.bind_some, w_succ (by omega), ← e]
      exact ih (k + 1) (by omega)
  have key0 : ∀ (d k : Nat), k + d = ls.length → f0 ls (((ls.take k).flatten.length : Nat) : Int) ls (ls.length : Int) (k : Int) = some ls.flatten := by
    intro d
    induction d with
    | zero =>
      intro k hk
      rw [h0, if_neg (by omega), List.take_of_length_le (by omega), hgr, if_pos, Option.bind_some]
      · exact key1 ls.length 0 (by omega)
      · unfold gro
        rw [decide_eq_true_eq]
        refine ⟨by omega, ?_⟩
        have : ((ls.flatten.length * B : Nat) : Int) = (ls.flatten.length : Int) * (B : Int) := by push_cast; rfl
        omega
    | succ d ih =>
      intro k hk
      have hlt : k < ls.length := by omega
      have e : (ls.take (k + 1)).flatten = (ls.take k).flatten ++ ls[k] := by rw [List.take_succ_eq_append_getElem hlt, List.flatten_append]; simp
      have hle := pre (k + 1)
      have e2 : (ls.take (k + 1)).flatten.length = (ls.take k).flatten.length + ls[k].length := by rw [e, List.length_append]
      have e3 : IntKind.wrap .i64 ((((ls.take k).flatten.length : Nat) : Int) + ((ls[k].length : Nat) : Int)) = (((ls.take (k + 1)).flatten.length : Nat) : Int) := by
        rw [wrap_in (by omega) (by omega), e2]; push_cast; rfl
      rw [h0, if_pos (by omega), gi_at hlt, Option.bind_some, e3, if_neg (by omega), w_succ (by omega)]
      exact ih (k + 1) (by omega)
  rw [hg]
  exact key0 ls.length 0 (by omega)
end
section
open Go.RowKit
variable {H : Type} {enc : TypeId × Value → H} {P : Program} {W : World} {N : Nat}
end
end Go.Hw

end
section
set_option linter.unusedVariables false
namespace Go.Hw
open Go
abbrev Foot := Nat → Prop
def U (F G : Foot) : Foot := fun b => F b ∨ G b
section
variable {F G H F' G' : Foot}
theorem U.no_left : U No F = F := funext fun _ => propext ⟨fun h => h.elim (fun h => h.elim) id, .inr⟩
theorem U.no_right : U F No = F := funext fun _ => propext ⟨fun h => h.elim id (fun h => h.elim), .inl⟩
theorem U.assoc : U (U F G) H = U F (U G H) := funext fun _ => propext or_assoc
theorem U.comm : U F G = U G F := funext fun _ => propext or_comm
theorem U.left_comm : U F (U G H) = U G (U F H) := by rw [← U.assoc, U.comm (F := F), U.assoc]
theorem Dj.u (d : Dj F H) (d' : Dj G H) : Dj (U F G) H := fun b h k => h.elim (fun h => d b h k) (fun h => d' b h k)
theorem Dj.ul (d : Dj (U F G) H) : Dj F H := fun b h k => d b (.inl h) k
theorem Dj.ur (d : Dj (U F G) H) : Dj G H := fun b h k => d b (.inr h) k
theorem Dj.u' (d : Dj H F) (d' : Dj H G) : Dj H (U F G) := fun b k h => h.elim (fun h => d b k h) (fun h => d' b k h)
theorem Dj.ul' (d : Dj H (U F G)) : Dj H F := fun b k h => d b k (.inl h)
theorem Dj.ur' (d : Dj H (U F G)) : Dj H G := fun b k h => d b k (.inr h)
theorem Dj.no' : Dj F No := fun _ _ h => h
theorem Dj.mono (d : Dj F G) (h1 : ∀ b, F' b → F b) (h2 : ∀ b, G' b → G b) : Dj F' G' := fun b k l => d b (h1 b k) (h2 b l)
end
structure Res where
  p : Heap → Heap → Foot → Prop
  z : Heap → Prop
  lt : ∀ {h m F}, p h m F → ∀ b, F b → b < h.size
  nl : ∀ {h m F}, p h m F → ∀ b, F b → ¬ Live m b
  fr : ∀ {h m F h' m'}, p h m F → (∀ b, F b → h'[b]? = h[b]?) → Sub m m' → (∀ b, F b → ¬ Live m' b) → p h' m' F
  fz : ∀ {h m F G}, p h m F → Sub m h → (∀ b, F b → G b) → z (addV m h G)
def Res.vf (R : Res) : Prop := ∀ h m m' F, R.p h m F → Sub m' h → (∀ b, F b → ¬ Live m' b) → R.p h m' F
def rE : Res where
  p _ _ F := F = No
  z _ := True
  lt := by rintro h m F rfl b hb; exact hb.elim
  nl := by rintro h m F rfl b hb; exact hb.elim
  fr := fun h _ _ _ => h
  fz := fun _ _ _ => trivial
def rS (R R' : Res) : Res where
  p h m F := ∃ F1 F2, R.p h m F1 ∧ R'.p h m F2 ∧ Dj F1 F2 ∧ F = U F1 F2
  z m := R.z m ∧ R'.z m
  lt := by rintro h m F ⟨F1, F2, h1, h2, _, rfl⟩ b hb; exact hb.elim (R.lt h1 b) (R'.lt h2 b)
  nl := by rintro h m F ⟨F1, F2, h1, h2, _, rfl⟩ b hb; exact hb.elim (R.nl h1 b) (R'.nl h2 b)
  fr := by
    rintro h m F h' m' ⟨F1, F2, h1, h2, h3, rfl⟩ k1 k2 k3
    exact ⟨F1, F2, R.fr h1 (fun b hb => k1 b (.inl hb)) k2 (fun b hb => k3 b (.inl hb)), R'.fr h2 (fun b hb => k1 b (.inr hb)) k2 (fun b hb => k3 b (.inr hb)), h3, rfl⟩
  fz := by
    rintro h m F G ⟨F1, F2, h1, h2, h3, rfl⟩ k1 k2
    exact ⟨R.fz h1 k1 (fun b hb => k2 b (.inl hb)), R'.fz h2 k1 (fun b hb => k2 b (.inr hb))⟩
def Sep : List Res → Heap → Heap → Foot → Prop
  | [], _, _, F => F = No
  | R :: Rs, h, m, F => ∃ F1 F2, R.p h m F1 ∧ Sep Rs h m F2 ∧ Dj F1 F2 ∧ F = U F1 F2
def ZAll (m : Heap) : List Res → Prop
  | [] => True
  | R :: Rs => R.z m ∧ ZAll m Rs
def takeL : List Res → List Nat → List Res
  | _, [] => []
  | Rs, i :: is => (match Rs[i]? with | some R => R | none => rE) :: takeL (Rs.set i rE) is
def dropL : List Res → List Nat → List Res
  | Rs, [] => Rs
  | Rs, i :: is => dropL (Rs.set i rE) is
section
variable {h h' m m' : Heap} {F F1 F2 G : Foot} {Rs Rs' : List Res} {R R' : Res} {k : Nat}
theorem Sep.lt : ∀ {Rs : List Res} {F : Foot}, Sep Rs h m F → ∀ b, F b → b < h.size
  | [], _, hs, b, hb => by rw [show _ = No from hs] at hb; exact hb.elim
  | _ :: _, _, ⟨_, _, h1, h2, _, rfl⟩, b, hb => hb.elim (Res.lt _ h1 b) (Sep.lt h2 b)
theorem Sep.nl : ∀ {Rs : List Res} {F : Foot}, Sep Rs h m F → ∀ b, F b → ¬ Live m b
  | [], _, hs, b, hb => by rw [show _ = No from hs] at hb; exact hb.elim
  | _ :: _, _, ⟨_, _, h1, h2, _, rfl⟩, b, hb => hb.elim (Res.nl _ h1 b) (Sep.nl h2 b)
theorem Sep.fr : ∀ {Rs : List Res} {F : Foot}, Sep Rs h m F → (∀ b, F b → h'[b]? = h[b]?) → Sub m m' → (∀ b, F b → ¬ Live m' b) → Sep Rs h' m' F
  | [], _, hs, _, _, _ => hs
  | _ :: _, _, ⟨F1, F2, h1, h2, h3, rfl⟩, k1, k2, k3 => ⟨F1, F2, Res.fr _ h1 (fun b hb => k1 b (.inl hb)) k2 (fun b hb => k3 b (.inl hb)), Sep.fr h2 (fun b hb => k1 b (.inr hb)) k2 (fun b hb => k3 b (.inr hb)), h3, rfl⟩
theorem Sep.fz : ∀ {Rs : List Res} {F : Foot}, Sep Rs h m F → Sub m h → (∀ b, F b → G b) → ZAll (addV m h G) Rs
  | [], _, _, _, _ => trivial
  | _ :: _, _, ⟨F1, F2, h1, h2, h3, rfl⟩, k1, k2 => ⟨Res.fz _ h1 k1 (fun b hb => k2 b (.inl hb)), Sep.fz h2 k1 (fun b hb => k2 b (.inr hb))⟩
theorem Sep.vf : ∀ {Rs : List Res} {F : Foot}, Sep Rs h m F → (∀ R ∈ Rs, R.vf) → Sub m' h → (∀ b, F b → ¬ Live m' b) → Sep Rs h m' F
  | [], _, hs, _, _, _ => hs
  | R :: Rs, _, ⟨F1, F2, h1, h2, h3, rfl⟩, v, k1, k2 => ⟨F1, F2, v R (List.mem_cons_self ..) _ _ _ _ h1 k1 (fun b hb => k2 b (.inl hb)), Sep.vf h2 (fun R hR => v R (List.mem_cons_of_mem _ hR)) k1 (fun b hb => k2 b (.inr hb)), h3, rfl⟩
theorem Sep.get : ∀ {Rs : List Res} {F : Foot} {k : Nat}, Sep Rs h m F → Rs[k]? = some R → ∃ F1 F2, R.p h m F1 ∧ Sep (Rs.set k rE) h m F2 ∧ Dj F1 F2 ∧ F = U F1 F2
  | [], _, _, _, hk => by cases hk
  | R' :: Rs, _, 0, ⟨F1, F2, h1, h2, h3, e⟩, hk => by
    cases hk
    exact ⟨F1, F2, h1, ⟨No, F2, rfl, h2, .no, U.no_left.symm⟩, h3, e⟩
  | R' :: Rs, _, k + 1, ⟨F1, F2, h1, h2, h3, e⟩, hk => by
    obtain ⟨G1, G2, k1, k2, k3, rfl⟩ := Sep.get h2 (show Rs[k]? = some R by simpa using hk)
    refine ⟨G1, U F1 G2, k1, ⟨F1, G2, h1, k2, h3.ur', rfl⟩, ?_, ?_⟩
    · exact Dj.u' h3.ul'.symm k3
    · rw [e, U.left_comm]
theorem Sep.put : ∀ {Rs : List Res} {F2 : Foot} {k : Nat}, Sep Rs h m F2 → Rs[k]? = some rE → R'.p h m F1 → Dj F1 F2 → Sep (Rs.set k R') h m (U F1 F2)
  | [], _, _, _, hk, _, _ => by cases hk
  | R :: Rs, _, 0, ⟨G1, G2, h1, h2, h3, e⟩, hk, hp, d => by
    cases hk
    have : G1 = No := h1
    subst this
    rw [U.no_left] at e
    subst e
    exact ⟨F1, _, hp, h2, d, rfl⟩
  | R :: Rs, _, k + 1, ⟨G1, G2, h1, h2, h3, e⟩, hk, hp, d => by
    subst e
    have := Sep.put h2 (show Rs[k]? = some rE by simpa using hk) hp d.ur'
    exact ⟨G1, _, h1, this, Dj.u' d.ul'.symm h3, by rw [U.left_comm]⟩
theorem Sep.app : ∀ {Rs : List Res} {F : Foot}, Sep Rs h m F → Sep Rs' h m G → Dj F G → Sep (Rs ++ Rs') h m (U F G)
  | [], _, hs, hs', _ => by rw [show _ = No from hs, U.no_left]; exact hs'
  | R :: Rs, _, ⟨F1, F2, h1, h2, h3, e⟩, hs', d => by
    subst e
    exact ⟨F1, _, h1, Sep.app h2 hs' d.ur, Dj.u' h3 d.ul, U.assoc⟩
theorem Sep.one (hp : R.p h m F) : Sep [R] h m F := ⟨F, No, hp, rfl, .no', U.no_right.symm⟩
theorem set_rE (hk : Rs[k]? = some R) : (Rs.set k rE)[k]? = some rE := by
  have : k < Rs.length := (List.getElem?_eq_some_iff.1 hk).1
  rw [List.getElem?_set_self this]
theorem Sep.part : ∀ (is : List Nat) {Rs : List Res} {F : Foot}, Sep Rs h m F → ∃ F1 F2, Sep (takeL Rs is) h m F1 ∧ Sep (dropL Rs is) h m F2 ∧ Dj F1 F2 ∧ F = U F1 F2
  | [], Rs, F, hs => ⟨No, F, rfl, hs, .no, U.no_left.symm⟩
  | i :: is, Rs, F, hs => by
    cases hi : Rs[i]? with
    | none =>
      have : Rs.set i rE = Rs := List.set_eq_of_length_le (List.getElem?_eq_none_iff.1 hi)
      obtain ⟨F1, F2, h1, h2, h3, h4⟩ := Sep.part is (Rs := Rs.set i rE) (by rw [this]; exact hs)
      refine ⟨F1, F2, ?_, h2, h3, h4⟩
      simp only [takeL, hi]
      exact ⟨No, F1, rfl, h1, .no, U.no_left.symm⟩
    | some R =>
      obtain ⟨G1, G2, k1, k2, k3, rfl⟩ := Sep.get hs hi
      obtain ⟨F1, F2, h1, h2, h3, rfl⟩ := Sep.part is k2
      refine ⟨U G1 F1, F2, ?_, h2, Dj.u k3.ur' h3, U.assoc.symm⟩
      simp only [takeL, hi]
      exact ⟨G1, F1, k1, h1, k3.ul', rfl⟩
end
structure Hold (W : Foot) (h0 m0 h m : Heap) (Rs : List Res) : Prop where
  S : St W h0 m0 h m
  q : ∃ F, Sep Rs h m F ∧ ∀ b, F b → h0.size ≤ b ∨ W b
section
variable {h0 m0 h h' m m' : Heap} {W F F' G : Foot} {Rs Rs' : List Res} {R R' : Res} {k : Nat}
theorem Hold.s (O : Hold W h0 m0 h m Rs) : Sub m h := O.S.s
theorem Hold.start (s : Sub m h) : Hold W h m h m [] := ⟨.refl s, No, rfl, fun _ h => h.elim⟩
theorem St.frame (T : St F h m h' m') (h2 : Dj F G) (h3 : ∀ b, G b → b < h.size) (h4 : ∀ b, G b → ¬ Live m b) : (∀ b, G b → h'[b]? = h[b]?) ∧ ∀ b, G b → ¬ Live m' b :=
  ⟨fun b hb => T.fr b (h3 b hb) (fun hf => h2 b hf hb), fun b hb hl => (T.lv b (h3 b hb) hl).elim (h4 b hb) (fun hf => h2 b hf hb)⟩
theorem Hold.get (O : Hold W h0 m0 h m Rs) (k : Nat) (hk : Rs[k]? = some R) : ∃ F, R.p h m F ∧ (∀ b, F b → h0.size ≤ b ∨ W b) ∧
    ∀ {h' m' : Heap} {R' : Res} {F' : Foot}, St F h m h' m' → R'.p h' m' F' → (∀ b, F' b → F b ∨ h.size ≤ b) → Hold W h0 m0 h' m' (Rs.set k R') := by
  obtain ⟨S, FF, hs, hw⟩ := O
  obtain ⟨F1, F2, h1, h2, h3, rfl⟩ := hs.get hk
  refine ⟨F1, h1, fun b hb => hw b (.inl hb), fun {h' m' R' F'} T hp hn => ?_⟩
  obtain ⟨f1, f2⟩ := T.frame h3 h2.lt h2.nl
  have s2 := Sep.fr h2 f1 T.up f2
  have d : Dj F' F2 := fun b hb hc => (hn b hb).elim (fun hf => h3 b hf hc) (fun hl => by have := h2.lt b hc; omega)
  have := Sep.put s2 (set_rE hk) hp d
  rw [List.set_set] at this
  refine ⟨S.then T (fun b _ hb => hw b (.inl hb)), _, this, fun b hb => hb.elim (fun hb => (hn b hb).elim (fun hf => hw b (.inl hf)) (fun hl => .inl (Nat.le_trans S.size hl))) (fun hb => hw b (.inr hb))⟩
theorem Hold.add (O : Hold W h0 m0 h m Rs) (T : St No h m h' m') (hp : R.p h' m' F') (hn : ∀ b, F' b → h.size ≤ b) : Hold W h0 m0 h' m' (Rs ++ [R]) := by
  obtain ⟨S, F, hs, hw⟩ := O
  obtain ⟨f1, f2⟩ := T.frame (G := F) .no hs.lt hs.nl
  refine ⟨S.grow T, _, (Sep.fr hs f1 T.up f2).app (.one hp) (fun b hb hc => by have := hs.lt b hb; have := hn b hc; omega), fun b hb => hb.elim (hw b) (fun hb => .inl (Nat.le_trans S.size (hn b hb)))⟩
theorem Hold.adds (O : Hold W h0 m0 h m Rs) (hp : R.p h m No) : Hold W h0 m0 h m (Rs ++ [R]) := O.add (.refl O.s) hp (fun _ h => h.elim)
theorem Hold.conv (O : Hold W h0 m0 h m Rs) (k : Nat) (hk : Rs[k]? = some R) (H : ∀ F, R.p h m F → ∃ F', R'.p h m F' ∧ ∀ b, F' b → F b) : Hold W h0 m0 h m (Rs.set k R') := by
  obtain ⟨F, h1, _, h3⟩ := O.get k hk
  obtain ⟨F', h4, h5⟩ := H F h1
  exact h3 (.refl O.s) h4 (fun b hb => .inl (h5 b hb))
theorem Hold.cut (O : Hold W h0 m0 h m Rs) (k : Nat) (hk : Rs[k]? = some R) {R1 R2 : Res} (H : ∀ F, R.p h m F → ∃ F1 F2, R1.p h m F1 ∧ R2.p h m F2 ∧ Dj F1 F2 ∧ ∀ b, U F1 F2 b → F b) : Hold W h0 m0 h m (Rs.set k R1 ++ [R2]) := by
  obtain ⟨S, FF, hs, hw⟩ := O
  obtain ⟨F1, F2, h1, h2, h3, rfl⟩ := hs.get hk
  obtain ⟨G1, G2, k1, k2, k3, k4⟩ := H F1 h1
  have := Sep.put h2 (set_rE hk) k1 (h3.mono (fun b hb => k4 b (.inl hb)) (fun _ h => h))
  rw [List.set_set] at this
  refine ⟨S, _, this.app (.one k2) (Dj.u k3 (fun b hb hc => h3 b (k4 b (.inr hc)) hb)), fun b hb => ?_⟩
  rcases hb with (hb | hb) | hb
  · exact hw b (.inl (k4 b (.inl hb)))
  · exact hw b (.inr hb)
  · exact hw b (.inl (k4 b (.inr hb)))
theorem Hold.fuse (O : Hold W h0 m0 h m Rs) (k j : Nat) {R1 R2 : Res} (hk : Rs[k]? = some R1) (hj : (Rs.set k rE)[j]? = some R2) (H : ∀ F1 F2, R1.p h m F1 → R2.p h m F2 → Dj F1 F2 → ∃ F', R'.p h m F' ∧ ∀ b, F' b → U F1 F2 b) : Hold W h0 m0 h m (((Rs.set k rE).set j rE).set k R') := by
  obtain ⟨S, FF, hs, hw⟩ := O
  obtain ⟨F1, F2, h1, h2, h3, rfl⟩ := hs.get hk
  obtain ⟨G1, G2, k1, k2, k3, rfl⟩ := h2.get hj
  obtain ⟨F', h4, h5⟩ := H F1 G1 h1 k1 h3.ul'
  have hk2 : ((Rs.set k rE).set j rE)[k]? = some rE := by
    have hlt : k < Rs.length := (List.getElem?_eq_some_iff.1 hk).1
    by_cases e : j = k
    · subst e; rw [List.getElem?_set_self (by simpa using hlt)]
    · rw [List.getElem?_set_ne e]; exact set_rE hk
  have d : Dj F' G2 := fun b hb hc => (h5 b hb).elim (fun hb => h3 b hb (.inr hc)) (fun hb => k3 b hb hc)
  refine ⟨S, _, Sep.put k2 hk2 h4 d, fun b hb => hb.elim (fun hb => (h5 b hb).elim (fun hb => hw b (.inl hb)) (fun hb => hw b (.inr (.inl hb)))) (fun hb => hw b (.inr (.inr hb)))⟩
theorem Hold.pick (O : Hold W h0 m0 h m Rs) (is : List Nat) : Hold W h0 m0 h m (takeL Rs is) := by
  obtain ⟨S, F, hs, hw⟩ := O
  obtain ⟨F1, F2, h1, h2, h3, rfl⟩ := hs.part is
  exact ⟨S, F1, h1, fun b hb => hw b (.inl hb)⟩
theorem Hold.call (O : Hold W h0 m0 h m Rs) (is : List Nat) : ∃ W', Hold W' h m h m (takeL Rs is) ∧ ∀ {h' m' : Heap} {Rs' : List Res}, Hold W' h m h' m' Rs' → Hold W h0 m0 h' m' (dropL Rs is ++ Rs') := by
  obtain ⟨S, F, hs, hw⟩ := O
  obtain ⟨F1, F2, h1, h2, h3, rfl⟩ := hs.part is
  refine ⟨F1, ⟨.refl S.s, F1, h1, fun b hb => .inr hb⟩, fun {h' m' Rs'} O' => ?_⟩
  obtain ⟨T, F', hs', hw'⟩ := O'
  obtain ⟨f1, f2⟩ := T.frame h3 h2.lt h2.nl
  refine ⟨S.then T (fun b _ hb => hw b (.inl hb)), _, (Sep.fr h2 f1 T.up f2).app hs' (fun b hb hc => (hw' b hc).elim (fun hl => by have := h2.lt b hb; omega) (fun hf => h3 b hf hb)), fun b hb => hb.elim (fun hb => hw b (.inr hb)) (fun hb => (hw' b hb).elim (fun hl => .inl (Nat.le_trans S.size hl)) (fun hf => hw b (.inl hf)))⟩
theorem Hold.lend (O : Hold W h0 m0 h m Rs) (is ls : List Nat) : ∃ m1 W', Sub m m1 ∧ Hold W' h m1 h m1 (takeL Rs is) ∧ ZAll m1 (takeL (dropL Rs is) ls) ∧
    (∀ {h' m' : Heap} {Rs' : List Res}, Hold W' h m1 h' m' Rs' → Hold W h0 m0 h' m' (dropL (dropL Rs is) ls ++ Rs')) ∧
    (∀ {h' m' : Heap} {Rs' : List Res}, Hold W' h m1 h' m' Rs' → (∀ R ∈ Rs', R.vf) → Hold W h0 m0 h' m (dropL Rs is ++ Rs')) := by
  obtain ⟨S, F, hs, hw⟩ := O
  obtain ⟨F1, F2, h1, h2, h3, rfl⟩ := hs.part is
  obtain ⟨F3, F4, k1, k2, k3, rfl⟩ := h2.part ls
  have hl : ∀ b, Live (addV m h F3) b → Live m b ∨ F3 b := fun b h => (addV_live h).1
  have n1 : ∀ b, F1 b → ¬ Live (addV m h F3) b := fun b hb hv => (hl b hv).elim (h1.nl b hb) (fun hf => h3 b hb (.inl hf))
  have n4 : ∀ b, F4 b → ¬ Live (addV m h F3) b := fun b hb hv => (hl b hv).elim (k2.nl b hb) (fun hf => k3 b hf hb)
  refine ⟨addV m h F3, F1, addV_up S.s, ⟨.refl addV_sub, F1, Sep.fr h1 (fun _ _ => rfl) (addV_up S.s) n1, fun b hb => .inr hb⟩, k1.fz S.s (fun _ h => h), fun {h' m' Rs'} O' => ?_, fun {h' m' Rs'} O' v => ?_⟩
  · obtain ⟨T, F', hs', hw'⟩ := O'
    have k4 := Sep.fr k2 (fun _ _ => rfl) (addV_up S.s) n4
    obtain ⟨f1, f2⟩ := T.frame h3.ur' k2.lt n4
    refine ⟨(S.then (St.settle S.s F3) (fun b _ hb => hw b (.inr (.inl hb)))).then T (fun b _ hb => hw b (.inl hb)), _, (Sep.fr k4 f1 T.up f2).app hs' (fun b hb hc => (hw' b hc).elim (fun hl => by have := k2.lt b hb; omega) (fun hf => h3 b hf (.inr hb))), fun b hb => hb.elim (fun hb => hw b (.inr (.inr hb))) (fun hb => (hw' b hb).elim (fun hl => .inl (Nat.le_trans S.size hl)) (fun hf => hw b (.inl hf)))⟩
  · obtain ⟨T, F', hs', hw'⟩ := O'
    have T' : St F1 h m h' m := T.unlend S.s h1.nl
    obtain ⟨f1, f2⟩ := T'.frame h3 h2.lt h2.nl
    have n' : ∀ b, F' b → ¬ Live m b := fun b hb hv => (hw' b hb).elim (fun hl => by have := S.s.lt hv; omega) (fun hf => h1.nl b hf hv)
    refine ⟨S.then T' (fun b _ hb => hw b (.inl hb)), _, (Sep.fr h2 f1 T'.up f2).app (hs'.vf v T'.s n') (fun b hb hc => (hw' b hc).elim (fun hl => by have := h2.lt b hb; omega) (fun hf => h3 b hf hb)), fun b hb => hb.elim (fun hb => hw b (.inr hb)) (fun hb => (hw' b hb).elim (fun hl => .inl (Nat.le_trans S.size hl)) (fun hf => hw b (.inl hf)))⟩
theorem Hold.frz (O : Hold W h0 m0 h m Rs) (k : Nat) (hk : Rs[k]? = some R) : ∃ m', Sub m m' ∧ R.z m' ∧ Hold W h0 m0 h m' (Rs.set k rE) := by
  obtain ⟨m1, W', h1, h2, h3, h4, _⟩ := O.lend [] [k]
  refine ⟨m1, h1, ?_, ?_⟩
  · have : takeL (dropL Rs []) [k] = [R] := by simp only [takeL, dropL, hk]
    rw [this] at h3
    exact h3.1
  · have := h4 h2
    simp only [takeL, dropL, List.append_nil] at this
    exact this
end
end Go.Hw

end
section
set_option linter.unusedVariables false
namespace Go.Hw
open Go
structure Asn (α : Type) (sz : Nat) where
  p : Heap → Heap → α → List Value → Foot → Prop
  E : Heap → α → List Value → Prop
  T : Tell sz E
  len : ∀ {h m x cs F}, p h m x cs F → cs.length = sz
  flat : ∀ {h m x cs F}, p h m x cs F → ∀ v ∈ cs, Flat v
  lt : ∀ {h m x cs F}, p h m x cs F → ∀ b, F b → b < h.size
  nl : ∀ {h m x cs F}, p h m x cs F → ∀ b, F b → ¬ Live m b
  fr : ∀ {h m x cs F h' m'}, p h m x cs F → (∀ b, F b → h'[b]? = h[b]?) → Sub m m' → (∀ b, F b → ¬ Live m' b) → p h' m' x cs F
  fz : ∀ {h m x cs F G}, p h m x cs F → Sub m h → (∀ b, F b → G b) → E (addV m h G) x cs
def aE {α : Type} {sz : Nat} {E : Heap → α → List Value → Prop} (T : Tell sz E) : Asn α sz where
  p _ m x cs F := E m x cs ∧ F = No
  E := E
  T := T
  len h := T.len _ _ _ h.1
  flat h := T.flat _ _ _ h.1
  lt := by rintro h m x cs F ⟨_, rfl⟩ b hb; exact hb.elim
  nl := by rintro h m x cs F ⟨_, rfl⟩ b hb; exact hb.elim
  fr := fun h _ s _ => ⟨T.mono _ _ _ _ s h.1, h.2⟩
  fz := fun h s _ => T.mono _ _ _ _ (addV_up s) h.1
def Asn.vf {α : Type} {sz : Nat} (a : Asn α sz) : Prop := ∀ h m m' x cs F, a.p h m x cs F → Sub m' h → (∀ b, F b → ¬ Live m' b) → a.p h m' x cs F
theorem aE_vf {α : Type} {sz : Nat} {E : Heap → α → List Value → Prop} {T : Tell sz E} (hE : ∀ m m' x cs, E m x cs → E m' x cs) : (aE T).vf := fun _ _ _ _ _ _ h _ _ => ⟨hE _ _ _ _ h.1, h.2⟩
def rC {α : Type} {sz : Nat} (a : Asn α sz) (x : α) (cs : List Value) : Res where
  p h m F := a.p h m x cs F
  z m := a.E m x cs
  lt := a.lt
  nl := a.nl
  fr := a.fr
  fz := a.fz
theorem Blk.fr {h h' : Heap} {b : Nat} {c : List Value} {t : TypeId} (hb : Blk h b c t) (e : h'[b]? = h[b]?) : Blk h' b c t := by unfold Blk at *; rw [e]; exact hb
def rV (b : Nat) (t : TypeId) (cs : List Value) : Res where
  p h m F := Blk h b cs t ∧ ¬ Live m b ∧ F = fb b
  z m := Blk m b cs t
  lt := by rintro h m F ⟨h1, _, rfl⟩ i hi; unfold fb at hi; subst hi; exact h1.lt
  nl := by rintro h m F ⟨h1, h2, rfl⟩ i hi; unfold fb at hi; subst hi; exact h2
  fr := by rintro h m F h' m' ⟨h1, h2, rfl⟩ k1 _ k3; exact ⟨h1.fr (k1 b rfl), k3 b rfl, rfl⟩
  fz := by rintro h m F G ⟨h1, h2, rfl⟩ _ k2; exact h1.settle (k2 b rfl)
section
variable {α : Type} {sz : Nat}
def CsA (a : Asn α sz) (h m : Heap) : List α → List Value → Foot → Prop
  | [], cs, F => cs = [] ∧ F = No
  | x :: l, cs, F => ∃ c1 c2 F1 F2, cs = c1 ++ c2 ∧ a.p h m x c1 F1 ∧ CsA a h m l c2 F2 ∧ Dj F1 F2 ∧ F = U F1 F2
variable {a : Asn α sz} {h h' m m' : Heap} {l l' : List α} {cs ds : List Value} {F F' F1 F2 G : Foot} {x y : α}
theorem CsA.len : ∀ {l : List α} {cs : List Value} {F : Foot}, CsA a h m l cs F → cs.length = l.length * sz
  | [], _, _, ⟨e, _⟩ => by rw [e]; simp
  | x :: l, _, _, ⟨c1, c2, F1, F2, e, h1, h2, _, _⟩ => by rw [e, List.length_append, CsA.len h2, a.len h1, List.length_cons, Nat.succ_mul, Nat.add_comm]
theorem CsA.flat : ∀ {l : List α} {cs : List Value} {F : Foot}, CsA a h m l cs F → ∀ v ∈ cs, Flat v
  | [], _, _, ⟨e, _⟩ => by rw [e]; exact Flats.nil
  | x :: l, _, _, ⟨c1, c2, F1, F2, e, h1, h2, _, _⟩ => by
    rw [e]; intro v hv
    rcases List.mem_append.1 hv with hv | hv
    · exact a.flat h1 v hv
    · exact CsA.flat h2 v hv
theorem CsA.lt : ∀ {l : List α} {cs : List Value} {F : Foot}, CsA a h m l cs F → ∀ b, F b → b < h.size
  | [], _, _, ⟨_, e⟩, b, hb => by rw [e] at hb; exact hb.elim
  | x :: l, _, _, ⟨c1, c2, F1, F2, _, h1, h2, _, rfl⟩, b, hb => hb.elim (a.lt h1 b) (CsA.lt h2 b)
theorem CsA.nl : ∀ {l : List α} {cs : List Value} {F : Foot}, CsA a h m l cs F → ∀ b, F b → ¬ Live m b
  | [], _, _, ⟨_, e⟩, b, hb => by rw [e] at hb; exact hb.elim
  | x :: l, _, _, ⟨c1, c2, F1, F2, _, h1, h2, _, rfl⟩, b, hb => hb.elim (a.nl h1 b) (CsA.nl h2 b)
theorem CsA.fr : ∀ {l : List α} {cs : List Value} {F : Foot}, CsA a h m l cs F → (∀ b, F b → h'[b]? = h[b]?) → Sub m m' → (∀ b, F b → ¬ Live m' b) → CsA a h' m' l cs F
  | [], _, _, hs, _, _, _ => hs
  | x :: l, _, _, ⟨c1, c2, F1, F2, e, h1, h2, d, rfl⟩, k1, k2, k3 => ⟨c1, c2, F1, F2, e, a.fr h1 (fun b hb => k1 b (.inl hb)) k2 (fun b hb => k3 b (.inl hb)), CsA.fr h2 (fun b hb => k1 b (.inr hb)) k2 (fun b hb => k3 b (.inr hb)), d, rfl⟩
theorem CsA.vf (v : a.vf) : ∀ {l : List α} {cs : List Value} {F : Foot}, CsA a h m l cs F → Sub m' h → (∀ b, F b → ¬ Live m' b) → CsA a h m' l cs F
  | [], _, _, hs, _, _ => hs
  | x :: l, _, _, ⟨c1, c2, F1, F2, e, h1, h2, d, rfl⟩, k1, k2 => ⟨c1, c2, F1, F2, e, v _ _ _ _ _ _ h1 k1 (fun b hb => k2 b (.inl hb)), CsA.vf v h2 k1 (fun b hb => k2 b (.inr hb)), d, rfl⟩
theorem CsA.fz : ∀ {l : List α} {cs : List Value} {F : Foot}, CsA a h m l cs F → Sub m h → (∀ b, F b → G b) → CsE sz a.E (addV m h G) l cs
  | [], _, _, ⟨e, _⟩, _, _ => e
  | x :: l, _, _, ⟨c1, c2, F1, F2, e, h1, h2, d, rfl⟩, k1, k2 => ⟨c1, c2, e, a.len h1, a.fz h1 k1 (fun b hb => k2 b (.inl hb)), CsA.fz h2 k1 (fun b hb => k2 b (.inr hb))⟩
theorem CsA.append : ∀ {l : List α} {cs : List Value} {F : Foot}, CsA a h m l cs F → CsA a h m l' ds F' → Dj F F' → CsA a h m (l ++ l') (cs ++ ds) (U F F')
  | [], _, _, ⟨e, e'⟩, h', _ => by subst e; subst e'; rw [U.no_left]; exact h'
  | x :: l, _, _, ⟨c1, c2, F1, F2, e, h1, h2, d, e'⟩, h', dd => by
    subst e; subst e'
    rw [List.append_assoc]
    exact ⟨c1, _, F1, _, rfl, h1, CsA.append h2 h' dd.ur, Dj.u' d dd.ul, U.assoc⟩
theorem CsA.one (h1 : a.p h m x cs F) : CsA a h m [x] cs F := ⟨cs, [], F, No, by simp, h1, ⟨rfl, rfl⟩, .no', U.no_right.symm⟩
theorem CsA.split : ∀ {l : List α} {cs : List Value} {F : Foot} {i : Nat}, CsA a h m l cs F → l[i]? = some y →
    ∃ l1 l2 c1 ce c2 F1 Fe F2, l = l1 ++ y :: l2 ∧ l1.length = i ∧ cs = c1 ++ (ce ++ c2) ∧ c1.length = i * sz ∧ CsA a h m l1 c1 F1 ∧ a.p h m y ce Fe ∧ CsA a h m l2 c2 F2 ∧ Dj F1 Fe ∧ Dj F1 F2 ∧ Dj Fe F2 ∧ F = U Fe (U F1 F2)
  | [], _, _, _, _, hi => by cases hi
  | x :: l, _, _, 0, ⟨c1, c2, F1, F2, e, h1, h2, d, e'⟩, hi => by
    cases hi
    exact ⟨[], l, [], c1, c2, No, F1, F2, rfl, rfl, e, by simp, ⟨rfl, rfl⟩, h1, h2, .no, .no, d, by rw [e', U.no_left]⟩
  | x :: l, _, _, i + 1, ⟨d1, d2, F1, F2, e, h1, h2, d, e'⟩, hi => by
    obtain ⟨l1, l2, c1, ce, c2, G1, Ge, G2, rfl, k1, rfl, k2, k3, k4, k5, k6, k7, k8, rfl⟩ := CsA.split h2 (show l[i]? = some y by simpa using hi)
    refine ⟨x :: l1, l2, d1 ++ c1, ce, c2, U F1 G1, Ge, G2, rfl, by simp [k1], by rw [e, List.append_assoc], ?_, ⟨d1, c1, F1, G1, rfl, h1, k3, d.ur'.ul', rfl⟩, k4, k5, Dj.u d.ul' k6, Dj.u d.ur'.ur' k7, k8, ?_⟩
    · rw [List.length_append, a.len h1, k2, Nat.succ_mul, Nat.add_comm]
    · rw [e', U.left_comm, U.assoc]
theorem CsA.join {l1 l2 : List α} {c1 ce c2 : List Value} {Fe : Foot} (h1 : CsA a h m l1 c1 F1) (h2 : a.p h m y ce Fe) (h3 : CsA a h m l2 c2 F2) (d1 : Dj F1 Fe) (d2 : Dj F1 F2) (d3 : Dj Fe F2) : CsA a h m (l1 ++ y :: l2) (c1 ++ (ce ++ c2)) (U Fe (U F1 F2)) := by
  have := h1.append (show CsA a h m (y :: l2) (ce ++ c2) (U Fe F2) from ⟨ce, c2, Fe, F2, rfl, h2, h3, d3, rfl⟩) (Dj.u' d1 d2)
  rw [U.left_comm] at this
  exact this
theorem CsA.drop : ∀ {l : List α} {cs : List Value} {F : Foot} (k : Nat), CsA a h m l cs F → ∃ F', CsA a h m (l.drop k) (cs.drop (k * sz)) F' ∧ ∀ b, F' b → F b
  | [], _, F, k, ⟨e, e'⟩ => by subst e; subst e'; exact ⟨No, by simp [CsA], fun _ h => h⟩
  | x :: l, _, F, 0, hh => by rw [Nat.zero_mul, List.drop_zero, List.drop_zero]; exact ⟨F, hh, fun _ h => h⟩
  | x :: l, _, F, k + 1, ⟨c1, c2, F1, F2, e, h1, h2, d, e'⟩ => by
    obtain ⟨F', h3, h4⟩ := CsA.drop k h2
    refine ⟨F', ?_, fun b hb => by rw [e']; exact .inr (h4 b hb)⟩
    rw [e, show (k + 1) * sz = c1.length + k * sz by rw [a.len h1, Nat.succ_mul, Nat.add_comm], ← List.drop_drop (l := c1 ++ c2), List.drop_left, List.drop_succ_cons]
    exact h3
theorem CsA.take : ∀ {l : List α} {cs : List Value} {F : Foot} (k : Nat), CsA a h m l cs F → ∃ F', CsA a h m (l.take k) (cs.take (k * sz)) F' ∧ ∀ b, F' b → F b
  | [], _, F, k, ⟨e, e'⟩ => by subst e; subst e'; exact ⟨No, by simp [CsA], fun _ h => h⟩
  | x :: l, _, F, 0, hh => ⟨No, by simp [CsA], fun _ h => h.elim⟩
  | x :: l, _, F, k + 1, ⟨c1, c2, F1, F2, e, h1, h2, d, e'⟩ => by
    obtain ⟨F', h3, h4⟩ := CsA.take k h2
    refine ⟨U F1 F', ?_, fun b hb => by rw [e']; exact hb.elim .inl (fun hb => .inr (h4 b hb))⟩
    rw [e, show (k + 1) * sz = c1.length + k * sz by rw [a.len h1, Nat.succ_mul, Nat.add_comm], List.take_length_add_append, List.take_succ_cons]
    exact ⟨c1, _, F1, F', rfl, h1, h3, d.mono (fun _ h => h) h4, rfl⟩
theorem CsE.csa {E : Heap → α → List Value → Prop} {T : Tell sz E} : ∀ {l : List α} {cs : List Value}, CsE sz E m l cs → CsA (aE T) h m l cs No
  | [], _, e => ⟨e, rfl⟩
  | x :: l, _, ⟨c1, c2, e, h1, h2, h3⟩ => ⟨c1, c2, No, No, e, ⟨h2, rfl⟩, CsE.csa h3, .no, U.no_left.symm⟩
theorem CsA.cse {E : Heap → α → List Value → Prop} {T : Tell sz E} : ∀ {l : List α} {cs : List Value} {F : Foot}, CsA (aE T) h m l cs F → CsE sz E m l cs ∧ F = No
  | [], _, _, ⟨e, e'⟩ => ⟨e, e'⟩
  | x :: l, _, _, ⟨c1, c2, F1, F2, e, ⟨h1, h1'⟩, h2, _, e'⟩ => by
    obtain ⟨h3, h3'⟩ := CsA.cse h2
    subst h1'; subst h3'
    exact ⟨⟨c1, c2, e, T.len _ _ _ h1, h1, h3⟩, by rw [e', U.no_left]⟩
end
section
variable {α : Type} {sz : Nat}
def rowP (a : Asn α sz) (A : Option Addr) (c : Nat) (l : List α) (h m : Heap) (F : Foot) : Prop :=
  (l = [] ∧ c = 0 ∧ F = No) ∨ ∃ b t pre cs rest Fe, c ≠ 0 ∧ A = some ⟨b, pre.length, none⟩ ∧ Blk h b (pre ++ cs ++ rest) t ∧ CsA a h m l cs Fe ∧ l.length ≤ c ∧ (c - l.length) * sz ≤ rest.length ∧ ¬ Live m b ∧ ¬ Fe b ∧ F = U (fb b) Fe
def rR (a : Asn α sz) (A : Option Addr) (c : Nat) (l : List α) : Res where
  p := rowP a A c l
  z m := Rd sz a.E m A l ∧ l.length ≤ c
  lt := by
    rintro h m F (⟨_, _, rfl⟩ | ⟨b, t, pre, cs, rest, Fe, k0, k1, k2, k3, k4, k5, k6, k7, rfl⟩) i hi
    · exact hi.elim
    · rcases hi with hi | hi
      · unfold fb at hi; subst hi; exact k2.lt
      · exact k3.lt i hi
  nl := by
    rintro h m F (⟨_, _, rfl⟩ | ⟨b, t, pre, cs, rest, Fe, k0, k1, k2, k3, k4, k5, k6, k7, rfl⟩) i hi
    · exact hi.elim
    · rcases hi with hi | hi
      · unfold fb at hi; subst hi; exact k6
      · exact k3.nl i hi
  fr := by
    rintro h m F h' m' (⟨e1, e2, rfl⟩ | ⟨b, t, pre, cs, rest, Fe, k0, k1, k2, k3, k4, k5, k6, k7, rfl⟩) f1 f2 f3
    · exact .inl ⟨e1, e2, rfl⟩
    · exact .inr ⟨b, t, pre, cs, rest, Fe, k0, k1, k2.fr (f1 b (.inl rfl)), k3.fr (fun i hi => f1 i (.inr hi)) f2 (fun i hi => f3 i (.inr hi)), k4, k5, f3 b (.inl rfl), k7, rfl⟩
  fz := by
    rintro h m F G (⟨e1, e2, rfl⟩ | ⟨b, t, pre, cs, rest, Fe, k0, k1, k2, k3, k4, k5, k6, k7, rfl⟩) f1 f2
    · subst e1; exact ⟨.nil, Nat.zero_le _⟩
    · subst k1
      exact ⟨CsE.rd (k2.settle (f2 b (.inl rfl))) (k3.fz f1 (fun i hi => f2 i (.inr hi))) (fun _ _ h => h), k4⟩
variable {a : Asn α sz} {h h' h0 m m' m0 : Heap} {A : Option Addr} {c n k : Nat} {l l' : List α} {F F' G W : Foot} {x : Int} {y : α} {v : Value} {cs : List Value} {Rs : List Res} {b : Nat} {t : TypeId} {aa : Addr}
variable {E : Heap → α → List Value → Prop} {T : Tell sz E}
theorem rR_vf (v : a.vf) : (rR a A c l).vf := by
  rintro h m m' F (⟨e1, e2, rfl⟩ | ⟨b, t, pre, cs, rest, Fe, k0, k1, k2, k3, k4, k5, k6, k7, rfl⟩) f1 f2
  · exact .inl ⟨e1, e2, rfl⟩
  · exact .inr ⟨b, t, pre, cs, rest, Fe, k0, k1, k2, k3.vf v f1 (fun i hi => f2 i (.inr hi)), k4, k5, f2 b (.inl rfl), k7, rfl⟩
theorem rowP.cap (o : rowP a A c l h m F) : l.length ≤ c := by
  rcases o with ⟨rfl, rfl, _⟩ | ⟨b, t, pre, cs, rest, Fe, k0, k1, k2, k3, k4, _⟩
  · exact Nat.le_refl _
  · exact k4
theorem rowP.os (o : rowP (aE T) A c l h m F) (hw : ∀ b, F b → h0.size ≤ b ∨ W b) : OS W h0 sz E h m A l c ∧ F = fp A c := by
  rcases o with ⟨rfl, rfl, rfl⟩ | ⟨b, t, pre, cs, rest, Fe, k0, k1, k2, k3, k4, k5, k6, k7, rfl⟩
  · exact ⟨.inl ⟨rfl, rfl⟩, funext fun b => propext ⟨fun h => h.elim, fun h => h.1 rfl⟩⟩
  · obtain ⟨k8, rfl⟩ := k3.cse
    refine ⟨.inr ⟨b, t, pre, cs, rest, k1, k2, k8, k4, k5, hw b (.inl rfl), k6⟩, ?_⟩
    rw [U.no_right]
    subst k1
    exact funext fun i => propext ⟨fun hi => ⟨k0, _, rfl, hi.symm⟩, fun ⟨_, a, e, hi⟩ => by cases e; exact hi.symm⟩
theorem OS.rowP (o : OS W h0 sz E h m A l c) : rowP (aE T) A c l h m (fp A c) := by
  by_cases hc : c = 0
  · subst hc
    have := o.cap
    exact .inl ⟨List.length_eq_zero_iff.1 (by omega), rfl, funext fun b => propext ⟨fun h => h.1 rfl, fun h => h.elim⟩⟩
  rcases o with ⟨rfl, rfl⟩ | ⟨b, t, pre, cs, rest, k1, k2, k3, k4, k5, k6, k7⟩
  · exact (hc rfl).elim
  · refine .inr ⟨b, t, pre, cs, rest, No, hc, k1, k2, k3.csa, k4, k5, k7, fun h => h, ?_⟩
    rw [U.no_right]
    subst k1
    exact funext fun i => propext ⟨fun ⟨_, a, e, hi⟩ => by cases e; exact hi.symm, fun hi => ⟨hc, _, rfl, hi.symm⟩⟩
theorem Hold.os (O : Hold W h0 m0 h m Rs) (k : Nat) (hk : Rs[k]? = some (rR (aE T) A c l)) : OS W h0 sz E h m A l c := by
  obtain ⟨F, h1, h2, _⟩ := O.get k hk
  exact (rowP.os h1 h2).1
theorem Hold.ob (O : Hold W h0 m0 h m Rs) (k : Nat) (hk : Rs[k]? = some (rV b t cs)) : OB W h0 h m b cs t := by
  obtain ⟨F, ⟨h1, h3, rfl⟩, h2, _⟩ := O.get k hk
  exact ⟨h1, h2 b rfl, h3⟩
theorem Hold.cap (O : Hold W h0 m0 h m Rs) (k : Nat) (hk : Rs[k]? = some (rR a A c l)) : l.length ≤ c := by
  obtain ⟨F, h1, _⟩ := O.get k hk
  exact rowP.cap h1
theorem Hold.all (O : Hold W h0 m0 h m Rs) (k : Nat) (hk : Rs[k]? = some (rV b t cs)) : cellsH h ⟨b, 0, none⟩ 0 cs.length = some cs := (O.ob k hk).all
theorem Hold.setR (O : Hold W h0 m0 h m Rs) (k : Nat) (hk : Rs[k]? = some (rR (aE T) A c l)) (o : OS W h0 sz E h' m A l' c) (S : St (fp A c) h m h' m) : Hold W h0 m0 h' m (Rs.set k (rR (aE T) A c l')) := by
  obtain ⟨F, h1, h2, h4⟩ := O.get k hk
  obtain ⟨_, rfl⟩ := rowP.os h1 h2
  exact h4 S o.rowP (fun _ h => .inl h)
variable {K : Heap → Prop}
theorem Hold.new {z : Array Value} (O : Hold W h0 m0 h m Rs) (H : ∀ h', Ext h h' → Hold W h0 m0 h' m (Rs ++ [rV h.size t z.toList]) → K h') : newH h (.cells z t) K :=
  newH_in fun h' hb e hs => H h' e (O.add (St.of_ext O.s e) ⟨hb, St.notLive O.s, rfl⟩ (fun i hi => by unfold fb at hi; omega))
theorem Hold.elst (O : Hold W h0 m0 h m Rs) (k : Nat) (hk : Rs[k]? = some (rR (aE T) A c l)) (g : gi l x = some y) (ha : A = some aa) (hc : cellsH h (Addr.add aa (Int.toNat x * sz)) 0 sz = some cs) (j : Nat) (hj : j < sz) {y' : α} (hy : E m y' (cs.set j v)) (hf : Flat v) (e : l.set (Int.toNat x) y' = l')
    (H : ∀ h', Hold W h0 m0 h' m (Rs.set k (rR (aE T) A c l')) → K h') : ∃ h', st1 h (Addr.add (Addr.add aa (Int.toNat x * sz)) j) v = some h' ∧ K h' := by
  subst e
  obtain ⟨h', h1, h2, h3⟩ := (O.os k hk).st1k T O.s g ha hc j hj hy hf
  exact ⟨h', h1, H h' (O.setR k hk h2 h3)⟩
theorem Hold.elst0 (O : Hold W h0 m0 h m Rs) (k : Nat) (hk : Rs[k]? = some (rR (aE T) A c l)) (g : gi l x = some y) (ha : A = some aa) (hc : cellsH h (Addr.add aa (Int.toNat x * sz)) 0 sz = some cs) (hj : 0 < sz) {y' : α} (hy : E m y' (cs.set 0 v)) (hf : Flat v) (e : l.set (Int.toNat x) y' = l')
    (H : ∀ h', Hold W h0 m0 h' m (Rs.set k (rR (aE T) A c l')) → K h') : ∃ h', st1 h (Addr.add aa (Int.toNat x * sz)) v = some h' ∧ K h' := O.elst k hk g ha hc 0 hj hy hf e H
theorem Hold.nil (O : Hold W h0 m0 h m Rs) (a : Asn α sz) (A : Option Addr) : Hold W h0 m0 h m (Rs ++ [rR a A 0 []]) := O.adds (R := rR a A 0 []) (.inl ⟨rfl, rfl, rfl⟩)
theorem Hold.row (O : Hold W h0 m0 h m Rs) (k : Nat) (hk : Rs[k]? = some (rV b t cs)) (a : Asn α sz) (hc : ∃ F, CsA a h m l cs F ∧ F = No) (hn : l.length = c) (h0' : c ≠ 0) : Hold W h0 m0 h m (Rs.set k (rR a (some ⟨b, 0, none⟩) c l)) :=
  O.conv k hk (R' := rR a (some ⟨b, 0, none⟩) c l) fun F hF => by
    obtain ⟨h1, h2, rfl⟩ := hF
    obtain ⟨_, hc, rfl⟩ := hc
    exact ⟨_, .inr ⟨b, t, [], cs, [], No, h0', rfl, by simpa using h1, hc, by omega, by simp [hn], h2, fun h => h, rfl⟩, fun i hi => hi.elim id (fun h => h.elim)⟩
theorem Hold.rowE (O : Hold W h0 m0 h m Rs) (k : Nat) (hk : Rs[k]? = some (rV b t cs)) (T : Tell sz E) (hc : CsE sz E m l cs) (hn : l.length = c) : Hold W h0 m0 h m (Rs.set k (rR (aE T) (some ⟨b, 0, none⟩) c l)) := by
  by_cases h0' : c = 0
  · subst h0'
    refine O.conv k hk (R' := rR (aE T) (some ⟨b, 0, none⟩) 0 l) fun F _ => ⟨No, .inl ⟨List.length_eq_zero_iff.1 hn, rfl, rfl⟩, fun _ h => h.elim⟩
  · exact O.row k hk (aE T) ⟨No, hc.csa, rfl⟩ hn h0'
theorem rowP.sl {lo hi : Int} {mx : Nat} (o : rowP a A c l h m F) (h1 : 0 ≤ lo) (h2 : lo ≤ hi) (h3 : hi ≤ (l.length : Int)) (h4 : hi.toNat ≤ mx) (h5 : mx ≤ c) : ∃ F', rowP a (sliceA A (Int.toNat lo) mx sz) (mx - Int.toNat lo) (Hw.sl l lo hi) h m F' ∧ ∀ b, F' b → F b := by
  rcases o with ⟨rfl, rfl, rfl⟩ | ⟨b, t, pre, cs, rest, Fe, k0, rfl, k1, k2, k3, k4, k5, k6, rfl⟩
  · exact ⟨No, .inl ⟨by unfold Hw.sl; simp, by omega, rfl⟩, fun _ h => h⟩
  by_cases hm : mx = lo.toNat
  · exact ⟨No, .inl ⟨List.length_eq_zero_iff.1 (by rw [← sl_len h1 h2 h3]; omega), by omega, rfl⟩, fun _ h => h.elim⟩
  have hl := k2.len
  have e1 : (cs.take (lo.toNat * sz)).length = lo.toNat * sz := by
    rw [List.length_take, hl]; have := Nat.mul_le_mul_right sz (show lo.toNat ≤ l.length by omega); omega
  have e2 : hi.toNat * sz ≤ l.length * sz := Nat.mul_le_mul_right _ (by omega)
  have e3 : lo.toNat * sz ≤ hi.toNat * sz := Nat.mul_le_mul_right _ (by omega)
  obtain ⟨F1, q1, q2⟩ := k2.take hi.toNat
  obtain ⟨F2, q3, q4⟩ := q1.drop lo.toNat
  refine ⟨U (fb b) F2, .inr ⟨b, t, pre ++ cs.take (lo.toNat * sz), (cs.take (hi.toNat * sz)).drop (lo.toNat * sz), cs.drop (hi.toNat * sz) ++ rest, F2, by omega, ?_, ?_, q3, sl_cap h1 h2 h3 h4, ?_, k5, fun hb => k6 (q2 b (q4 b hb)), rfl⟩, fun i hi => hi.elim .inl (fun hi => .inr (q2 i (q4 i hi)))⟩
  · unfold sliceA
    rw [if_neg hm, Option.map_some, List.length_append, e1]
    unfold Addr.add
    split
    · rename_i h9; rw [h9]; rfl
    · rfl
  · have : pre ++ cs.take (lo.toNat * sz) ++ (cs.take (hi.toNat * sz)).drop (lo.toNat * sz) ++ (cs.drop (hi.toNat * sz) ++ rest) = pre ++ cs ++ rest := by
      have e4 : cs.take (lo.toNat * sz) = (cs.take (hi.toNat * sz)).take (lo.toNat * sz) := by rw [List.take_take, Nat.min_eq_left e3]
      rw [e4, List.append_assoc pre, List.take_append_drop, ← List.append_assoc, List.append_assoc pre, List.take_append_drop]
    rw [this]; exact k1
  · rw [List.length_append, List.length_drop, hl, ← sl_len h1 h2 h3]
    have e5 : (mx - lo.toNat - (hi.toNat - lo.toNat)) * sz + hi.toNat * sz ≤ c * sz := by rw [← Nat.add_mul]; exact Nat.mul_le_mul_right _ (by omega)
    have e6 : (c - l.length) * sz + l.length * sz = c * sz := by rw [← Nat.add_mul, Nat.sub_add_cancel k3]
    omega
theorem Hold.sls {lo hi : Int} (O : Hold W h0 m0 h m Rs) (k : Nat) (hk : Rs[k]? = some (rR a A c l)) (g : sls l lo hi = some l') : Hold W h0 m0 h m (Rs.set k (rR a (sliceA A (Int.toNat lo) c sz) (c - Int.toNat lo) l')) := by
  have hc := O.cap k hk
  obtain ⟨h1, h2, h3, _, rfl⟩ := sls_e g
  exact O.conv k hk (R' := rR a (sliceA A (Int.toNat lo) c sz) (c - Int.toNat lo) (Hw.sl l lo hi)) fun F hF => rowP.sl hF h1 h2 h3 (by omega) (Nat.le_refl _)
def rH (a : Asn α sz) (A : Option Addr) (c : Nat) (l : List α) (i : Nat) (ce : List Value) : Res where
  p h m F := ∃ b t pre c1 c2 rest l1 y l2 F1 F2, A = some ⟨b, pre.length, none⟩ ∧ Blk h b (pre ++ (c1 ++ (ce ++ c2)) ++ rest) t ∧ l = l1 ++ y :: l2 ∧ l1.length = i ∧ ce.length = sz ∧ c1.length = i * sz ∧ CsA a h m l1 c1 F1 ∧ CsA a h m l2 c2 F2 ∧ Dj F1 F2 ∧ l.length ≤ c ∧ (c - l.length) * sz ≤ rest.length ∧ ¬ Live m b ∧ ¬ F1 b ∧ ¬ F2 b ∧ F = U (fb b) (U F1 F2)
  z _ := True
  lt := by
    rintro h m F ⟨b, t, pre, c1, c2, rest, l1, y, l2, F1, F2, k1, k2, k3, k4, k5, k5', k6, k7, k8, k9, k10, k11, k12, k13, rfl⟩ i hi
    rcases hi with hi | hi | hi
    · unfold fb at hi; subst hi; exact k2.lt
    · exact k6.lt i hi
    · exact k7.lt i hi
  nl := by
    rintro h m F ⟨b, t, pre, c1, c2, rest, l1, y, l2, F1, F2, k1, k2, k3, k4, k5, k5', k6, k7, k8, k9, k10, k11, k12, k13, rfl⟩ i hi
    rcases hi with hi | hi | hi
    · unfold fb at hi; subst hi; exact k11
    · exact k6.nl i hi
    · exact k7.nl i hi
  fr := by
    rintro h m F h' m' ⟨b, t, pre, c1, c2, rest, l1, y, l2, F1, F2, k1, k2, k3, k4, k5, k5', k6, k7, k8, k9, k10, k11, k12, k13, rfl⟩ f1 f2 f3
    exact ⟨b, t, pre, c1, c2, rest, l1, y, l2, F1, F2, k1, k2.fr (f1 b (.inl rfl)), k3, k4, k5, k5', k6.fr (fun i hi => f1 i (.inr (.inl hi))) f2 (fun i hi => f3 i (.inr (.inl hi))), k7.fr (fun i hi => f1 i (.inr (.inr hi))) f2 (fun i hi => f3 i (.inr (.inr hi))), k8, k9, k10, f3 b (.inl rfl), k12, k13, rfl⟩
  fz := fun _ _ _ => trivial
theorem Hold.hole (O : Hold W h0 m0 h m Rs) (k : Nat) (hk : Rs[k]? = some (rR a A c l)) (g : gi l x = some y) : ∃ a' ce, A = some a' ∧ cellsH h (Addr.add a' (Int.toNat x * sz)) 0 sz = some ce ∧ Hold W h0 m0 h m (Rs.set k (rH a A c l (Int.toNat x) ce) ++ [rC a y ce]) := by
  obtain ⟨F, h1, _, _⟩ := O.get k hk
  have g1 := gi_get g
  have key : ∀ F, rowP a A c l h m F → ∃ b t pre rest c1 ce c2 l1 l2 F1 Fe F2, A = some ⟨b, pre.length, none⟩ ∧ Blk h b (pre ++ (c1 ++ (ce ++ c2)) ++ rest) t ∧ l = l1 ++ y :: l2 ∧ l1.length = x.toNat ∧ c1.length = x.toNat * sz ∧ CsA a h m l1 c1 F1 ∧ a.p h m y ce Fe ∧ CsA a h m l2 c2 F2 ∧ Dj F1 Fe ∧ Dj F1 F2 ∧ Dj Fe F2 ∧ l.length ≤ c ∧ (c - l.length) * sz ≤ rest.length ∧ ¬ Live m b ∧ ¬ F1 b ∧ ¬ Fe b ∧ ¬ F2 b ∧ F = U (fb b) (U Fe (U F1 F2)) := by
    rintro F (⟨rfl, _, _⟩ | ⟨b, t, pre, cs, rest, Fe, k0, k1, k2, k3, k4, k5, k6, k7, rfl⟩)
    · cases g1
    · obtain ⟨l1, l2, c1, ce, c2, F1, Fe, F2, e1, e2, rfl, e3, e4, e5, e6, d1, d2, d3, rfl⟩ := k3.split g1
      exact ⟨b, t, pre, rest, c1, ce, c2, l1, l2, F1, Fe, F2, k1, k2, e1, e2, e3, e4, e5, e6, d1, d2, d3, k4, k5, k6, fun h => k7 (.inr (.inl h)), fun h => k7 (.inl h), fun h => k7 (.inr (.inr h)), rfl⟩
  have cell : ∀ {b t pre rest c1 ce c2}, Blk h b (pre ++ (c1 ++ (ce ++ c2)) ++ rest) t → c1.length = x.toNat * sz → ce.length = sz → cellsH h (Addr.add (⟨b, pre.length, none⟩ : Addr) (Int.toNat x * sz)) 0 sz = some ce := by
    intro b t pre rest c1 ce c2 hb e1 e2
    have := hb.cells (a := (⟨b, pre.length, none⟩ : Addr).add (x.toNat * sz)) (by rw [add_block]) (add_spot _ rfl) sz 0 (by rw [add_off]; simp only [List.length_append]; omega)
    rw [this, add_off]
    simp only [Nat.add_zero]
    rw [show pre ++ (c1 ++ (ce ++ c2)) ++ rest = (pre ++ c1) ++ (ce ++ (c2 ++ rest)) by simp only [List.append_assoc], ← e1, show pre.length + c1.length = (pre ++ c1).length by rw [List.length_append], List.drop_left, ← e2, List.take_left]
  obtain ⟨b, t, pre, rest, c1, ce, c2, l1, l2, F1, Fe, F2, k1, k2, k3, k4, k5, k6, k7, k8, k9⟩ := key F h1
  have hc := cell k2 k5 (a.len k7)
  refine ⟨_, ce, k1, hc, ?_⟩
  refine O.cut k hk fun F' hF' => ?_
  obtain ⟨b', t', pre', rest', c1', ce', c2', l1', l2', F1', Fe', F2', q1, q2, q3, q4, q5, q6, q7, q8, d1, d2, d3, q9, q10, q11, q12, q13, q14, rfl⟩ := key F' hF'
  have hc' := cell q2 q5 (a.len q7)
  rw [k1] at q1
  have e1 : b = b' := by have := (Option.some.inj q1); exact congrArg Addr.block this
  have e2 : pre.length = pre'.length := by have := (Option.some.inj q1); exact congrArg Addr.off this
  subst e1
  rw [← e2, hc] at hc'
  have e3 : ce = ce' := Option.some.inj hc'
  subst e3
  refine ⟨U (fb b) (U F1' F2'), Fe', ⟨b, t', pre', c1', c2', rest', l1', y, l2', F1', F2', by rw [k1, e2], q2, q3, q4, a.len q7, q5, q6, q8, d2, q9, q10, q11, q12, q14, rfl⟩, q7, ?_, ?_⟩
  · exact Dj.u (fun i hi hf => by unfold fb at hi; subst hi; exact q13 hf) (Dj.u d1 d3.symm)
  · rintro i ((hi | hi) | hi)
    · exact .inl hi
    · exact .inr (.inr hi)
    · exact .inr (.inl hi)
theorem Hold.fillG {i : Nat} {R2 : Res} (O : Hold W h0 m0 h m Rs) (k j : Nat) (hk : Rs[k]? = some (rH a A c l i cs)) (hj : (Rs.set k rE)[j]? = some R2) (H2 : ∀ F, R2.p h m F → a.p h m y cs F) (e : l.set i y = l') : Hold W h0 m0 h m (((Rs.set k rE).set j rE).set k (rR a A c l')) := by
  subst e
  refine O.fuse k j (R' := rR a A c (l.set i y)) hk hj ?_
  rintro F1 F2 ⟨b, t, pre, c1, c2, rest, l1, y', l2, G1, G2, k1, k2, rfl, rfl, k5, k5', k6, k7, k8, k9, k10, k11, k12, k13, rfl⟩ h2 d
  replace h2 := H2 _ h2
  have hl : (l1 ++ y' :: l2).set l1.length y = l1 ++ y :: l2 := by rw [List.set_append_right _ _ (Nat.le_refl _), Nat.sub_self, List.set_cons_zero]
  rw [hl]
  have hlen : (l1 ++ y :: l2).length = (l1 ++ y' :: l2).length := by simp
  refine ⟨U (fb b) (U F2 (U G1 G2)), .inr ⟨b, t, pre, _, rest, _, ?_, k1, k2, k6.join h2 k7 d.ur.ul k8 d.ur.ur.symm, ?_, ?_, k11, ?_, rfl⟩, ?_⟩
  · rw [List.length_append, List.length_cons] at k9; omega
  · rw [hlen]; exact k9
  · rw [hlen]; exact k10
  · rintro (hf | hf | hf)
    · exact d b (.inl rfl) hf
    · exact k12 hf
    · exact k13 hf
  · rintro i (hi | hi | hi)
    · exact .inl (.inl hi)
    · exact .inr hi
    · exact .inl (.inr hi)
theorem Hold.holeSt {i : Nat} (O : Hold W h0 m0 h m Rs) (k : Nat) (hk : Rs[k]? = some (rH a A c l i cs)) (ha : A = some aa) (j : Nat) {ds : List Value} (hn : j + ds.length ≤ sz) (hf : ∀ v ∈ ds, Flat v) (H : ∀ h', Hold W h0 m0 h' m (Rs.set k (rH a A c l i (cs.take j ++ ds ++ cs.drop (j + ds.length)))) → K h') : ∃ h', stH h (Addr.add (Addr.add aa (i * sz)) j) ds 0 = some h' ∧ K h' := by
  obtain ⟨F, h1, h2, h3⟩ := O.get k hk
  obtain ⟨b, t, pre, c1, c2, rest, l1, y, l2, F1, F2, k1, k2, k3, k4, k5, k5', k6, k7, k8, k9, k10, k11, k12, k13, rfl⟩ := h1
  subst ha; cases k1
  have hcs : cs = cs.take j ++ (cs.drop j).take ds.length ++ cs.drop (j + ds.length) := by
    rw [List.append_assoc, ← List.drop_drop, List.take_append_drop, List.take_append_drop]
  have hb : Blk h b ((pre ++ c1 ++ cs.take j) ++ (cs.drop j).take ds.length ++ (cs.drop (j + ds.length) ++ (c2 ++ rest))) t := by
    have : (pre ++ c1 ++ cs.take j) ++ (cs.drop j).take ds.length ++ (cs.drop (j + ds.length) ++ (c2 ++ rest)) = pre ++ (c1 ++ (cs ++ c2)) ++ rest := by
      conv => rhs; rw [hcs]
      simp only [List.append_assoc]
    rw [this]; exact k2
  obtain ⟨h', s1, b1, o1⟩ := Blk.stH ds (a := Addr.add (Addr.add ⟨b, pre.length, none⟩ (i * sz)) j) (i := 0) hb (by rw [add_block, add_block]) (add_spot _ (add_spot _ rfl))
    (by rw [add_off, add_off]; simp only [List.length_append, List.length_take]; omega) (by rw [List.length_take, List.length_drop]; omega) hf
  refine ⟨h', s1, H h' ?_⟩
  have S : St (fb b) h m h' m := .only O.s k11 o1
  have S2 : St (U (fb b) (U F1 F2)) h m h' m := ⟨S.up, S.s, S.size, fun i hi hn => S.fr i hi (fun h => hn (.inl h)), fun i hi hl => .inl hl⟩
  have hk0 : ∀ b', F1 b' ∨ F2 b' → h'[b']? = h[b']? := fun b' hb' => S.fr b' (hb'.elim (k6.lt b') (k7.lt b')) (fun e => by unfold fb at e; subst e; exact hb'.elim k12 k13)
  refine h3 (R' := rH a (some ⟨b, pre.length, none⟩) c l i _) S2 ⟨b, t, pre, c1, c2, rest, l1, y, l2, F1, F2, rfl, ?_, k3, k4, ?_, k5', k6.fr (fun i hi => hk0 i (.inl hi)) (.refl _) (fun i hi => k6.nl i hi), k7.fr (fun i hi => hk0 i (.inr hi)) (.refl _) (fun i hi => k7.nl i hi), k8, k9, k10, k11, k12, k13, rfl⟩ (fun _ h => .inl h)
  · have : pre ++ (c1 ++ ((cs.take j ++ ds ++ cs.drop (j + ds.length)) ++ c2)) ++ rest = (pre ++ c1 ++ cs.take j) ++ ds ++ (cs.drop (j + ds.length) ++ (c2 ++ rest)) := by simp only [List.append_assoc]
    rw [this]; exact b1
  · simp only [List.length_append, List.length_take, List.length_drop]; omega
theorem Hold.holeSt1 {i : Nat} {a : Asn α 1} {ce : Value} (O : Hold W h0 m0 h m Rs) (k : Nat) (hk : Rs[k]? = some (rH a A c l i [ce])) (ha : A = some aa) (hf : Flat v) (H : ∀ h', Hold W h0 m0 h' m (Rs.set k (rH a A c l i [v])) → K h') : ∃ h', st1 h (Addr.add aa (i * 1)) v = some h' ∧ K h' := by
  obtain ⟨h', h1, h2⟩ := O.holeSt k hk ha 0 (ds := [v]) (by simp) (Flats.cons hf Flats.nil) (K := K) (fun h' O' => H h' (by simpa using O'))
  refine ⟨h', ?_, h2⟩
  simp only [stH] at h1
  split at h1
  · rename_i h4 h5
    cases h1; exact h5
  · cases h1
end
def aRow {α : Type} {sz : Nat} (a : Asn α sz) : Asn (List α) 1 where
  p h m l cs F := ∃ A c, cs = [.slice A l.length c] ∧ (rR a A c l).p h m F
  E := eRow sz a.E
  T := tell_row a.T
  len := by rintro h m x cs F ⟨A, c, rfl, _⟩; rfl
  flat := by rintro h m x cs F ⟨A, c, rfl, _⟩; exact Flats.cons trivial Flats.nil
  lt := by rintro h m x cs F ⟨A, c, rfl, o⟩; exact (rR a A c x).lt o
  nl := by rintro h m x cs F ⟨A, c, rfl, o⟩; exact (rR a A c x).nl o
  fr := by rintro h m x cs F h' m' ⟨A, c, rfl, o⟩ k1 k2 k3; exact ⟨A, c, rfl, (rR a A c x).fr o k1 k2 k3⟩
  fz := by
    rintro h m x cs F G ⟨A, c, rfl, o⟩ k1 k2
    have := (rR a A c x).fz o k1 k2
    exact ⟨A, c, rfl, this.2, this.1⟩
section
variable {α : Type} {sz : Nat} {a : Asn α sz} {h h' h0 m m' m0 : Heap} {A : Option Addr} {c n k : Nat} {l l' xs : List α} {F F' G W : Foot} {x : Int} {y : α} {v X : Value} {cs es : List Value} {Rs : List Res} {b : Nat} {t e : TypeId} {aa : Addr}
variable {E : Heap → α → List Value → Prop} {T : Tell sz E}
theorem rowP.app {bytes : Nat} {z : Array Value} {K : Value → Heap → Prop} {F2 : Foot} (o : rowP a A c l h m F) (s : Sub m h) (hn : n = l.length) (hz : z.size = sz) (h1 : srcCells sz X h = some (xs.length, es)) (h2 : CsA a h m xs es F2) (hd : Dj F F2) (hb0 : 0 < bytes) (g : ap bytes l xs = some l')
    (hk : ∀ A' c' h' F', rowP a A' c' l' h' m F' → St F h m h' m → (∀ b, F' b → F b ∨ F2 b ∨ h.size ≤ b) → K (.slice A' l'.length c') h') : AppW e sz bytes z A n c X h K := by
  subst hn
  obtain ⟨hb, rfl⟩ := ap_e g
  have he := h2.len
  refine ⟨xs.length, es, h1, ?_⟩
  have hpush : ∀ (old : List Value) (Fo : Foot) (hold : oldCells sz A l.length h = some old) (hE : CsA a h m l old Fo) (hFo : ∀ b, Fo b → F b), c < l.length + xs.length →
      ∃ old, oldCells sz A l.length h = some old ∧ ∀ c', l.length + xs.length ≤ c' → K (.slice (some ⟨h.size, 0, none⟩) (l.length + xs.length) c') (h.push (.cells (old.toArray ++ es.toArray ++ zcells z (c' - (l.length + xs.length))) e)) := by
    intro old Fo hold hE hFo hlt
    refine ⟨old, hold, fun c' hc' => ?_⟩
    rw [show (Value.slice (some ⟨h.size, 0, none⟩) (l.length + xs.length) c') = .slice (some ⟨h.size, 0, none⟩) (l ++ xs).length c' by rw [List.length_append]]
    have e1 := Ext.push h (Obj.cells (old.toArray ++ es.toArray ++ zcells z (c' - (l.length + xs.length))) e)
    have S1 := St.of_ext (W := F) s e1
    have hA := hE.append h2 (hd.mono hFo (fun _ h => h))
    have hA' := hA.fr (fun i hi => e1.2 i (hA.lt i hi)) (.refl _) (fun i hi => hA.nl i hi)
    refine hk _ _ _ _ (.inr ⟨h.size, e, [], old ++ es, (zcells z (c' - (l.length + xs.length))).toList, _, by omega, rfl, ?_, hA', by rw [List.length_append]; exact hc', ?_, St.notLive s, fun hf => by have := hA.lt _ hf; omega, rfl⟩) S1 ?_
    · have := Blk.new h (old.toArray ++ es.toArray ++ zcells z (c' - (l.length + xs.length))) e
      simpa using this
    · rw [zc_len, hz, List.length_append]; exact Nat.le_refl _
    · rintro i (hi | hi | hi)
      · unfold fb at hi; exact .inr (.inr (by omega))
      · exact .inl (hFo i hi)
      · exact .inr (.inl hi)
  rcases o with ⟨rfl, rfl, rfl⟩ | ⟨b, t, pre, cs, rest, Fe, k0, rfl, k1, k2, k3, k4, k5, k6, rfl⟩
  · by_cases hx : xs.length = 0
    · have hxs : xs = [] := List.length_eq_zero_iff.1 hx
      subst hxs
      obtain ⟨rfl, rfl⟩ : es = [] ∧ F2 = No := h2
      refine .inl ⟨by simp, ?_⟩
      have fin := hk A 0 h No (.inl ⟨rfl, rfl, rfl⟩) (St.refl s) (fun b hb => .inl hb)
      cases A with
      | none => exact .inl ⟨rfl, fin⟩
      | some a => exact .inr ⟨a, h, rfl, by simp [stH], fin⟩
    · refine .inr ⟨by simp; omega, by simpa using hb, hb0, ?_⟩
      refine hpush [] No ?_ ⟨rfl, rfl⟩ (fun _ h => h) (by simp; omega)
      cases A with
      | none => rfl
      | some a => simp [oldCells, cellsH]
  · have hl := k2.len
    by_cases hle : l.length + xs.length ≤ c
    · refine .inl ⟨hle, .inr ?_⟩
      have hmul : (c - l.length) * sz = xs.length * sz + (c - l.length - xs.length) * sz := by rw [← Nat.add_mul]; congr 1; omega
      have k1' : Blk h b ((pre ++ cs) ++ rest.take (xs.length * sz) ++ rest.drop (xs.length * sz)) t := by rw [List.append_assoc, List.take_append_drop]; exact k1
      obtain ⟨h', s1, b1, o1⟩ := Blk.stH es (a := (⟨b, pre.length, none⟩ : Addr).add (l.length * sz)) (i := 0) k1' (by rw [add_block]) (add_spot _ rfl) (by rw [add_off, List.length_append, hl, Nat.add_zero]) (by rw [List.length_take, he]; omega) (h2.flat)
      refine ⟨_, h', rfl, s1, ?_⟩
      rw [show (Value.slice (some ⟨b, pre.length, none⟩) (l.length + xs.length) c) = .slice (some ⟨b, pre.length, none⟩) (l ++ xs).length c by rw [List.length_append]]
      have S : St (fb b) h m h' m := .only s k5 o1
      have S2 : St (U (fb b) Fe) h m h' m := ⟨S.up, S.s, S.size, fun i hi hn => S.fr i hi (fun h => hn (.inl h)), fun i hi hl => .inl hl⟩
      have hA := k2.append h2 hd.ur
      have nb : ∀ i, U Fe F2 i → i ≠ b := fun i hi e' => by subst e'; exact hi.elim k6 (fun hf => hd i (.inl rfl) hf)
      have hA' := hA.fr (fun i hi => S.fr i (hA.lt i hi) (fun e' => nb i hi e')) (.refl _) (fun i hi => hA.nl i hi)
      refine hk _ _ _ _ (.inr ⟨b, t, pre, cs ++ es, rest.drop (xs.length * sz), _, k0, rfl, by rw [← List.append_assoc pre]; exact b1, hA', by rw [List.length_append]; exact hle, ?_, k5, fun hf => nb b hf rfl, rfl⟩) S2 ?_
      · rw [List.length_drop, List.length_append, show c - (l.length + xs.length) = c - l.length - xs.length by omega]; omega
      · rintro i (hi | hi | hi)
        · exact .inl (.inl hi)
        · exact .inl (.inr hi)
        · exact .inr (.inl hi)
    · refine .inr ⟨by omega, hb, hb0, ?_⟩
      refine hpush cs Fe ?_ k2 (fun _ h => .inr h) (by omega)
      have := k1.cells (a := ⟨b, pre.length, none⟩) rfl rfl (l.length * sz) 0 (by simp [hl])
      simp only [oldCells, this, Nat.add_zero]
      rw [List.append_assoc, List.drop_left, List.take_append_of_le_length (by omega), List.take_of_length_le (by omega)]
variable {K : Value → Heap → Prop} {bytes : Nat} {z : Array Value}
theorem Hold.app (O : Hold W h0 m0 h m Rs) (k : Nat) (hk : Rs[k]? = some (rR (aE T) A c l)) (hn : n = l.length) (hz : z.size = sz) (hs : Src sz E h m X xs) (hb0 : 0 < bytes) (g : ap bytes l xs = some l')
    (H : ∀ A' c' h', Hold W h0 m0 h' m (Rs.set k (rR (aE T) A' c' l')) → K (.slice A' l'.length c') h') : AppW e sz bytes z A n c X h K := by
  obtain ⟨F, h1, h2, h3⟩ := O.get k hk
  obtain ⟨es, s1, s2⟩ := hs
  refine rowP.app h1 O.s hn hz s1 (s2.csa (T := T)) .no' hb0 g fun A' c' h' F' q1 q2 q3 => H A' c' h' (h3 (R' := rR (aE T) A' c' l') q2 q1 fun b hb => ?_)
  rcases q3 b hb with hb | hb | hb
  · exact .inl hb
  · exact hb.elim
  · exact .inr hb
theorem Hold.app0 (O : Hold W h0 m0 h m Rs) (a : Asn α sz) (hn : n = 0) (hz : z.size = sz) (h1 : srcCells sz X h = some (xs.length, es)) (h2 : ∃ F, CsA a h m xs es F ∧ F = No) (hb0 : 0 < bytes) (g : ap bytes ([] : List α) xs = some l')
    (H : ∀ A' c' h', Ext h h' → Hold W h0 m0 h' m (Rs ++ [rR a A' c' l']) → K (.slice A' l'.length c') h') : AppW e sz bytes z A n 0 X h K := by
  obtain ⟨_, h2, rfl⟩ := h2
  refine rowP.app (a := a) (l := []) (F := No) (.inl ⟨rfl, rfl, rfl⟩) O.s hn hz h1 h2 .no' hb0 g fun A' c' h' F' q1 q2 q3 => H A' c' h' q2.ext (O.add q2 q1 fun b hb => ?_)
  rcases q3 b hb with hb | hb | hb
  · exact hb.elim
  · exact hb.elim
  · exact hb
theorem Hold.appE0 (O : Hold W h0 m0 h m Rs) (T : Tell sz E) (hn : n = 0) (hz : z.size = sz) (hs : Src sz E h m X xs) (hb0 : 0 < bytes) (g : ap bytes ([] : List α) xs = some l')
    (H : ∀ A' c' h', Ext h h' → Hold W h0 m0 h' m (Rs ++ [rR (aE T) A' c' l']) → K (.slice A' l'.length c') h') : AppW e sz bytes z A n 0 X h K := by
  obtain ⟨es, s1, s2⟩ := hs
  exact O.app0 (aE T) hn hz s1 ⟨No, s2.csa, rfl⟩ hb0 g H
theorem Hold.appA {R2 : Res} (O : Hold W h0 m0 h m Rs) (k j : Nat) (hk : Rs[k]? = some (rR a A c l)) (hj : (Rs.set k rE)[j]? = some R2) (H2 : ∀ F, R2.p h m F → a.p h m y es F) (hn : n = l.length) (hz : z.size = sz) (hs : srcCells sz X h = some (1, es)) (hb0 : 0 < bytes) (g : ap bytes l [y] = some l')
    (H : ∀ A' c' h', Hold W h0 m0 h' m (((Rs.set k rE).set j rE).set k (rR a A' c' l')) → K (.slice A' l'.length c') h') : AppW e sz bytes z A n c X h K := by
  have O2 := O.fuse k j (R' := rS (rR a A c l) R2) hk hj (fun F1 F2 h1 h2 d => ⟨_, ⟨F1, F2, h1, h2, d, rfl⟩, fun _ h => h⟩)
  have hk2 : (((Rs.set k rE).set j rE).set k (rS (rR a A c l) R2))[k]? = some (rS (rR a A c l) R2) := by
    have hlt : k < Rs.length := (List.getElem?_eq_some_iff.1 hk).1
    rw [List.getElem?_set_self (by simpa using hlt)]
  obtain ⟨F, ⟨F1, F2, h1, h2, d, rfl⟩, h3, h4⟩ := O2.get k hk2
  refine rowP.app (xs := [y]) h1 O.s hn hz hs (CsA.one (H2 _ h2)) d hb0 g fun A' c' h' F' q1 q2 q3 => H A' c' h' ?_
  have q4 : St (U F1 F2) h m h' m := ⟨q2.up, q2.s, q2.size, fun i hi hn => q2.fr i hi (fun h => hn (.inl h)), fun i hi hl => (q2.lv i hi hl).elim .inl (fun h => .inr (.inl h))⟩
  have := h4 (R' := rR a A' c' l') q4 q1 fun b hb => by
    rcases q3 b hb with hb | hb | hb
    · exact .inl (.inl hb)
    · exact .inl (.inr hb)
    · exact .inr hb
  rw [List.set_set] at this
  exact this
end
end Go.Hw

end
section
set_option linter.unusedVariables false
namespace Go.Hw
open Go
section
variable {m h : Heap} {a : Addr} {cs ds : List Value} {N n k j : Nat} {v : Value}
theorem ldAn (s : Sub m h) (hc : cellsH m a 0 N = some cs) (hn : N = n) : ldv true n h a = some (.agg cs.toArray) := by subst hn; exact ldA s hc
theorem lset' {α : Type} {l l' : List α} {i : Nat} {y : α} (g : l.set i y = l') : l.length = l'.length := by rw [← g, List.length_set]
theorem gi_ltl {α : Type} {l : List α} {x : Int} {y : α} (g : gi l x = some y) (hn : n = l.length) : x < ((n : Nat) : Int) := by subst hn; exact gi_lt g
end
section
variable {α : Type} {sz : Nat} {a : Asn α sz} {h h' h0 m m' m0 : Heap} {A Ai : Option Addr} {c ci n k : Nat} {l li : List α} {ll ll' : List (List α)} {W : Foot} {x : Int} {y : α} {v : Value} {cs : List Value} {Rs Rs' : List Res} {b : Nat} {t : TypeId} {aa : Addr} {K : Heap → Prop}
variable {E : Heap → α → List Value → Prop} {T : Tell sz E}
theorem Hold.ret (O : Hold W h0 m0 h m Rs) (Q : Hold No h m h' m' Rs') : Hold W h0 m0 h' m' (Rs ++ Rs') := by
  obtain ⟨W', h1, h2⟩ := O.call []
  simp only [dropL, takeL] at h1 h2
  exact h2 ⟨⟨Q.S.up, Q.S.s, Q.S.size, fun b hb _ => Q.S.fr b hb (fun h => h), fun b hb hl => (Q.S.lv b hb hl).elim .inl (fun h => h.elim)⟩, by
    obtain ⟨F, k1, k2⟩ := Q.q
    exact ⟨F, k1, fun b hb => (k2 b hb).elim .inl (fun h => h.elim)⟩⟩
theorem vfs_nil : ∀ R ∈ ([] : List Res), R.vf := fun _ h => by cases h
theorem vfs_cons {R : Res} (v : R.vf) (w : ∀ R ∈ Rs, R.vf) : ∀ R' ∈ R :: Rs, R'.vf := fun R' h => by
  rcases List.mem_cons.1 h with rfl | h
  · exact v
  · exact w R' h
theorem Hold.retC (O : Hold W h0 m0 h m Rs) (Q : Hold No h m h' m' Rs') (v : ∀ R ∈ Rs', R.vf) : Hold W h0 m0 h' m (Rs ++ Rs') := by
  obtain ⟨m1, W', h1, h2, _, _, h5⟩ := O.lend [] []
  have s1 : Hold No h m h' m Rs' := by
    refine ⟨Q.S.unlend O.s (fun _ h => h.elim), ?_⟩
    obtain ⟨F, k1, k2⟩ := Q.q
    have T := Q.S.unlend O.s (fun _ h => h.elim)
    exact ⟨F, k1.vf v T.s (fun b hb hl => (k2 b hb).elim (fun h => by have := O.s.lt hl; omega) (fun h => h.elim)), k2⟩
  exact O.ret s1
theorem Hold.lend0 (O : Hold W h0 m0 h m Rs) (ls : List Nat) : ∃ m1, Sub m m1 ∧ Sub m1 h ∧ ZAll m1 (takeL Rs ls) ∧
    (∀ {h' m' : Heap} {Rs' : List Res}, Hold No h m1 h' m' Rs' → Hold W h0 m0 h' m' (dropL Rs ls ++ Rs')) ∧
    (∀ {h' m' : Heap} {Rs' : List Res}, Hold No h m1 h' m' Rs' → (∀ R ∈ Rs', R.vf) → Hold W h0 m0 h' m (Rs ++ Rs')) := by
  obtain ⟨m1, W', h1, h2, h3, h4, h5⟩ := O.lend [] ls
  simp only [dropL, takeL] at h2 h3 h4 h5
  have up : ∀ {h' m' : Heap} {Rs' : List Res}, Hold No h m1 h' m' Rs' → Hold W' h m1 h' m' Rs' := fun Q =>
    ⟨⟨Q.S.up, Q.S.s, Q.S.size, fun b hb _ => Q.S.fr b hb (fun h => h), fun b hb hl => (Q.S.lv b hb hl).elim .inl (fun h => h.elim)⟩, by
      obtain ⟨F, k1, k2⟩ := Q.q
      exact ⟨F, k1, fun b hb => (k2 b hb).elim .inl (fun h => h.elim)⟩⟩
  exact ⟨m1, h1, h2.s, h3, fun Q => h4 (up Q), fun Q v => h5 (up Q) v⟩
theorem Hold.adr {K : Addr → Prop} (O : Hold W h0 m0 h m Rs) (k : Nat) (hk : Rs[k]? = some (rR a A c l)) (hn : n = l.length) (g : gi l x = some y) (H : ∀ aa, A = some aa → K aa) : ptrOk A fun a => 0 ≤ x ∧ x < ((n : Nat) : Int) ∧ K a := by
  obtain ⟨F, h1, _⟩ := O.get k hk
  have g1 := gi_get g
  rcases h1 with ⟨rfl, _⟩ | ⟨b, t, pre, cs, rest, Fe, k0, rfl, _⟩
  · cases g1
  · exact ⟨gi_le g, gi_ltl g hn, H _ rfl⟩
theorem srcV {e : TypeId} (O : Hold W h0 m0 h m Rs) (k : Nat) (hk : Rs[k]? = some (rV b e cs)) (hn : cs.length = sz) : srcCells sz (.slice (some ⟨b, 0, none⟩) 1 c) h = some (1, cs) := by
  have := O.all k hk
  subst hn
  simp only [srcCells, Nat.one_mul, this, Option.map_some]
theorem Hold.appR {e : TypeId} {bytes : Nat} {z : Array Value} {K : Value → Heap → Prop} (O : Hold W h0 m0 h m Rs) (k j : Nat) (hk : Rs[k]? = some (rR (aRow a) A c ll)) (hj : (Rs.set k rE)[j]? = some (rR a Ai ci li)) {X : Value} (hn : n = ll.length) (hz : z.size = 1) (hs : srcCells 1 X h = some (1, [.slice Ai li.length ci])) (hb0 : 0 < bytes) (g : ap bytes ll [li] = some ll')
    (H : ∀ A' c' h', Hold W h0 m0 h' m (((Rs.set k rE).set j rE).set k (rR (aRow a) A' c' ll')) → K (.slice A' ll'.length c') h') : AppW e 1 bytes z A n c X h K :=
  O.appA k j hk hj (fun F hF => ⟨Ai, ci, rfl, hF⟩) hn hz hs hb0 g H
end
section
variable {κ ν : Type} [DecidableEq κ] {h h' m m' h0 m0 : Heap} {b k : Nat} {W : Foot} {kv : κ → Value} {es : List (κ × ν)} {q : κ} {x zv : ν} {v z : Value} {P : Program} {t elem : TypeId} {EV : Heap → ν → Value → Prop} {M : MonoV EV} {Rs : List Res}
def FM (EV : Heap → ν → Value → Prop) (kv : κ → Value) (m : Heap) (b : Nat) (es : List (κ × ν)) : Prop := ∃ vs, MapB kv m b vs ∧ MR (EV m) es vs
def rM (M : MonoV EV) (kv : κ → Value) (b : Nat) (es : List (κ × ν)) : Res where
  p h m F := (∃ vs, MapB kv h b vs ∧ MR (EV m) es vs) ∧ ¬ Live m b ∧ F = fb b
  z m := FM EV kv m b es
  lt := by rintro h m F ⟨⟨vs, h1, _⟩, _, rfl⟩ i hi; unfold fb at hi; subst hi; exact h1.lt
  nl := by rintro h m F ⟨_, h2, rfl⟩ i hi; unfold fb at hi; subst hi; exact h2
  fr := by
    rintro h m F h' m' ⟨⟨vs, ⟨e, c, h1, h1'⟩, h2⟩, h3, rfl⟩ k1 k2 k3
    exact ⟨⟨vs, ⟨e, c, by rw [k1 b rfl]; exact h1, h1'⟩, h2.sub M k2⟩, k3 b rfl, rfl⟩
  fz := by
    rintro h m F G ⟨⟨vs, h1, h2⟩, h3, rfl⟩ k1 k2
    have hlt := h1.lt
    obtain ⟨e, c, h1, h1'⟩ := h1
    exact ⟨vs, ⟨e, c, by rw [addV_get hlt (.inr (k2 b rfl))]; exact h1, h1'⟩, h2.sub M (addV_up k1)⟩
omit [DecidableEq κ] in
theorem Hold.om (O : Hold W h0 m0 h m Rs) (k : Nat) (hk : Rs[k]? = some (rM M kv b es)) : OM W h0 EV kv h m b es := by
  obtain ⟨F, ⟨⟨vs, h1, h2⟩, h3, rfl⟩, h4, _⟩ := O.get k hk
  exact ⟨vs, h1, h2, h4 b rfl, h3⟩
omit [DecidableEq κ] in
theorem Hold.mkMap {K : Value → Heap → Prop} (O : Hold W h0 m0 h m Rs) (M : MonoV EV) (kv : κ → Value) (H : ∀ h', Ext h h' → Hold W h0 m0 h' m (Rs ++ [rM M kv h.size ([] : List (κ × ν))]) → K (.map (some h.size)) h') : Gen P (Instr.makeMap t none) h K :=
  gen_makeMap (kv := kv) fun h' b e _ => H h' e (O.add (R := rM M kv h.size ([] : List (κ × ν))) (St.of_ext O.s e) ⟨⟨[], b, rfl⟩, St.notLive O.s, rfl⟩ (fun i hi => by unfold fb at hi; omega))
theorem Hold.mapUpd {K : Unit → Heap → Prop} {es' : List (κ × ν)} (O : Hold W h0 m0 h m Rs) (k : Nat) (hk : Rs[k]? = some (rM M kv b es)) (ok : KeyOk P t kv elem) (q : κ) (he : EV m x v) (e : pset es q x = es') (H : ∀ h', Hold W h0 m0 h' m (Rs.set k (rM M kv b es')) → K () h') : Hwp P (Instr.mapUpdate t (.map (some b)) (kv q) v) h K := by
  subst e
  refine (O.om k hk).upd O.s ok q he fun h' o S => H h' ?_
  obtain ⟨F, ⟨_, h3, rfl⟩, h4, h5⟩ := O.get k hk
  obtain ⟨vs, k1, k2, _, k4⟩ := o
  exact h5 (R' := rM M kv b _) S ⟨⟨vs, k1, k2⟩, k4, rfl⟩ (fun _ h => .inl h)
end
end Go.Hw
namespace Go.Hw
end Go.Hw
namespace Go.Hw
open Go
class SetAt (k : Nat) (L : List Res) (r : Res) (out : outParam (List Res)) : Prop where
  eq : L.set k r = out
instance {a r : Res} {l : List Res} : SetAt 0 (a :: l) r (r :: l) := ⟨rfl⟩
instance {k : Nat} {a r : Res} {l o : List Res} [S : SetAt k l r o] : SetAt (k + 1) (a :: l) r (a :: o) := ⟨by rw [List.set_cons_succ, S.eq]⟩
class GetAt (k : Nat) (L : List Res) (r : outParam Res) : Prop where
  eq : L[k]? = some r
instance {a : Res} {l : List Res} : GetAt 0 (a :: l) a := ⟨rfl⟩
instance {k : Nat} {a r : Res} {l : List Res} [S : GetAt k l r] : GetAt (k + 1) (a :: l) r := ⟨by rw [List.getElem?_cons_succ, S.eq]⟩
class Apd (L M : List Res) (out : outParam (List Res)) : Prop where
  eq : L ++ M = out
instance {M : List Res} : Apd [] M M := ⟨rfl⟩
instance {a : Res} {l M o : List Res} [S : Apd l M o] : Apd (a :: l) M (a :: o) := ⟨by rw [List.cons_append, S.eq]⟩
class PickT (L : List Res) (is : List Nat) (T D : outParam (List Res)) : Prop where
  t : takeL L is = T
  d : dropL L is = D
instance {L : List Res} : PickT L [] [] L := ⟨rfl, rfl⟩
instance {L L2 T D : List Res} {i : Nat} {is : List Nat} {r : Res} [G : GetAt i L r] [S : SetAt i L rE L2] [P : PickT L2 is T D] : PickT L (i :: is) (r :: T) D := ⟨by simp only [takeL, G.eq, S.eq, P.t], by simp only [dropL, S.eq, P.d]⟩
class Nm (L : List Res) (out : outParam (List Res)) : Prop where
  eq : L = out
instance : Nm [] [] := ⟨rfl⟩
instance {a : Res} {l : List Res} : Nm (a :: l) (a :: l) := ⟨rfl⟩
instance {L L' o : List Res} {k : Nat} {r : Res} [N : Nm L L'] [S : SetAt k L' r o] : Nm (L.set k r) o := ⟨by rw [N.eq, S.eq]⟩
instance {L L' M M' o : List Res} [N : Nm L L'] [N' : Nm M M'] [S : Apd L' M' o] : Nm (L ++ M) o := ⟨by rw [N.eq, N'.eq, S.eq]⟩
instance {L L' T D : List Res} {is : List Nat} [N : Nm L L'] [S : PickT L' is T D] : Nm (takeL L is) T := ⟨by rw [N.eq, S.t]⟩
instance {L L' T D : List Res} {is : List Nat} [N : Nm L L'] [S : PickT L' is T D] : Nm (dropL L is) D := ⟨by rw [N.eq, S.d]⟩
theorem Hold.nm {W : Foot} {h0 m0 h m : Heap} {Rs Rs' : List Res} (O : Hold W h0 m0 h m Rs) [N : Nm Rs Rs'] : Hold W h0 m0 h m Rs' := N.eq ▸ O
end Go.Hw

end
section
namespace Go.Hw
open Go Go.RowKit
end Go.Hw

end
section
namespace Go.Hw
open Go
end Go.Hw

end
section
set_option linter.unusedVariables false
namespace Go.Hw
open Go
end Go.Hw
namespace Go.Hw
open Go
end Go.Hw
namespace Go.Hw
open Go
end Go.Hw

end
section
set_option linter.unusedVariables false
namespace Go.Hw
open Go
section
variable {α : Type} {sz : Nat}
def CsS (a : Asn α sz) (h m : Heap) (l : List α) (hs : List Value) (S : Option Nat) (F : Foot) : Prop :=
  match S with
  | none => CsA a h m l hs F
  | some i => ∃ l1 y l2 c1 ce c2 F1 F2, l = l1 ++ y :: l2 ∧ l1.length = i ∧ hs = c1 ++ (ce ++ c2) ∧ c1.length = i * sz ∧ ce.length = sz ∧ CsA a h m l1 c1 F1 ∧ CsA a h m l2 c2 F2 ∧ Dj F1 F2 ∧ F = U F1 F2
variable {a : Asn α sz} {h h' h0 m m' m0 : Heap} {A Ai : Option Addr} {c ci n k i : Nat} {l l' li : List α} {hs : List Value} {S : Option Nat} {F F' G W : Foot} {x : Int} {y y' : α} {v : Value} {cs : List Value} {Rs : List Res} {b : Nat} {t : TypeId} {aa : Addr} {K : Heap → Prop}
theorem CsS.lt (hc : CsS a h m l hs S F) : ∀ b, F b → b < h.size := by
  cases S with
  | none => exact CsA.lt hc
  | some i => obtain ⟨l1, y, l2, c1, ce, c2, F1, F2, _, _, _, _, _, h1, h2, _, rfl⟩ := hc; exact fun b hb => hb.elim (h1.lt b) (h2.lt b)
theorem CsS.nl (hc : CsS a h m l hs S F) : ∀ b, F b → ¬ Live m b := by
  cases S with
  | none => exact CsA.nl hc
  | some i => obtain ⟨l1, y, l2, c1, ce, c2, F1, F2, _, _, _, _, _, h1, h2, _, rfl⟩ := hc; exact fun b hb => hb.elim (h1.nl b) (h2.nl b)
theorem CsS.fr (hc : CsS a h m l hs S F) (k1 : ∀ b, F b → h'[b]? = h[b]?) (k2 : Sub m m') (k3 : ∀ b, F b → ¬ Live m' b) : CsS a h' m' l hs S F := by
  cases S with
  | none => exact CsA.fr hc k1 k2 k3
  | some i =>
    obtain ⟨l1, y, l2, c1, ce, c2, F1, F2, e1, e2, e3, e4, e5, h1, h2, d, rfl⟩ := hc
    exact ⟨l1, y, l2, c1, ce, c2, F1, F2, e1, e2, e3, e4, e5, h1.fr (fun b hb => k1 b (.inl hb)) k2 (fun b hb => k3 b (.inl hb)), h2.fr (fun b hb => k1 b (.inr hb)) k2 (fun b hb => k3 b (.inr hb)), d, rfl⟩
def rX (a : Asn α sz) (A : Option Addr) (c : Nat) (l : List α) (hs : List Value) (S : Option Nat) : Res where
  p h m F := ∃ b t pre rest Fe, c ≠ 0 ∧ A = some ⟨b, pre.length, none⟩ ∧ Blk h b (pre ++ hs ++ rest) t ∧ CsS a h m l hs S Fe ∧ l.length ≤ c ∧ (c - l.length) * sz ≤ rest.length ∧ ¬ Live m b ∧ ¬ Fe b ∧ F = U (fb b) Fe
  z _ := True
  lt := by
    rintro h m F ⟨b, t, pre, rest, Fe, k0, k1, k2, k3, k4, k5, k6, k7, rfl⟩ i hi
    rcases hi with hi | hi
    · unfold fb at hi; subst hi; exact k2.lt
    · exact k3.lt i hi
  nl := by
    rintro h m F ⟨b, t, pre, rest, Fe, k0, k1, k2, k3, k4, k5, k6, k7, rfl⟩ i hi
    rcases hi with hi | hi
    · unfold fb at hi; subst hi; exact k6
    · exact k3.nl i hi
  fr := by
    rintro h m F h' m' ⟨b, t, pre, rest, Fe, k0, k1, k2, k3, k4, k5, k6, k7, rfl⟩ f1 f2 f3
    exact ⟨b, t, pre, rest, Fe, k0, k1, k2.fr (f1 b (.inl rfl)), k3.fr (fun i hi => f1 i (.inr hi)) f2 (fun i hi => f3 i (.inr hi)), k4, k5, f3 b (.inl rfl), k7, rfl⟩
  fz := fun _ _ _ => trivial
theorem Hold.openX (O : Hold W h0 m0 h m Rs) (k : Nat) (hk : Rs[k]? = some (rR a A c l)) (g : gi l x = some y) : ∃ hs, Hold W h0 m0 h m (Rs.set k (rX a A c l hs none)) := by
  obtain ⟨F, h1, _, h3⟩ := O.get k hk
  have g1 := gi_get g
  rcases h1 with ⟨rfl, _⟩ | ⟨b, t, pre, cs, rest, Fe, k0, k1, k2, k3, k4, k5, k6, k7, rfl⟩
  · cases g1
  · exact ⟨cs, h3 (R' := rX a A c l cs none) (.refl O.s) ⟨b, t, pre, rest, Fe, k0, k1, k2, k3, k4, k5, k6, k7, rfl⟩ (fun _ h => .inl h)⟩
theorem Hold.closeX (O : Hold W h0 m0 h m Rs) (k : Nat) (hk : Rs[k]? = some (rX a A c l hs none)) : Hold W h0 m0 h m (Rs.set k (rR a A c l)) :=
  O.conv k hk (R' := rR a A c l) fun F ⟨b, t, pre, rest, Fe, k0, k1, k2, k3, k4, k5, k6, k7, e⟩ => ⟨F, .inr ⟨b, t, pre, hs, rest, Fe, k0, k1, k2, k3, k4, k5, k6, k7, e⟩, fun _ h => h⟩
theorem Hold.adrX {K : Addr → Prop} (O : Hold W h0 m0 h m Rs) (k : Nat) (hk : Rs[k]? = some (rX a A c l hs S)) (hn : n = l.length) (g : gi l x = some y) (H : ∀ aa, A = some aa → K aa) : ptrOk A fun a => 0 ≤ x ∧ x < ((n : Nat) : Int) ∧ K a := by
  obtain ⟨F, ⟨b, t, pre, rest, Fe, k0, k1, k2, k3, k4, _⟩, _⟩ := O.get k hk
  subst k1
  exact ⟨gi_le g, gi_ltl g hn, H _ rfl⟩
end
section
variable {α : Type} {sz : Nat} {a : Asn α sz} {h h' h0 m m' m0 : Heap} {A Ai : Option Addr} {c ci n k i : Nat} {ll ll' : List (List α)} {li l' : List α} {hs : List Value} {S : Option Nat} {F F' G W : Foot} {x : Int} {v : Value} {Rs : List Res} {b : Nat} {t : TypeId} {aa : Addr} {K : Heap → Prop}
variable {E : Heap → α → List Value → Prop} {T : Tell sz E}
theorem Hold.hdX (O : Hold W h0 m0 h m Rs) (k : Nat) (hk : Rs[k]? = some (rX (aRow a) A c ll hs none)) (ha : A = some aa) (g : gi ll x = some li) : ∃ Ai ci, hs[Int.toNat x]? = some (.slice Ai li.length ci) ∧ cellsH h (Addr.add aa (Int.toNat x * 1)) 0 1 = some [.slice Ai li.length ci] ∧ li.length ≤ ci := by
  obtain ⟨F, ⟨b, t, pre, rest, Fe, k0, k1, k2, k3, k4, _⟩, _⟩ := O.get k hk
  rw [ha] at k1; cases k1
  obtain ⟨l1, l2, c1, ce, c2, F1, F3, F2, e1, e2, rfl, e4, h1, ⟨Ai, ci, rfl, h2⟩, _⟩ := CsA.split k3 (gi_get g)
  have e5 : (c1 ++ ([Value.slice Ai li.length ci] ++ c2))[Int.toNat x]? = some (.slice Ai li.length ci) := by
    rw [List.getElem?_append_right (by omega), show Int.toNat x - c1.length = 0 by omega]; rfl
  refine ⟨Ai, ci, e5, ?_, rowP.cap h2⟩
  have hlt := (List.getElem?_eq_some_iff.1 e5).1
  have := k2.cells (a := (⟨b, pre.length, none⟩ : Addr).add (x.toNat * 1)) (by rw [add_block]) (add_spot _ rfl) 1 0 (by rw [add_off]; simp only [List.length_append] at hlt ⊢; omega)
  rw [this, add_off]
  simp only [Nat.add_zero, Nat.mul_one]
  rw [List.append_assoc pre, ← List.drop_drop, List.drop_left, List.drop_append_of_le_length (by omega), List.drop_eq_getElem_cons hlt, List.cons_append, List.take_succ_cons, List.take_zero]
  congr 2
  rw [List.getElem?_eq_getElem hlt] at e5
  exact Option.some.inj e5
theorem Hold.hcX (O : Hold W h0 m0 h m Rs) (k : Nat) (hk : Rs[k]? = some (rX (aRow a) A c ll hs S)) (ha : A = some aa) (hx : hs[i]? = some v) : cellsH h (Addr.add aa (i * 1)) 0 1 = some [v] := by
  obtain ⟨F, ⟨b, t, pre, rest, Fe, k0, k1, k2, k3, k4, _⟩, _⟩ := O.get k hk
  rw [ha] at k1; cases k1
  have hlt := (List.getElem?_eq_some_iff.1 hx).1
  have := k2.cells (a := (⟨b, pre.length, none⟩ : Addr).add (i * 1)) (by rw [add_block]) (add_spot _ rfl) 1 0 (by rw [add_off]; simp only [List.length_append] at hlt ⊢; omega)
  rw [this, add_off]
  simp only [Nat.add_zero, Nat.mul_one]
  rw [List.append_assoc pre, ← List.drop_drop, List.drop_left, List.drop_append_of_le_length (by omega), List.drop_eq_getElem_cons hlt, List.cons_append, List.take_succ_cons, List.take_zero]
  congr 2
  rw [List.getElem?_eq_getElem hlt] at hx
  exact Option.some.inj hx
theorem Hold.takeX (O : Hold W h0 m0 h m Rs) (k : Nat) (hk : Rs[k]? = some (rX (aRow a) A c ll hs none)) (hx : hs[Int.toNat x]? = some (.slice Ai n ci)) (g : gi ll x = some li) : Hold W h0 m0 h m (Rs.set k (rX (aRow a) A c ll hs (some (Int.toNat x))) ++ [rR a Ai ci li]) := by
  refine O.cut k hk fun F hF => ?_
  obtain ⟨b, t, pre, rest, Fe, k0, k1, k2, k3, k4, k5, k6, k7, rfl⟩ := hF
  obtain ⟨l1, l2, c1, ce, c2, F1, F3, F2, e1, e2, rfl, e4, h1, ⟨A2, c2', rfl, h2⟩, h3, d1, d2, d3, rfl⟩ := CsA.split k3 (gi_get g)
  have e5 : (c1 ++ ([Value.slice A2 li.length c2'] ++ c2))[Int.toNat x]? = some (.slice A2 li.length c2') := by
    rw [List.getElem?_append_right (by omega), show Int.toNat x - c1.length = 0 by omega]; rfl
  rw [e5] at hx
  cases hx
  refine ⟨U (fb b) (U F1 F2), F3, ⟨b, t, pre, rest, U F1 F2, k0, k1, k2, ⟨l1, li, l2, c1, _, c2, F1, F2, e1, e2, rfl, e4, rfl, h1, h3, d2, rfl⟩, k4, k5, k6, fun hb => k7 (.inr hb), rfl⟩, h2, ?_, ?_⟩
  · exact Dj.u (fun i hi hf => by unfold fb at hi; subst hi; exact k7 (.inl hf)) (Dj.u d1 d3.symm)
  · rintro i ((hi | hi) | hi)
    · exact .inl hi
    · exact .inr (.inr hi)
    · exact .inr (.inl hi)
theorem Hold.putX (O : Hold W h0 m0 h m Rs) (k j : Nat) (hk : Rs[k]? = some (rX (aRow a) A c ll hs (some i))) (hj : (Rs.set k rE)[j]? = some (rR a Ai ci li)) (hx : hs[i]? = some (.slice Ai n ci)) (hn : n = li.length) (e : ll.set i li = ll') : Hold W h0 m0 h m (((Rs.set k rE).set j rE).set k (rX (aRow a) A c ll' hs none)) := by
  subst e; subst hn
  refine O.fuse k j (R' := rX (aRow a) A c (ll.set i li) hs none) hk hj ?_
  rintro F1 F2 ⟨b, t, pre, rest, Fe, k0, k1, k2, ⟨l1, y', l2, c1, ce, c2, G1, G2, rfl, rfl, rfl, q4, q5, q6, q7, q8, rfl⟩, k4, k5, k6, k7, rfl⟩ h2 d
  have hce : ce = [.slice Ai li.length ci] := by
    rw [List.getElem?_append_right (by omega), show l1.length - c1.length = 0 by omega, List.getElem?_append_left (by omega)] at hx
    cases ce with
    | nil => cases q5
    | cons v ce => simp at hx q5; rw [hx, q5]
  subst hce
  have hl : (l1 ++ y' :: l2).set l1.length li = l1 ++ li :: l2 := by rw [List.set_append_right _ _ (Nat.le_refl _), Nat.sub_self, List.set_cons_zero]
  have hlen : (l1 ++ li :: l2).length = (l1 ++ y' :: l2).length := by simp
  rw [hl]
  refine ⟨U (fb b) (U F2 (U G1 G2)), ⟨b, t, pre, rest, _, k0, k1, k2, q6.join ⟨Ai, ci, rfl, h2⟩ q7 d.ur.ul q8 d.ur.ur.symm, by rw [hlen]; exact k4, by rw [hlen]; exact k5, k6, ?_, rfl⟩, ?_⟩
  · rintro (hf | hf)
    · exact d b (.inl rfl) hf
    · exact k7 hf
  · rintro i (hi | hi | hi)
    · exact .inl (.inl hi)
    · exact .inr hi
    · exact .inl (.inr hi)
theorem Hold.hdSt (O : Hold W h0 m0 h m Rs) (k : Nat) (hk : Rs[k]? = some (rX (aRow a) A c ll hs (some i))) (ha : A = some aa) (hf : Flat v) (H : ∀ h', Hold W h0 m0 h' m (Rs.set k (rX (aRow a) A c ll (hs.set i v) (some i))) → K h') : ∃ h', st1 h (Addr.add aa (i * 1)) v = some h' ∧ K h' := by
  obtain ⟨F, h1, h2, h3⟩ := O.get k hk
  obtain ⟨b, t, pre, rest, Fe, k0, k1, k2, ⟨l1, y', l2, c1, ce, c2, G1, G2, e1, rfl, rfl, q4, q5, q6, q7, q8, rfl⟩, k4, k5, k6, k7, rfl⟩ := h1
  subst ha; cases k1
  have hb : Blk h b ((pre ++ c1) ++ ce ++ (c2 ++ rest)) t := by
    have : (pre ++ c1) ++ ce ++ (c2 ++ rest) = pre ++ (c1 ++ (ce ++ c2)) ++ rest := by simp only [List.append_assoc]
    rw [this]; exact k2
  obtain ⟨h', s1, b1, o1⟩ := Blk.stH [v] (a := Addr.add ⟨b, pre.length, none⟩ (l1.length * 1)) (i := 0) hb (by rw [add_block]) (add_spot _ rfl)
    (by rw [add_off]; simp only [List.length_append]; omega) (by rw [q5]; rfl) (Flats.cons hf Flats.nil)
  have s2 : st1 h (Addr.add ⟨b, pre.length, none⟩ (l1.length * 1)) v = some h' := by
    simp only [stH] at s1
    split at s1
    · rename_i h4 h5
      cases s1; exact h5
    · cases s1
  refine ⟨h', s2, H h' ?_⟩
  have S : St (fb b) h m h' m := .only O.s k6 o1
  have S2 : St (U (fb b) (U G1 G2)) h m h' m := ⟨S.up, S.s, S.size, fun i hi hn => S.fr i hi (fun h => hn (.inl h)), fun i hi hl => .inl hl⟩
  have hk0 : ∀ b', G1 b' ∨ G2 b' → h'[b']? = h[b']? := fun b' hb' => S.fr b' (hb'.elim (q6.lt b') (q7.lt b')) (fun e => by unfold fb at e; subst e; exact k7 hb')
  have hset : (c1 ++ (ce ++ c2)).set l1.length v = c1 ++ ([v] ++ c2) := by
    rw [List.set_append_right _ _ (by omega), show l1.length - c1.length = 0 by omega]
    cases ce with
    | nil => cases q5
    | cons w ce => simp at q5; subst q5; rfl
  rw [hset]
  refine h3 (R' := rX (aRow a) (some ⟨b, pre.length, none⟩) c ll (c1 ++ ([v] ++ c2)) (some l1.length)) S2 ⟨b, t, pre, rest, _, k0, rfl, ?_, ⟨l1, y', l2, c1, [v], c2, G1, G2, e1, rfl, rfl, q4, rfl, q6.fr (fun i hi => hk0 i (.inl hi)) (.refl _) (fun i hi => q6.nl i hi), q7.fr (fun i hi => hk0 i (.inr hi)) (.refl _) (fun i hi => q7.nl i hi), q8, rfl⟩, k4, k5, k6, k7, rfl⟩ (fun _ h => .inl h)
  have : pre ++ (c1 ++ ([v] ++ c2)) ++ rest = (pre ++ c1) ++ [v] ++ (c2 ++ rest) := by simp only [List.append_assoc]
  rw [this]; exact b1
theorem hs_set {hs : List Value} {i : Nat} {v w : Value} (h : hs[i]? = some w) : (hs.set i v)[i]? = some v := List.getElem?_set_self (List.getElem?_eq_some_iff.1 h).1
theorem hs_ne {hs : List Value} {i j : Nat} {v w : Value} (h : hs[j]? = some w) (hne : i ≠ j) : (hs.set i v)[j]? = some w := by rw [List.getElem?_set_ne hne]; exact h
theorem gi_ne {l l' : List α} {x j : Int} {y y' : α} (g : gi l j = some y) (e : l.set (Int.toNat x) y' = l') (hne : Int.toNat x ≠ Int.toNat j) : gi l' j = some y := by
  subst e
  unfold gi at g ⊢
  split at g
  · rename_i h; rw [if_pos h, List.getElem?_set_ne hne]; exact g
  · cases g
theorem Hold.xos (O : Hold W h0 m0 h m Rs) (k : Nat) (hk : Rs[k]? = some (rX (aRow (aE T)) A c ll hs none)) (hx : hs[Int.toNat x]? = some (.slice Ai n ci)) (g : gi ll x = some li) : OS W h0 sz E h m Ai li ci := by
  have O2 := O.takeX k hk hx g
  exact O2.os (T := T) Rs.length (by rw [List.getElem?_append_right (by simp)]; simp)
end
end Go.Hw

end
section
set_option linter.unusedVariables false
namespace Go.Hw
open Go
section
variable {α : Type} {sz : Nat} {E : Heap → α → List Value → Prop} {h h' h0 m m' m0 : Heap} {A Ai : Option Addr} {c ci n k i : Nat} {l l' : List (List α)} {li : List α} {cs : List Value} {F G W : Foot} {x : Int} {Rs : List Res} {aa : Addr}
def aMix (T : Tell sz E) : Asn (Bool × List α) 1 where
  p h m x cs F := (x.1 = true ∧ (aRow (aE T)).p h m x.2 cs F) ∨ (x.1 = false ∧ (aE (tell_row T)).p h m x.2 cs F)
  E m x cs := eRow sz E m x.2 cs
  T := ⟨fun m h x cs s e => (tell_row T).mono _ _ _ _ s e, fun m x cs e => (tell_row T).len _ _ _ e, fun m x cs e => (tell_row T).flat _ _ _ e⟩
  len := by
    rintro h m x cs F (⟨_, o⟩ | ⟨_, o⟩)
    · exact (aRow (aE T)).len o
    · exact (aE (tell_row T)).len o
  flat := by
    rintro h m x cs F (⟨_, o⟩ | ⟨_, o⟩)
    · exact (aRow (aE T)).flat o
    · exact (aE (tell_row T)).flat o
  lt := by
    rintro h m x cs F (⟨_, o⟩ | ⟨_, o⟩)
    · exact (aRow (aE T)).lt o
    · exact (aE (tell_row T)).lt o
  nl := by
    rintro h m x cs F (⟨_, o⟩ | ⟨_, o⟩)
    · exact (aRow (aE T)).nl o
    · exact (aE (tell_row T)).nl o
  fr := by
    rintro h m x cs F h' m' (⟨e, o⟩ | ⟨e, o⟩) k1 k2 k3
    · exact .inl ⟨e, (aRow (aE T)).fr o k1 k2 k3⟩
    · exact .inr ⟨e, (aE (tell_row T)).fr o k1 k2 k3⟩
  fz := by
    rintro h m x cs F G (⟨e, o⟩ | ⟨e, o⟩) k1 k2
    · exact (aRow (aE T)).fz o k1 k2
    · exact (aE (tell_row T)).fz o k1 k2
variable {T : Tell sz E}
theorem CsA.mix : ∀ {l : List (List α)} {cs : List Value} {F : Foot}, CsA (aE (tell_row T)) h m l cs F → CsA (aMix T) h m (l.map fun y => (false, y)) cs F
  | [], _, _, hc => hc
  | x :: l, _, _, ⟨c1, c2, F1, F2, e, h1, h2, d, u⟩ => ⟨c1, c2, F1, F2, e, .inr ⟨rfl, h1⟩, CsA.mix h2, d, u⟩
theorem CsA.unmix : ∀ {l : List (List α)} {cs : List Value} {F : Foot}, CsA (aMix T) h m (l.map fun y => (true, y)) cs F → CsA (aRow (aE T)) h m l cs F
  | [], _, _, hc => hc
  | x :: l, _, _, ⟨c1, c2, F1, F2, e, h1, h2, d, u⟩ => ⟨c1, c2, F1, F2, e, h1.elim (fun h => h.2) (fun h => by cases h.1), CsA.unmix h2, d, u⟩
theorem Hold.mix (O : Hold W h0 m0 h m Rs) (k : Nat) (hk : Rs[k]? = some (rR (aE (tell_row T)) A c l)) : Hold W h0 m0 h m (Rs.set k (rR (aMix T) A c (l.map fun y => (false, y)))) :=
  O.conv k hk fun F hF => by
    rcases hF with ⟨rfl, rfl, rfl⟩ | ⟨b, t, pre, cs, rest, Fe, k0, k1, k2, k3, k4, k5, k6, k7, rfl⟩
    · exact ⟨_, .inl ⟨rfl, rfl, rfl⟩, fun _ h => h⟩
    · exact ⟨_, .inr ⟨b, t, pre, cs, rest, Fe, k0, k1, k2, k3.mix, by rw [List.length_map]; exact k4, by rw [List.length_map]; exact k5, k6, k7, rfl⟩, fun _ h => h⟩
theorem Hold.unmix (O : Hold W h0 m0 h m Rs) (k : Nat) (hk : Rs[k]? = some (rR (aMix T) A c (l.map fun y => (true, y)))) : Hold W h0 m0 h m (Rs.set k (rR (aRow (aE T)) A c l)) :=
  O.conv k hk fun F hF => by
    rcases hF with ⟨e, rfl, rfl⟩ | ⟨b, t, pre, cs, rest, Fe, k0, k1, k2, k3, k4, k5, k6, k7, rfl⟩
    · rw [List.map_eq_nil_iff] at e; subst e; exact ⟨_, .inl ⟨rfl, rfl, rfl⟩, fun _ h => h⟩
    · rw [List.length_map] at k4 k5; exact ⟨_, .inr ⟨b, t, pre, cs, rest, Fe, k0, k1, k2, k3.unmix, k4, k5, k6, k7, rfl⟩, fun _ h => h⟩
theorem Hold.mixHole {M : List (Bool × List α)} (O : Hold W h0 m0 h m [rR (aMix T) A c M]) (g : gi M x = some (false, li)) : ∃ a' Ai ci, A = some a' ∧ cellsH h (Addr.add a' (Int.toNat x * 1)) 0 1 = some [.slice Ai li.length ci] ∧ li.length ≤ ci ∧ Rd sz E m Ai li ∧ Hold W h0 m0 h m [rH (aMix T) A c M (Int.toNat x) [.slice Ai li.length ci]] := by
  obtain ⟨a', ce, e1, e2, O2⟩ := O.hole 0 rfl g
  obtain ⟨F, h1, _, _⟩ := O2.get 1 rfl
  rcases (show _ ∨ _ from h1) with ⟨e, _⟩ | ⟨_, e, rfl⟩
  · cases e
  · obtain ⟨Ai, ci, e3, e4, e5⟩ := e
    subst e3
    exact ⟨a', Ai, ci, e1, e2, e4, e5, O2.pick [0]⟩
theorem Hold.mixFill {M M' : List (Bool × List α)} {i : Nat} {ci : Nat} (O : Hold W h0 m0 h m [rH (aMix T) A c M i [.slice Ai li.length ci], rR (aE T) Ai ci li]) (e : M.set i (true, li) = M') : Hold W h0 m0 h m [rR (aMix T) A c M'] :=
  (O.fillG 0 1 rfl rfl (fun F hF => .inl ⟨rfl, Ai, ci, rfl, hF⟩) e).pick [0]
end
end Go.Hw

end
section
set_option linter.unusedVariables false
namespace Go.Hw
open Go
end Go.Hw

end
section
set_option linter.unusedVariables false
namespace Go.Hw
open Go Go.RowKit
end Go.Hw

end
section
set_option linter.unusedVariables false
namespace Go.Hw
open Go
end Go.Hw
namespace Go.Hw
open Go
end Go.Hw
namespace Go.Hw
open Go
end Go.Hw
namespace Go.Hw
open Go
end Go.Hw
namespace Go.Hw
open Go
end Go.Hw

end
section
set_option linter.unusedVariables false
namespace Go.Hw
open Go
end Go.Hw

end
section
set_option linter.unusedVariables false
namespace Go.Hw
open Go
section
noncomputable def agreeF {R : Type} (n : Nat) (f : Nat → Option R) : Option R :=
  open Classical in if ∃ r, ∀ j, j < n → f j = some r then f 0 else none
noncomputable def pickF {α R : Type} (left : List α) (over : Option R) (go : α → List α → Option R) : Option R :=
  match left with
  | [] => over
  | _ :: _ => agreeF left.length fun j => (left[j]?).bind fun c => go c (left.eraseIdx j)
variable {α R : Type} {left : List α} {over over' : Option R} {go go' : α → List α → Option R} {r : R}
end
attribute [irreducible] pickF agreeF
end Go.Hw
namespace Go.Hw
open Go
end Go.Hw

end
