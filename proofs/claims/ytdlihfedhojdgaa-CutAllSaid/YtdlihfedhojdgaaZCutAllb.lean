/- Part 2: what the law CutAll needs, put together out of texts of this session. -/
import Derived.ProofKit
import Derived.OpenShut
import Derived.ShutString
import Derived.ChangeOld
import Derived.Below
import Derived.SizedLaws
import Derived.ChangeArms
import Derived.Laws.StructEq
import Derived.Test.YtdlihfedhojdgaaZCutAlla
section
namespace Go.Proofs.Ytdlihfedhojdgaa.Fw
open Go Go.Hw Go.Proofs
set_option linter.unusedVariables false
def f50.T : Tab := { sh := tSh, tup := tTup, keep := [], plan := [] }
def f50.kp : Keep := [([false, false, true, false, true, true], [3, 7, 8, 9])]
theorem f50.good : goodCode Try.prog f50.T (rootOf Try.f50) = true := by kernel_rfl
def f50.l0 (R : Value → Heap → Prop) (A3 : Option Addr) (n3 : Nat) (c3 : Nat) (A7 : Option Addr) (n7 : Nat) (c7 : Nat) (x8 : Int) (x9 : Int) (h : Heap) : Prop := Pt Try.prog Try.f50 R [false, false, true, false, true, true] (mkFr [(3, (Value.slice A3 n3 c3)), (7, (Value.slice A7 n7 c7)), (8, (Value.int .i64 x8)), (9, (Value.int .i64 x9))]) h
set_option maxRecDepth 100000 in
def f50.l0T (R : Value → Heap → Prop) (A3 : Option Addr) (n3 : Nat) (c3 : Nat) (A7 : Option Addr) (n7 : Nat) (c7 : Nat) (x8 : Int) (x9 : Int) (h : Heap) : Prop :=
  splitB (decide (x9 < x8)) (ptrOk A7 fun a1_ => 0 ≤ x9 ∧ x9 < ((n7 : Nat) : Int) ∧ (∃ v2_, ldv true 3 h (Addr.add a1_ (Int.toNat x9 * 3)) = some v2_ ∧ newH h (Obj.cells #[(Value.int .i64 (0 : Int)), (Value.int .i64 (0 : Int)), (Value.int .i64 (0 : Int))] 109) fun h3_ => ∃ l5_ : List Value, v2_ = Value.agg l5_.toArray ∧ l5_.length = 3 ∧ ∃ h4_, stH h3_ (⟨Array.size h, 0, none⟩) l5_ 0 = some h4_ ∧ ∃ v6_, ldv false 1 h4_ (⟨Array.size h, 0, none⟩) = some v6_ ∧ ∃ x7_, v6_ = (Value.int .i64 x7_) ∧ ptrOk A3 fun a8_ => 0 ≤ x7_ ∧ x7_ < ((n3 : Nat) : Int) ∧ (∃ v9_, ldv false 1 h4_ (Addr.add a8_ (Int.toNat x7_ * 1)) = some v9_ ∧ ∃ x10_, v9_ = (Value.int .i64 x10_) ∧ ptrOk A3 fun a11_ => 0 ≤ x7_ ∧ x7_ < ((n3 : Nat) : Int) ∧ (∃ h12_, st1 h4_ (Addr.add a11_ (Int.toNat x7_ * 1)) (Value.int .i64 (IntKind.wrap .i64 (x10_ + (1 : Int)))) = some h12_ ∧ f50.l0 R A3 n3 c3 A7 n7 c7 x8 (IntKind.wrap .i64 (x9 + (1 : Int))) h12_)))) (R (Value.slice A3 n3 c3) h)
set_option maxRecDepth 100000 in
theorem f50.l0_in {R : Value → Heap → Prop} {A3 : Option Addr} {n3 : Nat} {c3 : Nat} {A7 : Option Addr} {n7 : Nat} {c7 : Nat} {x8 : Int} {x9 : Int} {h : Heap} (H : f50.l0T R A3 n3 c3 A7 n7 c7 x8 x9 h) : f50.l0 R A3 n3 c3 A7 n7 c7 x8 x9 h :=
  pt_intro mixed f50.good (Eq.mpr (show (Fwd Try.prog f50.T f50.kp Try.f50 R [false, false, true, false, true, true] (mkFr [(3, (Value.slice A3 n3 c3)), (7, (Value.slice A7 n7 c7)), (8, (Value.int .i64 x8)), (9, (Value.int .i64 x9))]) h) = (f50.l0T R A3 n3 c3 A7 n7 c7 x8 x9 h) by kernel_rfl) H)
set_option maxRecDepth 100000 in
def f50.runT (R : Value → Heap → Prop) (A0 : Option Addr) (n0 : Nat) (c0 : Nat) (h : Heap) : Prop :=
  0 ≤ (8 : Int) ∧ (8 : Int) ≤ (8 : Int) ∧ (8 : Int) * 8 ≤ 140737488355328 ∧ (8 : Int) ≤ 9223372036854775807 ∧ (newH h (Obj.cells (mkCells #[(Value.int .i64 (0 : Int))] (Int.toNat (8 : Int) * 1)) 3) fun h1_ => f50.l0 R (some ⟨Array.size h, 0, none⟩) (Int.toNat (8 : Int)) (Int.toNat (8 : Int)) A0 n0 c0 ((n0 : Nat) : Int) (0 : Int) h1_)
set_option maxRecDepth 100000 in
theorem f50.run {R : Value → Heap → Prop} {A0 : Option Addr} {n0 : Nat} {c0 : Nat} {h : Heap} (H : f50.runT R A0 n0 c0 h) : Run Try.prog 50 #[(Value.slice A0 n0 c0)] h R :=
  run_of mixed Try.func50 (by kernel_rfl) (by kernel_rfl) f50.good (Eq.mpr (show (Fwd Try.prog f50.T f50.kp Try.f50 R [] (mkFr (argL [(Value.slice A0 n0 c0)] 0)) h) = (f50.runT R A0 n0 c0 h) by kernel_rfl) H)
def f80.T : Tab := { sh := tSh, tup := tTup, keep := [], plan := [] }
def f80.kp : Keep := [([false, false, true, false, true, true, true], [3, 4, 12, 13, 14]), ([true, true, false, false, true, true, false, false, true, false, true, true, true], [3, 4, 6, 12, 13, 14]), ([true, true, true, false, false, true, true, false, false, true, false, true, true, true], [3, 4, 6, 12, 13, 14])]
theorem f80.good : goodCode Try.prog f80.T (rootOf Try.f80) = true := by kernel_rfl
def f80.l0 (R : Value → Heap → Prop) (v3 : Value) (v4 : Value) (A12 : Option Addr) (n12 : Nat) (c12 : Nat) (x13 : Int) (x14 : Int) (h : Heap) : Prop := Pt Try.prog Try.f80 R [false, false, true, false, true, true, true] (mkFr [(3, v3), (4, v4), (12, (Value.slice A12 n12 c12)), (13, (Value.int .i64 x13)), (14, (Value.int .i64 x14))]) h
def f80.j0 (R : Value → Heap → Prop) (v3 : Value) (v4 : Value) (a6 : Addr) (A12 : Option Addr) (n12 : Nat) (c12 : Nat) (x13 : Int) (x14 : Int) (h : Heap) : Prop := Pt Try.prog Try.f80 R [true, true, false, false, true, true, false, false, true, false, true, true, true] (mkFr [(3, v3), (4, v4), (6, (Value.pointer (some a6))), (12, (Value.slice A12 n12 c12)), (13, (Value.int .i64 x13)), (14, (Value.int .i64 x14))]) h
def f80.j1 (R : Value → Heap → Prop) (v3 : Value) (v4 : Value) (a6 : Addr) (A12 : Option Addr) (n12 : Nat) (c12 : Nat) (x13 : Int) (x14 : Int) (h : Heap) : Prop := Pt Try.prog Try.f80 R [true, true, true, false, false, true, true, false, false, true, false, true, true, true] (mkFr [(3, v3), (4, v4), (6, (Value.pointer (some a6))), (12, (Value.slice A12 n12 c12)), (13, (Value.int .i64 x13)), (14, (Value.int .i64 x14))]) h
set_option maxRecDepth 100000 in
def f80.l0T (R : Value → Heap → Prop) (v3 : Value) (v4 : Value) (A12 : Option Addr) (n12 : Nat) (c12 : Nat) (x13 : Int) (x14 : Int) (h : Heap) : Prop :=
  splitB (decide (x14 < x13)) (ptrOk A12 fun a1_ => 0 ≤ x14 ∧ x14 < ((n12 : Nat) : Int) ∧ (∃ v2_, ldv true 3 h (Addr.add a1_ (Int.toNat x14 * 3)) = some v2_ ∧ newH h (Obj.cells #[(Value.int .i64 (0 : Int)), (Value.int .i64 (0 : Int)), (Value.int .i64 (0 : Int))] 109) fun h3_ => ∃ l5_ : List Value, v2_ = Value.agg l5_.toArray ∧ l5_.length = 3 ∧ ∃ h4_, stH h3_ (⟨Array.size h, 0, none⟩) l5_ 0 = some h4_ ∧ ∃ v6_, ldv false 1 h4_ (Addr.add (⟨Array.size h, 0, none⟩) 1) = some v6_ ∧ ∃ x7_, v6_ = (Value.int .i64 x7_) ∧ splitB (decide (x7_ < (1 : Int))) (R (Value.int .i64 (3 : Int)) h4_) (∃ v8_, ldv false 1 h4_ (Addr.add (⟨Array.size h, 0, none⟩) 1) = some v8_ ∧ ∃ x9_, v8_ = (Value.int .i64 x9_) ∧ splitB (decide (x9_ > (3 : Int))) (R (Value.int .i64 (3 : Int)) h4_) (f80.j0 R v3 v4 (⟨Array.size h, 0, none⟩) A12 n12 c12 x13 x14 h4_)))) (R (Value.int .i64 (0 : Int)) h)
set_option maxRecDepth 100000 in
theorem f80.l0_in {R : Value → Heap → Prop} {v3 : Value} {v4 : Value} {A12 : Option Addr} {n12 : Nat} {c12 : Nat} {x13 : Int} {x14 : Int} {h : Heap} (H : f80.l0T R v3 v4 A12 n12 c12 x13 x14 h) : f80.l0 R v3 v4 A12 n12 c12 x13 x14 h :=
  pt_intro mixed f80.good (Eq.mpr (show (Fwd Try.prog f80.T f80.kp Try.f80 R [false, false, true, false, true, true, true] (mkFr [(3, v3), (4, v4), (12, (Value.slice A12 n12 c12)), (13, (Value.int .i64 x13)), (14, (Value.int .i64 x14))]) h) = (f80.l0T R v3 v4 A12 n12 c12 x13 x14 h) by kernel_rfl) H)
set_option maxRecDepth 100000 in
def f80.j0T (R : Value → Heap → Prop) (v3 : Value) (v4 : Value) (a6 : Addr) (A12 : Option Addr) (n12 : Nat) (c12 : Nat) (x13 : Int) (x14 : Int) (h : Heap) : Prop :=
  ∃ v1_, ldv false 1 h a6 = some v1_ ∧ ∃ x2_, v1_ = (Value.int .i64 x2_) ∧ splitB (decide (x2_ < (0 : Int))) (R (Value.int .i64 (1 : Int)) h) (∃ v3_, ldv false 1 h a6 = some v3_ ∧ ∃ x4_, v3_ = (Value.int .i64 x4_) ∧ splitB (decide (x4_ ≥ (8 : Int))) (R (Value.int .i64 (1 : Int)) h) (∃ v5_, ldv false 1 h (Addr.add a6 1) = some v5_ ∧ ∃ x6_, v5_ = (Value.int .i64 x6_) ∧ splitB (x6_ != (1 : Int)) (∃ v7_, ldv false 1 h (Addr.add a6 2) = some v7_ ∧ ∃ x8_, v7_ = (Value.int .i64 x8_) ∧ splitB (decide (x8_ < (0 : Int))) (R (Value.int .i64 (1 : Int)) h) (∃ v9_, ldv false 1 h (Addr.add a6 2) = some v9_ ∧ ∃ x10_, v9_ = (Value.int .i64 x10_) ∧ splitB (decide (x10_ > (999 : Int))) (R (Value.int .i64 (1 : Int)) h) (f80.j1 R v3 v4 a6 A12 n12 c12 x13 x14 h))) (f80.j1 R v3 v4 a6 A12 n12 c12 x13 x14 h)))
set_option maxRecDepth 100000 in
theorem f80.j0_in {R : Value → Heap → Prop} {v3 : Value} {v4 : Value} {a6 : Addr} {A12 : Option Addr} {n12 : Nat} {c12 : Nat} {x13 : Int} {x14 : Int} {h : Heap} (H : f80.j0T R v3 v4 a6 A12 n12 c12 x13 x14 h) : f80.j0 R v3 v4 a6 A12 n12 c12 x13 x14 h :=
  pt_intro mixed f80.good (Eq.mpr (show (Fwd Try.prog f80.T f80.kp Try.f80 R [true, true, false, false, true, true, false, false, true, false, true, true, true] (mkFr [(3, v3), (4, v4), (6, (Value.pointer (some a6))), (12, (Value.slice A12 n12 c12)), (13, (Value.int .i64 x13)), (14, (Value.int .i64 x14))]) h) = (f80.j0T R v3 v4 a6 A12 n12 c12 x13 x14 h) by kernel_rfl) H)
set_option maxRecDepth 100000 in
def f80.j1T (R : Value → Heap → Prop) (v3 : Value) (v4 : Value) (a6 : Addr) (A12 : Option Addr) (n12 : Nat) (c12 : Nat) (x13 : Int) (x14 : Int) (h : Heap) : Prop :=
  ∃ v1_, ldv false 1 h (Addr.add a6 1) = some v1_ ∧ ∃ x2_, v1_ = (Value.int .i64 x2_) ∧ splitB (x2_ == (2 : Int)) (∃ v3_, ldv false 1 h (Addr.add a6 2) = some v3_ ∧ ∃ x4_, v3_ = (Value.int .i64 x4_) ∧ Gen Try.prog (Instr.lookup 128 v3 (Value.int .i64 x4_) false) h fun v5_ h6_ => ∃ b7_, v5_ = (Value.bool b7_) ∧ splitB b7_ (R (Value.int .i64 (5 : Int)) h6_) (∃ v8_, ldv false 1 h6_ (Addr.add a6 2) = some v8_ ∧ ∃ x9_, v8_ = (Value.int .i64 x9_) ∧ Hwp Try.prog (Instr.mapUpdate 128 v3 (Value.int .i64 x9_) (Value.bool true)) h6_ fun _ h10_ => f80.l0 R v3 v4 A12 n12 c12 x13 (IntKind.wrap .i64 (x14 + (1 : Int))) h10_)) (splitB (x2_ == (3 : Int)) (∃ v11_, ldv false 1 h (Addr.add a6 2) = some v11_ ∧ ∃ x12_, v11_ = (Value.int .i64 x12_) ∧ Gen Try.prog (Instr.lookup 128 v3 (Value.int .i64 x12_) false) h fun v13_ h14_ => ∃ b15_, v13_ = (Value.bool b15_) ∧ splitB (!b15_) (R (Value.int .i64 (4 : Int)) h14_) (∃ v16_, ldv false 1 h14_ (Addr.add a6 2) = some v16_ ∧ ∃ x17_, v16_ = (Value.int .i64 x17_) ∧ Gen Try.prog (Instr.lookup 128 v4 (Value.int .i64 x17_) false) h14_ fun v18_ h19_ => ∃ b20_, v18_ = (Value.bool b20_) ∧ splitB b20_ (R (Value.int .i64 (5 : Int)) h19_) (∃ v21_, ldv false 1 h19_ (Addr.add a6 2) = some v21_ ∧ ∃ x22_, v21_ = (Value.int .i64 x22_) ∧ Hwp Try.prog (Instr.mapUpdate 128 v4 (Value.int .i64 x22_) (Value.bool true)) h19_ fun _ h23_ => f80.l0 R v3 v4 A12 n12 c12 x13 (IntKind.wrap .i64 (x14 + (1 : Int))) h23_))) (f80.l0 R v3 v4 A12 n12 c12 x13 (IntKind.wrap .i64 (x14 + (1 : Int))) h))
set_option maxRecDepth 100000 in
theorem f80.j1_in {R : Value → Heap → Prop} {v3 : Value} {v4 : Value} {a6 : Addr} {A12 : Option Addr} {n12 : Nat} {c12 : Nat} {x13 : Int} {x14 : Int} {h : Heap} (H : f80.j1T R v3 v4 a6 A12 n12 c12 x13 x14 h) : f80.j1 R v3 v4 a6 A12 n12 c12 x13 x14 h :=
  pt_intro mixed f80.good (Eq.mpr (show (Fwd Try.prog f80.T f80.kp Try.f80 R [true, true, true, false, false, true, true, false, false, true, false, true, true, true] (mkFr [(3, v3), (4, v4), (6, (Value.pointer (some a6))), (12, (Value.slice A12 n12 c12)), (13, (Value.int .i64 x13)), (14, (Value.int .i64 x14))]) h) = (f80.j1T R v3 v4 a6 A12 n12 c12 x13 x14 h) by kernel_rfl) H)
set_option maxRecDepth 100000 in
def f80.runT (R : Value → Heap → Prop) (A0 : Option Addr) (n0 : Nat) (c0 : Nat) (h : Heap) : Prop :=
  splitB (decide (((n0 : Nat) : Int) > (200 : Int))) (R (Value.int .i64 (2 : Int)) h) (Gen Try.prog (Instr.makeMap 128 none) h fun v1_ h2_ => Gen Try.prog (Instr.makeMap 128 none) h2_ fun v3_ h4_ => f80.l0 R v1_ v3_ A0 n0 c0 ((n0 : Nat) : Int) (0 : Int) h4_)
set_option maxRecDepth 100000 in
theorem f80.run {R : Value → Heap → Prop} {A0 : Option Addr} {n0 : Nat} {c0 : Nat} {h : Heap} (H : f80.runT R A0 n0 c0 h) : Run Try.prog 80 #[(Value.slice A0 n0 c0)] h R :=
  run_of mixed Try.func80 (by kernel_rfl) (by kernel_rfl) f80.good (Eq.mpr (show (Fwd Try.prog f80.T f80.kp Try.f80 R [] (mkFr (argL [(Value.slice A0 n0 c0)] 0)) h) = (f80.runT R A0 n0 c0 h) by kernel_rfl) H)
def f49.T : Tab := { sh := tSh, tup := tTup, keep := [], plan := [] }
def f49.kp : Keep := [([false, false, true, false, true, true, true], [6, 18, 19, 20]), ([false, false, true, true, true, false, false, true, true, false, false, true, false, true, true, true], [6, 18, 19, 20, 27, 28, 29])]
theorem f49.good : goodCode Try.prog f49.T (rootOf Try.f49) = true := by kernel_rfl
def f49.l0 (R : Value → Heap → Prop) (A6 : Option Addr) (n6 : Nat) (c6 : Nat) (A18 : Option Addr) (n18 : Nat) (c18 : Nat) (x19 : Int) (x20 : Int) (h : Heap) : Prop := Pt Try.prog Try.f49 R [false, false, true, false, true, true, true] (mkFr [(6, (Value.slice A6 n6 c6)), (18, (Value.slice A18 n18 c18)), (19, (Value.int .i64 x19)), (20, (Value.int .i64 x20))]) h
def f49.l1 (R : Value → Heap → Prop) (A6 : Option Addr) (n6 : Nat) (c6 : Nat) (A18 : Option Addr) (n18 : Nat) (c18 : Nat) (x19 : Int) (x20 : Int) (A27 : Option Addr) (n27 : Nat) (c27 : Nat) (x28 : Int) (x29 : Int) (h : Heap) : Prop := Pt Try.prog Try.f49 R [false, false, true, true, true, false, false, true, true, false, false, true, false, true, true, true] (mkFr [(6, (Value.slice A6 n6 c6)), (18, (Value.slice A18 n18 c18)), (19, (Value.int .i64 x19)), (20, (Value.int .i64 x20)), (27, (Value.slice A27 n27 c27)), (28, (Value.int .i64 x28)), (29, (Value.int .i64 x29))]) h
set_option maxRecDepth 100000 in
def f49.l0T (R : Value → Heap → Prop) (A6 : Option Addr) (n6 : Nat) (c6 : Nat) (A18 : Option Addr) (n18 : Nat) (c18 : Nat) (x19 : Int) (x20 : Int) (h : Heap) : Prop :=
  splitB (decide (x20 < x19)) (ptrOk A18 fun a1_ => 0 ≤ x20 ∧ x20 < ((n18 : Nat) : Int) ∧ (∃ v2_, ldv false 1 h (Addr.add a1_ (Int.toNat x20 * 1)) = some v2_ ∧ ∃ A3_, ∃ n3_, ∃ c3_, v2_ = (Value.slice A3_ n3_ c3_) ∧ splitB (((n3_ : Nat) : Int) != (8 : Int)) (R (Value.int .i64 (3 : Int)) h) (f49.l1 R A6 n6 c6 A18 n18 c18 x19 x20 A3_ n3_ c3_ ((n3_ : Nat) : Int) (0 : Int) h))) (R (Value.int .i64 (0 : Int)) h)
set_option maxRecDepth 100000 in
theorem f49.l0_in {R : Value → Heap → Prop} {A6 : Option Addr} {n6 : Nat} {c6 : Nat} {A18 : Option Addr} {n18 : Nat} {c18 : Nat} {x19 : Int} {x20 : Int} {h : Heap} (H : f49.l0T R A6 n6 c6 A18 n18 c18 x19 x20 h) : f49.l0 R A6 n6 c6 A18 n18 c18 x19 x20 h :=
  pt_intro mixed f49.good (Eq.mpr (show (Fwd Try.prog f49.T f49.kp Try.f49 R [false, false, true, false, true, true, true] (mkFr [(6, (Value.slice A6 n6 c6)), (18, (Value.slice A18 n18 c18)), (19, (Value.int .i64 x19)), (20, (Value.int .i64 x20))]) h) = (f49.l0T R A6 n6 c6 A18 n18 c18 x19 x20 h) by kernel_rfl) H)
set_option maxRecDepth 100000 in
def f49.l1T (R : Value → Heap → Prop) (A6 : Option Addr) (n6 : Nat) (c6 : Nat) (A18 : Option Addr) (n18 : Nat) (c18 : Nat) (x19 : Int) (x20 : Int) (A27 : Option Addr) (n27 : Nat) (c27 : Nat) (x28 : Int) (x29 : Int) (h : Heap) : Prop :=
  splitB (decide (x29 < x28)) (ptrOk A27 fun a1_ => 0 ≤ x29 ∧ x29 < ((n27 : Nat) : Int) ∧ (∃ v2_, ldv false 1 h (Addr.add a1_ (Int.toNat x29 * 1)) = some v2_ ∧ ∃ x3_, v2_ = (Value.int .i64 x3_) ∧ splitB (decide (x3_ < (0 : Int))) (R (Value.int .i64 (1 : Int)) h) (ptrOk A6 fun a4_ => 0 ≤ x29 ∧ x29 < ((n6 : Nat) : Int) ∧ (∃ v5_, ldv false 1 h (Addr.add a4_ (Int.toNat x29 * 1)) = some v5_ ∧ ∃ x6_, v5_ = (Value.int .i64 x6_) ∧ splitB (decide (x3_ > x6_)) (R (Value.int .i64 (1 : Int)) h) (f49.l1 R A6 n6 c6 A18 n18 c18 x19 x20 A27 n27 c27 x28 (IntKind.wrap .i64 (x29 + (1 : Int))) h))))) (f49.l0 R A6 n6 c6 A18 n18 c18 x19 (IntKind.wrap .i64 (x20 + (1 : Int))) h)
set_option maxRecDepth 100000 in
theorem f49.l1_in {R : Value → Heap → Prop} {A6 : Option Addr} {n6 : Nat} {c6 : Nat} {A18 : Option Addr} {n18 : Nat} {c18 : Nat} {x19 : Int} {x20 : Int} {A27 : Option Addr} {n27 : Nat} {c27 : Nat} {x28 : Int} {x29 : Int} {h : Heap} (H : f49.l1T R A6 n6 c6 A18 n18 c18 x19 x20 A27 n27 c27 x28 x29 h) : f49.l1 R A6 n6 c6 A18 n18 c18 x19 x20 A27 n27 c27 x28 x29 h :=
  pt_intro mixed f49.good (Eq.mpr (show (Fwd Try.prog f49.T f49.kp Try.f49 R [false, false, true, true, true, false, false, true, true, false, false, true, false, true, true, true] (mkFr [(6, (Value.slice A6 n6 c6)), (18, (Value.slice A18 n18 c18)), (19, (Value.int .i64 x19)), (20, (Value.int .i64 x20)), (27, (Value.slice A27 n27 c27)), (28, (Value.int .i64 x28)), (29, (Value.int .i64 x29))]) h) = (f49.l1T R A6 n6 c6 A18 n18 c18 x19 x20 A27 n27 c27 x28 x29 h) by kernel_rfl) H)
set_option maxRecDepth 100000 in
def f49.runT (R : Value → Heap → Prop) (A0 : Option Addr) (n0 : Nat) (c0 : Nat) (A1 : Option Addr) (n1 : Nat) (c1 : Nat) (h : Heap) : Prop :=
  Run Try.prog 80 #[(Value.slice A0 n0 c0)] h fun v1_ h2_ => ∃ x3_, v1_ = (Value.int .i64 x3_) ∧ splitB (x3_ != (0 : Int)) (R (Value.int .i64 x3_) h2_) (Run Try.prog 50 #[(Value.slice A0 n0 c0)] h2_ fun v4_ h5_ => ∃ A6_, ∃ n6_, ∃ c6_, v4_ = (Value.slice A6_ n6_ c6_) ∧ f49.l0 R A6_ n6_ c6_ A1 n1 c1 ((n1 : Nat) : Int) (0 : Int) h5_)
set_option maxRecDepth 100000 in
theorem f49.run {R : Value → Heap → Prop} {A0 : Option Addr} {n0 : Nat} {c0 : Nat} {A1 : Option Addr} {n1 : Nat} {c1 : Nat} {h : Heap} (H : f49.runT R A0 n0 c0 A1 n1 c1 h) : Run Try.prog 49 #[(Value.slice A0 n0 c0), (Value.slice A1 n1 c1)] h R :=
  run_of mixed Try.func49 (by kernel_rfl) (by kernel_rfl) f49.good (Eq.mpr (show (Fwd Try.prog f49.T f49.kp Try.f49 R [] (mkFr (argL [(Value.slice A0 n0 c0), (Value.slice A1 n1 c1)] 0)) h) = (f49.runT R A0 n0 c0 A1 n1 c1 h) by kernel_rfl) H)
def f81.T : Tab := { sh := tSh, tup := tTup, keep := [], plan := [(7, (.take 0 (.take 1 (.take 2 (.take 6 (.take 7 (.take 3 (.take 4 (.take 5 (.take 8 (.take 9 (.take 10 (.take 11 (.take 12 (.eff false 13 .done)))))))))))))))] }
def f81.kp : Keep := [([false, false, true, false, true, true, true], [1, 5, 6, 12, 13, 14])]
theorem f81.good : goodCode Try.prog f81.T (rootOf Try.f81) = true := by kernel_rfl
def f81.l0 (R : Value → Heap → Prop) (A1 : Option Addr) (n1 : Nat) (c1 : Nat) (a5 : Addr) (A6 : Option Addr) (n6 : Nat) (c6 : Nat) (A12 : Option Addr) (n12 : Nat) (c12 : Nat) (x13 : Int) (x14 : Int) (h : Heap) : Prop := Pt Try.prog Try.f81 R [false, false, true, false, true, true, true] (mkFr [(1, (Value.slice A1 n1 c1)), (5, (Value.pointer (some a5))), (6, (Value.slice A6 n6 c6)), (12, (Value.slice A12 n12 c12)), (13, (Value.int .i64 x13)), (14, (Value.int .i64 x14))]) h
set_option maxRecDepth 100000 in
def f81.l0T (R : Value → Heap → Prop) (A1 : Option Addr) (n1 : Nat) (c1 : Nat) (a5 : Addr) (A6 : Option Addr) (n6 : Nat) (c6 : Nat) (A12 : Option Addr) (n12 : Nat) (c12 : Nat) (x13 : Int) (x14 : Int) (h : Heap) : Prop :=
  splitB (decide (x14 < x13)) (ptrOk A12 fun a1_ => 0 ≤ x14 ∧ x14 < ((n12 : Nat) : Int) ∧ (∃ v2_, ldv true 3 h (Addr.add a1_ (Int.toNat x14 * 3)) = some v2_ ∧ newH h (Obj.cells #[(Value.int .i64 (0 : Int)), (Value.int .i64 (0 : Int)), (Value.int .i64 (0 : Int))] 109) fun h3_ => ∃ l5_ : List Value, v2_ = Value.agg l5_.toArray ∧ l5_.length = 3 ∧ ∃ h4_, stH h3_ (⟨Array.size h, 0, none⟩) l5_ 0 = some h4_ ∧ ∃ v6_, ldv false 1 h4_ (⟨Array.size h, 0, none⟩) = some v6_ ∧ ∃ x7_, v6_ = (Value.int .i64 x7_) ∧ 0 ≤ x7_ ∧ x7_ < ((8 : Nat) : Int) ∧ (∃ v8_, ldv false 1 h4_ (Addr.add a5 (Int.toNat x7_ * 1)) = some v8_ ∧ ∃ x9_, v8_ = (Value.int .i64 x9_) ∧ 0 ≤ x7_ ∧ x7_ < ((8 : Nat) : Int) ∧ (∃ h10_, st1 h4_ (Addr.add a5 (Int.toNat x7_ * 1)) (Value.int .i64 (IntKind.wrap .i64 (x9_ + (1 : Int)))) = some h10_ ∧ ∃ v11_, ldv false 1 h10_ (⟨Array.size h, 0, none⟩) = some v11_ ∧ ∃ x12_, v11_ = (Value.int .i64 x12_) ∧ 0 ≤ x12_ ∧ x12_ < ((8 : Nat) : Int) ∧ (∃ v13_, ldv false 1 h10_ (Addr.add a5 (Int.toNat x12_ * 1)) = some v13_ ∧ ∃ x14_, v13_ = (Value.int .i64 x14_) ∧ ∃ v15_, ldv false 1 h10_ (⟨Array.size h, 0, none⟩) = some v15_ ∧ ∃ x16_, v15_ = (Value.int .i64 x16_) ∧ ptrOk A1 fun a17_ => 0 ≤ x16_ ∧ x16_ < ((n1 : Nat) : Int) ∧ (∃ v18_, ldv false 1 h10_ (Addr.add a17_ (Int.toNat x16_ * 1)) = some v18_ ∧ ∃ x19_, v18_ = (Value.int .i64 x19_) ∧ ptrOk A6 fun a20_ => 0 ≤ x14 ∧ x14 < ((n6 : Nat) : Int) ∧ (∃ h21_, st1 h10_ (Addr.add a20_ (Int.toNat x14 * 1)) (Value.bool (decide (x14_ ≤ x19_))) = some h21_ ∧ f81.l0 R A1 n1 c1 a5 A6 n6 c6 A12 n12 c12 x13 (IntKind.wrap .i64 (x14 + (1 : Int))) h21_))))))) (R (Value.slice A6 n6 c6) h)
set_option maxRecDepth 100000 in
theorem f81.l0_in {R : Value → Heap → Prop} {A1 : Option Addr} {n1 : Nat} {c1 : Nat} {a5 : Addr} {A6 : Option Addr} {n6 : Nat} {c6 : Nat} {A12 : Option Addr} {n12 : Nat} {c12 : Nat} {x13 : Int} {x14 : Int} {h : Heap} (H : f81.l0T R A1 n1 c1 a5 A6 n6 c6 A12 n12 c12 x13 x14 h) : f81.l0 R A1 n1 c1 a5 A6 n6 c6 A12 n12 c12 x13 x14 h :=
  pt_intro mixed f81.good (Eq.mpr (show (Fwd Try.prog f81.T f81.kp Try.f81 R [false, false, true, false, true, true, true] (mkFr [(1, (Value.slice A1 n1 c1)), (5, (Value.pointer (some a5))), (6, (Value.slice A6 n6 c6)), (12, (Value.slice A12 n12 c12)), (13, (Value.int .i64 x13)), (14, (Value.int .i64 x14))]) h) = (f81.l0T R A1 n1 c1 a5 A6 n6 c6 A12 n12 c12 x13 x14 h) by kernel_rfl) H)
set_option maxRecDepth 100000 in
def f81.runT (R : Value → Heap → Prop) (A0 : Option Addr) (n0 : Nat) (c0 : Nat) (A1 : Option Addr) (n1 : Nat) (c1 : Nat) (h : Heap) : Prop :=
  newH h (Obj.cells #[(Value.int .i64 (0 : Int)), (Value.int .i64 (0 : Int)), (Value.int .i64 (0 : Int)), (Value.int .i64 (0 : Int)), (Value.int .i64 (0 : Int)), (Value.int .i64 (0 : Int)), (Value.int .i64 (0 : Int)), (Value.int .i64 (0 : Int))] 50) fun h1_ => 0 ≤ ((n0 : Nat) : Int) ∧ ((n0 : Nat) : Int) ≤ ((n0 : Nat) : Int) ∧ ((n0 : Nat) : Int) * 1 ≤ 140737488355328 ∧ ((n0 : Nat) : Int) ≤ 9223372036854775807 ∧ (newH h1_ (Obj.cells (mkCells #[(Value.bool false)] (Int.toNat ((n0 : Nat) : Int) * 1)) 4) fun h2_ => f81.l0 R A1 n1 c1 (⟨Array.size h, 0, none⟩) (some ⟨Array.size h1_, 0, none⟩) (Int.toNat ((n0 : Nat) : Int)) (Int.toNat ((n0 : Nat) : Int)) A0 n0 c0 ((n0 : Nat) : Int) (0 : Int) h2_)
set_option maxRecDepth 100000 in
theorem f81.run {R : Value → Heap → Prop} {A0 : Option Addr} {n0 : Nat} {c0 : Nat} {A1 : Option Addr} {n1 : Nat} {c1 : Nat} {h : Heap} (H : f81.runT R A0 n0 c0 A1 n1 c1 h) : Run Try.prog 81 #[(Value.slice A0 n0 c0), (Value.slice A1 n1 c1)] h R :=
  run_of mixed Try.func81 (by kernel_rfl) (by kernel_rfl) f81.good (Eq.mpr (show (Fwd Try.prog f81.T f81.kp Try.f81 R [] (mkFr (argL [(Value.slice A0 n0 c0), (Value.slice A1 n1 c1)] 0)) h) = (f81.runT R A0 n0 c0 A1 n1 c1 h) by kernel_rfl) H)
def f51.T : Tab := { sh := tSh, tup := tTup, keep := [], plan := [(7, (.take 0 (.take 1 (.take 3 (.take 4 (.take 5 (.take 2 (.take 6 (.eff false 7 .done)))))))))] }
def f51.kp : Keep := [([false, false, true, false, true, true, true], [5, 6, 13, 14, 15]), ([true, true, false, false, true, true, false, false, true, false, true, true, true], [5, 6, 7, 8, 13, 14, 15])]
theorem f51.good : goodCode Try.prog f51.T (rootOf Try.f51) = true := by kernel_rfl
def f51.l0 (R : Value → Heap → Prop) (A5 : Option Addr) (n5 : Nat) (c5 : Nat) (v6 : Value) (A13 : Option Addr) (n13 : Nat) (c13 : Nat) (x14 : Int) (x15 : Int) (h : Heap) : Prop := Pt Try.prog Try.f51 R [false, false, true, false, true, true, true] (mkFr [(5, (Value.slice A5 n5 c5)), (6, v6), (13, (Value.slice A13 n13 c13)), (14, (Value.int .i64 x14)), (15, (Value.int .i64 x15))]) h
def f51.j0 (R : Value → Heap → Prop) (A5 : Option Addr) (n5 : Nat) (c5 : Nat) (v6 : Value) (x7 : Int) (a8 : Addr) (A13 : Option Addr) (n13 : Nat) (c13 : Nat) (x14 : Int) (x15 : Int) (h : Heap) : Prop := Pt Try.prog Try.f51 R [true, true, false, false, true, true, false, false, true, false, true, true, true] (mkFr [(5, (Value.slice A5 n5 c5)), (6, v6), (7, (Value.int .i64 x7)), (8, (Value.pointer (some a8))), (13, (Value.slice A13 n13 c13)), (14, (Value.int .i64 x14)), (15, (Value.int .i64 x15))]) h
set_option maxRecDepth 100000 in
def f51.l0T (R : Value → Heap → Prop) (A5 : Option Addr) (n5 : Nat) (c5 : Nat) (v6 : Value) (A13 : Option Addr) (n13 : Nat) (c13 : Nat) (x14 : Int) (x15 : Int) (h : Heap) : Prop :=
  splitB (decide (x15 < x14)) (ptrOk A13 fun a1_ => 0 ≤ x15 ∧ x15 < ((n13 : Nat) : Int) ∧ (∃ v2_, ldv true 3 h (Addr.add a1_ (Int.toNat x15 * 3)) = some v2_ ∧ newH h (Obj.cells #[(Value.int .i64 (0 : Int)), (Value.int .i64 (0 : Int)), (Value.int .i64 (0 : Int))] 109) fun h3_ => ∃ l5_ : List Value, v2_ = Value.agg l5_.toArray ∧ l5_.length = 3 ∧ ∃ h4_, stH h3_ (⟨Array.size h, 0, none⟩) l5_ 0 = some h4_ ∧ ∃ v6_, ldv false 1 h4_ (Addr.add (⟨Array.size h, 0, none⟩) 1) = some v6_ ∧ ∃ x7_, v6_ = (Value.int .i64 x7_) ∧ splitB (x7_ == (2 : Int)) (ptrOk A5 fun a8_ => 0 ≤ x15 ∧ x15 < ((n5 : Nat) : Int) ∧ (∃ v9_, ldv false 1 h4_ (Addr.add (⟨Array.size h, 0, none⟩) 2) = some v9_ ∧ ∃ x10_, v9_ = (Value.int .i64 x10_) ∧ ∃ v11_, ldv false 1 h4_ (Addr.add a8_ (Int.toNat x15 * 1)) = some v11_ ∧ ∃ b12_, v11_ = (Value.bool b12_) ∧ Hwp Try.prog (Instr.mapUpdate 128 v6 (Value.int .i64 x10_) (Value.bool b12_)) h4_ fun _ h13_ => f51.j0 R A5 n5 c5 v6 x15 (⟨Array.size h, 0, none⟩) A13 n13 c13 x14 x15 h13_)) (f51.j0 R A5 n5 c5 v6 x15 (⟨Array.size h, 0, none⟩) A13 n13 c13 x14 x15 h4_))) (R (Value.bool true) h)
set_option maxRecDepth 100000 in
theorem f51.l0_in {R : Value → Heap → Prop} {A5 : Option Addr} {n5 : Nat} {c5 : Nat} {v6 : Value} {A13 : Option Addr} {n13 : Nat} {c13 : Nat} {x14 : Int} {x15 : Int} {h : Heap} (H : f51.l0T R A5 n5 c5 v6 A13 n13 c13 x14 x15 h) : f51.l0 R A5 n5 c5 v6 A13 n13 c13 x14 x15 h :=
  pt_intro mixed f51.good (Eq.mpr (show (Fwd Try.prog f51.T f51.kp Try.f51 R [false, false, true, false, true, true, true] (mkFr [(5, (Value.slice A5 n5 c5)), (6, v6), (13, (Value.slice A13 n13 c13)), (14, (Value.int .i64 x14)), (15, (Value.int .i64 x15))]) h) = (f51.l0T R A5 n5 c5 v6 A13 n13 c13 x14 x15 h) by kernel_rfl) H)
set_option maxRecDepth 100000 in
def f51.j0T (R : Value → Heap → Prop) (A5 : Option Addr) (n5 : Nat) (c5 : Nat) (v6 : Value) (x7 : Int) (a8 : Addr) (A13 : Option Addr) (n13 : Nat) (c13 : Nat) (x14 : Int) (x15 : Int) (h : Heap) : Prop :=
  ∃ v1_, ldv false 1 h (Addr.add a8 1) = some v1_ ∧ ∃ x2_, v1_ = (Value.int .i64 x2_) ∧ splitB (x2_ == (3 : Int)) (ptrOk A5 fun a3_ => 0 ≤ x7 ∧ x7 < ((n5 : Nat) : Int) ∧ (∃ v4_, ldv false 1 h (Addr.add a3_ (Int.toNat x7 * 1)) = some v4_ ∧ ∃ b5_, v4_ = (Value.bool b5_) ∧ splitB b5_ (∃ v6_, ldv false 1 h (Addr.add a8 2) = some v6_ ∧ ∃ x7_, v6_ = (Value.int .i64 x7_) ∧ Gen Try.prog (Instr.lookup 128 v6 (Value.int .i64 x7_) false) h fun v8_ h9_ => ∃ b10_, v8_ = (Value.bool b10_) ∧ splitB (!b10_) (R (Value.bool false) h9_) (f51.l0 R A5 n5 c5 v6 A13 n13 c13 x14 (IntKind.wrap .i64 (x15 + (1 : Int))) h9_)) (f51.l0 R A5 n5 c5 v6 A13 n13 c13 x14 (IntKind.wrap .i64 (x15 + (1 : Int))) h))) (f51.l0 R A5 n5 c5 v6 A13 n13 c13 x14 (IntKind.wrap .i64 (x15 + (1 : Int))) h)
set_option maxRecDepth 100000 in
theorem f51.j0_in {R : Value → Heap → Prop} {A5 : Option Addr} {n5 : Nat} {c5 : Nat} {v6 : Value} {x7 : Int} {a8 : Addr} {A13 : Option Addr} {n13 : Nat} {c13 : Nat} {x14 : Int} {x15 : Int} {h : Heap} (H : f51.j0T R A5 n5 c5 v6 x7 a8 A13 n13 c13 x14 x15 h) : f51.j0 R A5 n5 c5 v6 x7 a8 A13 n13 c13 x14 x15 h :=
  pt_intro mixed f51.good (Eq.mpr (show (Fwd Try.prog f51.T f51.kp Try.f51 R [true, true, false, false, true, true, false, false, true, false, true, true, true] (mkFr [(5, (Value.slice A5 n5 c5)), (6, v6), (7, (Value.int .i64 x7)), (8, (Value.pointer (some a8))), (13, (Value.slice A13 n13 c13)), (14, (Value.int .i64 x14)), (15, (Value.int .i64 x15))]) h) = (f51.j0T R A5 n5 c5 v6 x7 a8 A13 n13 c13 x14 x15 h) by kernel_rfl) H)
set_option maxRecDepth 100000 in
def f51.runT (R : Value → Heap → Prop) (A0 : Option Addr) (n0 : Nat) (c0 : Nat) (A1 : Option Addr) (n1 : Nat) (c1 : Nat) (h : Heap) : Prop :=
  Run Try.prog 81 #[(Value.slice A0 n0 c0), (Value.slice A1 n1 c1)] h fun v1_ h2_ => ∃ A3_, ∃ n3_, ∃ c3_, v1_ = (Value.slice A3_ n3_ c3_) ∧ Gen Try.prog (Instr.makeMap 128 none) h2_ fun v4_ h5_ => f51.l0 R A3_ n3_ c3_ v4_ A0 n0 c0 ((n0 : Nat) : Int) (0 : Int) h5_
set_option maxRecDepth 100000 in
theorem f51.run {R : Value → Heap → Prop} {A0 : Option Addr} {n0 : Nat} {c0 : Nat} {A1 : Option Addr} {n1 : Nat} {c1 : Nat} {h : Heap} (H : f51.runT R A0 n0 c0 A1 n1 c1 h) : Run Try.prog 51 #[(Value.slice A0 n0 c0), (Value.slice A1 n1 c1)] h R :=
  run_of mixed Try.func51 (by kernel_rfl) (by kernel_rfl) f51.good (Eq.mpr (show (Fwd Try.prog f51.T f51.kp Try.f51 R [] (mkFr (argL [(Value.slice A0 n0 c0), (Value.slice A1 n1 c1)] 0)) h) = (f51.runT R A0 n0 c0 A1 n1 c1 h) by kernel_rfl) H)
def f7.T : Tab := { sh := tSh, tup := tTup, keep := [], plan := [(16, (.take 0 (.take 1 (.take 3 (.take 4 (.take 5 (.take 2 (.take 6 (.take 7 (.take 8 (.split 8 (.take 9 (.take 10 (.eff false 11 (.take 12 (.take 13 (.split 13 (.take 14 (.take 15 (.eff false 16 (.take 17 (.take 18 .done))))))))))))))))))))))] }
def f7.kp : Keep := [([false, false, true, false, true, true, true, true, true, true], [0, 5, 7, 8, 9]), ([false, false, true, false, false, true, false, false, true, false, true, true, true, true, true, true], [0, 5, 7, 8, 9, 30]), ([true, true, true, true, false, false, true, true, false, false, true, false, false, true, false, false, true, false, true, true, true, true, true, true], [0, 5, 7, 8, 9, 11, 30])]
theorem f7.good : goodCode Try.prog f7.T (rootOf Try.f7) = true := by kernel_rfl
def f7.l0 (R : Value → Heap → Prop) (A0 : Option Addr) (n0 : Nat) (c0 : Nat) (A5 : Option Addr) (n5 : Nat) (c5 : Nat) (v7 : Value) (A8 : Option Addr) (n8 : Nat) (c8 : Nat) (x9 : Int) (h : Heap) : Prop := Pt Try.prog Try.f7 R [false, false, true, false, true, true, true, true, true, true] (mkFr [(0, (Value.slice A0 n0 c0)), (5, (Value.slice A5 n5 c5)), (7, v7), (8, (Value.slice A8 n8 c8)), (9, (Value.int .i64 x9))]) h
def f7.l1 (R : Value → Heap → Prop) (A0 : Option Addr) (n0 : Nat) (c0 : Nat) (A5 : Option Addr) (n5 : Nat) (c5 : Nat) (v7 : Value) (A8 : Option Addr) (n8 : Nat) (c8 : Nat) (x9 : Int) (x30 : Int) (h : Heap) : Prop := Pt Try.prog Try.f7 R [false, false, true, false, false, true, false, false, true, false, true, true, true, true, true, true] (mkFr [(0, (Value.slice A0 n0 c0)), (5, (Value.slice A5 n5 c5)), (7, v7), (8, (Value.slice A8 n8 c8)), (9, (Value.int .i64 x9)), (30, (Value.int .i64 x30))]) h
def f7.j0 (R : Value → Heap → Prop) (A0 : Option Addr) (n0 : Nat) (c0 : Nat) (A5 : Option Addr) (n5 : Nat) (c5 : Nat) (v7 : Value) (A8 : Option Addr) (n8 : Nat) (c8 : Nat) (x9 : Int) (a11 : Addr) (x30 : Int) (h : Heap) : Prop := Pt Try.prog Try.f7 R [true, true, true, true, false, false, true, true, false, false, true, false, false, true, false, false, true, false, true, true, true, true, true, true] (mkFr [(0, (Value.slice A0 n0 c0)), (5, (Value.slice A5 n5 c5)), (7, v7), (8, (Value.slice A8 n8 c8)), (9, (Value.int .i64 x9)), (11, (Value.pointer (some a11))), (30, (Value.int .i64 x30))]) h
set_option maxRecDepth 100000 in
def f7.l0T (R : Value → Heap → Prop) (A0 : Option Addr) (n0 : Nat) (c0 : Nat) (A5 : Option Addr) (n5 : Nat) (c5 : Nat) (v7 : Value) (A8 : Option Addr) (n8 : Nat) (c8 : Nat) (x9 : Int) (h : Heap) : Prop :=
  splitB (decide (x9 < ((n8 : Nat) : Int))) (f7.l1 R A0 n0 c0 A5 n5 c5 v7 A8 n8 c8 x9 (0 : Int) h) (R (Value.tuple #[(Value.int .i64 ((n8 : Nat) : Int)), (Value.int .i64 (0 : Int))]) h)
set_option maxRecDepth 100000 in
theorem f7.l0_in {R : Value → Heap → Prop} {A0 : Option Addr} {n0 : Nat} {c0 : Nat} {A5 : Option Addr} {n5 : Nat} {c5 : Nat} {v7 : Value} {A8 : Option Addr} {n8 : Nat} {c8 : Nat} {x9 : Int} {h : Heap} (H : f7.l0T R A0 n0 c0 A5 n5 c5 v7 A8 n8 c8 x9 h) : f7.l0 R A0 n0 c0 A5 n5 c5 v7 A8 n8 c8 x9 h :=
  pt_intro mixed f7.good (Eq.mpr (show (Fwd Try.prog f7.T f7.kp Try.f7 R [false, false, true, false, true, true, true, true, true, true] (mkFr [(0, (Value.slice A0 n0 c0)), (5, (Value.slice A5 n5 c5)), (7, v7), (8, (Value.slice A8 n8 c8)), (9, (Value.int .i64 x9))]) h) = (f7.l0T R A0 n0 c0 A5 n5 c5 v7 A8 n8 c8 x9 h) by kernel_rfl) H)
set_option maxRecDepth 100000 in
def f7.l1T (R : Value → Heap → Prop) (A0 : Option Addr) (n0 : Nat) (c0 : Nat) (A5 : Option Addr) (n5 : Nat) (c5 : Nat) (v7 : Value) (A8 : Option Addr) (n8 : Nat) (c8 : Nat) (x9 : Int) (x30 : Int) (h : Heap) : Prop :=
  splitB (decide (x30 < (8 : Int))) (ptrOk A8 fun a1_ => 0 ≤ x9 ∧ x9 < ((n8 : Nat) : Int) ∧ (∃ v2_, ldv true 8 h (Addr.add a1_ (Int.toNat x9 * 8)) = some v2_ ∧ newH h (Obj.cells #[(Value.int .i64 (0 : Int)), (Value.int .i64 (0 : Int)), (Value.int .i64 (0 : Int)), (Value.int .i64 (0 : Int)), (Value.int .i64 (0 : Int)), (Value.int .i64 (0 : Int)), (Value.int .i64 (0 : Int)), (Value.int .i64 (0 : Int))] 50) fun h3_ => ∃ l5_ : List Value, v2_ = Value.agg l5_.toArray ∧ l5_.length = 8 ∧ ∃ h4_, stH h3_ (⟨Array.size h, 0, none⟩) l5_ 0 = some h4_ ∧ 0 ≤ x30 ∧ x30 < ((8 : Nat) : Int) ∧ (∃ v6_, ldv false 1 h4_ (Addr.add (⟨Array.size h, 0, none⟩) (Int.toNat x30 * 1)) = some v6_ ∧ ∃ x7_, v6_ = (Value.int .i64 x7_) ∧ 0 ≤ x30 ∧ x30 < ((8 : Nat) : Int) ∧ (∃ h8_, st1 h4_ (Addr.add (⟨Array.size h, 0, none⟩) (Int.toNat x30 * 1)) (Value.int .i64 (IntKind.wrap .i64 (x7_ + (1 : Int)))) = some h8_ ∧ 0 ≤ x30 ∧ x30 < ((8 : Nat) : Int) ∧ (ptrOk A5 fun a9_ => 0 ≤ x30 ∧ x30 < ((n5 : Nat) : Int) ∧ (∃ v10_, ldv false 1 h8_ (Addr.add (⟨Array.size h, 0, none⟩) (Int.toNat x30 * 1)) = some v10_ ∧ ∃ x11_, v10_ = (Value.int .i64 x11_) ∧ ∃ v12_, ldv false 1 h8_ (Addr.add a9_ (Int.toNat x30 * 1)) = some v12_ ∧ ∃ x13_, v12_ = (Value.int .i64 x13_) ∧ splitB (decide (x11_ > x13_)) (f7.l1 R A0 n0 c0 A5 n5 c5 v7 A8 n8 c8 x9 (IntKind.wrap .i64 (x30 + (1 : Int))) h8_) (∃ v14_, ldv true 8 h8_ (⟨Array.size h, 0, none⟩) = some v14_ ∧ Gen Try.prog (Instr.lookup 106 v7 v14_ false) h8_ fun v15_ h16_ => ∃ b17_, v15_ = (Value.bool b17_) ∧ splitB b17_ (f7.l1 R A0 n0 c0 A5 n5 c5 v7 A8 n8 c8 x9 (IntKind.wrap .i64 (x30 + (1 : Int))) h16_) (0 ≤ (0 : Int) ∧ (0 : Int) ≤ ((8 : Nat) : Int) ∧ ((8 : Nat) : Int) ≤ ((8 : Nat) : Int) ∧ (Run Try.prog 51 #[(Value.slice A0 n0 c0), (Value.slice (some (if 8 = Int.toNat (0 : Int) then ⟨Array.size h, 0, none⟩ else Addr.add (⟨Array.size h, 0, none⟩) (Int.toNat (0 : Int) * 1))) (Int.toNat ((8 : Nat) : Int) - Int.toNat (0 : Int)) (8 - Int.toNat (0 : Int)))] h16_ fun v18_ h19_ => ∃ b20_, v18_ = (Value.bool b20_) ∧ splitB (!b20_) (f7.l1 R A0 n0 c0 A5 n5 c5 v7 A8 n8 c8 x9 (IntKind.wrap .i64 (x30 + (1 : Int))) h19_) (f7.j0 R A0 n0 c0 A5 n5 c5 v7 A8 n8 c8 x9 (⟨Array.size h, 0, none⟩) x30 h19_)))))))))) (f7.l0 R A0 n0 c0 A5 n5 c5 v7 A8 n8 c8 (IntKind.wrap .i64 (x9 + (1 : Int))) h)
set_option maxRecDepth 100000 in
theorem f7.l1_in {R : Value → Heap → Prop} {A0 : Option Addr} {n0 : Nat} {c0 : Nat} {A5 : Option Addr} {n5 : Nat} {c5 : Nat} {v7 : Value} {A8 : Option Addr} {n8 : Nat} {c8 : Nat} {x9 : Int} {x30 : Int} {h : Heap} (H : f7.l1T R A0 n0 c0 A5 n5 c5 v7 A8 n8 c8 x9 x30 h) : f7.l1 R A0 n0 c0 A5 n5 c5 v7 A8 n8 c8 x9 x30 h :=
  pt_intro mixed f7.good (Eq.mpr (show (Fwd Try.prog f7.T f7.kp Try.f7 R [false, false, true, false, false, true, false, false, true, false, true, true, true, true, true, true] (mkFr [(0, (Value.slice A0 n0 c0)), (5, (Value.slice A5 n5 c5)), (7, v7), (8, (Value.slice A8 n8 c8)), (9, (Value.int .i64 x9)), (30, (Value.int .i64 x30))]) h) = (f7.l1T R A0 n0 c0 A5 n5 c5 v7 A8 n8 c8 x9 x30 h) by kernel_rfl) H)
set_option maxRecDepth 100000 in
def f7.j0T (R : Value → Heap → Prop) (A0 : Option Addr) (n0 : Nat) (c0 : Nat) (A5 : Option Addr) (n5 : Nat) (c5 : Nat) (v7 : Value) (A8 : Option Addr) (n8 : Nat) (c8 : Nat) (x9 : Int) (a11 : Addr) (x30 : Int) (h : Heap) : Prop :=
  splitB (((n8 : Nat) : Int) == (5000 : Int)) (R (Value.tuple #[(Value.int .i64 (0 : Int)), (Value.int .i64 (2 : Int))]) h) (∃ v1_, ldv true 8 h a11 = some v1_ ∧ Hwp Try.prog (Instr.mapUpdate 106 v7 v1_ (Value.bool true)) h fun _ h2_ => ∃ v3_, ldv true 8 h2_ a11 = some v3_ ∧ ∃ l4_ : List Value, v3_ = Value.agg l4_.toArray ∧ l4_.length = 8 ∧ (newH h2_ (Obj.cells ((List.take 0 ([(Value.int .i64 (0 : Int)), (Value.int .i64 (0 : Int)), (Value.int .i64 (0 : Int)), (Value.int .i64 (0 : Int)), (Value.int .i64 (0 : Int)), (Value.int .i64 (0 : Int)), (Value.int .i64 (0 : Int)), (Value.int .i64 (0 : Int))]) ++ l4_ ++ List.drop 8 ([(Value.int .i64 (0 : Int)), (Value.int .i64 (0 : Int)), (Value.int .i64 (0 : Int)), (Value.int .i64 (0 : Int)), (Value.int .i64 (0 : Int)), (Value.int .i64 (0 : Int)), (Value.int .i64 (0 : Int)), (Value.int .i64 (0 : Int))])).toArray) 50) fun h5_ => AppW 50 8 64 #[(Value.int .i64 (0 : Int)), (Value.int .i64 (0 : Int)), (Value.int .i64 (0 : Int)), (Value.int .i64 (0 : Int)), (Value.int .i64 (0 : Int)), (Value.int .i64 (0 : Int)), (Value.int .i64 (0 : Int)), (Value.int .i64 (0 : Int))] A8 n8 c8 (Value.slice (some ⟨Array.size h2_, 0, none⟩) 1 1) h5_ fun v6_ h7_ => ∃ A8_, ∃ n8_, ∃ c8_, v6_ = (Value.slice A8_ n8_ c8_) ∧ f7.l1 R A0 n0 c0 A5 n5 c5 v7 A8_ n8_ c8_ x9 (IntKind.wrap .i64 (x30 + (1 : Int))) h7_))
set_option maxRecDepth 100000 in
theorem f7.j0_in {R : Value → Heap → Prop} {A0 : Option Addr} {n0 : Nat} {c0 : Nat} {A5 : Option Addr} {n5 : Nat} {c5 : Nat} {v7 : Value} {A8 : Option Addr} {n8 : Nat} {c8 : Nat} {x9 : Int} {a11 : Addr} {x30 : Int} {h : Heap} (H : f7.j0T R A0 n0 c0 A5 n5 c5 v7 A8 n8 c8 x9 a11 x30 h) : f7.j0 R A0 n0 c0 A5 n5 c5 v7 A8 n8 c8 x9 a11 x30 h :=
  pt_intro mixed f7.good (Eq.mpr (show (Fwd Try.prog f7.T f7.kp Try.f7 R [true, true, true, true, false, false, true, true, false, false, true, false, false, true, false, false, true, false, true, true, true, true, true, true] (mkFr [(0, (Value.slice A0 n0 c0)), (5, (Value.slice A5 n5 c5)), (7, v7), (8, (Value.slice A8 n8 c8)), (9, (Value.int .i64 x9)), (11, (Value.pointer (some a11))), (30, (Value.int .i64 x30))]) h) = (f7.j0T R A0 n0 c0 A5 n5 c5 v7 A8 n8 c8 x9 a11 x30 h) by kernel_rfl) H)
set_option maxRecDepth 100000 in
def f7.runT (R : Value → Heap → Prop) (A0 : Option Addr) (n0 : Nat) (c0 : Nat) (h : Heap) : Prop :=
  Run Try.prog 49 #[(Value.slice A0 n0 c0), (Value.slice none 0 0)] h fun v1_ h2_ => ∃ x3_, v1_ = (Value.int .i64 x3_) ∧ splitB (x3_ != (0 : Int)) (R (Value.tuple #[(Value.int .i64 (0 : Int)), (Value.int .i64 x3_)]) h2_) (Run Try.prog 50 #[(Value.slice A0 n0 c0)] h2_ fun v4_ h5_ => ∃ A6_, ∃ n6_, ∃ c6_, v4_ = (Value.slice A6_ n6_ c6_) ∧ newH h5_ (Obj.cells #[(Value.int .i64 (0 : Int)), (Value.int .i64 (0 : Int)), (Value.int .i64 (0 : Int)), (Value.int .i64 (0 : Int)), (Value.int .i64 (0 : Int)), (Value.int .i64 (0 : Int)), (Value.int .i64 (0 : Int)), (Value.int .i64 (0 : Int))] 50) fun h7_ => Gen Try.prog (Instr.makeMap 106 none) h7_ fun v8_ h9_ => ∃ v10_, ldv true 8 h9_ (⟨Array.size h5_, 0, none⟩) = some v10_ ∧ Hwp Try.prog (Instr.mapUpdate 106 v8_ v10_ (Value.bool true)) h9_ fun _ h11_ => ∃ v12_, ldv true 8 h11_ (⟨Array.size h5_, 0, none⟩) = some v12_ ∧ ∃ l13_ : List Value, v12_ = Value.agg l13_.toArray ∧ l13_.length = 8 ∧ (newH h11_ (Obj.cells ((List.take 0 ([(Value.int .i64 (0 : Int)), (Value.int .i64 (0 : Int)), (Value.int .i64 (0 : Int)), (Value.int .i64 (0 : Int)), (Value.int .i64 (0 : Int)), (Value.int .i64 (0 : Int)), (Value.int .i64 (0 : Int)), (Value.int .i64 (0 : Int))]) ++ l13_ ++ List.drop 8 ([(Value.int .i64 (0 : Int)), (Value.int .i64 (0 : Int)), (Value.int .i64 (0 : Int)), (Value.int .i64 (0 : Int)), (Value.int .i64 (0 : Int)), (Value.int .i64 (0 : Int)), (Value.int .i64 (0 : Int)), (Value.int .i64 (0 : Int))])).toArray) 50) fun h14_ => f7.l0 R A0 n0 c0 A6_ n6_ c6_ v8_ (some ⟨Array.size h11_, 0, none⟩) 1 1 (0 : Int) h14_))
set_option maxRecDepth 100000 in
theorem f7.run {R : Value → Heap → Prop} {A0 : Option Addr} {n0 : Nat} {c0 : Nat} {h : Heap} (H : f7.runT R A0 n0 c0 h) : Run Try.prog 7 #[(Value.slice A0 n0 c0)] h R :=
  run_of mixed Try.func7 (by kernel_rfl) (by kernel_rfl) f7.good (Eq.mpr (show (Fwd Try.prog f7.T f7.kp Try.f7 R [] (mkFr (argL [(Value.slice A0 n0 c0)] 0)) h) = (f7.runT R A0 n0 c0 h) by kernel_rfl) H)
def f8.T : Tab := { sh := tSh, tup := tTup, keep := [], plan := [] }
def f8.kp : Keep := []
theorem f8.good : goodCode Try.prog f8.T (rootOf Try.f8) = true := by kernel_rfl
set_option maxRecDepth 100000 in
def f8.runT (R : Value → Heap → Prop)  (h : Heap) : Prop :=
  ∃ l1_ : List Value, (Value.agg #[(Value.int .i64 (0 : Int)), (Value.int .i64 (2 : Int)), (Value.int .i64 (5 : Int))]) = Value.agg l1_.toArray ∧ l1_.length = 3 ∧ (∃ l2_ : List Value, (Value.agg #[(Value.int .i64 (1 : Int)), (Value.int .i64 (3 : Int)), (Value.int .i64 (5 : Int))]) = Value.agg l2_.toArray ∧ l2_.length = 3 ∧ (newH h (Obj.cells ((List.take 3 (List.take 0 ([(Value.int .i64 (0 : Int)), (Value.int .i64 (0 : Int)), (Value.int .i64 (0 : Int)), (Value.int .i64 (0 : Int)), (Value.int .i64 (0 : Int)), (Value.int .i64 (0 : Int))]) ++ l1_ ++ List.drop 3 ([(Value.int .i64 (0 : Int)), (Value.int .i64 (0 : Int)), (Value.int .i64 (0 : Int)), (Value.int .i64 (0 : Int)), (Value.int .i64 (0 : Int)), (Value.int .i64 (0 : Int))])) ++ l2_ ++ List.drop 6 (List.take 0 ([(Value.int .i64 (0 : Int)), (Value.int .i64 (0 : Int)), (Value.int .i64 (0 : Int)), (Value.int .i64 (0 : Int)), (Value.int .i64 (0 : Int)), (Value.int .i64 (0 : Int))]) ++ l1_ ++ List.drop 3 ([(Value.int .i64 (0 : Int)), (Value.int .i64 (0 : Int)), (Value.int .i64 (0 : Int)), (Value.int .i64 (0 : Int)), (Value.int .i64 (0 : Int)), (Value.int .i64 (0 : Int))]))).toArray) 109) fun h3_ => R (Value.slice (some ⟨Array.size h, 0, none⟩) 2 2) h3_))
set_option maxRecDepth 100000 in
theorem f8.run {R : Value → Heap → Prop}  {h : Heap} (H : f8.runT R  h) : Run Try.prog 8 #[] h R :=
  run_of mixed Try.func8 (by kernel_rfl) (by kernel_rfl) f8.good (Eq.mpr (show (Fwd Try.prog f8.T f8.kp Try.f8 R [] (mkFr (argL [] 0)) h) = (f8.runT R  h) by kernel_rfl) H)
def f82.T : Tab := { sh := tSh, tup := tTup, keep := [], plan := [] }
def f82.kp : Keep := [([false, false, true, false, true], [0, 1, 7, 8])]
theorem f82.good : goodCode Try.prog f82.T (rootOf Try.f82) = true := by kernel_rfl
def f82.l0 (R : Value → Heap → Prop) (A0 : Option Addr) (n0 : Nat) (c0 : Nat) (v1 : Value) (x7 : Int) (x8 : Int) (h : Heap) : Prop := Pt Try.prog Try.f82 R [false, false, true, false, true] (mkFr [(0, (Value.slice A0 n0 c0)), (1, v1), (7, (Value.int .i64 x7)), (8, (Value.int .i64 x8))]) h
set_option maxRecDepth 100000 in
def f82.l0T (R : Value → Heap → Prop) (A0 : Option Addr) (n0 : Nat) (c0 : Nat) (v1 : Value) (x7 : Int) (x8 : Int) (h : Heap) : Prop :=
  splitB (decide (x8 < x7)) (ptrOk A0 fun a1_ => 0 ≤ x8 ∧ x8 < ((n0 : Nat) : Int) ∧ (∃ v2_, ldv true 3 h (Addr.add a1_ (Int.toNat x8 * 3)) = some v2_ ∧ CallF Try.prog v1 [v2_] h fun v3_ h4_ => ∃ b5_, v3_ = (Value.bool b5_) ∧ splitB b5_ (R (Value.int .i64 x8) h4_) (f82.l0 R A0 n0 c0 v1 x7 (IntKind.wrap .i64 (x8 + (1 : Int))) h4_))) (R (Value.int .i64 (-1 : Int)) h)
set_option maxRecDepth 100000 in
theorem f82.l0_in {R : Value → Heap → Prop} {A0 : Option Addr} {n0 : Nat} {c0 : Nat} {v1 : Value} {x7 : Int} {x8 : Int} {h : Heap} (H : f82.l0T R A0 n0 c0 v1 x7 x8 h) : f82.l0 R A0 n0 c0 v1 x7 x8 h :=
  pt_intro mixed f82.good (Eq.mpr (show (Fwd Try.prog f82.T f82.kp Try.f82 R [false, false, true, false, true] (mkFr [(0, (Value.slice A0 n0 c0)), (1, v1), (7, (Value.int .i64 x7)), (8, (Value.int .i64 x8))]) h) = (f82.l0T R A0 n0 c0 v1 x7 x8 h) by kernel_rfl) H)
set_option maxRecDepth 100000 in
def f82.runT (R : Value → Heap → Prop) (A0 : Option Addr) (n0 : Nat) (c0 : Nat) (v1 : Value) (h : Heap) : Prop :=
  f82.l0 R A0 n0 c0 v1 ((n0 : Nat) : Int) (0 : Int) h
set_option maxRecDepth 100000 in
theorem f82.run {R : Value → Heap → Prop} {A0 : Option Addr} {n0 : Nat} {c0 : Nat} {v1 : Value} {h : Heap} (H : f82.runT R A0 n0 c0 v1 h) : Run Try.prog 82 #[(Value.slice A0 n0 c0), v1] h R :=
  run_of mixed Try.func82 (by kernel_rfl) (by kernel_rfl) f82.good (Eq.mpr (show (Fwd Try.prog f82.T f82.kp Try.f82 R [] (mkFr (argL [(Value.slice A0 n0 c0), v1] 0)) h) = (f82.runT R A0 n0 c0 v1 h) by kernel_rfl) H)
def f53.T : Tab := { sh := tSh, tup := tTup, keep := [], plan := [] }
def f53.kp : Keep := []
theorem f53.good : goodCode Try.prog f53.T (rootOf Try.f53) = true := by kernel_rfl
set_option maxRecDepth 100000 in
def f53.runT (R : Value → Heap → Prop) (A0 : Option Addr) (n0 : Nat) (c0 : Nat) (v1 : Value) (h : Heap) : Prop :=
  Run Try.prog 82 #[(Value.slice A0 n0 c0), v1] h fun v1_ h2_ => ∃ x3_, v1_ = (Value.int .i64 x3_) ∧ R (Value.bool (decide (x3_ ≥ (0 : Int)))) h2_
set_option maxRecDepth 100000 in
theorem f53.run {R : Value → Heap → Prop} {A0 : Option Addr} {n0 : Nat} {c0 : Nat} {v1 : Value} {h : Heap} (H : f53.runT R A0 n0 c0 v1 h) : Run Try.prog 53 #[(Value.slice A0 n0 c0), v1] h R :=
  run_of mixed Try.func53 (by kernel_rfl) (by kernel_rfl) f53.good (Eq.mpr (show (Fwd Try.prog f53.T f53.kp Try.f53 R [] (mkFr (argL [(Value.slice A0 n0 c0), v1] 0)) h) = (f53.runT R A0 n0 c0 v1 h) by kernel_rfl) H)
def f54.T : Tab := { sh := tSh, tup := tTup, keep := [], plan := [] }
def f54.kp : Keep := []
theorem f54.good : goodCode Try.prog f54.T (rootOf Try.f54) = true := by kernel_rfl
set_option maxRecDepth 100000 in
theorem f54.ok : calleeOk Try.prog 54 = true := by kernel_rfl
set_option maxRecDepth 100000 in
def f54.runT (R : Value → Heap → Prop) (v0 : Value) (a1 : Addr) (a2 : Addr) (h : Heap) : Prop :=
  newH h (Obj.cells ((v0).cells) 109) fun h1_ => ∃ v2_, ldv false 1 h1_ (Addr.add (⟨Array.size h, 0, none⟩) 1) = some v2_ ∧ ∃ x3_, v2_ = (Value.int .i64 x3_) ∧ ∃ v4_, ldv false 1 h1_ a1 = some v4_ ∧ ∃ x5_, v4_ = (Value.int .i64 x5_) ∧ splitB (x3_ == x5_) (∃ v6_, ldv false 1 h1_ (Addr.add (⟨Array.size h, 0, none⟩) 2) = some v6_ ∧ ∃ x7_, v6_ = (Value.int .i64 x7_) ∧ ∃ v8_, ldv false 1 h1_ (Addr.add a2 2) = some v8_ ∧ ∃ x9_, v8_ = (Value.int .i64 x9_) ∧ R (Value.bool (x7_ == x9_)) h1_) (R (Value.bool false) h1_)
set_option maxRecDepth 100000 in
theorem f54.run {R : Value → Heap → Prop} {v0 : Value} {a1 : Addr} {a2 : Addr} {h : Heap} (H : f54.runT R v0 a1 a2 h) : Run Try.prog 54 #[v0, (Value.pointer (some a1)), (Value.pointer (some a2))] h R :=
  run_of mixed Try.func54 (by kernel_rfl) (by kernel_rfl) f54.good (Eq.mpr (show (Fwd Try.prog f54.T f54.kp Try.f54 R [] (mkFr (argL [v0, (Value.pointer (some a1)), (Value.pointer (some a2))] 0)) h) = (f54.runT R v0 a1 a2 h) by kernel_rfl) H)
def f52.T : Tab := { sh := tSh, tup := tTup, keep := [], plan := [] }
def f52.kp : Keep := []
theorem f52.good : goodCode Try.prog f52.T (rootOf Try.f52) = true := by kernel_rfl
set_option maxRecDepth 100000 in
def f52.runT (R : Value → Heap → Prop) (x0 : Int) (a1 : Addr) (a2 : Addr) (a3 : Addr) (h : Heap) : Prop :=
  newH h (Obj.cells #[(Value.int .i64 x0)] 3) fun h1_ => ∃ v2_, ldv false 1 h1_ a1 = some v2_ ∧ ∃ A3_, ∃ n3_, ∃ c3_, v2_ = (Value.slice A3_ n3_ c3_) ∧ ∃ v4_, ldv false 1 h1_ a2 = some v4_ ∧ ∃ x5_, v4_ = (Value.int .i64 x5_) ∧ 0 ≤ (0 : Int) ∧ (0 : Int) ≤ x5_ ∧ x5_ ≤ ((c3_ : Nat) : Int) ∧ (Run Try.prog 53 #[(Value.slice (sliceA A3_ (Int.toNat (0 : Int)) c3_ 3) (Int.toNat x5_ - Int.toNat (0 : Int)) (c3_ - Int.toNat (0 : Int))), (Value.func (.func 54) #[] #[(Value.pointer (some ⟨Array.size h, 0, none⟩)), (Value.pointer (some a3))])] h1_ fun v6_ h7_ => ∃ b8_, v6_ = (Value.bool b8_) ∧ R (Value.bool b8_) h7_)
set_option maxRecDepth 100000 in
theorem f52.run {R : Value → Heap → Prop} {x0 : Int} {a1 : Addr} {a2 : Addr} {a3 : Addr} {h : Heap} (H : f52.runT R x0 a1 a2 a3 h) : Run Try.prog 52 #[(Value.int .i64 x0), (Value.pointer (some a1)), (Value.pointer (some a2)), (Value.pointer (some a3))] h R :=
  run_of mixed Try.func52 (by kernel_rfl) (by kernel_rfl) f52.good (Eq.mpr (show (Fwd Try.prog f52.T f52.kp Try.f52 R [] (mkFr (argL [(Value.int .i64 x0), (Value.pointer (some a1)), (Value.pointer (some a2)), (Value.pointer (some a3))] 0)) h) = (f52.runT R x0 a1 a2 a3 h) by kernel_rfl) H)
def f55.T : Tab := { sh := tSh, tup := tTup, keep := [], plan := [] }
def f55.kp : Keep := []
theorem f55.good : goodCode Try.prog f55.T (rootOf Try.f55) = true := by kernel_rfl
set_option maxRecDepth 100000 in
def f55.runT (R : Value → Heap → Prop) (x0 : Int) (x1 : Int) (x2 : Int) (h : Heap) : Prop :=
  splitB (decide (x0 ≥ x1)) (R (Value.bool (decide (x0 ≤ x2))) h) (R (Value.bool false) h)
set_option maxRecDepth 100000 in
theorem f55.run {R : Value → Heap → Prop} {x0 : Int} {x1 : Int} {x2 : Int} {h : Heap} (H : f55.runT R x0 x1 x2 h) : Run Try.prog 55 #[(Value.int .i64 x0), (Value.int .i64 x1), (Value.int .i64 x2)] h R :=
  run_of mixed Try.func55 (by kernel_rfl) (by kernel_rfl) f55.good (Eq.mpr (show (Fwd Try.prog f55.T f55.kp Try.f55 R [] (mkFr (argL [(Value.int .i64 x0), (Value.int .i64 x1), (Value.int .i64 x2)] 0)) h) = (f55.runT R x0 x1 x2 h) by kernel_rfl) H)
def f9.T : Tab := { sh := tSh, tup := tTup, keep := [], plan := [] }
def f9.kp : Keep := [([false, false, true, false, true, true], [1, 9, 10, 11]), ([true, true, true, false, true, true, false, false, true, true, false, false, true, false, true, true], [1, 4, 5, 9, 10, 11, 22]), ([true, true, true, true, true, false, true, true, false, false, true, true, false, false, true, false, true, true], [1, 4, 5, 9, 10, 11, 36]), ([true, true, true, true, true, true, true, false, true, true, false, false, true, true, false, false, true, false, true, true], [1, 4, 5, 9, 10, 11, 44])]
theorem f9.good : goodCode Try.prog f9.T (rootOf Try.f9) = true := by kernel_rfl
def f9.l0 (R : Value → Heap → Prop) (a1 : Addr) (A9 : Option Addr) (n9 : Nat) (c9 : Nat) (x10 : Int) (x11 : Int) (h : Heap) : Prop := Pt Try.prog Try.f9 R [false, false, true, false, true, true] (mkFr [(1, (Value.pointer (some a1))), (9, (Value.slice A9 n9 c9)), (10, (Value.int .i64 x10)), (11, (Value.int .i64 x11))]) h
def f9.j0 (R : Value → Heap → Prop) (a1 : Addr) (a4 : Addr) (a5_0 : Addr) (a5_1 : Addr) (a5_2 : Addr) (A9 : Option Addr) (n9 : Nat) (c9 : Nat) (x10 : Int) (x11 : Int) (b22 : Bool) (h : Heap) : Prop := Pt Try.prog Try.f9 R [true, true, true, false, true, true, false, false, true, true, false, false, true, false, true, true] (mkFr [(1, (Value.pointer (some a1))), (4, (Value.pointer (some a4))), (5, (Value.func (.func 52) #[] #[(Value.pointer (some a5_0)), (Value.pointer (some a5_1)), (Value.pointer (some a5_2))])), (9, (Value.slice A9 n9 c9)), (10, (Value.int .i64 x10)), (11, (Value.int .i64 x11)), (22, (Value.bool b22))]) h
def f9.j1 (R : Value → Heap → Prop) (a1 : Addr) (a4 : Addr) (a5_0 : Addr) (a5_1 : Addr) (a5_2 : Addr) (A9 : Option Addr) (n9 : Nat) (c9 : Nat) (x10 : Int) (x11 : Int) (b36 : Bool) (h : Heap) : Prop := Pt Try.prog Try.f9 R [true, true, true, true, true, false, true, true, false, false, true, true, false, false, true, false, true, true] (mkFr [(1, (Value.pointer (some a1))), (4, (Value.pointer (some a4))), (5, (Value.func (.func 52) #[] #[(Value.pointer (some a5_0)), (Value.pointer (some a5_1)), (Value.pointer (some a5_2))])), (9, (Value.slice A9 n9 c9)), (10, (Value.int .i64 x10)), (11, (Value.int .i64 x11)), (36, (Value.bool b36))]) h
def f9.j2 (R : Value → Heap → Prop) (a1 : Addr) (a4 : Addr) (a5_0 : Addr) (a5_1 : Addr) (a5_2 : Addr) (A9 : Option Addr) (n9 : Nat) (c9 : Nat) (x10 : Int) (x11 : Int) (b44 : Bool) (h : Heap) : Prop := Pt Try.prog Try.f9 R [true, true, true, true, true, true, true, false, true, true, false, false, true, true, false, false, true, false, true, true] (mkFr [(1, (Value.pointer (some a1))), (4, (Value.pointer (some a4))), (5, (Value.func (.func 52) #[] #[(Value.pointer (some a5_0)), (Value.pointer (some a5_1)), (Value.pointer (some a5_2))])), (9, (Value.slice A9 n9 c9)), (10, (Value.int .i64 x10)), (11, (Value.int .i64 x11)), (44, (Value.bool b44))]) h
set_option maxRecDepth 100000 in
def f9.l0T (R : Value → Heap → Prop) (a1 : Addr) (A9 : Option Addr) (n9 : Nat) (c9 : Nat) (x10 : Int) (x11 : Int) (h : Heap) : Prop :=
  splitB (decide (x11 < x10)) (ptrOk A9 fun a1_ => 0 ≤ x11 ∧ x11 < ((n9 : Nat) : Int) ∧ (∃ v2_, ldv true 3 h (Addr.add a1_ (Int.toNat x11 * 3)) = some v2_ ∧ newH h (Obj.cells #[(Value.int .i64 (0 : Int))] 3) fun h3_ => newH h3_ (Obj.cells #[(Value.int .i64 (0 : Int)), (Value.int .i64 (0 : Int)), (Value.int .i64 (0 : Int))] 109) fun h4_ => ∃ h5_, st1 h4_ (⟨Array.size h, 0, none⟩) (Value.int .i64 x11) = some h5_ ∧ ∃ l7_ : List Value, v2_ = Value.agg l7_.toArray ∧ l7_.length = 3 ∧ ∃ h6_, stH h5_ (⟨Array.size h3_, 0, none⟩) l7_ 0 = some h6_ ∧ ∃ v8_, ldv false 1 h6_ (Addr.add (⟨Array.size h3_, 0, none⟩) 1) = some v8_ ∧ ∃ x9_, v8_ = (Value.int .i64 x9_) ∧ Run Try.prog 55 #[(Value.int .i64 x9_), (Value.int .i64 (1 : Int)), (Value.int .i64 (3 : Int))] h6_ fun v10_ h11_ => ∃ b12_, v10_ = (Value.bool b12_) ∧ splitB (!b12_) (R (Value.int .i64 (3 : Int)) h11_) (∃ v13_, ldv false 1 h11_ (⟨Array.size h3_, 0, none⟩) = some v13_ ∧ ∃ x14_, v13_ = (Value.int .i64 x14_) ∧ Run Try.prog 55 #[(Value.int .i64 x14_), (Value.int .i64 (0 : Int)), (Value.int .i64 (7 : Int))] h11_ fun v15_ h16_ => ∃ b17_, v15_ = (Value.bool b17_) ∧ splitB (!b17_) (f9.j0 R a1 (⟨Array.size h3_, 0, none⟩) a1 (⟨Array.size h, 0, none⟩) (⟨Array.size h3_, 0, none⟩) A9 n9 c9 x10 x11 (!b17_) h16_) (∃ v18_, ldv false 1 h16_ (Addr.add (⟨Array.size h3_, 0, none⟩) 1) = some v18_ ∧ ∃ x19_, v18_ = (Value.int .i64 x19_) ∧ splitB (decide (x19_ > (1 : Int))) (∃ v20_, ldv false 1 h16_ (Addr.add (⟨Array.size h3_, 0, none⟩) 2) = some v20_ ∧ ∃ x21_, v20_ = (Value.int .i64 x21_) ∧ Run Try.prog 55 #[(Value.int .i64 x21_), (Value.int .i64 (0 : Int)), (Value.int .i64 (999 : Int))] h16_ fun v22_ h23_ => ∃ b24_, v22_ = (Value.bool b24_) ∧ f9.j0 R a1 (⟨Array.size h3_, 0, none⟩) a1 (⟨Array.size h, 0, none⟩) (⟨Array.size h3_, 0, none⟩) A9 n9 c9 x10 x11 (!b24_) h23_) (f9.j0 R a1 (⟨Array.size h3_, 0, none⟩) a1 (⟨Array.size h, 0, none⟩) (⟨Array.size h3_, 0, none⟩) A9 n9 c9 x10 x11 false h16_))))) (R (Value.int .i64 (0 : Int)) h)
set_option maxRecDepth 100000 in
theorem f9.l0_in {R : Value → Heap → Prop} {a1 : Addr} {A9 : Option Addr} {n9 : Nat} {c9 : Nat} {x10 : Int} {x11 : Int} {h : Heap} (H : f9.l0T R a1 A9 n9 c9 x10 x11 h) : f9.l0 R a1 A9 n9 c9 x10 x11 h :=
  pt_intro mixed f9.good (Eq.mpr (show (Fwd Try.prog f9.T f9.kp Try.f9 R [false, false, true, false, true, true] (mkFr [(1, (Value.pointer (some a1))), (9, (Value.slice A9 n9 c9)), (10, (Value.int .i64 x10)), (11, (Value.int .i64 x11))]) h) = (f9.l0T R a1 A9 n9 c9 x10 x11 h) by kernel_rfl) H)
set_option maxRecDepth 100000 in
def f9.j0T (R : Value → Heap → Prop) (a1 : Addr) (a4 : Addr) (a5_0 : Addr) (a5_1 : Addr) (a5_2 : Addr) (A9 : Option Addr) (n9 : Nat) (c9 : Nat) (x10 : Int) (x11 : Int) (b22 : Bool) (h : Heap) : Prop :=
  splitB b22 (R (Value.int .i64 (1 : Int)) h) (∃ v1_, ldv false 1 h (Addr.add a4 1) = some v1_ ∧ ∃ x2_, v1_ = (Value.int .i64 x2_) ∧ splitB (x2_ == (2 : Int)) (Run Try.prog 52 #[(Value.int .i64 (2 : Int)), (Value.pointer (some a5_0)), (Value.pointer (some a5_1)), (Value.pointer (some a5_2))] h fun v3_ h4_ => ∃ b5_, v3_ = (Value.bool b5_) ∧ f9.j1 R a1 a4 a5_0 a5_1 a5_2 A9 n9 c9 x10 x11 b5_ h4_) (f9.j1 R a1 a4 a5_0 a5_1 a5_2 A9 n9 c9 x10 x11 false h))
set_option maxRecDepth 100000 in
theorem f9.j0_in {R : Value → Heap → Prop} {a1 : Addr} {a4 : Addr} {a5_0 : Addr} {a5_1 : Addr} {a5_2 : Addr} {A9 : Option Addr} {n9 : Nat} {c9 : Nat} {x10 : Int} {x11 : Int} {b22 : Bool} {h : Heap} (H : f9.j0T R a1 a4 a5_0 a5_1 a5_2 A9 n9 c9 x10 x11 b22 h) : f9.j0 R a1 a4 a5_0 a5_1 a5_2 A9 n9 c9 x10 x11 b22 h :=
  pt_intro mixed f9.good (Eq.mpr (show (Fwd Try.prog f9.T f9.kp Try.f9 R [true, true, true, false, true, true, false, false, true, true, false, false, true, false, true, true] (mkFr [(1, (Value.pointer (some a1))), (4, (Value.pointer (some a4))), (5, (Value.func (.func 52) #[] #[(Value.pointer (some a5_0)), (Value.pointer (some a5_1)), (Value.pointer (some a5_2))])), (9, (Value.slice A9 n9 c9)), (10, (Value.int .i64 x10)), (11, (Value.int .i64 x11)), (22, (Value.bool b22))]) h) = (f9.j0T R a1 a4 a5_0 a5_1 a5_2 A9 n9 c9 x10 x11 b22 h) by kernel_rfl) H)
set_option maxRecDepth 100000 in
def f9.j1T (R : Value → Heap → Prop) (a1 : Addr) (a4 : Addr) (a5_0 : Addr) (a5_1 : Addr) (a5_2 : Addr) (A9 : Option Addr) (n9 : Nat) (c9 : Nat) (x10 : Int) (x11 : Int) (b36 : Bool) (h : Heap) : Prop :=
  splitB b36 (R (Value.int .i64 (5 : Int)) h) (∃ v1_, ldv false 1 h (Addr.add a4 1) = some v1_ ∧ ∃ x2_, v1_ = (Value.int .i64 x2_) ∧ splitB (x2_ == (3 : Int)) (Run Try.prog 52 #[(Value.int .i64 (2 : Int)), (Value.pointer (some a5_0)), (Value.pointer (some a5_1)), (Value.pointer (some a5_2))] h fun v3_ h4_ => ∃ b5_, v3_ = (Value.bool b5_) ∧ f9.j2 R a1 a4 a5_0 a5_1 a5_2 A9 n9 c9 x10 x11 (!b5_) h4_) (f9.j2 R a1 a4 a5_0 a5_1 a5_2 A9 n9 c9 x10 x11 false h))
set_option maxRecDepth 100000 in
theorem f9.j1_in {R : Value → Heap → Prop} {a1 : Addr} {a4 : Addr} {a5_0 : Addr} {a5_1 : Addr} {a5_2 : Addr} {A9 : Option Addr} {n9 : Nat} {c9 : Nat} {x10 : Int} {x11 : Int} {b36 : Bool} {h : Heap} (H : f9.j1T R a1 a4 a5_0 a5_1 a5_2 A9 n9 c9 x10 x11 b36 h) : f9.j1 R a1 a4 a5_0 a5_1 a5_2 A9 n9 c9 x10 x11 b36 h :=
  pt_intro mixed f9.good (Eq.mpr (show (Fwd Try.prog f9.T f9.kp Try.f9 R [true, true, true, true, true, false, true, true, false, false, true, true, false, false, true, false, true, true] (mkFr [(1, (Value.pointer (some a1))), (4, (Value.pointer (some a4))), (5, (Value.func (.func 52) #[] #[(Value.pointer (some a5_0)), (Value.pointer (some a5_1)), (Value.pointer (some a5_2))])), (9, (Value.slice A9 n9 c9)), (10, (Value.int .i64 x10)), (11, (Value.int .i64 x11)), (36, (Value.bool b36))]) h) = (f9.j1T R a1 a4 a5_0 a5_1 a5_2 A9 n9 c9 x10 x11 b36 h) by kernel_rfl) H)
set_option maxRecDepth 100000 in
def f9.j2T (R : Value → Heap → Prop) (a1 : Addr) (a4 : Addr) (a5_0 : Addr) (a5_1 : Addr) (a5_2 : Addr) (A9 : Option Addr) (n9 : Nat) (c9 : Nat) (x10 : Int) (x11 : Int) (b44 : Bool) (h : Heap) : Prop :=
  splitB b44 (R (Value.int .i64 (4 : Int)) h) (∃ v1_, ldv false 1 h (Addr.add a4 1) = some v1_ ∧ ∃ x2_, v1_ = (Value.int .i64 x2_) ∧ splitB (x2_ == (3 : Int)) (Run Try.prog 52 #[(Value.int .i64 (3 : Int)), (Value.pointer (some a5_0)), (Value.pointer (some a5_1)), (Value.pointer (some a5_2))] h fun v3_ h4_ => ∃ b5_, v3_ = (Value.bool b5_) ∧ splitB b5_ (R (Value.int .i64 (5 : Int)) h4_) (f9.l0 R a1 A9 n9 c9 x10 (IntKind.wrap .i64 (x11 + (1 : Int))) h4_)) (f9.l0 R a1 A9 n9 c9 x10 (IntKind.wrap .i64 (x11 + (1 : Int))) h))
set_option maxRecDepth 100000 in
theorem f9.j2_in {R : Value → Heap → Prop} {a1 : Addr} {a4 : Addr} {a5_0 : Addr} {a5_1 : Addr} {a5_2 : Addr} {A9 : Option Addr} {n9 : Nat} {c9 : Nat} {x10 : Int} {x11 : Int} {b44 : Bool} {h : Heap} (H : f9.j2T R a1 a4 a5_0 a5_1 a5_2 A9 n9 c9 x10 x11 b44 h) : f9.j2 R a1 a4 a5_0 a5_1 a5_2 A9 n9 c9 x10 x11 b44 h :=
  pt_intro mixed f9.good (Eq.mpr (show (Fwd Try.prog f9.T f9.kp Try.f9 R [true, true, true, true, true, true, true, false, true, true, false, false, true, true, false, false, true, false, true, true] (mkFr [(1, (Value.pointer (some a1))), (4, (Value.pointer (some a4))), (5, (Value.func (.func 52) #[] #[(Value.pointer (some a5_0)), (Value.pointer (some a5_1)), (Value.pointer (some a5_2))])), (9, (Value.slice A9 n9 c9)), (10, (Value.int .i64 x10)), (11, (Value.int .i64 x11)), (44, (Value.bool b44))]) h) = (f9.j2T R a1 a4 a5_0 a5_1 a5_2 A9 n9 c9 x10 x11 b44 h) by kernel_rfl) H)
set_option maxRecDepth 100000 in
def f9.runT (R : Value → Heap → Prop) (A0 : Option Addr) (n0 : Nat) (c0 : Nat) (h : Heap) : Prop :=
  newH h (Obj.cells #[(Value.slice A0 n0 c0)] 22) fun h1_ => ∃ v2_, ldv false 1 h1_ (⟨Array.size h, 0, none⟩) = some v2_ ∧ ∃ A3_, ∃ n3_, ∃ c3_, v2_ = (Value.slice A3_ n3_ c3_) ∧ splitB (decide (((n3_ : Nat) : Int) > (200 : Int))) (R (Value.int .i64 (2 : Int)) h1_) (∃ v4_, ldv false 1 h1_ (⟨Array.size h, 0, none⟩) = some v4_ ∧ ∃ A5_, ∃ n5_, ∃ c5_, v4_ = (Value.slice A5_ n5_ c5_) ∧ f9.l0 R (⟨Array.size h, 0, none⟩) A5_ n5_ c5_ ((n5_ : Nat) : Int) (0 : Int) h1_)
set_option maxRecDepth 100000 in
theorem f9.run {R : Value → Heap → Prop} {A0 : Option Addr} {n0 : Nat} {c0 : Nat} {h : Heap} (H : f9.runT R A0 n0 c0 h) : Run Try.prog 9 #[(Value.slice A0 n0 c0)] h R :=
  run_of mixed Try.func9 (by kernel_rfl) (by kernel_rfl) f9.good (Eq.mpr (show (Fwd Try.prog f9.T f9.kp Try.f9 R [] (mkFr (argL [(Value.slice A0 n0 c0)] 0)) h) = (f9.runT R A0 n0 c0 h) by kernel_rfl) H)
def f10.T : Tab := { sh := tSh, tup := tTup, keep := [], plan := [(15, (.take 0 (.take 1 (.take 2 (.take 4 (.take 5 (.take 6 (.take 7 (.take 9 (.take 3 (.take 8 (.take 10 (.take 11 (.take 12 (.split 12 (.take 13 (.take 14 (.take 15 (.eff false 16 .done)))))))))))))))))))] }
def f10.kp : Keep := [([false, false, true, false, true, true], [0, 3, 13, 14, 15]), ([false, false, true, true, true, false, false, true, true, false, false, true, false, true, true], [0, 3, 4, 5, 6, 13, 14, 15]), ([true, true, false, false, true, false, false, true, true, true, false, false, true, true, false, false, true, false, true, true], [0, 3, 4, 5, 6, 13, 14, 15, 57]), ([false, false, true, true, false, true, true, false, false, true, false, false, true, true, true, false, false, true, true, false, false, true, false, true, true], [0, 3, 4, 5, 6, 13, 14, 15, 67, 68, 69]), ([true, true, false, false, true, true, true, false, false, true, true, false, false, true, false, true, true], [0, 3, 4, 5, 6, 13, 14, 15])]
theorem f10.good : goodCode Try.prog f10.T (rootOf Try.f10) = true := by kernel_rfl
def f10.l0 (R : Value → Heap → Prop) (A0 : Option Addr) (n0 : Nat) (c0 : Nat) (A3 : Option Addr) (n3 : Nat) (c3 : Nat) (A13 : Option Addr) (n13 : Nat) (c13 : Nat) (x14 : Int) (x15 : Int) (h : Heap) : Prop := Pt Try.prog Try.f10 R [false, false, true, false, true, true] (mkFr [(0, (Value.slice A0 n0 c0)), (3, (Value.slice A3 n3 c3)), (13, (Value.slice A13 n13 c13)), (14, (Value.int .i64 x14)), (15, (Value.int .i64 x15))]) h
def f10.l1 (R : Value → Heap → Prop) (A0 : Option Addr) (n0 : Nat) (c0 : Nat) (A3 : Option Addr) (n3 : Nat) (c3 : Nat) (x4 : Int) (a5 : Addr) (x6 : Int) (A13 : Option Addr) (n13 : Nat) (c13 : Nat) (x14 : Int) (x15 : Int) (h : Heap) : Prop := Pt Try.prog Try.f10 R [false, false, true, true, true, false, false, true, true, false, false, true, false, true, true] (mkFr [(0, (Value.slice A0 n0 c0)), (3, (Value.slice A3 n3 c3)), (4, (Value.int .i64 x4)), (5, (Value.pointer (some a5))), (6, (Value.int .i64 x6)), (13, (Value.slice A13 n13 c13)), (14, (Value.int .i64 x14)), (15, (Value.int .i64 x15))]) h
def f10.j1 (R : Value → Heap → Prop) (A0 : Option Addr) (n0 : Nat) (c0 : Nat) (A3 : Option Addr) (n3 : Nat) (c3 : Nat) (x4 : Int) (a5 : Addr) (x6 : Int) (A13 : Option Addr) (n13 : Nat) (c13 : Nat) (x14 : Int) (x15 : Int) (b57 : Bool) (h : Heap) : Prop := Pt Try.prog Try.f10 R [true, true, false, false, true, false, false, true, true, true, false, false, true, true, false, false, true, false, true, true] (mkFr [(0, (Value.slice A0 n0 c0)), (3, (Value.slice A3 n3 c3)), (4, (Value.int .i64 x4)), (5, (Value.pointer (some a5))), (6, (Value.int .i64 x6)), (13, (Value.slice A13 n13 c13)), (14, (Value.int .i64 x14)), (15, (Value.int .i64 x15)), (57, (Value.bool b57))]) h
def f10.l2 (R : Value → Heap → Prop) (A0 : Option Addr) (n0 : Nat) (c0 : Nat) (A3 : Option Addr) (n3 : Nat) (c3 : Nat) (x4 : Int) (a5 : Addr) (x6 : Int) (A13 : Option Addr) (n13 : Nat) (c13 : Nat) (x14 : Int) (x15 : Int) (A67 : Option Addr) (n67 : Nat) (c67 : Nat) (x68 : Int) (x69 : Int) (h : Heap) : Prop := Pt Try.prog Try.f10 R [false, false, true, true, false, true, true, false, false, true, false, false, true, true, true, false, false, true, true, false, false, true, false, true, true] (mkFr [(0, (Value.slice A0 n0 c0)), (3, (Value.slice A3 n3 c3)), (4, (Value.int .i64 x4)), (5, (Value.pointer (some a5))), (6, (Value.int .i64 x6)), (13, (Value.slice A13 n13 c13)), (14, (Value.int .i64 x14)), (15, (Value.int .i64 x15)), (67, (Value.slice A67 n67 c67)), (68, (Value.int .i64 x68)), (69, (Value.int .i64 x69))]) h
def f10.j0 (R : Value → Heap → Prop) (A0 : Option Addr) (n0 : Nat) (c0 : Nat) (A3 : Option Addr) (n3 : Nat) (c3 : Nat) (x4 : Int) (a5 : Addr) (x6 : Int) (A13 : Option Addr) (n13 : Nat) (c13 : Nat) (x14 : Int) (x15 : Int) (h : Heap) : Prop := Pt Try.prog Try.f10 R [true, true, false, false, true, true, true, false, false, true, true, false, false, true, false, true, true] (mkFr [(0, (Value.slice A0 n0 c0)), (3, (Value.slice A3 n3 c3)), (4, (Value.int .i64 x4)), (5, (Value.pointer (some a5))), (6, (Value.int .i64 x6)), (13, (Value.slice A13 n13 c13)), (14, (Value.int .i64 x14)), (15, (Value.int .i64 x15))]) h
set_option maxRecDepth 100000 in
def f10.l0T (R : Value → Heap → Prop) (A0 : Option Addr) (n0 : Nat) (c0 : Nat) (A3 : Option Addr) (n3 : Nat) (c3 : Nat) (A13 : Option Addr) (n13 : Nat) (c13 : Nat) (x14 : Int) (x15 : Int) (h : Heap) : Prop :=
  splitB (decide (x15 < x14)) (ptrOk A13 fun a1_ => 0 ≤ x15 ∧ x15 < ((n13 : Nat) : Int) ∧ (∃ v2_, ldv true 3 h (Addr.add a1_ (Int.toNat x15 * 3)) = some v2_ ∧ newH h (Obj.cells #[(Value.int .i64 (0 : Int)), (Value.int .i64 (0 : Int)), (Value.int .i64 (0 : Int))] 109) fun h3_ => ∃ l5_ : List Value, v2_ = Value.agg l5_.toArray ∧ l5_.length = 3 ∧ ∃ h4_, stH h3_ (⟨Array.size h, 0, none⟩) l5_ 0 = some h4_ ∧ 0 ≤ ((n0 : Nat) : Int) ∧ ((n0 : Nat) : Int) ≤ ((n0 : Nat) : Int) ∧ ((n0 : Nat) : Int) * 1 ≤ 140737488355328 ∧ ((n0 : Nat) : Int) ≤ 9223372036854775807 ∧ (newH h4_ (Obj.cells (mkCells #[(Value.bool false)] (Int.toNat ((n0 : Nat) : Int) * 1)) 4) fun h6_ => ptrOk A3 fun a7_ => 0 ≤ x15 ∧ x15 < ((n3 : Nat) : Int) ∧ (∃ h8_, st1 h6_ (Addr.add a7_ (Int.toNat x15 * 1)) (Value.slice (some ⟨Array.size h4_, 0, none⟩) (Int.toNat ((n0 : Nat) : Int)) (Int.toNat ((n0 : Nat) : Int))) = some h8_ ∧ f10.l1 R A0 n0 c0 A3 n3 c3 x15 (⟨Array.size h, 0, none⟩) (IntKind.wrap .i64 (x15 - (1 : Int))) A13 n13 c13 x14 x15 h8_)))) (R (Value.slice A3 n3 c3) h)
set_option maxRecDepth 100000 in
theorem f10.l0_in {R : Value → Heap → Prop} {A0 : Option Addr} {n0 : Nat} {c0 : Nat} {A3 : Option Addr} {n3 : Nat} {c3 : Nat} {A13 : Option Addr} {n13 : Nat} {c13 : Nat} {x14 : Int} {x15 : Int} {h : Heap} (H : f10.l0T R A0 n0 c0 A3 n3 c3 A13 n13 c13 x14 x15 h) : f10.l0 R A0 n0 c0 A3 n3 c3 A13 n13 c13 x14 x15 h :=
  pt_intro mixed f10.good (Eq.mpr (show (Fwd Try.prog f10.T f10.kp Try.f10 R [false, false, true, false, true, true] (mkFr [(0, (Value.slice A0 n0 c0)), (3, (Value.slice A3 n3 c3)), (13, (Value.slice A13 n13 c13)), (14, (Value.int .i64 x14)), (15, (Value.int .i64 x15))]) h) = (f10.l0T R A0 n0 c0 A3 n3 c3 A13 n13 c13 x14 x15 h) by kernel_rfl) H)
set_option maxRecDepth 100000 in
def f10.l1T (R : Value → Heap → Prop) (A0 : Option Addr) (n0 : Nat) (c0 : Nat) (A3 : Option Addr) (n3 : Nat) (c3 : Nat) (x4 : Int) (a5 : Addr) (x6 : Int) (A13 : Option Addr) (n13 : Nat) (c13 : Nat) (x14 : Int) (x15 : Int) (h : Heap) : Prop :=
  splitB (decide (x6 ≥ (0 : Int))) (ptrOk A0 fun a1_ => 0 ≤ x6 ∧ x6 < ((n0 : Nat) : Int) ∧ (∃ v2_, ldv true 3 h (Addr.add a1_ (Int.toNat x6 * 3)) = some v2_ ∧ newH h (Obj.cells #[(Value.int .i64 (0 : Int)), (Value.int .i64 (0 : Int)), (Value.int .i64 (0 : Int))] 109) fun h3_ => ∃ l5_ : List Value, v2_ = Value.agg l5_.toArray ∧ l5_.length = 3 ∧ ∃ h4_, stH h3_ (⟨Array.size h, 0, none⟩) l5_ 0 = some h4_ ∧ ∃ v6_, ldv false 1 h4_ (⟨Array.size h, 0, none⟩) = some v6_ ∧ ∃ x7_, v6_ = (Value.int .i64 x7_) ∧ ∃ v8_, ldv false 1 h4_ a5 = some v8_ ∧ ∃ x9_, v8_ = (Value.int .i64 x9_) ∧ splitB (x7_ == x9_) (f10.j1 R A0 n0 c0 A3 n3 c3 x4 a5 x6 A13 n13 c13 x14 x15 true h4_) (∃ v10_, ldv false 1 h4_ (Addr.add a5 1) = some v10_ ∧ ∃ x11_, v10_ = (Value.int .i64 x11_) ∧ splitB (x11_ == (3 : Int)) (∃ v12_, ldv false 1 h4_ (Addr.add (⟨Array.size h, 0, none⟩) 1) = some v12_ ∧ ∃ x13_, v12_ = (Value.int .i64 x13_) ∧ splitB (x13_ == (2 : Int)) (∃ v14_, ldv false 1 h4_ (Addr.add (⟨Array.size h, 0, none⟩) 2) = some v14_ ∧ ∃ x15_, v14_ = (Value.int .i64 x15_) ∧ ∃ v16_, ldv false 1 h4_ (Addr.add a5 2) = some v16_ ∧ ∃ x17_, v16_ = (Value.int .i64 x17_) ∧ f10.j1 R A0 n0 c0 A3 n3 c3 x4 a5 x6 A13 n13 c13 x14 x15 (x15_ == x17_) h4_) (f10.j1 R A0 n0 c0 A3 n3 c3 x4 a5 x6 A13 n13 c13 x14 x15 false h4_)) (f10.j1 R A0 n0 c0 A3 n3 c3 x4 a5 x6 A13 n13 c13 x14 x15 false h4_)))) (f10.l0 R A0 n0 c0 A3 n3 c3 A13 n13 c13 x14 (IntKind.wrap .i64 (x15 + (1 : Int))) h)
set_option maxRecDepth 100000 in
theorem f10.l1_in {R : Value → Heap → Prop} {A0 : Option Addr} {n0 : Nat} {c0 : Nat} {A3 : Option Addr} {n3 : Nat} {c3 : Nat} {x4 : Int} {a5 : Addr} {x6 : Int} {A13 : Option Addr} {n13 : Nat} {c13 : Nat} {x14 : Int} {x15 : Int} {h : Heap} (H : f10.l1T R A0 n0 c0 A3 n3 c3 x4 a5 x6 A13 n13 c13 x14 x15 h) : f10.l1 R A0 n0 c0 A3 n3 c3 x4 a5 x6 A13 n13 c13 x14 x15 h :=
  pt_intro mixed f10.good (Eq.mpr (show (Fwd Try.prog f10.T f10.kp Try.f10 R [false, false, true, true, true, false, false, true, true, false, false, true, false, true, true] (mkFr [(0, (Value.slice A0 n0 c0)), (3, (Value.slice A3 n3 c3)), (4, (Value.int .i64 x4)), (5, (Value.pointer (some a5))), (6, (Value.int .i64 x6)), (13, (Value.slice A13 n13 c13)), (14, (Value.int .i64 x14)), (15, (Value.int .i64 x15))]) h) = (f10.l1T R A0 n0 c0 A3 n3 c3 x4 a5 x6 A13 n13 c13 x14 x15 h) by kernel_rfl) H)
set_option maxRecDepth 100000 in
def f10.j1T (R : Value → Heap → Prop) (A0 : Option Addr) (n0 : Nat) (c0 : Nat) (A3 : Option Addr) (n3 : Nat) (c3 : Nat) (x4 : Int) (a5 : Addr) (x6 : Int) (A13 : Option Addr) (n13 : Nat) (c13 : Nat) (x14 : Int) (x15 : Int) (b57 : Bool) (h : Heap) : Prop :=
  splitB b57 (ptrOk A3 fun a1_ => 0 ≤ x4 ∧ x4 < ((n3 : Nat) : Int) ∧ (∃ v2_, ldv false 1 h (Addr.add a1_ (Int.toNat x4 * 1)) = some v2_ ∧ ∃ A3_, ∃ n3_, ∃ c3_, v2_ = (Value.slice A3_ n3_ c3_) ∧ ptrOk A3_ fun a4_ => 0 ≤ x6 ∧ x6 < ((n3_ : Nat) : Int) ∧ (∃ h5_, st1 h (Addr.add a4_ (Int.toNat x6 * 1)) (Value.bool true) = some h5_ ∧ ptrOk A3 fun a6_ => 0 ≤ x6 ∧ x6 < ((n3 : Nat) : Int) ∧ (∃ v7_, ldv false 1 h5_ (Addr.add a6_ (Int.toNat x6 * 1)) = some v7_ ∧ ∃ A8_, ∃ n8_, ∃ c8_, v7_ = (Value.slice A8_ n8_ c8_) ∧ f10.l2 R A0 n0 c0 A3 n3 c3 x4 a5 x6 A13 n13 c13 x14 x15 A8_ n8_ c8_ ((n8_ : Nat) : Int) (0 : Int) h5_)))) (f10.j0 R A0 n0 c0 A3 n3 c3 x4 a5 x6 A13 n13 c13 x14 x15 h)
set_option maxRecDepth 100000 in
theorem f10.j1_in {R : Value → Heap → Prop} {A0 : Option Addr} {n0 : Nat} {c0 : Nat} {A3 : Option Addr} {n3 : Nat} {c3 : Nat} {x4 : Int} {a5 : Addr} {x6 : Int} {A13 : Option Addr} {n13 : Nat} {c13 : Nat} {x14 : Int} {x15 : Int} {b57 : Bool} {h : Heap} (H : f10.j1T R A0 n0 c0 A3 n3 c3 x4 a5 x6 A13 n13 c13 x14 x15 b57 h) : f10.j1 R A0 n0 c0 A3 n3 c3 x4 a5 x6 A13 n13 c13 x14 x15 b57 h :=
  pt_intro mixed f10.good (Eq.mpr (show (Fwd Try.prog f10.T f10.kp Try.f10 R [true, true, false, false, true, false, false, true, true, true, false, false, true, true, false, false, true, false, true, true] (mkFr [(0, (Value.slice A0 n0 c0)), (3, (Value.slice A3 n3 c3)), (4, (Value.int .i64 x4)), (5, (Value.pointer (some a5))), (6, (Value.int .i64 x6)), (13, (Value.slice A13 n13 c13)), (14, (Value.int .i64 x14)), (15, (Value.int .i64 x15)), (57, (Value.bool b57))]) h) = (f10.j1T R A0 n0 c0 A3 n3 c3 x4 a5 x6 A13 n13 c13 x14 x15 b57 h) by kernel_rfl) H)
set_option maxRecDepth 100000 in
def f10.l2T (R : Value → Heap → Prop) (A0 : Option Addr) (n0 : Nat) (c0 : Nat) (A3 : Option Addr) (n3 : Nat) (c3 : Nat) (x4 : Int) (a5 : Addr) (x6 : Int) (A13 : Option Addr) (n13 : Nat) (c13 : Nat) (x14 : Int) (x15 : Int) (A67 : Option Addr) (n67 : Nat) (c67 : Nat) (x68 : Int) (x69 : Int) (h : Heap) : Prop :=
  splitB (decide (x69 < x68)) (ptrOk A67 fun a1_ => 0 ≤ x69 ∧ x69 < ((n67 : Nat) : Int) ∧ (∃ v2_, ldv false 1 h (Addr.add a1_ (Int.toNat x69 * 1)) = some v2_ ∧ ∃ b3_, v2_ = (Value.bool b3_) ∧ ptrOk A3 fun a4_ => 0 ≤ x4 ∧ x4 < ((n3 : Nat) : Int) ∧ (ptrOk A3 fun a5_ => 0 ≤ x4 ∧ x4 < ((n3 : Nat) : Int) ∧ (∃ v6_, ldv false 1 h (Addr.add a4_ (Int.toNat x4 * 1)) = some v6_ ∧ ∃ A7_, ∃ n7_, ∃ c7_, v6_ = (Value.slice A7_ n7_ c7_) ∧ ∃ v8_, ldv false 1 h (Addr.add a5_ (Int.toNat x4 * 1)) = some v8_ ∧ ∃ A9_, ∃ n9_, ∃ c9_, v8_ = (Value.slice A9_ n9_ c9_) ∧ ptrOk A9_ fun a10_ => 0 ≤ x69 ∧ x69 < ((n9_ : Nat) : Int) ∧ (∃ v11_, ldv false 1 h (Addr.add a10_ (Int.toNat x69 * 1)) = some v11_ ∧ ∃ b12_, v11_ = (Value.bool b12_) ∧ splitB b12_ (ptrOk A7_ fun a13_ => 0 ≤ x69 ∧ x69 < ((n7_ : Nat) : Int) ∧ (∃ h14_, st1 h (Addr.add a13_ (Int.toNat x69 * 1)) (Value.bool true) = some h14_ ∧ f10.l2 R A0 n0 c0 A3 n3 c3 x4 a5 x6 A13 n13 c13 x14 x15 A67 n67 c67 x68 (IntKind.wrap .i64 (x69 + (1 : Int))) h14_)) (ptrOk A7_ fun a15_ => 0 ≤ x69 ∧ x69 < ((n7_ : Nat) : Int) ∧ (∃ h16_, st1 h (Addr.add a15_ (Int.toNat x69 * 1)) (Value.bool b3_) = some h16_ ∧ f10.l2 R A0 n0 c0 A3 n3 c3 x4 a5 x6 A13 n13 c13 x14 x15 A67 n67 c67 x68 (IntKind.wrap .i64 (x69 + (1 : Int))) h16_))))))) (f10.j0 R A0 n0 c0 A3 n3 c3 x4 a5 x6 A13 n13 c13 x14 x15 h)
set_option maxRecDepth 100000 in
theorem f10.l2_in {R : Value → Heap → Prop} {A0 : Option Addr} {n0 : Nat} {c0 : Nat} {A3 : Option Addr} {n3 : Nat} {c3 : Nat} {x4 : Int} {a5 : Addr} {x6 : Int} {A13 : Option Addr} {n13 : Nat} {c13 : Nat} {x14 : Int} {x15 : Int} {A67 : Option Addr} {n67 : Nat} {c67 : Nat} {x68 : Int} {x69 : Int} {h : Heap} (H : f10.l2T R A0 n0 c0 A3 n3 c3 x4 a5 x6 A13 n13 c13 x14 x15 A67 n67 c67 x68 x69 h) : f10.l2 R A0 n0 c0 A3 n3 c3 x4 a5 x6 A13 n13 c13 x14 x15 A67 n67 c67 x68 x69 h :=
  pt_intro mixed f10.good (Eq.mpr (show (Fwd Try.prog f10.T f10.kp Try.f10 R [false, false, true, true, false, true, true, false, false, true, false, false, true, true, true, false, false, true, true, false, false, true, false, true, true] (mkFr [(0, (Value.slice A0 n0 c0)), (3, (Value.slice A3 n3 c3)), (4, (Value.int .i64 x4)), (5, (Value.pointer (some a5))), (6, (Value.int .i64 x6)), (13, (Value.slice A13 n13 c13)), (14, (Value.int .i64 x14)), (15, (Value.int .i64 x15)), (67, (Value.slice A67 n67 c67)), (68, (Value.int .i64 x68)), (69, (Value.int .i64 x69))]) h) = (f10.l2T R A0 n0 c0 A3 n3 c3 x4 a5 x6 A13 n13 c13 x14 x15 A67 n67 c67 x68 x69 h) by kernel_rfl) H)
set_option maxRecDepth 100000 in
def f10.j0T (R : Value → Heap → Prop) (A0 : Option Addr) (n0 : Nat) (c0 : Nat) (A3 : Option Addr) (n3 : Nat) (c3 : Nat) (x4 : Int) (a5 : Addr) (x6 : Int) (A13 : Option Addr) (n13 : Nat) (c13 : Nat) (x14 : Int) (x15 : Int) (h : Heap) : Prop :=
  f10.l1 R A0 n0 c0 A3 n3 c3 x4 a5 (IntKind.wrap .i64 (x6 - (1 : Int))) A13 n13 c13 x14 x15 h
set_option maxRecDepth 100000 in
theorem f10.j0_in {R : Value → Heap → Prop} {A0 : Option Addr} {n0 : Nat} {c0 : Nat} {A3 : Option Addr} {n3 : Nat} {c3 : Nat} {x4 : Int} {a5 : Addr} {x6 : Int} {A13 : Option Addr} {n13 : Nat} {c13 : Nat} {x14 : Int} {x15 : Int} {h : Heap} (H : f10.j0T R A0 n0 c0 A3 n3 c3 x4 a5 x6 A13 n13 c13 x14 x15 h) : f10.j0 R A0 n0 c0 A3 n3 c3 x4 a5 x6 A13 n13 c13 x14 x15 h :=
  pt_intro mixed f10.good (Eq.mpr (show (Fwd Try.prog f10.T f10.kp Try.f10 R [true, true, false, false, true, true, true, false, false, true, true, false, false, true, false, true, true] (mkFr [(0, (Value.slice A0 n0 c0)), (3, (Value.slice A3 n3 c3)), (4, (Value.int .i64 x4)), (5, (Value.pointer (some a5))), (6, (Value.int .i64 x6)), (13, (Value.slice A13 n13 c13)), (14, (Value.int .i64 x14)), (15, (Value.int .i64 x15))]) h) = (f10.j0T R A0 n0 c0 A3 n3 c3 x4 a5 x6 A13 n13 c13 x14 x15 h) by kernel_rfl) H)
set_option maxRecDepth 100000 in
def f10.runT (R : Value → Heap → Prop) (A0 : Option Addr) (n0 : Nat) (c0 : Nat) (h : Heap) : Prop :=
  0 ≤ ((n0 : Nat) : Int) ∧ ((n0 : Nat) : Int) ≤ ((n0 : Nat) : Int) ∧ ((n0 : Nat) : Int) * 24 ≤ 140737488355328 ∧ ((n0 : Nat) : Int) ≤ 9223372036854775807 ∧ (newH h (Obj.cells (mkCells #[(Value.slice none 0 0)] (Int.toNat ((n0 : Nat) : Int) * 1)) 30) fun h1_ => f10.l0 R A0 n0 c0 (some ⟨Array.size h, 0, none⟩) (Int.toNat ((n0 : Nat) : Int)) (Int.toNat ((n0 : Nat) : Int)) A0 n0 c0 ((n0 : Nat) : Int) (0 : Int) h1_)
set_option maxRecDepth 100000 in
theorem f10.run {R : Value → Heap → Prop} {A0 : Option Addr} {n0 : Nat} {c0 : Nat} {h : Heap} (H : f10.runT R A0 n0 c0 h) : Run Try.prog 10 #[(Value.slice A0 n0 c0)] h R :=
  run_of mixed Try.func10 (by kernel_rfl) (by kernel_rfl) f10.good (Eq.mpr (show (Fwd Try.prog f10.T f10.kp Try.f10 R [] (mkFr (argL [(Value.slice A0 n0 c0)] 0)) h) = (f10.runT R A0 n0 c0 h) by kernel_rfl) H)
def f3.T : Tab := { sh := tSh, tup := tTup, keep := [], plan := [] }
def f3.kp : Keep := [([true, true], [0]), ([false, false, true, false, true, true, true, true, true, true, true], [0, 5, 6, 8, 9, 50, 51]), ([false, false, true, false, true, true, false, false, true, true, false, false, true, false, true, true, true, true, true, true, true], [0, 5, 6, 8, 9, 10, 11, 50, 51, 55, 56]), ([false, false, true, true, false, false, true, true, false, false, true, false, true, true, false, false, true, true, false, false, true, false, true, true, true, true, true, true, true], [0, 5, 6, 8, 9, 10, 11, 12, 50, 51, 55, 56, 59, 60])]
theorem f3.good : goodCode Try.prog f3.T (rootOf Try.f3) = true := by kernel_rfl
def f3.j0 (R : Value → Heap → Prop) (A0 : Option Addr) (n0 : Nat) (c0 : Nat) (h : Heap) : Prop := Pt Try.prog Try.f3 R [true, true] (mkFr [(0, (Value.slice A0 n0 c0))]) h
def f3.l0 (R : Value → Heap → Prop) (A0 : Option Addr) (n0 : Nat) (c0 : Nat) (x5 : Int) (x6 : Int) (A8 : Option Addr) (n8 : Nat) (c8 : Nat) (x9 : Int) (x50 : Int) (x51 : Int) (h : Heap) : Prop := Pt Try.prog Try.f3 R [false, false, true, false, true, true, true, true, true, true, true] (mkFr [(0, (Value.slice A0 n0 c0)), (5, (Value.int .i64 x5)), (6, (Value.int .i64 x6)), (8, (Value.slice A8 n8 c8)), (9, (Value.int .i64 x9)), (50, (Value.int .i64 x50)), (51, (Value.int .i64 x51))]) h
def f3.l1 (R : Value → Heap → Prop) (A0 : Option Addr) (n0 : Nat) (c0 : Nat) (x5 : Int) (x6 : Int) (A8 : Option Addr) (n8 : Nat) (c8 : Nat) (x9 : Int) (x10 : Int) (b11 : Bool) (x50 : Int) (x51 : Int) (x55 : Int) (x56 : Int) (h : Heap) : Prop := Pt Try.prog Try.f3 R [false, false, true, false, true, true, false, false, true, true, false, false, true, false, true, true, true, true, true, true, true] (mkFr [(0, (Value.slice A0 n0 c0)), (5, (Value.int .i64 x5)), (6, (Value.int .i64 x6)), (8, (Value.slice A8 n8 c8)), (9, (Value.int .i64 x9)), (10, (Value.int .i64 x10)), (11, (Value.bool b11)), (50, (Value.int .i64 x50)), (51, (Value.int .i64 x51)), (55, (Value.int .i64 x55)), (56, (Value.int .i64 x56))]) h
def f3.l2 (R : Value → Heap → Prop) (A0 : Option Addr) (n0 : Nat) (c0 : Nat) (x5 : Int) (x6 : Int) (A8 : Option Addr) (n8 : Nat) (c8 : Nat) (x9 : Int) (x10 : Int) (b11 : Bool) (x12 : Int) (x50 : Int) (x51 : Int) (x55 : Int) (x56 : Int) (x59 : Int) (x60 : Int) (h : Heap) : Prop := Pt Try.prog Try.f3 R [false, false, true, true, false, false, true, true, false, false, true, false, true, true, false, false, true, true, false, false, true, false, true, true, true, true, true, true, true] (mkFr [(0, (Value.slice A0 n0 c0)), (5, (Value.int .i64 x5)), (6, (Value.int .i64 x6)), (8, (Value.slice A8 n8 c8)), (9, (Value.int .i64 x9)), (10, (Value.int .i64 x10)), (11, (Value.bool b11)), (12, (Value.int .i64 x12)), (50, (Value.int .i64 x50)), (51, (Value.int .i64 x51)), (55, (Value.int .i64 x55)), (56, (Value.int .i64 x56)), (59, (Value.int .i64 x59)), (60, (Value.int .i64 x60))]) h
set_option maxRecDepth 100000 in
def f3.j0T (R : Value → Heap → Prop) (A0 : Option Addr) (n0 : Nat) (c0 : Nat) (h : Heap) : Prop :=
  0 ≤ (0 : Int) ∧ (0 : Int) ≤ (if (10 : Int) < ((n0 : Nat) : Int) then (10 : Int) else ((n0 : Nat) : Int)) ∧ (if (10 : Int) < ((n0 : Nat) : Int) then (10 : Int) else ((n0 : Nat) : Int)) ≤ ((c0 : Nat) : Int) ∧ (Run Try.prog 7 #[(Value.slice (sliceA A0 (Int.toNat (0 : Int)) c0 3) (Int.toNat (if (10 : Int) < ((n0 : Nat) : Int) then (10 : Int) else ((n0 : Nat) : Int)) - Int.toNat (0 : Int)) (c0 - Int.toNat (0 : Int)))] h fun v1_ h2_ => ∃ x3_, ∃ x4_, v1_ = (Value.tuple #[(Value.int .i64 x3_), (Value.int .i64 x4_)]) ∧ Run Try.prog 9 #[(Value.slice (sliceA A0 (Int.toNat (0 : Int)) c0 3) (Int.toNat (if (10 : Int) < ((n0 : Nat) : Int) then (10 : Int) else ((n0 : Nat) : Int)) - Int.toNat (0 : Int)) (c0 - Int.toNat (0 : Int)))] h2_ fun v5_ h6_ => ∃ x7_, v5_ = (Value.int .i64 x7_) ∧ splitB (x7_ != (0 : Int)) (splitB (x4_ == x7_) (R (Value.bool (x3_ == (0 : Int))) h6_) (R (Value.bool false) h6_)) (Run Try.prog 10 #[(Value.slice (sliceA A0 (Int.toNat (0 : Int)) c0 3) (Int.toNat (if (10 : Int) < ((n0 : Nat) : Int) then (10 : Int) else ((n0 : Nat) : Int)) - Int.toNat (0 : Int)) (c0 - Int.toNat (0 : Int)))] h6_ fun v8_ h9_ => ∃ A10_, ∃ n10_, ∃ c10_, v8_ = (Value.slice A10_ n10_ c10_) ∧ 0 ≤ (((Int.toNat (if (10 : Int) < ((n0 : Nat) : Int) then (10 : Int) else ((n0 : Nat) : Int)) - Int.toNat (0 : Int)) : Nat) : Int) ∧ (f3.l0 R (sliceA A0 (Int.toNat (0 : Int)) c0 3) (Int.toNat (if (10 : Int) < ((n0 : Nat) : Int) then (10 : Int) else ((n0 : Nat) : Int)) - Int.toNat (0 : Int)) (c0 - Int.toNat (0 : Int)) x3_ x4_ A10_ n10_ c10_ (0 : Int) (shlI .i64 (1 : Int) (((Int.toNat (if (10 : Int) < ((n0 : Nat) : Int) then (10 : Int) else ((n0 : Nat) : Int)) - Int.toNat (0 : Int)) : Nat) : Int)) (0 : Int) h9_)))
set_option maxRecDepth 100000 in
theorem f3.j0_in {R : Value → Heap → Prop} {A0 : Option Addr} {n0 : Nat} {c0 : Nat} {h : Heap} (H : f3.j0T R A0 n0 c0 h) : f3.j0 R A0 n0 c0 h :=
  pt_intro mixed f3.good (Eq.mpr (show (Fwd Try.prog f3.T f3.kp Try.f3 R [true, true] (mkFr [(0, (Value.slice A0 n0 c0))]) h) = (f3.j0T R A0 n0 c0 h) by kernel_rfl) H)
set_option maxRecDepth 100000 in
def f3.l0T (R : Value → Heap → Prop) (A0 : Option Addr) (n0 : Nat) (c0 : Nat) (x5 : Int) (x6 : Int) (A8 : Option Addr) (n8 : Nat) (c8 : Nat) (x9 : Int) (x50 : Int) (x51 : Int) (h : Heap) : Prop :=
  splitB (decide (x51 < x50)) (f3.l1 R A0 n0 c0 x5 x6 A8 n8 c8 x9 x51 true x50 x51 ((n0 : Nat) : Int) (0 : Int) h) (splitB (x6 == (0 : Int)) (R (Value.bool (x5 == x9)) h) (R (Value.bool false) h))
set_option maxRecDepth 100000 in
theorem f3.l0_in {R : Value → Heap → Prop} {A0 : Option Addr} {n0 : Nat} {c0 : Nat} {x5 : Int} {x6 : Int} {A8 : Option Addr} {n8 : Nat} {c8 : Nat} {x9 : Int} {x50 : Int} {x51 : Int} {h : Heap} (H : f3.l0T R A0 n0 c0 x5 x6 A8 n8 c8 x9 x50 x51 h) : f3.l0 R A0 n0 c0 x5 x6 A8 n8 c8 x9 x50 x51 h :=
  pt_intro mixed f3.good (Eq.mpr (show (Fwd Try.prog f3.T f3.kp Try.f3 R [false, false, true, false, true, true, true, true, true, true, true] (mkFr [(0, (Value.slice A0 n0 c0)), (5, (Value.int .i64 x5)), (6, (Value.int .i64 x6)), (8, (Value.slice A8 n8 c8)), (9, (Value.int .i64 x9)), (50, (Value.int .i64 x50)), (51, (Value.int .i64 x51))]) h) = (f3.l0T R A0 n0 c0 x5 x6 A8 n8 c8 x9 x50 x51 h) by kernel_rfl) H)
set_option maxRecDepth 100000 in
def f3.l1T (R : Value → Heap → Prop) (A0 : Option Addr) (n0 : Nat) (c0 : Nat) (x5 : Int) (x6 : Int) (A8 : Option Addr) (n8 : Nat) (c8 : Nat) (x9 : Int) (x10 : Int) (b11 : Bool) (x50 : Int) (x51 : Int) (x55 : Int) (x56 : Int) (h : Heap) : Prop :=
  splitB (decide (x56 < x55)) (f3.l2 R A0 n0 c0 x5 x6 A8 n8 c8 x9 x10 b11 x56 x50 x51 x55 x56 x56 (0 : Int) h) (splitB b11 (f3.l0 R A0 n0 c0 x5 x6 A8 n8 c8 (IntKind.wrap .i64 (x9 + (1 : Int))) x50 (IntKind.wrap .i64 (x51 + (1 : Int))) h) (f3.l0 R A0 n0 c0 x5 x6 A8 n8 c8 x9 x50 (IntKind.wrap .i64 (x51 + (1 : Int))) h))
set_option maxRecDepth 100000 in
theorem f3.l1_in {R : Value → Heap → Prop} {A0 : Option Addr} {n0 : Nat} {c0 : Nat} {x5 : Int} {x6 : Int} {A8 : Option Addr} {n8 : Nat} {c8 : Nat} {x9 : Int} {x10 : Int} {b11 : Bool} {x50 : Int} {x51 : Int} {x55 : Int} {x56 : Int} {h : Heap} (H : f3.l1T R A0 n0 c0 x5 x6 A8 n8 c8 x9 x10 b11 x50 x51 x55 x56 h) : f3.l1 R A0 n0 c0 x5 x6 A8 n8 c8 x9 x10 b11 x50 x51 x55 x56 h :=
  pt_intro mixed f3.good (Eq.mpr (show (Fwd Try.prog f3.T f3.kp Try.f3 R [false, false, true, false, true, true, false, false, true, true, false, false, true, false, true, true, true, true, true, true, true] (mkFr [(0, (Value.slice A0 n0 c0)), (5, (Value.int .i64 x5)), (6, (Value.int .i64 x6)), (8, (Value.slice A8 n8 c8)), (9, (Value.int .i64 x9)), (10, (Value.int .i64 x10)), (11, (Value.bool b11)), (50, (Value.int .i64 x50)), (51, (Value.int .i64 x51)), (55, (Value.int .i64 x55)), (56, (Value.int .i64 x56))]) h) = (f3.l1T R A0 n0 c0 x5 x6 A8 n8 c8 x9 x10 b11 x50 x51 x55 x56 h) by kernel_rfl) H)
set_option maxRecDepth 100000 in
def f3.l2T (R : Value → Heap → Prop) (A0 : Option Addr) (n0 : Nat) (c0 : Nat) (x5 : Int) (x6 : Int) (A8 : Option Addr) (n8 : Nat) (c8 : Nat) (x9 : Int) (x10 : Int) (b11 : Bool) (x12 : Int) (x50 : Int) (x51 : Int) (x55 : Int) (x56 : Int) (x59 : Int) (x60 : Int) (h : Heap) : Prop :=
  splitB (decide (x60 < x59)) (splitB b11 (0 ≤ x12 ∧ (splitB ((bitsI .and .i64 (shrI .i64 x10 x12) (1 : Int)) == (0 : Int)) (f3.l2 R A0 n0 c0 x5 x6 A8 n8 c8 x9 x10 true x12 x50 x51 x55 x56 x59 (IntKind.wrap .i64 (x60 + (1 : Int))) h) (ptrOk A8 fun a1_ => 0 ≤ x12 ∧ x12 < ((n8 : Nat) : Int) ∧ (∃ v2_, ldv false 1 h (Addr.add a1_ (Int.toNat x12 * 1)) = some v2_ ∧ ∃ A3_, ∃ n3_, ∃ c3_, v2_ = (Value.slice A3_ n3_ c3_) ∧ ptrOk A3_ fun a4_ => 0 ≤ x60 ∧ x60 < ((n3_ : Nat) : Int) ∧ (∃ v5_, ldv false 1 h (Addr.add a4_ (Int.toNat x60 * 1)) = some v5_ ∧ ∃ b6_, v5_ = (Value.bool b6_) ∧ splitB (!b6_) (f3.l2 R A0 n0 c0 x5 x6 A8 n8 c8 x9 x10 true x12 x50 x51 x55 x56 x59 (IntKind.wrap .i64 (x60 + (1 : Int))) h) (0 ≤ x60 ∧ (f3.l2 R A0 n0 c0 x5 x6 A8 n8 c8 x9 x10 ((bitsI .and .i64 (shrI .i64 x10 x60) (1 : Int)) == (1 : Int)) x12 x50 x51 x55 x56 x59 (IntKind.wrap .i64 (x60 + (1 : Int))) h))))))) (f3.l2 R A0 n0 c0 x5 x6 A8 n8 c8 x9 x10 false x12 x50 x51 x55 x56 x59 (IntKind.wrap .i64 (x60 + (1 : Int))) h)) (f3.l1 R A0 n0 c0 x5 x6 A8 n8 c8 x9 x10 b11 x50 x51 x55 (IntKind.wrap .i64 (x56 + (1 : Int))) h)
set_option maxRecDepth 100000 in
theorem f3.l2_in {R : Value → Heap → Prop} {A0 : Option Addr} {n0 : Nat} {c0 : Nat} {x5 : Int} {x6 : Int} {A8 : Option Addr} {n8 : Nat} {c8 : Nat} {x9 : Int} {x10 : Int} {b11 : Bool} {x12 : Int} {x50 : Int} {x51 : Int} {x55 : Int} {x56 : Int} {x59 : Int} {x60 : Int} {h : Heap} (H : f3.l2T R A0 n0 c0 x5 x6 A8 n8 c8 x9 x10 b11 x12 x50 x51 x55 x56 x59 x60 h) : f3.l2 R A0 n0 c0 x5 x6 A8 n8 c8 x9 x10 b11 x12 x50 x51 x55 x56 x59 x60 h :=
  pt_intro mixed f3.good (Eq.mpr (show (Fwd Try.prog f3.T f3.kp Try.f3 R [false, false, true, true, false, false, true, true, false, false, true, false, true, true, false, false, true, true, false, false, true, false, true, true, true, true, true, true, true] (mkFr [(0, (Value.slice A0 n0 c0)), (5, (Value.int .i64 x5)), (6, (Value.int .i64 x6)), (8, (Value.slice A8 n8 c8)), (9, (Value.int .i64 x9)), (10, (Value.int .i64 x10)), (11, (Value.bool b11)), (12, (Value.int .i64 x12)), (50, (Value.int .i64 x50)), (51, (Value.int .i64 x51)), (55, (Value.int .i64 x55)), (56, (Value.int .i64 x56)), (59, (Value.int .i64 x59)), (60, (Value.int .i64 x60))]) h) = (f3.l2T R A0 n0 c0 x5 x6 A8 n8 c8 x9 x10 b11 x12 x50 x51 x55 x56 x59 x60 h) by kernel_rfl) H)
set_option maxRecDepth 100000 in
def f3.runT (R : Value → Heap → Prop) (A0 : Option Addr) (n0 : Nat) (c0 : Nat) (h : Heap) : Prop :=
  Run Try.prog 8 #[] h fun v1_ h2_ => ∃ A3_, ∃ n3_, ∃ c3_, v1_ = (Value.slice A3_ n3_ c3_) ∧ Run Try.prog 7 #[(Value.slice A3_ n3_ c3_)] h2_ fun v4_ h5_ => ∃ x6_, ∃ x7_, v4_ = (Value.tuple #[(Value.int .i64 x6_), (Value.int .i64 x7_)]) ∧ splitB (x7_ != (0 : Int)) (R (Value.bool false) h5_) (splitB (x6_ != (3 : Int)) (R (Value.bool false) h5_) (f3.j0 R A0 n0 c0 h5_))
set_option maxRecDepth 100000 in
theorem f3.run {R : Value → Heap → Prop} {A0 : Option Addr} {n0 : Nat} {c0 : Nat} {h : Heap} (H : f3.runT R A0 n0 c0 h) : Run Try.prog 3 #[(Value.slice A0 n0 c0)] h R :=
  run_of mixed Try.func3 (by kernel_rfl) (by kernel_rfl) f3.good (Eq.mpr (show (Fwd Try.prog f3.T f3.kp Try.f3 R [] (mkFr (argL [(Value.slice A0 n0 c0)] 0)) h) = (f3.runT R A0 n0 c0 h) by kernel_rfl) H)
end Go.Proofs.Ytdlihfedhojdgaa.Fw

end
section
namespace Go.Hw
open Go
section tests
variable {A B : Prop}
theorem split_not {b : Bool} (h : splitB b B A) : splitB (!b) A B := by cases b <;> exact h
end tests
theorem wrap_in {n : Int} (h0 : -9223372036854775808 ≤ n) (h1 : n ≤ 9223372036854775807) : IntKind.wrap .i64 n = n := by
  rcases Int.le_total 0 n with h | h
  · exact wrap_nat h h1
  · rcases (show n = 0 ∨ n < 0 by omega) with h2 | h2
    · subst h2; rfl
    have e : n % (2 ^ 64 : Int) = n + 2 ^ 64 := by omega
    simp only [IntKind.wrap, IntKind.signed, IntKind.bits, e, Bool.true_and]
    rw [if_pos (by simp only [decide_eq_true_eq]; omega)]
    omega
theorem add_add (a : Addr) (m n : Nat) : (a.add m).add n = a.add (m + n) := by
  unfold Addr.add
  by_cases h1 : m = 0
  · subst h1; simp
  · by_cases h2 : n = 0
    · subst h2; simp
    · have h3 : m + n ≠ 0 := by omega
      simp only [if_neg h1, if_neg h2, if_neg h3]
      rw [Nat.add_assoc]
theorem add_block (a : Addr) (n : Nat) : (a.add n).block = a.block := by unfold Addr.add; split <;> rfl
theorem add_off (a : Addr) (n : Nat) : (a.add n).off = a.off + n := by
  unfold Addr.add
  split
  · rename_i h; subst h; rfl
  · rfl
theorem add_spot {a : Addr} (n : Nat) (h : a.spot = none) : (a.add n).spot = none := by unfold Addr.add; split; exact h; rfl
def Blk (h : Heap) (b : Nat) (c : List Value) (t : TypeId) : Prop := h[b]? = some (.cells c.toArray t (0, 0))
def Only (h h' : Heap) (b : Nat) : Prop := h'.size = h.size ∧ ∀ i, i ≠ b → h'[i]? = h[i]?
section
variable {h h' : Heap} {b : Nat} {c : List Value} {t : TypeId}
theorem Blk.lt (hb : Blk h b c t) : b < h.size := (Array.getElem?_eq_some_iff.1 hb).1
theorem Blk.cell (hb : Blk h b c t) {a : Addr} {v : Value} (h1 : a.block = b) (h2 : a.spot = none) (h3 : c[a.off]? = some v) : cellH h a = some v := by
  unfold cellH Blk at *
  rw [h1, hb, h2]
  simpa using h3
theorem Blk.cells (hb : Blk h b c t) {a : Addr} (h1 : a.block = b) (h2 : a.spot = none) : ∀ (n i : Nat), a.off + i + n ≤ c.length → cellsH h a i n = some ((c.drop (a.off + i)).take n) := by
  intro n
  induction n with
  | zero => intro i _; simp [cellsH]
  | succ n ih =>
    intro i hle
    have hlt : a.off + i < c.length := by omega
    have h3 : c[(a.add i).off]? = some c[a.off + i] := by rw [add_off]; exact List.getElem?_eq_getElem hlt
    simp only [cellsH, hb.cell (a := a.add i) (by rw [add_block]; exact h1) (add_spot i h2) h3, ih (i + 1) (by omega)]
    rw [List.drop_eq_getElem_cons hlt, List.take_succ_cons]
    rfl
theorem Blk.st (hb : Blk h b c t) {a : Addr} {v : Value} (h1 : a.block = b) (h2 : a.spot = none) (h3 : a.off < c.length) (h4 : oneCell v True) :
    ∃ h', st1 h a v = some h' ∧ Blk h' b (c.set a.off v) t ∧ Only h h' b := by
  have hc : cellH h a = some c[a.off] := hb.cell h1 h2 (List.getElem?_eq_getElem h3)
  have hf : frozenH h a = false := by
    unfold frozenH
    rw [h1, show h[b]? = some (.cells c.toArray t (0, 0)) from hb]
    simp
  refine ⟨setH h a v, ?_, ?_, ?_⟩
  · cases v <;> simp_all [st1, oneCell]
  · unfold Blk setH
    rw [Array.getElem?_modify, if_pos h1.symm.symm, show h[b]? = some (.cells c.toArray t (0, 0)) from hb]
    simp [h2]
  · refine ⟨by simp [setH], fun i hi => ?_⟩
    unfold setH
    rw [Array.getElem?_modify, if_neg (by rw [h1]; exact fun e => hi e.symm)]
theorem Blk.new (h : Heap) (c : Array Value) (t : TypeId) : Blk (h.push (.cells c t)) h.size c.toList t := by
  unfold Blk; simp
theorem Ext.push (h : Heap) (o : Obj) : Ext h (h.push o) := ⟨by simp, fun i hi => by rw [Array.getElem?_push, if_neg (by omega)]⟩
theorem Only.refl (h : Heap) (b : Nat) : Only h h b := ⟨rfl, fun _ _ => rfl⟩
theorem Only.trans {h'' : Heap} {b : Nat} (o : Only h h' b) (p : Only h' h'' b) : Only h h'' b := ⟨p.1.trans o.1, fun i hi => (p.2 i hi).trans (o.2 i hi)⟩
end
def Rd {α : Type} (sz : Nat) (E : Heap → α → List Value → Prop) (h : Heap) (A : Option Addr) (l : List α) : Prop :=
  ∀ i (hi : i < l.length), ∃ a cs, A = some a ∧ cellsH h (a.add (i * sz)) 0 sz = some cs ∧ E h l[i] cs
def eInt (k : IntKind) (_ : Heap) (x : Int) (cs : List Value) : Prop := cs = [.int k x]
def eRow {α : Type} (sz : Nat) (E : Heap → α → List Value → Prop) (h : Heap) (l : List α) (cs : List Value) : Prop := ∃ A c, cs = [.slice A l.length c] ∧ l.length ≤ c ∧ Rd sz E h A l
section
variable {α : Type} {sz : Nat} {E : Heap → α → List Value → Prop} {h h' : Heap} {A : Option Addr} {l : List α}
theorem Rd.nil : Rd sz E h A ([] : List α) := fun i hi => by cases hi
end
theorem CallF.of {P : Program} {f : FuncId} {first captured : Array Value} {args : List Value} {h : Heap} {R : Value → Heap → Prop} (l : List Value) (hc : calleeOk P f = true) (hl : first.toList ++ args ++ captured.toList = l) (hr : Run P f l.toArray h R) :
    CallF P (.func (.func f) first captured) args h R := by
  unfold CallF
  simp only [hc, hl]
  exact hr
theorem newH_in {h : Heap} {c : Array Value} {t : TypeId} {K : Heap → Prop} (H : ∀ h', Blk h' h.size c.toList t → Ext h h' → h'.size = h.size + 1 → K h') : newH h (.cells c t) K :=
  H _ (Blk.new _ _ _) (Ext.push _ _) (by simp)
theorem CallF.mono {P : Program} {v : Value} {args : List Value} {h : Heap} {R R' : Value → Heap → Prop} (hh : CallF P v args h R) (hr : ∀ v h, R v h → R' v h) : CallF P v args h R' := by
  unfold CallF at hh ⊢
  split at hh
  · split at hh
    · exact hh.mono hr
    · exact ExtF.mono hh hr
  · exact hh.elim
def idxOf {α : Type} (p : α → Bool) (l : List α) : Int := match l.findIdx? p with | some i => i | none => -1
theorem idxOf_ge {α : Type} (p : α → Bool) (l : List α) : decide (idxOf p l ≥ 0) = l.any p := by
  unfold idxOf
  cases h : l.findIdx? p with
  | none =>
    rw [List.findIdx?_eq_none_iff] at h
    have : l.any p = false := by simpa using h
    simp [this]
  | some i =>
    have hs : (l.findIdx? p).isSome = true := by rw [h]; rfl
    rw [List.findIdx?_isSome] at hs
    simp [hs]
end Go.Hw

end
section
namespace Go.Hw
open Go Go.RowKit
theorem below_of {W W' : World} (e : Ext W.heap W'.heap) (s : Same W W') : Below W.heap.size W W' := ⟨s.os, s.tape, s.output, e.1, e.2⟩
section
variable {H : Type} {enc : TypeId × Value → H} {P : Program} {W : World}
theorem cells_of {base : Nat} {a : Addr} {n : Nat} {cs : List Value} (hc : W.cells? base a n = some cs) : cellsH W.heap a 0 n = some cs := by
  obtain ⟨_, hlen, hget⟩ := World.cells?_some hc
  have key : ∀ (m i : Nat), i + m = n → cellsH W.heap a i m = some (cs.drop i) := by
    intro m
    induction m with
    | zero =>
      intro i hi
      rw [List.drop_eq_nil_of_le (by omega)]
      rfl
    | succ m ih =>
      intro i hi
      have hlt : i < cs.length := by omega
      have h1 : cellH W.heap (a.add i) = some cs[i] := (hget i (by omega)).trans (List.getElem?_eq_getElem hlt)
      simp only [cellsH, h1, ih (i + 1) (by omega)]
      rw [List.drop_eq_getElem_cons hlt]
  simpa using key n 0 (by omega)
def Tells {α : Type} (enc : TypeId × Value → H) (P : Program) (W : World) (t : TypeId) (E : Heap → α → List Value → Prop) (Q : α → Prop) : Prop :=
  ∀ (fuel : Nat) (cs : List Value) (x : DataW H × List MemPlace), DataW.trod enc P W 0 (fun _ => true) true fuel t cs = some x → (x.1.weights P t).all (· ≤ reachBytes) = true → ∃ a, E W.heap a cs ∧ Q a
theorem tells_int {t : TypeId} {k : IntKind} (hu : P.underlying t = some (.int k)) : Tells enc P W t (eInt k) (fun x => (Lit.int k x).wf = true) := by
  intro fuel cs x h _
  obtain ⟨n, h1, _, h3⟩ := DataW.trod_int hu h
  exact ⟨n, h1, h3⟩
def eBool (_ : Heap) (x : Bool) (cs : List Value) : Prop := cs = [.bool x]
theorem weightsAll_all {e : TypeId} : ∀ (l : List (DataW H)), (DataW.weightsAll P e l).all (· ≤ reachBytes) = true → ∀ d ∈ l, (d.weights P e).all (· ≤ reachBytes) = true := by
  intro l
  induction l with
  | nil => intro _ d hd; cases hd
  | cons x l ih =>
    intro h d hd
    simp only [DataW.weightsAll, List.all_append, Bool.and_eq_true] at h
    rcases List.mem_cons.1 hd with rfl | hd
    · exact h.1
    · exact ih h.2 d hd
theorem list_choose {α : Type} {n : Nat} {p : Nat → α → Prop} (h : ∀ i, i < n → ∃ x, p i x) : ∃ l : List α, l.length = n ∧ ∀ i (hi : i < l.length), p i l[i] := by
  induction n with
  | zero => exact ⟨[], rfl, fun i hi => by cases hi⟩
  | succ n ih =>
    obtain ⟨l, h1, h2⟩ := ih fun i hi => h i (by omega)
    obtain ⟨x, hx⟩ := h n (by omega)
    refine ⟨l ++ [x], by simp [h1], fun i hi => ?_⟩
    rw [List.length_append, List.length_singleton] at hi
    by_cases hin : i < l.length
    · rw [List.getElem_append_left hin]; exact h2 i hin
    · have : i = l.length := by omega
      subst this
      rw [List.getElem_append_right (Nat.le_refl _)]
      simp only [Nat.sub_self, List.getElem_cons_zero]
      rw [h1]; exact hx
theorem tells_slice {α : Type} {t e : TypeId} {sz B : Nat} {E : Heap → α → List Value → Prop} {Q : α → Prop} (hu : P.underlying t = some (.slice e)) (hc : P.cellsOf e = sz) (hB : P.bytesOf e = B) (he : Tells enc P W e E Q) :
    Tells enc P W t (eRow sz E) (fun l => l.length * B ≤ reachBytes ∧ ∀ a ∈ l, Q a) := by
  intro fuel cs x h hw
  rcases DataW.trod_slice hu h with ⟨h1, h2⟩ | ⟨a, len, cap, elems, rest, n, _, h1, h2, _, hl, hm, hlen, hel, _, _⟩
  · exact ⟨[], ⟨none, 0, h1, Nat.le_refl _, Rd.nil⟩, by simp, fun a ha => by cases ha⟩
  · rw [h2] at hw
    simp only [DataW.weights, hu, List.all_cons, List.all_append, Bool.and_eq_true, decide_eq_true_eq] at hw
    obtain ⟨hw1, hw2, _⟩ := hw
    have hall := weightsAll_all _ hw2
    obtain ⟨l, h3, h4⟩ := list_choose (n := len) (p := fun i x => (∃ cs', cellsH W.heap (a.add (i * sz)) 0 sz = some cs' ∧ E W.heap x cs') ∧ Q x) (fun i hi => by
      have h5 := hel i hi
      have hlt : i < elems.length := by omega
      rw [List.getElem?_eq_getElem hlt] at h5
      obtain ⟨cs', h6, h7⟩ := Option.bind_eq_some_iff.1 h5
      obtain ⟨x, h8, h9⟩ := he _ _ _ h7 (hall _ (List.mem_map.2 ⟨_, List.getElem_mem hlt, rfl⟩))
      rw [hc] at h6
      exact ⟨x, ⟨cs', cells_of h6, h8⟩, h9⟩)
    refine ⟨l, ⟨some a, cap, by rw [h1, h3], by omega, fun i hi => ?_⟩, ?_, fun x hx => ?_⟩
    · obtain ⟨⟨cs', h5, h6⟩, _⟩ := h4 i hi
      exact ⟨a, cs', rfl, h5, h6⟩
    · rw [hB] at hw1
      have : l.length ≤ (List.map (·.1) elems).length + (List.map (·.1) rest).length := by simp; omega
      exact Nat.le_trans (Nat.mul_le_mul_right _ this) hw1
    · obtain ⟨i, hi, rfl⟩ := List.getElem_of_mem hx
      exact (h4 i hi).2
end
theorem wf_i64 {x : Int} (h : (Lit.int .i64 x).wf = true) : -9223372036854775808 ≤ x ∧ x ≤ 9223372036854775807 := by
  simpa [Lit.wf, IntKind.min, IntKind.max, IntKind.signed, IntKind.bits] using h
end Go.Hw

end
section
namespace Go.Hw
open Go
theorem cellsH_length {h : Heap} {a : Addr} : ∀ {n i : Nat} {cs : List Value}, cellsH h a i n = some cs → cs.length = n := by
  intro n
  induction n with
  | zero => intro i cs hc; simp only [cellsH, Option.some.injEq] at hc; subst hc; rfl
  | succ n ih =>
    intro i cs hc
    simp only [cellsH] at hc
    split at hc
    · split at hc
      · rename_i vs hv; cases hc; simp [ih hv]
      · cases hc
    · cases hc
def Flat (v : Value) : Prop := oneCell v True
theorem Blk.stH {b : Nat} {t : TypeId} : ∀ (xs : List Value) {h : Heap} {p q r : List Value} {a : Addr} {i : Nat}, Blk h b (p ++ q ++ r) t → a.block = b → a.spot = none → a.off + i = p.length → q.length = xs.length → (∀ v ∈ xs, Flat v) →
    ∃ h', stH h a xs i = some h' ∧ Blk h' b (p ++ xs ++ r) t ∧ Only h h' b := by
  intro xs
  induction xs with
  | nil =>
    intro h p q r a i hb h1 h2 h3 h4 h5
    rw [List.length_eq_zero_iff.1 h4] at hb
    exact ⟨h, rfl, hb, .refl _ _⟩
  | cons v xs ih =>
    intro h p q r a i hb h1 h2 h3 h4 h5
    obtain ⟨u, q', rfl⟩ : ∃ u q', q = u :: q' := by cases q with | nil => cases h4 | cons u q' => exact ⟨u, q', rfl⟩
    have hoff : (a.add i).off = p.length := by rw [add_off, h3]
    obtain ⟨h', s1, b1, o1⟩ := hb.st (a := a.add i) (v := v) (by rw [add_block, h1]) (add_spot _ h2) (by rw [hoff]; simp) (h5 v (List.mem_cons_self ..))
    rw [hoff] at b1
    have e : (p ++ u :: q' ++ r).set p.length v = (p ++ [v]) ++ q' ++ r := by
      rw [List.append_assoc, List.set_append_right _ _ (Nat.le_refl _)]; simp
    rw [e] at b1
    obtain ⟨h'', s2, b2, o2⟩ := ih (p := p ++ [v]) (q := q') (r := r) (a := a) (i := i + 1) b1 h1 h2 (by simp; omega) (by simpa using h4) (fun x hx => h5 x (List.mem_cons_of_mem _ hx))
    refine ⟨h'', ?_, by simpa using b2, o1.trans o2⟩
    simp only [Go.Hw.stH, s1, s2]
theorem zcells_size (z : Array Value) (n : Nat) : (zcells z n).size = n * z.size := by
  unfold zcells Builtin.zeroCells
  simp
end Go.Hw

end
section
namespace Go.Hw
open Go Go.RowKit
theorem cellsH_get {h : Heap} {a : Addr} : ∀ {n i : Nat} {cs : List Value} {k : Nat} {v : Value}, cellsH h a i n = some cs → cs[k]? = some v → cellH h (a.add (i + k)) = some v := by
  intro n
  induction n with
  | zero => intro i cs k v hc hv; simp only [cellsH, Option.some.injEq] at hc; subst hc; cases hv
  | succ n ih =>
    intro i cs k v hc hv
    simp only [cellsH] at hc
    split at hc
    · rename_i u hu
      split at hc
      · rename_i vs hvs
        cases hc
        cases k with
        | zero => cases hv; exact hu
        | succ k => rw [show i + (k + 1) = i + 1 + k by omega]; exact ih hvs (by simpa using hv)
      · cases hc
    · cases hc
theorem Blk.stAll {h : Heap} {b : Nat} {c : List Value} {t : TypeId} (hb : Blk h b c t) (l : List Value) (hn : l.length = c.length) (hf : ∀ v ∈ l, Flat v) :
    ∃ h', Go.Hw.stH h ⟨b, 0, none⟩ l 0 = some h' ∧ Blk h' b l t ∧ Only h h' b := by
  obtain ⟨h', s1, b1, o1⟩ := Blk.stH l (p := []) (q := c) (r := []) (a := ⟨b, 0, none⟩) (i := 0) (by simpa using hb) rfl rfl rfl hn.symm hf
  exact ⟨h', s1, by simpa using b1, o1⟩
def EqF (P : Program) (d : Nat) (t : TypeId) (x y : Value) (b : Bool) : Prop := ∀ h (K : Bool → Heap → Prop), K b h → Hwp P (Op.equalIn d t x y) h K
section
variable {P : Program} {d : Nat} {t : TypeId}
theorem eqf_int {k k1 : IntKind} {a b : Int} (hu : P.underlying t = some (.int k1)) : EqF P (d + 1) t (.int k a) (.int k b) (a == b) := by
  intro h K hk
  unfold Op.equalIn
  refine hwp_bind (hwp_underlying hu ?_)
  simp only [if_true]
  exact hk
theorem eqf_bool {a b : Bool} (hu : P.underlying t = some .bool) : EqF P (d + 1) t (.bool a) (.bool b) (a == b) := by
  intro h K hk
  unfold Op.equalIn
  refine hwp_bind (hwp_underlying hu ?_)
  exact hk
theorem eqf_str {a b : ByteArray} (hu : P.underlying t = some .string) : EqF P (d + 1) t (.string a) (.string b) (a == b) := by
  intro h K hk
  unfold Op.equalIn
  refine hwp_bind (hwp_underlying hu ?_)
  exact hk
def flatB (P : Program) (t : TypeId) (x y : Value) : Option Bool :=
  match P.underlying t, x, y with
  | some (.int _), .int k a, .int k' b => match kindB k k' with | true => some (a == b) | false => none
  | some .bool, .bool a, .bool b => some (a == b)
  | some .string, .string a, .string b => some (a == b)
  | _, _, _ => none
theorem flatB_spec {x y : Value} {b : Bool} (hb : flatB P t x y = some b) : EqF P (d + 1) t x y b ∧ ∃ D, P.underlying t = some D ∧ isAggD D = false := by
  unfold flatB at hb
  split at hb
  · rename_i k1 k a k' b' hu
    split at hb
    · rename_i hk
      cases hb
      have : k = k' := kindB_spec hk
      subst this
      exact ⟨eqf_int hu, _, hu, rfl⟩
    · cases hb
  · rename_i a b' hu; cases hb; exact ⟨eqf_bool hu, _, hu, rfl⟩
  · rename_i a b' hu; cases hb; exact ⟨eqf_str hu, _, hu, rfl⟩
  · cases hb
end
section
variable {H : Type} {enc : TypeId × Value → H} {P : Program} {W : World}
def TellsF {α : Type} (enc : TypeId × Value → H) (P : Program) (W : World) (T o : Nat) (fs : List (TypeId × Nat)) (F : Heap → α → List Value → Prop) (Q : α → Prop) : Prop :=
  ∀ (n : Nat) (cs : List Value) (xs : List (DataW H × List MemPlace)), cs.length = T → xs.length = fs.length → (∀ (i : Nat) (f : TypeId × Nat), fs[i]? = some f → DataW.trod enc P W 0 (fun _ => true) true n f.1 ((cs.drop f.2).take (P.cellsOf f.1)) = xs[i]?) →
    (DataW.weightsEach P (fs.map (·.1)) (xs.map (·.1))).all (· ≤ reachBytes) = true → ∃ b, F W.heap b (cs.drop o) ∧ Q b
def eNil (_ : Heap) (_ : Unit) (cs : List Value) : Prop := cs = []
def eCons {α β : Type} (E : Heap → α → List Value → Prop) (F : Heap → β → List Value → Prop) (h : Heap) (x : α × β) (cs : List Value) : Prop := ∃ c1 c2, cs = c1 ++ c2 ∧ E h x.1 c1 ∧ F h x.2 c2
theorem tf_nil {T : Nat} : TellsF enc P W T T [] eNil (fun _ => True) := fun n cs xs hl _ _ _ => ⟨(), by unfold eNil; rw [List.drop_eq_nil_of_le (by omega)], trivial⟩
theorem tf_cons {α β : Type} {E : Heap → α → List Value → Prop} {F : Heap → β → List Value → Prop} {Q : α → Prop} {Q' : β → Prop} {T o s : Nat} {f : TypeId} {fs : List (TypeId × Nat)} (hs : P.cellsOf f = s)
    (he : Tells enc P W f E Q) (hf : TellsF enc P W T (o + s) fs F Q') : TellsF enc P W T o ((f, o) :: fs) (eCons E F) (fun x => Q x.1 ∧ Q' x.2) := by
  intro n cs xs hl hx hi hw
  cases xs with
  | nil => cases hx
  | cons x xs =>
    have h0 := hi 0 (f, o) rfl
    simp only [hs] at h0
    simp only [List.map_cons, DataW.weightsEach, List.all_append, Bool.and_eq_true] at hw
    obtain ⟨a, ha, qa⟩ := he n _ _ h0 hw.1
    obtain ⟨b, hb, qb⟩ := hf n cs xs hl (by simpa using hx) (fun i g hg => by simpa using hi (i + 1) g hg) hw.2
    exact ⟨(a, b), ⟨_, _, by rw [← List.drop_drop, List.take_append_drop], ha, hb⟩, qa, qb⟩
def shapeOf (P : Program) (t : TypeId) : Option (List (TypeId × Nat)) := match P.underlying t with | some (.struct fs) => some (fs.toList.map fun f => (f.type, f.offset)) | _ => none
theorem tells_struct {α : Type} {F : Heap → α → List Value → Prop} {Q : α → Prop} {t : TypeId} {fs : List (TypeId × Nat)} {T : Nat} (hs : shapeOf P t = some fs) (hc : P.cellsOf t = T) (hf : TellsF enc P W T 0 fs F Q) : Tells enc P W t F Q := by
  intro fuel cs x h hw
  unfold shapeOf at hs
  split at hs
  · rename_i fa hu
    cases hs
    obtain ⟨xs, n, _, rfl, hl, hlen, hi⟩ := DataW.trod_struct hu h
    simp only [DataW.weights, hu] at hw
    obtain ⟨b, hb, qb⟩ := hf n cs xs (by rw [hl, hc]) (by simpa using hlen) (fun i f hif => by
      rw [List.getElem?_map, Option.map_eq_some_iff] at hif
      obtain ⟨g, hg, rfl⟩ := hif
      exact hi i g (by simpa using hg)) (by rw [List.map_map]; exact hw)
    exact ⟨b, by simpa using hb, qb⟩
  · cases hs
theorem tells_map {α β : Type} {E : Heap → α → List Value → Prop} {F : Heap → β → List Value → Prop} {Q : α → Prop} {Q' : β → Prop} {t : TypeId} (he : Tells enc P W t E Q) (hm : ∀ a cs, E W.heap a cs → Q a → ∃ b, F W.heap b cs ∧ Q' b) : Tells enc P W t F Q' :=
  fun fuel cs x h hw => let ⟨a, ha, qa⟩ := he fuel cs x h hw; hm a cs ha qa
end
end Go.Hw

end
section
namespace Go.Hw
open Go
def Brn (e : List MapEntry) (c : Nat) : Prop := (e.map (·.born)).Pairwise (· < ·) ∧ ∀ x ∈ e, x.born < c
def MapB {α : Type} (kv : α → Value) (h : Heap) (m : Nat) (es : List (α × Value)) : Prop :=
  ∃ (e : Array MapEntry) (clock : Nat), h[m]? = some (.map e clock) ∧ e.toList.map (fun x => (x.key, x.val)) = (es.map fun x => (kv x.1, x.2)) ∧ Brn e.toList clock
theorem Brn.push {e : List MapEntry} {c : Nat} (h : Brn e c) (k v : Value) : Brn (e ++ [{ key := k, val := v, born := c }]) (c + 1) := by
  refine ⟨?_, fun x hx => ?_⟩
  · rw [List.map_append, List.pairwise_append]
    refine ⟨h.1, List.pairwise_singleton .., fun a ha b hb => ?_⟩
    simp only [List.map_cons, List.map_nil, List.mem_singleton] at hb
    obtain ⟨x, hx, rfl⟩ := List.mem_map.1 ha
    rw [hb]; exact h.2 x hx
  · rcases List.mem_append.1 hx with hx | hx
    · have := h.2 x hx; omega
    · rw [List.mem_singleton.1 hx]; exact Nat.lt_succ_self c
theorem Brn.mod {e : List MapEntry} {c : Nat} (h : Brn e c) (i : Nat) (k v : Value) : Brn (e.modify i fun x => { x with key := k, val := v }) c := by
  have hm : (e.modify i fun x => { x with key := k, val := v }).map (·.born) = e.map (·.born) := by
    induction e generalizing i with
    | nil => simp
    | cons x e ih =>
      cases i with
      | zero => simp
      | succ i =>
        rw [List.modify_succ_cons, List.map_cons, List.map_cons, ih ⟨(List.pairwise_cons.1 h.1).2, fun x hx => h.2 x (List.mem_cons_of_mem _ hx)⟩]
  refine ⟨by rw [hm]; exact h.1, fun x hx => ?_⟩
  have : x.born ∈ (e.modify i fun x => { x with key := k, val := v }).map (·.born) := List.mem_map.2 ⟨x, hx, rfl⟩
  rw [hm] at this
  obtain ⟨y, hy, e1⟩ := List.mem_map.1 this
  rw [← e1]; exact h.2 y hy
section
variable {α : Type} {kv : α → Value} {h h' : Heap} {m : Nat} {es : List (α × Value)}
theorem MapB.lt (hb : MapB kv h m es) : m < h.size := by
  obtain ⟨e, c, h1, _⟩ := hb
  exact (Array.getElem?_eq_some_iff.1 h1).1
variable {P : Program} {t : TypeId}
theorem gen_makeMap {K : Value → Heap → Prop} (hk : ∀ h', MapB kv h' h.size [] → Ext h h' → h'.size = h.size + 1 → K (.map (some h.size)) h') : Gen P (Instr.makeMap t none) h K :=
  hk _ ⟨#[], 0, by simp, rfl, .nil, fun x hx => by cases hx⟩ (Ext.push _ _) (by simp)
theorem hwp_getObj {r : Nat} {o : Obj} {K : Obj → Heap → Prop} (h1 : h[r]? = some o) (h2 : ∀ c e f, o ≠ .cells c e f) (hk : K o h) : Hwp P (getObj r) h K := ⟨o, h1, h2, hk⟩
theorem hwp_setObj {r : Nat} {o o' : Obj} {K : Unit → Heap → Prop} (h1 : h[r]? = some o') (h2 : ∀ c e f, o' ≠ .cells c e f) (hk : K () (h.setIfInBounds r o)) : Hwp P (setObj r o) h K := ⟨o', h1, h2, hk⟩
def mget {α : Type} [DecidableEq α] (es : List (α × Value)) (k : α) : Option Value := (es.find? fun x => decide (k = x.1)).map (·.2)
def findAt {α : Type} [DecidableEq α] (k : α) : List (α × Value) → Nat → Option (Nat × Value)
  | [], _ => none
  | x :: es, i => if k = x.1 then some (i, x.2) else findAt k es (i + 1)
structure KeyOk (P : Program) (t : TypeId) {α : Type} [DecidableEq α] (kv : α → Value) (elem : TypeId) : Prop where
  key : ∃ key, P.underlying t = some (.map key elem) ∧ (∀ b v h K, K () h → Hwp P (Instr.checkKey b 10000 key (kv v)) h K) ∧
    ∀ (k : α) (l : List MapEntry) (es : List (α × Value)) (h : Heap) (K : Option (Nat × Value) → Heap → Prop), l.map (fun x => (x.key, x.val)) = es.map (fun x => (kv x.1, x.2)) → K (findAt k es 0) h → Hwp P (Instr.findKey key (kv k) l) h K
  same : ∀ a, Instr.sameBits 10000 (kv a) (kv a) = true
variable [DecidableEq α]
theorem findAt_get (k : α) : ∀ (es : List (α × Value)) (i : Nat), (findAt k es i).map (·.2) = mget es k
  | [], _ => rfl
  | x :: es, i => by
    unfold findAt mget
    by_cases h : k = x.1
    · rw [if_pos h, List.find?_cons_of_pos (by simpa using h)]; rfl
    · rw [if_neg h, List.find?_cons_of_neg (by simpa using h)]; exact findAt_get k es (i + 1)
theorem findNow_at {kind : TypeDesc} (hs : ∀ a b, Instr.sameNow kind (kv a) (kv b) = some (decide (a = b))) (k : α) : ∀ (l : List MapEntry) (es : List (α × Value)) (i : Nat), l.map (fun x => (x.key, x.val)) = es.map (fun x => (kv x.1, x.2)) →
    Instr.findNow kind (kv k) l i = some (findAt k es i) := by
  intro l
  induction l with
  | nil =>
    intro es i he
    cases es with
    | nil => rfl
    | cons x es => cases he
  | cons e l ih =>
    intro es i he
    cases es with
    | nil => cases he
    | cons x es =>
      simp only [List.map_cons, List.cons.injEq, Prod.mk.injEq] at he
      obtain ⟨⟨hkey, hval⟩, he⟩ := he
      unfold Instr.findNow findAt
      rw [hkey, hs]
      by_cases hkx : k = x.1
      · rw [decide_eq_true hkx, if_pos hkx, hval]
      · rw [decide_eq_false hkx, if_neg hkx]
        exact ih es (i + 1) he
theorem KeyOk.flat {elem key : TypeId} {kind : TypeDesc} (hu : P.underlying t = some (.map key elem)) (hkind : P.underlying key = some kind) (hck : ∀ b v h K, K () h → Hwp P (Instr.checkKey b 10000 key (kv v)) h K) (hs : ∀ a b, Instr.sameNow kind (kv a) (kv b) = some (decide (a = b))) (same : ∀ a, Instr.sameBits 10000 (kv a) (kv a) = true) : KeyOk P t kv elem where
  key := ⟨key, hu, hck, fun k l es h K he hk => by
    unfold Instr.findKey
    refine hwp_bind (hwp_underlying hkind ?_)
    rw [findNow_at hs k l es 0 he]
    exact hwp_pure (P := P) hk⟩
  same := same
theorem gen_lookup {elem : TypeId} {z : Value} (ok : KeyOk P t kv elem) (hb : MapB kv h m es) (k : α) (hz : zeroOf P elem = some z) {K : Value → Heap → Prop} (hk : K ((mget es k).getD z) h) : Gen P (Instr.lookup t (.map (some m)) (kv k) false) h K := by
  obtain ⟨key, hu, hck, hf⟩ := ok.key
  obtain ⟨e, clock, h1, h2, hB⟩ := hb
  unfold Gen Instr.lookup
  refine hwp_bind (hwp_underlying hu ?_)
  refine hwp_bind (hwp_getObj h1 (fun _ _ _ hh => by cases hh) ?_)
  refine hwp_bind (hwp_pure (P := P) ?_)
  refine hwp_bind (hck _ _ _ _ ?_)
  refine hwp_bind (hf k _ es _ _ h2 ?_)
  have h4 := findAt_get k es 0
  revert h4
  cases findAt k es 0 with
  | none =>
    intro h4
    have : mget es k = none := by rw [← h4]; rfl
    rw [this] at hk
    exact hwp_bind (hwp_zero hz (hwp_pure (P := P) (hwp_pure (P := P) hk)))
  | some iv =>
    intro h4
    have : mget es k = some iv.2 := by rw [← h4]; rfl
    rw [this] at hk
    exact hwp_pure (P := P) (hwp_pure (P := P) hk)
def mset : List (α × Value) → α → Value → List (α × Value)
  | [], k, v => [(k, v)]
  | x :: es, k, v => if k = x.1 then (k, v) :: es else x :: mset es k v
theorem findAt_set (k : α) (v : Value) : ∀ (l : List MapEntry) (es : List (α × Value)) (i : Nat), l.map (fun x => (x.key, x.val)) = es.map (fun x => (kv x.1, x.2)) →
    match findAt k es i with
      | none => mset es k v = es ++ [(k, v)]
      | some (j, _) => i ≤ j ∧ (∃ e, l[j - i]? = some e ∧ e.key = kv k) ∧ (l.modify (j - i) fun e => { e with key := kv k, val := v }).map (fun x => (x.key, x.val)) = (mset es k v).map (fun x => (kv x.1, x.2)) := by
  intro l
  induction l with
  | nil =>
    intro es i he
    cases es with
    | nil => rfl
    | cons x es => cases he
  | cons e l ih =>
    intro es i he
    cases es with
    | nil => cases he
    | cons x es =>
      simp only [List.map_cons, List.cons.injEq, Prod.mk.injEq] at he
      obtain ⟨⟨hkey, hval⟩, he⟩ := he
      unfold findAt
      by_cases hkx : k = x.1
      · rw [if_pos hkx]
        refine ⟨Nat.le_refl _, ⟨e, by simp, by rw [hkey, hkx]⟩, ?_⟩
        unfold mset
        rw [if_pos hkx, Nat.sub_self]
        simp [he]
      · rw [if_neg hkx]
        have h2 := ih es (i + 1) he
        unfold mset
        rw [if_neg hkx]
        revert h2
        cases findAt k es (i + 1) with
        | none => intro h2; simp only at h2 ⊢; rw [h2]; rfl
        | some jv =>
          intro h2
          simp only at h2 ⊢
          obtain ⟨h3, ⟨e', h4, h5⟩, h6⟩ := h2
          have e1 : jv.1 - i = (jv.1 - (i + 1)) + 1 := by omega
          refine ⟨by omega, ⟨e', by rw [e1]; simpa using h4, h5⟩, ?_⟩
          rw [e1, List.modify_succ_cons, List.map_cons, List.map_cons, h6, hkey, hval]
theorem gen_mapUpdate {elem : TypeId} (ok : KeyOk P t kv elem) (hb : MapB kv h m es) (k : α) (v : Value) {K : Unit → Heap → Prop} (hk : ∀ h', MapB kv h' m (mset es k v) → Only h h' m → K () h') : Hwp P (Instr.mapUpdate t (.map (some m)) (kv k) v) h K := by
  have hlt := hb.lt
  obtain ⟨key, hu, hck, hf⟩ := ok.key
  obtain ⟨e, clock, h1, h2, hB⟩ := hb
  have only : ∀ o, Only h (h.setIfInBounds m o) m := fun o => ⟨by simp, fun i hi => by rw [Array.getElem?_setIfInBounds, if_neg (fun hh => hi hh.symm)]⟩
  have at' : ∀ o, (h.setIfInBounds m o)[m]? = some o := fun o => by rw [Array.getElem?_setIfInBounds, if_pos rfl, if_pos hlt]
  unfold Instr.mapUpdate
  refine hwp_bind (hwp_underlying hu ?_)
  refine hwp_bind (hwp_getObj h1 (fun _ _ _ hh => by cases hh) ?_)
  refine hwp_bind (hck _ _ _ _ ?_)
  refine hwp_bind (hf k _ es _ _ h2 ?_)
  have h4 := findAt_set k v e.toList es 0 h2
  revert h4
  cases findAt k es 0 with
  | none =>
    intro h4
    simp only at h4
    refine (hwp_setObj h1 (fun _ _ _ hh => by cases hh) (hk _ ⟨_, _, at' _, ?_, ?_⟩ (only _)))
    · rw [h4, Array.toList_push, List.map_append, List.map_append, h2]; rfl
    · rw [Array.toList_push]; exact hB.push _ _
  | some jv =>
    intro h4
    obtain ⟨j, x⟩ := jv
    simp only at h4
    obtain ⟨_, ⟨e', h5, h6⟩, h7⟩ := h4
    have hkey : ((e[j]?).map (·.key)).getD (kv k) = kv k := by
      have : e[j]? = some e' := by simpa using h5
      rw [this]; exact h6
    show Hwp P (Instr.keyThatStays (((e[j]?).map (·.key)).getD (kv k)) (kv k) >>= _) h K
    rw [hkey]
    refine hwp_bind ?_
    unfold Instr.keyThatStays
    rw [ok.same, if_pos rfl]
    refine hwp_pure (P := P) (hwp_setObj h1 (fun _ _ _ hh => by cases hh) (hk _ ⟨_, _, at' _, ?_, ?_⟩ (only _)))
    · rw [Array.toList_modify]
      exact h7
    · rw [Array.toList_modify]; exact hB.mod _ _ _
end
section
variable {P : Program} {t : TypeId}
theorem keyOk_int {key elem : TypeId} {k : IntKind} (hu : P.underlying t = some (.map key elem)) (hk : P.underlying key = some (.int k)) : KeyOk P t (fun n : Int => Value.int k n) elem :=
  .flat hu hk (fun b v h K hh => by
      unfold Instr.checkKey
      exact hwp_bind (hwp_underlying hk hh)) (fun a b => by
      show (if k = k then some (a == b) else none) = _
      rw [if_pos rfl]
      by_cases h : a = b
      · rw [decide_eq_true h, h]; simp
      · rw [decide_eq_false h]; simp [h]) (fun a => by simp [Instr.sameBits])
end
end Go.Hw

end
section
namespace Go.Hw
open Go
end Go.Hw

end
section
namespace Go.Hw
open Go
end Go.Hw

end
section
namespace Go.Hw
open Go
def dead : Obj := .cells #[] 0 (0, 0)
def Live (m : Heap) (b : Nat) : Prop := ∃ o, m[b]? = some o ∧ o ≠ dead
def Sub (m h : Heap) : Prop := ∀ (b : Nat) (o : Obj), m[b]? = some o → o ≠ dead → h[b]? = some o
abbrev No : Nat → Prop := fun _ => False
section
variable {m m' h h' k h0 m0 : Heap} {b : Nat} {W W' : Nat → Prop}
theorem Sub.refl (h : Heap) : Sub h h := fun _ _ h _ => h
theorem Sub.trans (s : Sub m h) (t : Sub h k) : Sub m k := fun b o h1 h2 => t b o (s b o h1 h2) h2
theorem Sub.lt (s : Sub m h) (l : Live m b) : b < h.size := by
  obtain ⟨o, h1, h2⟩ := l
  exact (Array.getElem?_eq_some_iff.1 (s b o h1 h2)).1
theorem Sub.ext (s : Sub m h) (e : Ext h h') : Sub m h' := fun b o h1 h2 => by rw [e.2 b (s.lt ⟨o, h1, h2⟩)]; exact s b o h1 h2
theorem Sub.cell (s : Sub m h) {a : Addr} {v : Value} (hc : cellH m a = some v) : cellH h a = some v := by
  unfold cellH at hc
  split at hc
  · rename_i c e f hm
    have hne : (Obj.cells c e f) ≠ dead := by
      intro hd
      unfold dead at hd
      cases hd
      split at hc <;> simp at hc
    unfold cellH
    rw [s _ _ hm hne]; exact hc
  · cases hc
theorem Sub.cells (s : Sub m h) {a : Addr} : ∀ (n i : Nat) {vs : List Value}, cellsH m a i n = some vs → cellsH h a i n = some vs := by
  intro n
  induction n with
  | zero => intro i vs hc; exact hc
  | succ n ih =>
    intro i vs hc
    simp only [cellsH] at hc ⊢
    split at hc
    · rename_i v hv
      rw [s.cell hv]
      split at hc
      · rename_i us hu
        rw [ih _ hu]; exact hc
      · cases hc
    · cases hc
theorem Sub.blk (s : Sub m h) {c : List Value} {t : TypeId} (hb : Blk m b c t) (hc : c ≠ []) : Blk h b c t := by
  unfold Blk at *
  refine s _ _ hb ?_
  intro hd
  unfold dead at hd
  cases c with
  | nil => exact hc rfl
  | cons x c => simp at hd
end
structure Tell {α : Type} (sz : Nat) (E : Heap → α → List Value → Prop) : Prop where
  mono : ∀ m h x cs, Sub m h → E m x cs → E h x cs
  len : ∀ h x cs, E h x cs → cs.length = sz
  flat : ∀ h x cs, E h x cs → ∀ v ∈ cs, Flat v
theorem Flats.nil : ∀ v ∈ ([] : List Value), Flat v := fun v hv => by cases hv
theorem Flats.cons {x : Value} {l : List Value} (h : Flat x) (t : ∀ v ∈ l, Flat v) : ∀ v ∈ x :: l, Flat v := fun v hv => by
  rcases List.mem_cons.1 hv with rfl | hv
  · exact h
  · exact t v hv
theorem tell_int (k : IntKind) : Tell 1 (eInt k) := ⟨fun _ _ _ _ _ h => h, fun _ _ _ h => by rw [h]; rfl, fun _ _ _ h => by rw [h]; exact Flats.cons trivial Flats.nil⟩
theorem tell_bool : Tell 1 eBool := ⟨fun _ _ _ _ _ h => h, fun _ _ _ h => by rw [h]; rfl, fun _ _ _ h => by rw [h]; exact Flats.cons trivial Flats.nil⟩
section
variable {α : Type} {sz : Nat} {E : Heap → α → List Value → Prop} {m m' h h' : Heap} {A : Option Addr} {l : List α} {c : Nat}
theorem Rd.sub (r : Rd sz E m A l) (T : Tell sz E) (s : Sub m h) : Rd sz E h A l := fun i hi =>
  let ⟨a, cs, h1, h2, h3⟩ := r i hi
  ⟨a, cs, h1, s.cells _ _ h2, T.mono _ _ _ _ s h3⟩
theorem tell_row (T : Tell sz E) : Tell 1 (eRow sz E) := ⟨fun _ _ _ _ s ⟨A, c, h1, h2, h3⟩ => ⟨A, c, h1, h2, h3.sub T s⟩, fun _ _ _ ⟨A, c, h1, _, _⟩ => by rw [h1]; rfl, fun _ _ _ ⟨A, c, h1, _, _⟩ => by rw [h1]; exact Flats.cons trivial Flats.nil⟩
end
structure St (W : Nat → Prop) (h0 m0 h m : Heap) : Prop where
  up : Sub m0 m
  s : Sub m h
  size : h0.size ≤ h.size
  fr : ∀ b, b < h0.size → ¬ W b → h[b]? = h0[b]?
  lv : ∀ b, b < h0.size → Live m b → Live m0 b ∨ W b
def fb (b0 b : Nat) : Prop := b = b0
def fp (A : Option Addr) (c : Nat) (b : Nat) : Prop := c ≠ 0 ∧ ∃ a, A = some a ∧ a.block = b
def Dj (F G : Nat → Prop) : Prop := ∀ b, F b → G b → False
section
variable {m m' h h' h0 m0 : Heap} {b b' : Nat} {W W' F G G' : Nat → Prop}
theorem Dj.symm (d : Dj F G) : Dj G F := fun b h1 h2 => d b h2 h1
theorem Dj.no : Dj No F := fun _ h _ => h
theorem St.refl (s : Sub m h) : St W h m h m := ⟨.refl _, s, Nat.le_refl _, fun _ _ _ => rfl, fun _ _ h => .inl h⟩
theorem St.of_ext (s : Sub m h) (e : Ext h h') : St W h m h' m := ⟨.refl _, s.ext e, e.1, fun b hb _ => e.2 b hb, fun _ _ h => .inl h⟩
theorem St.ext (S : St No h m h' m') : Ext h h' := ⟨S.size, fun b hb => S.fr b hb (fun h => h)⟩
theorem St.then (S : St W h0 m0 h m) (T : St W' h m h' m') (hw : ∀ b, b < h.size → W' b → h0.size ≤ b ∨ W b) : St W h0 m0 h' m' where
  up := S.up.trans T.up
  s := T.s
  size := Nat.le_trans S.size T.size
  fr b hb hn := by
    rw [T.fr b (by have := S.size; omega) (fun hw' => (hw b (by have := S.size; omega) hw').elim (fun h => by omega) hn)]
    exact S.fr b hb hn
  lv b hb hl := by
    rcases T.lv b (by have := S.size; omega) hl with h1 | h1
    · exact S.lv b hb h1
    · exact .inr ((hw b (by have := S.size; omega) h1).elim (fun h => by omega) id)
theorem St.grow (S : St W h0 m0 h m) (T : St No h m h' m') : St W h0 m0 h' m' := S.then T fun _ _ h => h.elim
theorem St.notLive (s : Sub m h) : ¬ Live m h.size := fun l => by have := s.lt l; omega
theorem St.only (s : Sub m h) (hn : ¬ Live m b) (o : Only h h' b) : St (fb b) h m h' m where
  up := .refl _
  s i x h1 h2 := by
    rw [o.2 i (fun e => hn (e ▸ ⟨x, h1, h2⟩))]; exact s i x h1 h2
  size := by rw [o.1]; exact Nat.le_refl _
  fr i _ hw := o.2 i hw
  lv i _ hl := .inl hl
end
open Classical in
noncomputable def addV (m h : Heap) (F : Nat → Prop) : Heap := Array.ofFn (n := h.size) fun i => if Live m i.1 ∨ F i.1 then h[i.1] else dead
section
variable {m h : Heap} {b : Nat} {F : Nat → Prop}
theorem addV_get (hb : b < h.size) (hl : Live m b ∨ F b) : (addV m h F)[b]? = h[b]? := by
  unfold addV
  rw [Array.getElem?_ofFn, dif_pos hb, if_pos hl, Array.getElem?_eq_getElem hb]
theorem addV_live (hl : Live (addV m h F) b) : (Live m b ∨ F b) ∧ b < h.size := by
  obtain ⟨o, h1, h2⟩ := hl
  unfold addV at h1
  rw [Array.getElem?_ofFn] at h1
  split at h1
  · rename_i hb
    refine ⟨?_, hb⟩
    by_cases hc : Live m b ∨ F b
    · exact hc
    · rw [if_neg hc] at h1; cases h1; exact (h2 rfl).elim
  · cases h1
theorem addV_sub : Sub (addV m h F) h := fun b o h1 h2 => by
  have := addV_live ⟨o, h1, h2⟩
  rw [← addV_get this.2 this.1]; exact h1
theorem addV_up (s : Sub m h) : Sub m (addV m h F) := fun b o h1 h2 => by
  rw [addV_get (s.lt ⟨o, h1, h2⟩) (.inl ⟨o, h1, h2⟩)]; exact s b o h1 h2
theorem St.settle (s : Sub m h) (F : Nat → Prop) : St F h m h (addV m h F) := ⟨addV_up s, addV_sub, Nat.le_refl _, fun _ _ _ => rfl, fun _ _ hl => (addV_live hl).1⟩
theorem Blk.settle {c : List Value} {t : TypeId} (hb : Blk h b c t) (hF : F b) : Blk (addV m h F) b c t := by
  unfold Blk at *
  rw [addV_get (Blk.lt hb) (.inr hF)]; exact hb
end
section
variable {α : Type} {sz : Nat} {E : Heap → α → List Value → Prop} {m m' h h' h0 m0 : Heap} {A : Option Addr} {l l' : List α} {c : Nat} {cs ds : List Value} {x y : α} {W W' : Nat → Prop}
def CsE (sz : Nat) (E : Heap → α → List Value → Prop) (m : Heap) : List α → List Value → Prop
  | [], cs => cs = []
  | x :: l, cs => ∃ c1 c2, cs = c1 ++ c2 ∧ c1.length = sz ∧ E m x c1 ∧ CsE sz E m l c2
theorem CsE.nil : CsE sz E m ([] : List α) [] := rfl
theorem CsE.cons {c1 : List Value} (h1 : E m x c1) (h2 : c1.length = sz) (h : CsE sz E m l cs) : CsE sz E m (x :: l) (c1 ++ cs) := ⟨c1, cs, rfl, h2, h1, h⟩
theorem CsE.len : ∀ {l : List α} {cs : List Value}, CsE sz E m l cs → cs.length = l.length * sz := by
  intro l
  induction l with
  | nil => intro cs h; rw [show cs = [] from h]; simp
  | cons x l ih => rintro cs ⟨c1, c2, rfl, h1, h2, h3⟩; rw [List.length_append, ih h3, h1, List.length_cons, Nat.succ_mul, Nat.add_comm]
theorem CsE.get : ∀ {l : List α} {cs : List Value} {i : Nat}, CsE sz E m l cs → l[i]? = some y → E m y ((cs.drop (i * sz)).take sz) ∧ i * sz + sz ≤ cs.length := by
  intro l
  induction l with
  | nil => intro cs i h h'; cases h'
  | cons x l ih =>
    rintro cs i ⟨c1, c2, rfl, h1, h2, h3⟩ hy
    cases i with
    | zero =>
      cases hy
      simp only [Nat.zero_mul, List.drop_zero]
      rw [← h1, List.take_left]
      exact ⟨h2, by simp⟩
    | succ i =>
      have := ih (i := i) h3 (by simpa using hy)
      rw [show (i + 1) * sz = c1.length + i * sz by rw [h1, Nat.succ_mul, Nat.add_comm], ← List.drop_drop, List.drop_left, List.length_append]
      exact ⟨this.1, by omega⟩
theorem CsE.set {c1 : List Value} (hx : E m x c1) (hz : c1.length = sz) : ∀ {l : List α} {cs : List Value} {i : Nat}, CsE sz E m l cs → i < l.length → CsE sz E m (l.set i x) (cs.take (i * sz) ++ c1 ++ cs.drop (i * sz + sz)) := by
  intro l
  induction l with
  | nil => intro cs i h h'; cases h'
  | cons y l ih =>
    rintro cs i ⟨d1, d2, rfl, h1, h2, h3⟩ hi
    cases i with
    | zero =>
      simp only [Nat.zero_mul, List.take_zero, List.nil_append, Nat.zero_add, List.set_cons_zero]
      rw [← h1, List.drop_left]
      exact ⟨c1, d2, rfl, by rw [hz, h1], hx, by rw [h1]; exact h3⟩
    | succ i =>
      have := ih (i := i) h3 (by simpa using hi)
      rw [show (i + 1) * sz = d1.length + i * sz by rw [h1, Nat.succ_mul, Nat.add_comm], List.take_length_add_append, show d1.length + i * sz + sz = d1.length + (i * sz + sz) by omega, List.drop_length_add_append, List.set_cons_succ]
      exact ⟨d1, _, by simp [List.append_assoc], h1, h2, this⟩
theorem CsE.rd {b : Nat} {t : TypeId} {pre rest : List Value} (hb : Blk h b (pre ++ cs ++ rest) t) (hc : CsE sz E m l cs) (hm : ∀ x cs, E m x cs → E h x cs) : Rd sz E h (some ⟨b, pre.length, none⟩) l := by
  intro i hi
  have hg := hc.get (List.getElem?_eq_getElem hi)
  refine ⟨_, _, rfl, ?_, hm _ _ hg.1⟩
  have := hb.cells (a := (⟨b, pre.length, none⟩ : Addr).add (i * sz)) (by rw [add_block]) (add_spot _ rfl) sz 0 (by rw [add_off, List.length_append, List.length_append]; simp only [Nat.add_zero]; omega)
  rw [this, add_off]
  simp only [Nat.add_zero]
  rw [List.append_assoc, ← List.drop_drop, List.drop_left, List.drop_append_of_le_length (by omega), List.take_append_of_le_length (by rw [List.length_drop]; omega)]
def OS (W : Nat → Prop) (h0 : Heap) (sz : Nat) (E : Heap → α → List Value → Prop) (h m : Heap) (A : Option Addr) (l : List α) (c : Nat) : Prop :=
  (l = [] ∧ c = 0) ∨ ∃ b t pre cs rest, A = some ⟨b, pre.length, none⟩ ∧ Blk h b (pre ++ cs ++ rest) t ∧ CsE sz E m l cs ∧ l.length ≤ c ∧ (c - l.length) * sz ≤ rest.length ∧ (h0.size ≤ b ∨ W b) ∧ ¬ Live m b
theorem OS.cap (o : OS W h0 sz E h m A l c) : l.length ≤ c := by
  rcases o with ⟨rfl, rfl⟩ | ⟨b, t, pre, cs, rest, h1, h2, h3, h4, h5, h6, h7⟩
  · exact Nat.le_refl _
  · exact h4
def OB (W : Nat → Prop) (h0 h m : Heap) (b : Nat) (cs : List Value) (t : TypeId) : Prop := Blk h b cs t ∧ (h0.size ≤ b ∨ W b) ∧ ¬ Live m b
variable {b : Nat} {t : TypeId}
theorem OB.all (o : OB W h0 h m b cs t) : cellsH h ⟨b, 0, none⟩ 0 cs.length = some cs := by
  have := o.1.cells (a := ⟨b, 0, none⟩) rfl rfl cs.length 0 (by simp)
  simpa using this
theorem Blk.all' (o : Blk m b cs t) : cellsH m ⟨b, 0, none⟩ 0 cs.length = some cs := by
  have := o.cells (a := ⟨b, 0, none⟩) rfl rfl cs.length 0 (by simp)
  simpa using this
def VB (E : Heap → α → List Value → Prop) (m : Heap) (b : Nat) (x : α) : Prop := ∃ cs t, Blk m b cs t ∧ cs ≠ [] ∧ E m x cs
theorem VB.sub (v : VB E m b x) (T : Tell sz E) (s : Sub m h) : VB E h b x := let ⟨cs, t, h1, h2, h3⟩ := v; ⟨cs, t, s.blk h1 h2, h2, T.mono _ _ _ _ s h3⟩
end
end Go.Hw

end
section
namespace Go.Hw
def LeO {β : Type} (a b : Option β) : Prop := ∀ r, a = some r → b = some r
theorem LeO.refl {β : Type} (a : Option β) : LeO a a := fun _ h => h
theorem LeO.bind {β γ : Type} {a b : Option β} {f g : β → Option γ} (h : LeO a b) (k : ∀ x, LeO (f x) (g x)) : LeO (a.bind f) (b.bind g) := by
  intro r hr
  cases a with
  | none => cases hr
  | some x => rw [h x rfl]; exact k x r hr
theorem LeO.ite {β : Type} {p : Prop} [Decidable p] {a b a' b' : Option β} (h : LeO a a') (k : LeO b b') : LeO (if p then a else b) (if p then a' else b') := by
  by_cases c : p
  · rw [if_pos c, if_pos c]; exact h
  · rw [if_neg c, if_neg c]; exact k
section
variable {α : Type} {β : α → Type} {F : ((x : α) → Option (β x)) → (x : α) → Option (β x)}
def MonoF (F : ((x : α) → Option (β x)) → (x : α) → Option (β x)) : Prop := ∀ f g, (∀ x, LeO (f x) (g x)) → ∀ x, LeO (F f x) (F g x)
def FixR (F : ((x : α) → Option (β x)) → (x : α) → Option (β x)) (x : α) (r : β x) : Prop :=
  ∀ I : (x : α) → β x → Prop, (∀ f, (∀ x r, f x = some r → I x r) → ∀ x r, F f x = some r → I x r) → I x r
theorem FixR.close {f : (x : α) → Option (β x)} (hf : ∀ x r, f x = some r → FixR F x r) {x : α} {r : β x} (h : F f x = some r) : FixR F x r :=
  fun I hI => hI f (fun y s hs => hf y s hs I hI) x r h
theorem FixR.uniq (M : MonoF F) {x : α} {r r' : β x} (h : FixR F x r) (h' : FixR F x r') : r = r' := by
  refine (h (fun x r => FixR F x r ∧ ∀ r', FixR F x r' → r = r') ?_).2 r' h'
  intro f hf x r hr
  refine ⟨FixR.close (fun y s hs => (hf y s hs).1) hr, fun s hs => ?_⟩
  have key := hs (fun y s => FixR F y s ∧ ∀ e : x = y, (e ▸ r) = s) ?_
  · exact key.2 rfl
  intro f' hf' y t ht
  refine ⟨FixR.close (fun z s hs => (hf' z s hs).1) ht, ?_⟩
  rintro rfl
  let g : (x : α) → Option (β x) := fun z => match f z with | some u => some u | none => f' z
  have hfg : ∀ z, LeO (f z) (g z) := fun z u hu => by simp only [g, hu]
  have hfg' : ∀ z, LeO (f' z) (g z) := by
    intro z u hu
    simp only [g]
    cases hz : f z with
    | none => exact hu
    | some w => simp only; rw [(hf z w hz).2 u (hf' z u hu).1]
  have e1 := M f g hfg _ _ hr
  have e2 := M f' g hfg' _ _ ht
  rw [e1] at e2
  exact Option.some.inj e2
open Classical in
noncomputable def fixF (F : ((x : α) → Option (β x)) → (x : α) → Option (β x)) (x : α) : Option (β x) := if h : ∃ r, FixR F x r then some (Classical.choose h) else none
theorem fixF_iff (M : MonoF F) {x : α} {r : β x} : fixF F x = some r ↔ FixR F x r := by
  unfold fixF
  constructor
  · intro h
    split at h
    · rename_i hx; cases h; exact Classical.choose_spec hx
    · cases h
  · intro h
    rw [dif_pos ⟨r, h⟩, FixR.uniq M (Classical.choose_spec (⟨r, h⟩ : ∃ r, FixR F x r)) h]
theorem fixF_eq (M : MonoF F) (x : α) : fixF F x = F (fixF F) x := by
  have h1 : ∀ r, fixF F x = some r → F (fixF F) x = some r := by
    intro r hr
    refine ((fixF_iff M).1 hr (fun x r => FixR F x r ∧ F (fixF F) x = some r) ?_).2
    intro f hf y s hs
    refine ⟨FixR.close (fun z s hs => (hf z s hs).1) hs, ?_⟩
    exact M f (fixF F) (fun z u hu => (fixF_iff M).2 (hf z u hu).1) _ _ hs
  have h2 : ∀ r, F (fixF F) x = some r → fixF F x = some r := fun r hr => (fixF_iff M).2 (FixR.close (fun y s hs => (fixF_iff M).1 hs) hr)
  cases h : fixF F x with
  | some r => exact (h1 r h).symm
  | none =>
    cases k : F (fixF F) x with
    | none => rfl
    | some r => rw [h2 r k] at h; cases h
theorem fixF_ind (M : MonoF F) {I : (x : α) → β x → Prop} (hI : ∀ f, (∀ x r, f x = some r → I x r) → ∀ x r, F f x = some r → I x r) {x : α} {r : β x} (h : fixF F x = some r) : I x r := (fixF_iff M).1 h I hI
end
end Go.Hw

end
section
namespace Go.Hw
open Go
section tests
variable {A B : Prop} {β γ : Type} {a b : Option β} {r : β}
theorem bind_e {a : Option γ} {f : γ → Option β} (e : a.bind f = some r) : ∃ x, a = some x ∧ f x = some r := by
  cases a with
  | none => cases e
  | some x => exact ⟨x, rfl, e⟩
theorem guard_e {p : Prop} [Decidable p] (e : (if p then a else none) = some r) : p ∧ a = some r := by
  by_cases h : p
  · rw [if_pos h] at e; exact ⟨h, e⟩
  · rw [if_neg h] at e; cases e
theorem split_dec_e {p : Prop} [Decidable p] (e : (if p then a else b) = some r) (hA : p → a = some r → A) (hB : ¬ p → b = some r → B) : splitB (decide p) A B := by
  by_cases h : p
  · rw [if_pos h] at e; rw [decide_eq_true h]; exact hA h e
  · rw [if_neg h] at e; rw [decide_eq_false h]; exact hB h e
theorem split_eq_e {x y : Int} (e : (if x = y then a else b) = some r) (hA : x = y → a = some r → A) (hB : x ≠ y → b = some r → B) : splitB (x == y) A B := by
  by_cases h : x = y
  · rw [if_pos h] at e; rw [show (x == y) = true from beq_iff_eq.2 h]; exact hA h e
  · rw [if_neg h] at e; rw [show (x == y) = false from beq_eq_false_iff_ne.2 h]; exact hB h e
theorem split_ne_e {x y : Int} (e : (if x = y then b else a) = some r) (hA : x ≠ y → a = some r → A) (hB : x = y → b = some r → B) : splitB (x != y) A B := by
  by_cases h : x = y
  · rw [if_pos h] at e; rw [show (x != y) = false from bne_eq_false_iff_eq.2 h]; exact hB h e
  · rw [if_neg h] at e; rw [show (x != y) = true from bne_iff_ne.2 h]; exact hA h e
theorem split_any_e {t : Bool} (e : (if t = true then a else b) = some r) (hA : t = true → a = some r → A) (hB : t = false → b = some r → B) : splitB t A B := by
  cases t
  · exact hB rfl e
  · exact hA rfl e
end tests
section
variable {α : Type} {l : List α} {x : Int} {y : α}
def gi (l : List α) (x : Int) : Option α := if 0 ≤ x then l[x.toNat]? else none
theorem gi_nat (l : List α) (k : Nat) : gi l (k : Int) = l[k]? := by unfold gi; rw [if_pos (by omega)]; rfl
theorem gi_le (g : gi l x = some y) : 0 ≤ x := by unfold gi at g; split at g; assumption; cases g
theorem gi_get (g : gi l x = some y) : l[x.toNat]? = some y := by unfold gi at g; split at g; exact g; cases g
theorem gi_lt (g : gi l x = some y) : x < (l.length : Int) := by
  have h1 := gi_get g
  have h2 := gi_le g
  have := (List.getElem?_eq_some_iff.1 h1).1
  omega
theorem gi_ltN (g : gi l x = some y) : x.toNat < l.length := (List.getElem?_eq_some_iff.1 (gi_get g)).1
def sl (l : List α) (lo hi : Int) : List α := (l.take hi.toNat).drop lo.toNat
theorem sl_len {lo hi : Int} (h1 : 0 ≤ lo) (h2 : lo ≤ hi) (h3 : hi ≤ (l.length : Int)) : Int.toNat hi - Int.toNat lo = (sl l lo hi).length := by
  unfold sl; rw [List.length_drop, List.length_take]; omega
theorem sl_hi {hi : Int} : sl l 0 hi = l.take hi.toNat := by unfold sl; simp
end
section
variable {α : Type} {sz : Nat} {E : Heap → α → List Value → Prop} {m m' h h' h0 m0 : Heap} {A : Option Addr} {l : List α} {c n k : Nat} {cs : List Value} {x : Int} {y : α} {W : Nat → Prop} {a : Addr} {v : Value} {b : Nat} {t : TypeId}
theorem Rd.addr {K : Addr → Prop} (r : Rd sz E m A l) (hn : n = l.length) (g : gi l x = some y) (hk : ∀ a cs, A = some a → cellsH m (a.add (Int.toNat x * sz)) 0 sz = some cs → E m y cs → K a) : ptrOk A fun a => 0 ≤ x ∧ x < ((n : Nat) : Int) ∧ K a := by
  subst hn
  have h1 := gi_get g
  obtain ⟨hi, h2⟩ := List.getElem?_eq_some_iff.1 h1
  obtain ⟨a, cs, rfl, h3, h4⟩ := r _ hi
  rw [h2] at h4
  exact ⟨gi_le g, gi_lt g, hk a cs rfl h3 h4⟩
theorem OS.cellsAt (o : OS W h0 sz E h m A l c) (g : gi l x = some y) : ∃ a cs, A = some a ∧ cellsH h (a.add (Int.toNat x * sz)) 0 sz = some cs ∧ E m y cs := by
  have h1 := gi_get g
  rcases o with ⟨rfl, rfl⟩ | ⟨b, t, pre, cs, rest, rfl, h3, h4, h5, h6, h7⟩
  · cases h1
  have h8 := h4.get h1
  refine ⟨_, _, rfl, ?_, h8.1⟩
  have := h3.cells (a := (⟨b, pre.length, none⟩ : Addr).add (x.toNat * sz)) (by rw [add_block]) (add_spot _ rfl) sz 0 (by rw [add_off, List.length_append, List.length_append]; simp only [Nat.add_zero]; omega)
  rw [this, add_off]
  simp only [Nat.add_zero]
  rw [List.append_assoc, ← List.drop_drop, List.drop_left, List.drop_append_of_le_length (by omega), List.take_append_of_le_length (by rw [List.length_drop]; omega)]
theorem OS.addr {K : Addr → Prop} (o : OS W h0 sz E h m A l c) (hn : n = l.length) (g : gi l x = some y) (hk : ∀ a cs, A = some a → cellsH h (a.add (Int.toNat x * sz)) 0 sz = some cs → E m y cs → K a) : ptrOk A fun a => 0 ≤ x ∧ x < ((n : Nat) : Int) ∧ K a := by
  subst hn
  obtain ⟨a, cs, rfl, h1, h2⟩ := o.cellsAt g
  exact ⟨gi_le g, gi_lt g, hk a cs rfl h1 h2⟩
theorem ld0 (s : Sub m h) (hc : cellsH m a 0 n = some cs) (hv : cs[0]? = some v) : ldv false 1 h a = some v := by
  have h1 : cellH h (a.add 0) = some v := cellsH_get (s.cells _ _ hc) hv
  exact h1
theorem ldk (s : Sub m h) (hc : cellsH m a 0 n = some cs) (hv : cs[k]? = some v) : ldv false 1 h (Addr.add a k) = some v := by
  have := cellsH_get (s.cells _ _ hc) hv
  simpa [ldv] using this
theorem ldA (s : Sub m h) (hc : cellsH m a 0 n = some cs) : ldv true n h a = some (.agg cs.toArray) := by
  simp only [ldv, s.cells _ _ hc, Option.map_some]
theorem OB.st (o : OB W h0 h m b cs t) (s : Sub m h) (hk : k < cs.length) (hf : Flat v) : ∃ h', st1 h (Addr.add ⟨b, 0, none⟩ k) v = some h' ∧ OB W h0 h' m b (cs.set k v) t ∧ St (fb b) h m h' m := by
  obtain ⟨h', h1, h2, h3⟩ := o.1.st (a := Addr.add ⟨b, 0, none⟩ k) (v := v) (add_block _ _) (add_spot _ rfl) (by rw [add_off]; simpa using hk) hf
  rw [add_off, Nat.zero_add] at h2
  exact ⟨h', h1, ⟨h2, o.2⟩, .only s o.2.2 h3⟩
theorem OB.stA (o : OB W h0 h m b cs t) (s : Sub m h) (l : List Value) (hn : l.length = cs.length) (hf : ∀ v ∈ l, Flat v) : ∃ h', stH h ⟨b, 0, none⟩ l 0 = some h' ∧ OB W h0 h' m b l t ∧ St (fb b) h m h' m := by
  obtain ⟨h', h1, h2, h3⟩ := o.1.stAll l hn hf
  exact ⟨h', h1, ⟨h2, o.2⟩, .only s o.2.2 h3⟩
theorem OS.stP (o : OS W h0 sz E h m A l c) (T : Tell sz E) (s : Sub m h) (g : gi l x = some y) (ha : A = some a) (hc : cellsH h (Addr.add a (Int.toNat x * sz)) 0 sz = some cs) {ds : List Value} {y' : α} (k : Nat) (hk : k + ds.length ≤ sz) (hy : E m y' (cs.take k ++ ds ++ cs.drop (k + ds.length))) (hf : ∀ v ∈ ds, Flat v) :
    ∃ h', stH h (Addr.add (Addr.add a (Int.toNat x * sz)) k) ds 0 = some h' ∧ OS W h0 sz E h' m A (l.set (Int.toNat x) y') c ∧ St (fp A c) h m h' m := by
  have h1 := gi_get g
  have hlt := gi_ltN g
  rcases o with ⟨rfl, rfl⟩ | ⟨b, t, pre, es, rest, rfl, h3, h4, h5, h6, h7, h8⟩
  · cases h1
  cases ha
  have h9 := h4.get h1
  have hcs : cs = (es.drop (x.toNat * sz)).take sz := by
    have := h3.cells (a := (⟨b, pre.length, none⟩ : Addr).add (x.toNat * sz)) (by rw [add_block]) (add_spot _ rfl) sz 0 (by rw [add_off, List.length_append, List.length_append]; simp only [Nat.add_zero]; omega)
    rw [hc, add_off] at this
    simp only [Nat.add_zero, Option.some.injEq] at this
    rw [this, List.append_assoc, ← List.drop_drop, List.drop_left, List.drop_append_of_le_length (by omega), List.take_append_of_le_length (by rw [List.length_drop]; omega)]
  have hlen : cs.length = sz := cellsH_length hc
  have hes : es = es.take (x.toNat * sz) ++ cs ++ es.drop (x.toNat * sz + sz) := by
    rw [hcs, List.append_assoc, ← List.drop_drop, List.take_append_drop, List.take_append_drop]
  have hcs2 : cs = cs.take k ++ (cs.drop k).take ds.length ++ cs.drop (k + ds.length) := by
    rw [List.append_assoc, ← List.drop_drop, List.take_append_drop, List.take_append_drop]
  have hb : Blk h b ((pre ++ es.take (x.toNat * sz) ++ cs.take k) ++ (cs.drop k).take ds.length ++ (cs.drop (k + ds.length) ++ (es.drop (x.toNat * sz + sz) ++ rest))) t := by
    have : (pre ++ es.take (x.toNat * sz) ++ cs.take k) ++ (cs.drop k).take ds.length ++ (cs.drop (k + ds.length) ++ (es.drop (x.toNat * sz + sz) ++ rest)) = pre ++ es ++ rest := by
      conv => rhs; rw [hes]; rw [hcs2]
      simp only [List.append_assoc]
    rw [this]; exact h3
  obtain ⟨h', s1, b1, o1⟩ := Blk.stH ds (a := Addr.add (Addr.add ⟨b, pre.length, none⟩ (x.toNat * sz)) k) (i := 0) hb (by rw [add_block, add_block]) (add_spot _ (add_spot _ rfl))
    (by rw [add_off, add_off, List.length_append, List.length_append, List.length_take, List.length_take]; simp only [Nat.add_zero]; omega) (by rw [List.length_take, List.length_drop]; omega) hf
  refine ⟨h', s1, .inr ⟨b, t, pre, es.take (x.toNat * sz) ++ (cs.take k ++ ds ++ cs.drop (k + ds.length)) ++ es.drop (x.toNat * sz + sz), rest, rfl, ?_, ?_, ?_, ?_, h7, h8⟩, ?_⟩
  · have : pre ++ (es.take (x.toNat * sz) ++ (cs.take k ++ ds ++ cs.drop (k + ds.length)) ++ es.drop (x.toNat * sz + sz)) ++ rest = (pre ++ es.take (x.toNat * sz) ++ cs.take k) ++ ds ++ (cs.drop (k + ds.length) ++ (es.drop (x.toNat * sz + sz) ++ rest)) := by simp only [List.append_assoc]
    rw [this]; exact b1
  · exact h4.set hy (T.len _ _ _ hy) hlt
  · rwa [List.length_set]
  · rwa [List.length_set]
  · refine ⟨.refl _, fun i o1' k1 k2 => ?_, by rw [o1.1]; exact Nat.le_refl _, fun i hi hw => ?_, fun i _ hl => .inl hl⟩
    · rw [o1.2 i (fun e => h8 (e ▸ ⟨o1', k1, k2⟩))]; exact s i o1' k1 k2
    · refine o1.2 i fun e => hw ⟨?_, _, rfl, e.symm⟩
      omega
theorem OS.st1k (o : OS W h0 sz E h m A l c) (T : Tell sz E) (s : Sub m h) (g : gi l x = some y) (ha : A = some a) (hc : cellsH h (Addr.add a (Int.toNat x * sz)) 0 sz = some cs) {y' : α} (k : Nat) (hk : k < sz) (hy : E m y' (cs.set k v)) (hf : Flat v) :
    ∃ h', st1 h (Addr.add (Addr.add a (Int.toNat x * sz)) k) v = some h' ∧ OS W h0 sz E h' m A (l.set (Int.toNat x) y') c ∧ St (fp A c) h m h' m := by
  have hlen : cs.length = sz := cellsH_length hc
  obtain ⟨h', h1, h2, h3⟩ := o.stP T s g ha hc (ds := [v]) (y' := y') k hk (by rw [List.append_assoc, List.singleton_append]; rw [List.set_eq_take_append_cons_drop, if_pos (by omega)] at hy; exact hy) (Flats.cons hf Flats.nil)
  refine ⟨h', ?_, h2, h3⟩
  simp only [stH] at h1
  split at h1
  · rename_i h4 h5
    cases h1; exact h5
  · cases h1
theorem cap_in {hi : Int} (h1 : hi ≤ (l.length : Int)) (h2 : l.length ≤ c) : hi ≤ ((c : Nat) : Int) := by omega
theorem Rd.sl {lo hi : Int} {mx : Nat} (r : Rd sz E m A l) (h1 : 0 ≤ lo) (h2 : lo ≤ hi) (h3 : hi ≤ (l.length : Int)) (h4 : hi.toNat ≤ mx) : Rd sz E m (sliceA A (Int.toNat lo) mx sz) (sl l lo hi) := by
  intro i hi'
  rw [← sl_len h1 h2 h3] at hi'
  obtain ⟨a, cs, e1, e2, e3⟩ := r (lo.toNat + i) (by omega)
  refine ⟨a.add (lo.toNat * sz), cs, ?_, ?_, ?_⟩
  · unfold sliceA; rw [if_neg (by omega), e1]; rfl
  · rw [add_add, ← Nat.add_mul]; exact e2
  · simpa [Hw.sl] using e3
theorem zc_len {z : Array Value} {n : Nat} : (zcells z n).toList.length = n * z.size := by rw [Array.length_toList, zcells_size]
def Src (sz : Nat) (E : Heap → α → List Value → Prop) (h m : Heap) (x : Value) (xs : List α) : Prop := ∃ es, srcCells sz x h = some (xs.length, es) ∧ CsE sz E m xs es
theorem OS.srcE {c' : Nat} (o : OS W h0 sz E h m A l c) (hn : n = l.length) : Src sz E h m (.slice A n c') l := by
  subst hn
  rcases o with ⟨rfl, rfl⟩ | ⟨b, t, pre, cs, rest, rfl, k1, k2, k3, k4, k5⟩
  · refine ⟨[], ?_, rfl⟩
    cases A with
    | none => rfl
    | some a => simp [srcCells, cellsH]
  · refine ⟨cs, ?_, k2⟩
    have hl := k2.len
    have := k1.cells (a := ⟨b, pre.length, none⟩) rfl rfl (l.length * sz) 0 (by simp [hl])
    simp only [srcCells, this, Nat.add_zero]
    rw [List.append_assoc, List.drop_left, List.take_append_of_le_length (by omega), List.take_of_length_le (by omega)]; rfl
def ap (B : Nat) (l xs : List α) : Option (List α) := if (l.length + xs.length) * B ≤ 140737488355328 then some (l ++ xs) else none
theorem ap_e {B : Nat} {l xs l' : List α} (g : ap B l xs = some l') : (l.length + xs.length) * B ≤ 140737488355328 ∧ l ++ xs = l' := by
  unfold ap at g
  obtain ⟨h, k⟩ := guard_e g
  exact ⟨h, Option.some.inj k⟩
def sls (l : List α) (lo hi : Int) : Option (List α) := if 0 ≤ lo ∧ lo ≤ hi ∧ hi ≤ (l.length : Int) then some (sl l lo hi) else none
theorem sls_e {lo hi : Int} {l' : List α} (g : sls l lo hi = some l') : 0 ≤ lo ∧ lo ≤ hi ∧ hi ≤ (l.length : Int) ∧ Int.toNat hi - Int.toNat lo = l'.length ∧ l' = Hw.sl l lo hi := by
  unfold sls at g
  obtain ⟨h, k⟩ := guard_e g
  cases k
  exact ⟨h.1, h.2.1, h.2.2, sl_len h.1 h.2.1 h.2.2, rfl⟩
theorem Rd.sls {lo hi : Int} {mx : Nat} {l' : List α} (r : Rd sz E m A l) (g : sls l lo hi = some l') (h4 : hi.toNat ≤ mx) : Rd sz E m (sliceA A (Int.toNat lo) mx sz) l' := by
  obtain ⟨h1, h2, h3, _, rfl⟩ := sls_e g
  exact r.sl h1 h2 h3 h4
def mks (B : Int) (x : Int) (z : α) : Option (List α) := if 0 ≤ x ∧ x * B ≤ 140737488355328 ∧ x ≤ 9223372036854775807 then some (List.replicate x.toNat z) else none
theorem mks_e {B : Int} {z : α} {l' : List α} (g : mks B x z = some l') : 0 ≤ x ∧ x * B ≤ 140737488355328 ∧ x ≤ 9223372036854775807 ∧ Int.toNat x = l'.length ∧ l' = List.replicate x.toNat z := by
  unfold mks at g
  obtain ⟨h, k⟩ := guard_e g
  cases k
  exact ⟨h.1, h.2.1, h.2.2, by simp, rfl⟩
theorem mkCells_flat {zc : Array Value} (hz : zc.size = sz) : ∀ n : Nat, (mkCells zc (n * sz)).toList = (List.replicate n zc.toList).flatten := by
  intro n
  unfold mkCells
  apply List.ext_getElem
  · simp [hz]
  · intro i h1 h2
    simp only [Array.toList_map, Array.toList_range, List.getElem_map, List.getElem_range]
    have hi : i < n * sz := by simpa using h1
    have : ∀ (n i : Nat) (hi : i < n * sz) (h2 : i < (List.replicate n zc.toList).flatten.length), zc[i % zc.size]! = (List.replicate n zc.toList).flatten[i] := by
      intro n
      induction n with
      | zero => intro i hi; simp at hi
      | succ n ih =>
        intro i hi h2
        simp only [List.replicate_succ, List.flatten_cons]
        by_cases hlt : i < zc.toList.length
        · rw [List.getElem_append_left hlt]
          have hlt' : i < zc.size := by simpa using hlt
          rw [Nat.mod_eq_of_lt hlt', getElem!_pos zc i hlt']; simp
        · have hge : sz ≤ i := by simpa [hz] using hlt
          rw [List.getElem_append_right (by rw [Array.length_toList, hz]; exact hge)]
          have e1 : i % zc.size = (i - zc.toList.length) % zc.size := by
            rw [Array.length_toList, hz]; exact (Nat.mod_eq_sub_mod hge)
          rw [e1]
          exact ih (i - zc.toList.length) (by rw [Array.length_toList, hz]; rw [Nat.succ_mul] at hi; omega) _
    exact this n i hi h2
theorem le_mx {hi : Int} (h1 : hi ≤ (l.length : Int)) (h2 : l.length ≤ c) : hi.toNat ≤ c := by omega
theorem sls_cap {lo hi : Int} {l' : List α} (g : Hw.sls l lo hi = some l') (h2 : l.length ≤ c) : l'.length ≤ c - Int.toNat lo := by
  obtain ⟨h1, h3, h4, h5, _⟩ := sls_e g
  omega
theorem nn {x : Value} {l : List Value} : x :: l ≠ [] := fun h => by cases h
end
end Go.Hw

end
section
namespace Go.Hw
open Go
section
variable {α : Type} {sz : Nat} {E : Heap → α → List Value → Prop} {m m' mL h h' h0 m0 : Heap} {A : Option Addr} {l : List α} {c b : Nat} {cs : List Value} {t : TypeId} {W W' : Nat → Prop}
theorem St.unlend (T : St W' h mL h' m') (s : Sub m h) (hd : ∀ b, W' b → ¬ Live m b) : St W' h m h' m where
  up := .refl _
  s b o h1 h2 := by
    rw [T.fr b (s.lt ⟨o, h1, h2⟩) (fun hw => hd b hw ⟨o, h1, h2⟩)]; exact s b o h1 h2
  size := T.size
  fr := T.fr
  lv b _ hl := .inl hl
end
section
variable {κ ν : Type} [DecidableEq κ] {h h' m m' h0 m0 : Heap} {b : Nat} {W W' : Nat → Prop} {kv : κ → Value} {es : List (κ × ν)} {vs : List (κ × Value)} {k : κ} {x zv : ν} {v z : Value} {P : Program} {t elem : TypeId} {sz : Nat}
def pget (es : List (κ × ν)) (k : κ) : Option ν := (es.find? fun x => decide (k = x.1)).map (·.2)
def pgd (es : List (κ × ν)) (k : κ) (z : ν) : ν := (pget es k).getD z
def pset : List (κ × ν) → κ → ν → List (κ × ν)
  | [], k, v => [(k, v)]
  | x :: es, k, v => if k = x.1 then (k, v) :: es else x :: pset es k v
theorem pget_nil (k : κ) : pget ([] : List (κ × ν)) k = none := rfl
theorem pget_cons (p : κ × ν) (es : List (κ × ν)) (k : κ) : pget (p :: es) k = if k = p.1 then some p.2 else pget es k := by
  unfold pget
  by_cases h : k = p.1
  · rw [if_pos h, List.find?_cons_of_pos (by simpa using h)]; rfl
  · rw [if_neg h, List.find?_cons_of_neg (by simpa using h)]
theorem pget_pset (es : List (κ × ν)) (k q : κ) (v : ν) : pget (pset es k v) q = if q = k then some v else pget es q := by
  induction es with
  | nil => unfold pset; rw [pget_cons, pget_nil]
  | cons x es ih =>
    unfold pset
    by_cases hk : k = x.1
    · rw [if_pos hk, pget_cons, pget_cons]
      by_cases h : q = k
      · rw [if_pos h, if_pos h]
      · rw [if_neg h, if_neg h, if_neg (by rw [← hk]; exact h)]
    · rw [if_neg hk, pget_cons, pget_cons, ih]
      by_cases h : q = x.1
      · rw [if_pos h, if_pos h, if_neg (fun hh => hk (by rw [← hh, h]))]
      · rw [if_neg h, if_neg h]
theorem mget_cons (p : κ × Value) (es : List (κ × Value)) (k : κ) : mget (p :: es) k = if k = p.1 then some p.2 else mget es k := pget_cons p es k
def eV0 (E : Heap → ν → List Value → Prop) (m : Heap) (x : ν) (v : Value) : Prop := E m x [v]
def MonoV (EV : Heap → ν → Value → Prop) : Prop := ∀ m h x v, Sub m h → EV m x v → EV h x v
omit [DecidableEq κ] in
theorem monoV0 {E : Heap → ν → List Value → Prop} (T : Tell sz E) : MonoV (eV0 E) := fun _ _ _ _ s h => T.mono _ _ _ _ s h
def MR (EV : ν → Value → Prop) : List (κ × ν) → List (κ × Value) → Prop
  | [], vs => vs = []
  | p :: es, vs => ∃ v vs', vs = (p.1, v) :: vs' ∧ EV p.2 v ∧ MR EV es vs'
variable {EV : Heap → ν → Value → Prop}
omit [DecidableEq κ] in
theorem MR.sub (M : MonoV EV) (s : Sub m h) : ∀ {es : List (κ × ν)} {vs : List (κ × Value)}, MR (EV m) es vs → MR (EV h) es vs := by
  intro es
  induction es with
  | nil => intro vs hh; exact hh
  | cons p es ih => rintro vs ⟨v, vs', rfl, h1, h2⟩; exact ⟨v, vs', rfl, M _ _ _ _ s h1, ih h2⟩
theorem MR.get {EV : ν → Value → Prop} (k : κ) : ∀ {es : List (κ × ν)} {vs : List (κ × Value)}, MR EV es vs → (mget vs k).isSome = (pget es k).isSome ∧ ∀ zv z, EV zv z → EV (pgd es k zv) ((mget vs k).getD z) := by
  intro es
  induction es with
  | nil => intro vs hh; rw [show vs = [] from hh]; exact ⟨rfl, fun _ _ h => h⟩
  | cons p es ih =>
    rintro vs ⟨v, vs', rfl, h1, h2⟩
    unfold pgd
    rw [mget_cons, pget_cons]
    by_cases hk : k = p.1
    · rw [if_pos hk, if_pos hk]; exact ⟨rfl, fun _ _ _ => h1⟩
    · rw [if_neg hk, if_neg hk]; exact ih h2
theorem MR.set {EV : ν → Value → Prop} (k : κ) (hx : EV x v) : ∀ {es : List (κ × ν)} {vs : List (κ × Value)}, MR EV es vs → MR EV (pset es k x) (mset vs k v) := by
  intro es
  induction es with
  | nil => intro vs hh; rw [show vs = [] from hh]; exact ⟨v, [], rfl, hx, rfl⟩
  | cons p es ih =>
    rintro vs ⟨w, vs', rfl, h1, h2⟩
    unfold pset mset
    by_cases hk : k = p.1
    · rw [if_pos hk, if_pos hk]; exact ⟨v, vs', rfl, hx, h2⟩
    · rw [if_neg hk, if_neg hk]; exact ⟨w, _, rfl, h1, ih h2⟩
def OM (W : Nat → Prop) (h0 : Heap) (EV : Heap → ν → Value → Prop) (kv : κ → Value) (h m : Heap) (b : Nat) (es : List (κ × ν)) : Prop :=
  ∃ vs, MapB kv h b vs ∧ MR (EV m) es vs ∧ (h0.size ≤ b ∨ W b) ∧ ¬ Live m b
theorem OM.look {K : Value → Heap → Prop} (o : OM W h0 EV kv h m b es) (ok : KeyOk P t kv elem) (k : κ) (hz : zeroOf P elem = some z) (hE : EV m zv z) (hk : ∀ v, EV m (pgd es k zv) v → K v h) : Gen P (Instr.lookup t (.map (some b)) (kv k) false) h K := by
  obtain ⟨vs, h1, h2, _⟩ := o
  exact gen_lookup ok h1 k hz (hk _ ((h2.get k).2 _ _ hE))
theorem OM.upd {K : Unit → Heap → Prop} (o : OM W h0 EV kv h m b es) (s : Sub m h) (ok : KeyOk P t kv elem) (k : κ) (he : EV m x v) (hk : ∀ h', OM W h0 EV kv h' m b (pset es k x) → St (fb b) h m h' m → K () h') : Hwp P (Instr.mapUpdate t (.map (some b)) (kv k) v) h K := by
  obtain ⟨vs, h1, h2, h3, h4⟩ := o
  exact gen_mapUpdate ok h1 k v fun h' b' o' => hk h' ⟨_, b', h2.set k he, h3, h4⟩ (.only s h4 o')
end
section
variable {α : Type} {f : α → Value} {d : α} {L : List α} {n : Nat}
def eArr (n : Nat) (f : α → Value) (d : α) (_ : Heap) (x : List α) (cs : List Value) : Prop := x.length = n ∧ cs = (List.range n).map fun j => f (x.getD j d)
theorem arr_lit (hl : L.length = n) : (List.range n).map (fun j => f (L.getD j d)) = L.map f := by
  subst hl
  apply List.ext_getElem
  · simp
  · intro i h1 h2
    have : i < L.length := by simpa using h1
    simp [List.getD_eq_getElem?_getD, this]
theorem tell_arr (hf : ∀ x, Flat (f x)) : Tell n (eArr n f d) := ⟨fun _ _ _ _ _ h => h, fun _ _ _ h => by rw [h.2]; simp, fun _ _ _ h => by
  rw [h.2]; intro v hv
  obtain ⟨j, _, rfl⟩ := List.mem_map.1 hv
  exact hf _⟩
theorem gi_ltn {i : Int} {y : α} (g : gi L i = some y) (hl : L.length = n) : i < ((n : Nat) : Int) := by have := gi_lt g; rw [hl] at this; exact this
theorem arr_get {i : Int} {y : α} (g : gi L i = some y) (hl : L.length = n) : ((List.range n).map fun j => f (L.getD j d))[i.toNat]? = some (f y) := by
  rw [arr_lit hl, List.getElem?_map, gi_get g]; rfl
theorem ldArr {m h : Heap} {a : Addr} {N off : Nat} {cs : List Value} {i : Int} {y : α} (s : Sub m h) (hc : cellsH m a 0 N = some cs) (hs : (cs.drop off).take n = (List.range n).map fun j => f (L.getD j d)) (hl : L.length = n) (g : gi L i = some y) :
    ldv false 1 h (Addr.add (Addr.add a off) (Int.toNat i * 1)) = some (f y) := by
  have h1 := arr_get (f := f) (d := d) g hl
  rw [← hs] at h1
  have hlt : i.toNat < n := by have := gi_ltN g; omega
  rw [List.getElem?_take_of_lt hlt, List.getElem?_drop] at h1
  rw [Nat.mul_one, add_add]
  exact ldk s hc h1
theorem ldArr0 {m h : Heap} {a : Addr} {N : Nat} {cs : List Value} {i : Int} {y : α} (s : Sub m h) (hc : cellsH m a 0 N = some cs) (hs : (cs.drop 0).take n = (List.range n).map fun j => f (L.getD j d)) (hl : L.length = n) (g : gi L i = some y) :
    ldv false 1 h (Addr.add a (Int.toNat i * 1)) = some (f y) := ldArr (off := 0) s hc hs hl g
theorem arr_set {i : Int} {v : α} (hl : L.length = n) : ((List.range n).map fun j => f (L.getD j d)).set i.toNat (f v) = (List.range n).map fun j => f ((L.set i.toNat v).getD j d) := by
  rw [arr_lit hl, arr_lit (by rw [List.length_set]; exact hl), List.map_set]
theorem OB.stArr {W : Nat → Prop} {h0 h m : Heap} {b off : Nat} {cs : List Value} {t : TypeId} {i : Int} {y v : α} (o : OB W h0 h m b cs t) (s : Sub m h) (hs : (cs.drop off).take n = (List.range n).map fun j => f (L.getD j d)) (hn : off + n ≤ cs.length) (hl : L.length = n) (g : gi L i = some y) (hf : Flat (f v)) :
    ∃ h', st1 h (Addr.add (Addr.add ⟨b, 0, none⟩ off) (Int.toNat i * 1)) (f v) = some h' ∧ OB W h0 h' m b (cs.take off ++ ((List.range n).map fun j => f ((L.set (Int.toNat i) v).getD j d)) ++ cs.drop (off + n)) t ∧ St (fb b) h m h' m := by
  have hlt : i.toNat < n := by have := gi_ltN g; omega
  rw [Nat.mul_one, add_add]
  obtain ⟨h', h1, h2, h3⟩ := o.st (k := off + i.toNat) (v := f v) s (by omega) hf
  refine ⟨h', h1, ?_, h3⟩
  have e : cs.set (off + i.toNat) (f v) = cs.take off ++ ((List.range n).map fun j => f ((L.set (Int.toNat i) v).getD j d)) ++ cs.drop (off + n) := by
    rw [← arr_set hl, ← hs]
    conv => lhs; rw [← List.take_append_drop off cs, List.set_append_right _ _ (by rw [List.length_take]; omega)]
    rw [show off + i.toNat - (cs.take off).length = i.toNat by rw [List.length_take]; omega, List.append_assoc]
    congr 1
    conv => lhs; rw [← List.take_append_drop n (cs.drop off), List.set_append_left _ _ (by rw [List.length_take, List.length_drop]; omega), List.drop_drop]
  rw [← e]; exact h2
theorem OB.stArr0 {W : Nat → Prop} {h0 h m : Heap} {b : Nat} {cs : List Value} {t : TypeId} {i : Int} {y v : α} (o : OB W h0 h m b cs t) (s : Sub m h) (hs : (cs.drop 0).take n = (List.range n).map fun j => f (L.getD j d)) (hn : 0 + n ≤ cs.length) (hl : L.length = n) (g : gi L i = some y) (hf : Flat (f v)) :
    ∃ h', st1 h (Addr.add ⟨b, 0, none⟩ (Int.toNat i * 1)) (f v) = some h' ∧ OB W h0 h' m b (cs.take 0 ++ ((List.range n).map fun j => f ((L.set (Int.toNat i) v).getD j d)) ++ cs.drop (0 + n)) t ∧ St (fb b) h m h' m := o.stArr (off := 0) s hs hn hl g hf
end
section
variable {H : Type} {enc : TypeId × Value → H} {P : Program} {W : World}
theorem tells_i64 {t : TypeId} (hu : P.underlying t = some (.int .i64)) : Tells enc P W t (eInt .i64) (fun x => -9223372036854775808 ≤ x ∧ x ≤ 9223372036854775807) := tells_map (tells_int hu) fun a _ h q => ⟨a, h, wf_i64 q⟩
theorem tells_sliceL {α : Type} {t e : TypeId} {sz B : Nat} {E : Heap → α → List Value → Prop} {Q : α → Prop} (hu : P.underlying t = some (.slice e)) (hc : P.cellsOf e = sz) (hB : P.bytesOf e = B) (he : Tells enc P W e E Q) :
    Tells enc P W t (eRow sz E) (fun l => l.length * B ≤ 140737488351232 ∧ ∀ a ∈ l, Q a) := tells_map (tells_slice hu hc hB he) fun a _ h q => ⟨a, h, q⟩
end
end Go.Hw

end
section
namespace Go.Hw
open Go
section
variable {α β : Type}
theorem ap_of {B : Nat} {l xs : List α} (h : (l.length + xs.length) * B ≤ 140737488355328) : ap B l xs = some (l ++ xs) := by unfold ap; rw [if_pos h]
theorem ap_one {B : Nat} {l : List α} {x : α} (h : (l.length + 1) * B ≤ 140737488355328) : ap B l [x] = some (l ++ [x]) := ap_of (by simpa using h)
theorem gi_some {l : List α} {k : Nat} {x : Int} {y : α} (hx : x = k) (h : l[k]? = some y) : gi l x = some y := by subst hx; rw [gi_nat]; exact h
theorem gi_at {l : List α} {k : Nat} (h : k < l.length) : gi l (k : Int) = some l[k] := by rw [gi_nat]; exact List.getElem?_eq_getElem h
theorem sls_of {l : List α} {lo hi : Int} (h1 : 0 ≤ lo) (h2 : lo ≤ hi) (h3 : hi ≤ (l.length : Int)) : sls l lo hi = some (sl l lo hi) := by unfold sls; rw [if_pos ⟨h1, h2, h3⟩]
theorem sls_take {l : List α} {k : Nat} {x : Int} (hx : x = k) (h : k ≤ l.length) : sls l 0 x = some (l.take k) := by subst hx; rw [sls_of (by omega) (by omega) (by omega), sl_hi]; rfl
theorem mks_of {B : Int} {z : α} {k : Nat} {x : Int} (hx : x = k) (h : (k : Int) * B ≤ 140737488355328) (h2 : (k : Int) ≤ 9223372036854775807) : mks B x z = some (List.replicate k z) := by subst hx; unfold mks; rw [if_pos ⟨by omega, h, h2⟩]; rfl
theorem w_succ {k : Nat} (h : k < 9223372036854775807) : IntKind.wrap .i64 ((k : Int) + 1) = ((k + 1 : Nat) : Int) := by rw [wrap_in (by omega) (by omega)]; rfl
theorem find_val {f : List α → (α → Option Bool) → Int → Int → Option Int}
    (hf : ∀ a p n i, f a p n i = if i < n then (Option.bind (gi a i) fun y => Option.bind (p y) fun b => if b = true then some i else f a p n (IntKind.wrap .i64 (i + 1))) else some (-1))
    {l : List α} {p : α → Option Bool} (q : α → Bool) (hp : ∀ x ∈ l, p x = some (q x)) (hl : l.length ≤ 4611686018427387904) : f l p (l.length : Int) 0 = some (idxOf q l) := by
  have key : ∀ (d k : Nat), k + d = l.length → (∀ x ∈ l.take k, q x = false) → f l p (l.length : Int) (k : Int) = some (idxOf q l) := by
    intro d
    induction d with
    | zero =>
      intro k hk hn
      rw [hf, if_neg (by omega)]
      have : l.findIdx? q = none := by
        rw [List.findIdx?_eq_none_iff]
        rw [List.take_of_length_le (by omega)] at hn
        exact hn
      simp [idxOf, this]
    | succ d ih =>
      intro k hk hn
      have hlt : k < l.length := by omega
      rw [hf, if_pos (by omega), gi_at hlt, Option.bind_some, hp _ (List.getElem_mem hlt), Option.bind_some]
      by_cases hq : q l[k] = true
      · rw [if_pos hq]
        have : l.findIdx? q = some k := by
          rw [List.findIdx?_eq_some_iff_getElem]
          refine ⟨hlt, hq, fun j hj => ?_⟩
          have := hn l[j] (by rw [List.mem_take_iff_getElem]; exact ⟨j, by omega, rfl⟩)
          simp [this]
        simp [idxOf, this]
      · rw [if_neg hq, w_succ (by omega)]
        refine ih (k + 1) (by omega) (fun x hx => ?_)
        rw [List.take_succ_eq_append_getElem hlt] at hx
        rcases List.mem_append.1 hx with hx | hx
        · exact hn x hx
        · simp at hx; subst hx; simpa using hq
  exact key l.length 0 (by omega) (fun x hx => by simp at hx)
theorem findB_val {f : List α → (α → Option Bool) → Int → Int → Option Int} {g : List α → (α → Option Bool) → Option Int} {c : List α → (α → Option Bool) → Option Bool}
    (hf : ∀ a p n i, f a p n i = if i < n then (Option.bind (gi a i) fun y => Option.bind (p y) fun b => if b = true then some i else f a p n (IntKind.wrap .i64 (i + 1))) else some (-1))
    (hg : ∀ a p, g a p = f a p (a.length : Int) 0) (hc : ∀ a p, c a p = Option.bind (g a p) fun y => some (decide (y ≥ 0)))
    {l : List α} {p : α → Option Bool} (q : α → Bool) (hp : ∀ x ∈ l, p x = some (q x)) (hl : l.length ≤ 4611686018427387904) : c l p = some (l.any q) := by
  rw [hc, hg, find_val hf q hp hl, Option.bind_some, idxOf_ge]
end
section
open Go.RowKit
variable {H : Type} {enc : TypeId × Value → H} {P : Program} {W : World} {N : Nat}
end
end Go.Hw

end
section
set_option linter.unusedVariables false
namespace Go.Hw
open Go
abbrev Foot := Nat → Prop
def U (F G : Foot) : Foot := fun b => F b ∨ G b
section
variable {F G H F' G' : Foot}
theorem U.no_left : U No F = F := funext fun _ => propext ⟨fun h => h.elim (fun h => h.elim) id, .inr⟩
theorem U.no_right : U F No = F := funext fun _ => propext ⟨fun h => h.elim id (fun h => h.elim), .inl⟩
theorem U.assoc : U (U F G) H = U F (U G H) := funext fun _ => propext or_assoc
theorem U.comm : U F G = U G F := funext fun _ => propext or_comm
theorem U.left_comm : U F (U G H) = U G (U F H) := by rw [← U.assoc, U.comm (F := F), U.assoc]
theorem Dj.u (d : Dj F H) (d' : Dj G H) : Dj (U F G) H := fun b h k => h.elim (fun h => d b h k) (fun h => d' b h k)
theorem Dj.ul (d : Dj (U F G) H) : Dj F H := fun b h k => d b (.inl h) k
theorem Dj.ur (d : Dj (U F G) H) : Dj G H := fun b h k => d b (.inr h) k
theorem Dj.u' (d : Dj H F) (d' : Dj H G) : Dj H (U F G) := fun b k h => h.elim (fun h => d b k h) (fun h => d' b k h)
theorem Dj.ul' (d : Dj H (U F G)) : Dj H F := fun b k h => d b k (.inl h)
theorem Dj.ur' (d : Dj H (U F G)) : Dj H G := fun b k h => d b k (.inr h)
theorem Dj.no' : Dj F No := fun _ _ h => h
theorem Dj.mono (d : Dj F G) (h1 : ∀ b, F' b → F b) (h2 : ∀ b, G' b → G b) : Dj F' G' := fun b k l => d b (h1 b k) (h2 b l)
end
structure Res where
  p : Heap → Heap → Foot → Prop
  z : Heap → Prop
  lt : ∀ {h m F}, p h m F → ∀ b, F b → b < h.size
  nl : ∀ {h m F}, p h m F → ∀ b, F b → ¬ Live m b
  fr : ∀ {h m F h' m'}, p h m F → (∀ b, F b → h'[b]? = h[b]?) → Sub m m' → (∀ b, F b → ¬ Live m' b) → p h' m' F
  fz : ∀ {h m F G}, p h m F → Sub m h → (∀ b, F b → G b) → z (addV m h G)
def Res.vf (R : Res) : Prop := ∀ h m m' F, R.p h m F → Sub m' h → (∀ b, F b → ¬ Live m' b) → R.p h m' F
def rE : Res where
  p _ _ F := F = No
  z _ := True
  lt := by rintro h m F rfl b hb; exact hb.elim
  nl := by rintro h m F rfl b hb; exact hb.elim
  fr := fun h _ _ _ => h
  fz := fun _ _ _ => trivial
def Sep : List Res → Heap → Heap → Foot → Prop
  | [], _, _, F => F = No
  | R :: Rs, h, m, F => ∃ F1 F2, R.p h m F1 ∧ Sep Rs h m F2 ∧ Dj F1 F2 ∧ F = U F1 F2
def ZAll (m : Heap) : List Res → Prop
  | [] => True
  | R :: Rs => R.z m ∧ ZAll m Rs
def takeL : List Res → List Nat → List Res
  | _, [] => []
  | Rs, i :: is => (match Rs[i]? with | some R => R | none => rE) :: takeL (Rs.set i rE) is
def dropL : List Res → List Nat → List Res
  | Rs, [] => Rs
  | Rs, i :: is => dropL (Rs.set i rE) is
section
variable {h h' m m' : Heap} {F F1 F2 G : Foot} {Rs Rs' : List Res} {R R' : Res} {k : Nat}
theorem Sep.lt : ∀ {Rs : List Res} {F : Foot}, Sep Rs h m F → ∀ b, F b → b < h.size
  | [], _, hs, b, hb => by rw [show _ = No from hs] at hb; exact hb.elim
  | _ :: _, _, ⟨_, _, h1, h2, _, rfl⟩, b, hb => hb.elim (Res.lt _ h1 b) (Sep.lt h2 b)
theorem Sep.nl : ∀ {Rs : List Res} {F : Foot}, Sep Rs h m F → ∀ b, F b → ¬ Live m b
  | [], _, hs, b, hb => by rw [show _ = No from hs] at hb; exact hb.elim
  | _ :: _, _, ⟨_, _, h1, h2, _, rfl⟩, b, hb => hb.elim (Res.nl _ h1 b) (Sep.nl h2 b)
theorem Sep.fr : ∀ {Rs : List Res} {F : Foot}, Sep Rs h m F → (∀ b, F b → h'[b]? = h[b]?) → Sub m m' → (∀ b, F b → ¬ Live m' b) → Sep Rs h' m' F
  | [], _, hs, _, _, _ => hs
  | _ :: _, _, ⟨F1, F2, h1, h2, h3, rfl⟩, k1, k2, k3 => ⟨F1, F2, Res.fr _ h1 (fun b hb => k1 b (.inl hb)) k2 (fun b hb => k3 b (.inl hb)), Sep.fr h2 (fun b hb => k1 b (.inr hb)) k2 (fun b hb => k3 b (.inr hb)), h3, rfl⟩
theorem Sep.fz : ∀ {Rs : List Res} {F : Foot}, Sep Rs h m F → Sub m h → (∀ b, F b → G b) → ZAll (addV m h G) Rs
  | [], _, _, _, _ => trivial
  | _ :: _, _, ⟨F1, F2, h1, h2, h3, rfl⟩, k1, k2 => ⟨Res.fz _ h1 k1 (fun b hb => k2 b (.inl hb)), Sep.fz h2 k1 (fun b hb => k2 b (.inr hb))⟩
theorem Sep.vf : ∀ {Rs : List Res} {F : Foot}, Sep Rs h m F → (∀ R ∈ Rs, R.vf) → Sub m' h → (∀ b, F b → ¬ Live m' b) → Sep Rs h m' F
  | [], _, hs, _, _, _ => hs
  | R :: Rs, _, ⟨F1, F2, h1, h2, h3, rfl⟩, v, k1, k2 => ⟨F1, F2, v R (List.mem_cons_self ..) _ _ _ _ h1 k1 (fun b hb => k2 b (.inl hb)), Sep.vf h2 (fun R hR => v R (List.mem_cons_of_mem _ hR)) k1 (fun b hb => k2 b (.inr hb)), h3, rfl⟩
theorem Sep.get : ∀ {Rs : List Res} {F : Foot} {k : Nat}, Sep Rs h m F → Rs[k]? = some R → ∃ F1 F2, R.p h m F1 ∧ Sep (Rs.set k rE) h m F2 ∧ Dj F1 F2 ∧ F = U F1 F2
  | [], _, _, _, hk => by cases hk
  | R' :: Rs, _, 0, ⟨F1, F2, h1, h2, h3, e⟩, hk => by
    cases hk
    exact ⟨F1, F2, h1, ⟨No, F2, rfl, h2, .no, U.no_left.symm⟩, h3, e⟩
  | R' :: Rs, _, k + 1, ⟨F1, F2, h1, h2, h3, e⟩, hk => by
    obtain ⟨G1, G2, k1, k2, k3, rfl⟩ := Sep.get h2 (show Rs[k]? = some R by simpa using hk)
    refine ⟨G1, U F1 G2, k1, ⟨F1, G2, h1, k2, h3.ur', rfl⟩, ?_, ?_⟩
    · exact Dj.u' h3.ul'.symm k3
    · rw [e, U.left_comm]
theorem Sep.put : ∀ {Rs : List Res} {F2 : Foot} {k : Nat}, Sep Rs h m F2 → Rs[k]? = some rE → R'.p h m F1 → Dj F1 F2 → Sep (Rs.set k R') h m (U F1 F2)
  | [], _, _, _, hk, _, _ => by cases hk
  | R :: Rs, _, 0, ⟨G1, G2, h1, h2, h3, e⟩, hk, hp, d => by
    cases hk
    have : G1 = No := h1
    subst this
    rw [U.no_left] at e
    subst e
    exact ⟨F1, _, hp, h2, d, rfl⟩
  | R :: Rs, _, k + 1, ⟨G1, G2, h1, h2, h3, e⟩, hk, hp, d => by
    subst e
    have := Sep.put h2 (show Rs[k]? = some rE by simpa using hk) hp d.ur'
    exact ⟨G1, _, h1, this, Dj.u' d.ul'.symm h3, by rw [U.left_comm]⟩
theorem Sep.app : ∀ {Rs : List Res} {F : Foot}, Sep Rs h m F → Sep Rs' h m G → Dj F G → Sep (Rs ++ Rs') h m (U F G)
  | [], _, hs, hs', _ => by rw [show _ = No from hs, U.no_left]; exact hs'
  | R :: Rs, _, ⟨F1, F2, h1, h2, h3, e⟩, hs', d => by
    subst e
    exact ⟨F1, _, h1, Sep.app h2 hs' d.ur, Dj.u' h3 d.ul, U.assoc⟩
theorem Sep.one (hp : R.p h m F) : Sep [R] h m F := ⟨F, No, hp, rfl, .no', U.no_right.symm⟩
theorem set_rE (hk : Rs[k]? = some R) : (Rs.set k rE)[k]? = some rE := by
  have : k < Rs.length := (List.getElem?_eq_some_iff.1 hk).1
  rw [List.getElem?_set_self this]
theorem Sep.part : ∀ (is : List Nat) {Rs : List Res} {F : Foot}, Sep Rs h m F → ∃ F1 F2, Sep (takeL Rs is) h m F1 ∧ Sep (dropL Rs is) h m F2 ∧ Dj F1 F2 ∧ F = U F1 F2
  | [], Rs, F, hs => ⟨No, F, rfl, hs, .no, U.no_left.symm⟩
  | i :: is, Rs, F, hs => by
    cases hi : Rs[i]? with
    | none =>
      have : Rs.set i rE = Rs := List.set_eq_of_length_le (List.getElem?_eq_none_iff.1 hi)
      obtain ⟨F1, F2, h1, h2, h3, h4⟩ := Sep.part is (Rs := Rs.set i rE) (by rw [this]; exact hs)
      refine ⟨F1, F2, ?_, h2, h3, h4⟩
      simp only [takeL, hi]
      exact ⟨No, F1, rfl, h1, .no, U.no_left.symm⟩
    | some R =>
      obtain ⟨G1, G2, k1, k2, k3, rfl⟩ := Sep.get hs hi
      obtain ⟨F1, F2, h1, h2, h3, rfl⟩ := Sep.part is k2
      refine ⟨U G1 F1, F2, ?_, h2, Dj.u k3.ur' h3, U.assoc.symm⟩
      simp only [takeL, hi]
      exact ⟨G1, F1, k1, h1, k3.ul', rfl⟩
end
structure Hold (W : Foot) (h0 m0 h m : Heap) (Rs : List Res) : Prop where
  S : St W h0 m0 h m
  q : ∃ F, Sep Rs h m F ∧ ∀ b, F b → h0.size ≤ b ∨ W b
section
variable {h0 m0 h h' m m' : Heap} {W F F' G : Foot} {Rs Rs' : List Res} {R R' : Res} {k : Nat}
theorem Hold.s (O : Hold W h0 m0 h m Rs) : Sub m h := O.S.s
theorem Hold.up (O : Hold W h0 m0 h m Rs) : Sub m0 m := O.S.up
theorem Hold.start (s : Sub m h) : Hold W h m h m [] := ⟨.refl s, No, rfl, fun _ h => h.elim⟩
theorem St.frame (T : St F h m h' m') (h2 : Dj F G) (h3 : ∀ b, G b → b < h.size) (h4 : ∀ b, G b → ¬ Live m b) : (∀ b, G b → h'[b]? = h[b]?) ∧ ∀ b, G b → ¬ Live m' b :=
  ⟨fun b hb => T.fr b (h3 b hb) (fun hf => h2 b hf hb), fun b hb hl => (T.lv b (h3 b hb) hl).elim (h4 b hb) (fun hf => h2 b hf hb)⟩
theorem Hold.get (O : Hold W h0 m0 h m Rs) (k : Nat) (hk : Rs[k]? = some R) : ∃ F, R.p h m F ∧ (∀ b, F b → h0.size ≤ b ∨ W b) ∧
    ∀ {h' m' : Heap} {R' : Res} {F' : Foot}, St F h m h' m' → R'.p h' m' F' → (∀ b, F' b → F b ∨ h.size ≤ b) → Hold W h0 m0 h' m' (Rs.set k R') := by
  obtain ⟨S, FF, hs, hw⟩ := O
  obtain ⟨F1, F2, h1, h2, h3, rfl⟩ := hs.get hk
  refine ⟨F1, h1, fun b hb => hw b (.inl hb), fun {h' m' R' F'} T hp hn => ?_⟩
  obtain ⟨f1, f2⟩ := T.frame h3 h2.lt h2.nl
  have s2 := Sep.fr h2 f1 T.up f2
  have d : Dj F' F2 := fun b hb hc => (hn b hb).elim (fun hf => h3 b hf hc) (fun hl => by have := h2.lt b hc; omega)
  have := Sep.put s2 (set_rE hk) hp d
  rw [List.set_set] at this
  refine ⟨S.then T (fun b _ hb => hw b (.inl hb)), _, this, fun b hb => hb.elim (fun hb => (hn b hb).elim (fun hf => hw b (.inl hf)) (fun hl => .inl (Nat.le_trans S.size hl))) (fun hb => hw b (.inr hb))⟩
theorem Hold.add (O : Hold W h0 m0 h m Rs) (T : St No h m h' m') (hp : R.p h' m' F') (hn : ∀ b, F' b → h.size ≤ b) : Hold W h0 m0 h' m' (Rs ++ [R]) := by
  obtain ⟨S, F, hs, hw⟩ := O
  obtain ⟨f1, f2⟩ := T.frame (G := F) .no hs.lt hs.nl
  refine ⟨S.grow T, _, (Sep.fr hs f1 T.up f2).app (.one hp) (fun b hb hc => by have := hs.lt b hb; have := hn b hc; omega), fun b hb => hb.elim (hw b) (fun hb => .inl (Nat.le_trans S.size (hn b hb)))⟩
theorem Hold.grow (O : Hold W h0 m0 h m Rs) (T : St No h m h' m') : Hold W h0 m0 h' m' Rs := by
  obtain ⟨S, F, hs, hw⟩ := O
  obtain ⟨f1, f2⟩ := T.frame (G := F) .no hs.lt hs.nl
  exact ⟨S.grow T, F, Sep.fr hs f1 T.up f2, hw⟩
theorem Hold.ext (O : Hold W h0 m0 h m Rs) (e : Ext h h') : Hold W h0 m0 h' m Rs := O.grow (St.of_ext O.s e)
theorem Hold.conv (O : Hold W h0 m0 h m Rs) (k : Nat) (hk : Rs[k]? = some R) (H : ∀ F, R.p h m F → ∃ F', R'.p h m F' ∧ ∀ b, F' b → F b) : Hold W h0 m0 h m (Rs.set k R') := by
  obtain ⟨F, h1, _, h3⟩ := O.get k hk
  obtain ⟨F', h4, h5⟩ := H F h1
  exact h3 (.refl O.s) h4 (fun b hb => .inl (h5 b hb))
theorem Hold.cut (O : Hold W h0 m0 h m Rs) (k : Nat) (hk : Rs[k]? = some R) {R1 R2 : Res} (H : ∀ F, R.p h m F → ∃ F1 F2, R1.p h m F1 ∧ R2.p h m F2 ∧ Dj F1 F2 ∧ ∀ b, U F1 F2 b → F b) : Hold W h0 m0 h m (Rs.set k R1 ++ [R2]) := by
  obtain ⟨S, FF, hs, hw⟩ := O
  obtain ⟨F1, F2, h1, h2, h3, rfl⟩ := hs.get hk
  obtain ⟨G1, G2, k1, k2, k3, k4⟩ := H F1 h1
  have := Sep.put h2 (set_rE hk) k1 (h3.mono (fun b hb => k4 b (.inl hb)) (fun _ h => h))
  rw [List.set_set] at this
  refine ⟨S, _, this.app (.one k2) (Dj.u k3 (fun b hb hc => h3 b (k4 b (.inr hc)) hb)), fun b hb => ?_⟩
  rcases hb with (hb | hb) | hb
  · exact hw b (.inl (k4 b (.inl hb)))
  · exact hw b (.inr hb)
  · exact hw b (.inl (k4 b (.inr hb)))
theorem Hold.fuse (O : Hold W h0 m0 h m Rs) (k j : Nat) {R1 R2 : Res} (hk : Rs[k]? = some R1) (hj : (Rs.set k rE)[j]? = some R2) (H : ∀ F1 F2, R1.p h m F1 → R2.p h m F2 → Dj F1 F2 → ∃ F', R'.p h m F' ∧ ∀ b, F' b → U F1 F2 b) : Hold W h0 m0 h m (((Rs.set k rE).set j rE).set k R') := by
  obtain ⟨S, FF, hs, hw⟩ := O
  obtain ⟨F1, F2, h1, h2, h3, rfl⟩ := hs.get hk
  obtain ⟨G1, G2, k1, k2, k3, rfl⟩ := h2.get hj
  obtain ⟨F', h4, h5⟩ := H F1 G1 h1 k1 h3.ul'
  have hk2 : ((Rs.set k rE).set j rE)[k]? = some rE := by
    have hlt : k < Rs.length := (List.getElem?_eq_some_iff.1 hk).1
    by_cases e : j = k
    · subst e; rw [List.getElem?_set_self (by simpa using hlt)]
    · rw [List.getElem?_set_ne e]; exact set_rE hk
  have d : Dj F' G2 := fun b hb hc => (h5 b hb).elim (fun hb => h3 b hb (.inr hc)) (fun hb => k3 b hb hc)
  refine ⟨S, _, Sep.put k2 hk2 h4 d, fun b hb => hb.elim (fun hb => (h5 b hb).elim (fun hb => hw b (.inl hb)) (fun hb => hw b (.inr (.inl hb)))) (fun hb => hw b (.inr (.inr hb)))⟩
theorem Hold.pick (O : Hold W h0 m0 h m Rs) (is : List Nat) : Hold W h0 m0 h m (takeL Rs is) := by
  obtain ⟨S, F, hs, hw⟩ := O
  obtain ⟨F1, F2, h1, h2, h3, rfl⟩ := hs.part is
  exact ⟨S, F1, h1, fun b hb => hw b (.inl hb)⟩
theorem Hold.call (O : Hold W h0 m0 h m Rs) (is : List Nat) : ∃ W', Hold W' h m h m (takeL Rs is) ∧ ∀ {h' m' : Heap} {Rs' : List Res}, Hold W' h m h' m' Rs' → Hold W h0 m0 h' m' (dropL Rs is ++ Rs') := by
  obtain ⟨S, F, hs, hw⟩ := O
  obtain ⟨F1, F2, h1, h2, h3, rfl⟩ := hs.part is
  refine ⟨F1, ⟨.refl S.s, F1, h1, fun b hb => .inr hb⟩, fun {h' m' Rs'} O' => ?_⟩
  obtain ⟨T, F', hs', hw'⟩ := O'
  obtain ⟨f1, f2⟩ := T.frame h3 h2.lt h2.nl
  refine ⟨S.then T (fun b _ hb => hw b (.inl hb)), _, (Sep.fr h2 f1 T.up f2).app hs' (fun b hb hc => (hw' b hc).elim (fun hl => by have := h2.lt b hb; omega) (fun hf => h3 b hf hb)), fun b hb => hb.elim (fun hb => hw b (.inr hb)) (fun hb => (hw' b hb).elim (fun hl => .inl (Nat.le_trans S.size hl)) (fun hf => hw b (.inl hf)))⟩
theorem Hold.lend (O : Hold W h0 m0 h m Rs) (is ls : List Nat) : ∃ m1 W', Sub m m1 ∧ Hold W' h m1 h m1 (takeL Rs is) ∧ ZAll m1 (takeL (dropL Rs is) ls) ∧
    (∀ {h' m' : Heap} {Rs' : List Res}, Hold W' h m1 h' m' Rs' → Hold W h0 m0 h' m' (dropL (dropL Rs is) ls ++ Rs')) ∧
    (∀ {h' m' : Heap} {Rs' : List Res}, Hold W' h m1 h' m' Rs' → (∀ R ∈ Rs', R.vf) → Hold W h0 m0 h' m (dropL Rs is ++ Rs')) := by
  obtain ⟨S, F, hs, hw⟩ := O
  obtain ⟨F1, F2, h1, h2, h3, rfl⟩ := hs.part is
  obtain ⟨F3, F4, k1, k2, k3, rfl⟩ := h2.part ls
  have hl : ∀ b, Live (addV m h F3) b → Live m b ∨ F3 b := fun b h => (addV_live h).1
  have n1 : ∀ b, F1 b → ¬ Live (addV m h F3) b := fun b hb hv => (hl b hv).elim (h1.nl b hb) (fun hf => h3 b hb (.inl hf))
  have n4 : ∀ b, F4 b → ¬ Live (addV m h F3) b := fun b hb hv => (hl b hv).elim (k2.nl b hb) (fun hf => k3 b hf hb)
  refine ⟨addV m h F3, F1, addV_up S.s, ⟨.refl addV_sub, F1, Sep.fr h1 (fun _ _ => rfl) (addV_up S.s) n1, fun b hb => .inr hb⟩, k1.fz S.s (fun _ h => h), fun {h' m' Rs'} O' => ?_, fun {h' m' Rs'} O' v => ?_⟩
  · obtain ⟨T, F', hs', hw'⟩ := O'
    have k4 := Sep.fr k2 (fun _ _ => rfl) (addV_up S.s) n4
    obtain ⟨f1, f2⟩ := T.frame h3.ur' k2.lt n4
    refine ⟨(S.then (St.settle S.s F3) (fun b _ hb => hw b (.inr (.inl hb)))).then T (fun b _ hb => hw b (.inl hb)), _, (Sep.fr k4 f1 T.up f2).app hs' (fun b hb hc => (hw' b hc).elim (fun hl => by have := k2.lt b hb; omega) (fun hf => h3 b hf (.inr hb))), fun b hb => hb.elim (fun hb => hw b (.inr (.inr hb))) (fun hb => (hw' b hb).elim (fun hl => .inl (Nat.le_trans S.size hl)) (fun hf => hw b (.inl hf)))⟩
  · obtain ⟨T, F', hs', hw'⟩ := O'
    have T' : St F1 h m h' m := T.unlend S.s h1.nl
    obtain ⟨f1, f2⟩ := T'.frame h3 h2.lt h2.nl
    have n' : ∀ b, F' b → ¬ Live m b := fun b hb hv => (hw' b hb).elim (fun hl => by have := S.s.lt hv; omega) (fun hf => h1.nl b hf hv)
    refine ⟨S.then T' (fun b _ hb => hw b (.inl hb)), _, (Sep.fr h2 f1 T'.up f2).app (hs'.vf v T'.s n') (fun b hb hc => (hw' b hc).elim (fun hl => by have := h2.lt b hb; omega) (fun hf => h3 b hf hb)), fun b hb => hb.elim (fun hb => hw b (.inr hb)) (fun hb => (hw' b hb).elim (fun hl => .inl (Nat.le_trans S.size hl)) (fun hf => hw b (.inl hf)))⟩
theorem Hold.frz (O : Hold W h0 m0 h m Rs) (k : Nat) (hk : Rs[k]? = some R) : ∃ m', Sub m m' ∧ R.z m' ∧ Hold W h0 m0 h m' (Rs.set k rE) := by
  obtain ⟨m1, W', h1, h2, h3, h4, _⟩ := O.lend [] [k]
  refine ⟨m1, h1, ?_, ?_⟩
  · have : takeL (dropL Rs []) [k] = [R] := by simp only [takeL, dropL, hk]
    rw [this] at h3
    exact h3.1
  · have := h4 h2
    simp only [takeL, dropL, List.append_nil] at this
    exact this
end
end Go.Hw

end
section
set_option linter.unusedVariables false
namespace Go.Hw
open Go
structure Asn (α : Type) (sz : Nat) where
  p : Heap → Heap → α → List Value → Foot → Prop
  E : Heap → α → List Value → Prop
  T : Tell sz E
  len : ∀ {h m x cs F}, p h m x cs F → cs.length = sz
  flat : ∀ {h m x cs F}, p h m x cs F → ∀ v ∈ cs, Flat v
  lt : ∀ {h m x cs F}, p h m x cs F → ∀ b, F b → b < h.size
  nl : ∀ {h m x cs F}, p h m x cs F → ∀ b, F b → ¬ Live m b
  fr : ∀ {h m x cs F h' m'}, p h m x cs F → (∀ b, F b → h'[b]? = h[b]?) → Sub m m' → (∀ b, F b → ¬ Live m' b) → p h' m' x cs F
  fz : ∀ {h m x cs F G}, p h m x cs F → Sub m h → (∀ b, F b → G b) → E (addV m h G) x cs
def aE {α : Type} {sz : Nat} {E : Heap → α → List Value → Prop} (T : Tell sz E) : Asn α sz where
  p _ m x cs F := E m x cs ∧ F = No
  E := E
  T := T
  len h := T.len _ _ _ h.1
  flat h := T.flat _ _ _ h.1
  lt := by rintro h m x cs F ⟨_, rfl⟩ b hb; exact hb.elim
  nl := by rintro h m x cs F ⟨_, rfl⟩ b hb; exact hb.elim
  fr := fun h _ s _ => ⟨T.mono _ _ _ _ s h.1, h.2⟩
  fz := fun h s _ => T.mono _ _ _ _ (addV_up s) h.1
def Asn.vf {α : Type} {sz : Nat} (a : Asn α sz) : Prop := ∀ h m m' x cs F, a.p h m x cs F → Sub m' h → (∀ b, F b → ¬ Live m' b) → a.p h m' x cs F
theorem aE_vf {α : Type} {sz : Nat} {E : Heap → α → List Value → Prop} {T : Tell sz E} (hE : ∀ m m' x cs, E m x cs → E m' x cs) : (aE T).vf := fun _ _ _ _ _ _ h _ _ => ⟨hE _ _ _ _ h.1, h.2⟩
theorem Blk.fr {h h' : Heap} {b : Nat} {c : List Value} {t : TypeId} (hb : Blk h b c t) (e : h'[b]? = h[b]?) : Blk h' b c t := by unfold Blk at *; rw [e]; exact hb
def rV (b : Nat) (t : TypeId) (cs : List Value) : Res where
  p h m F := Blk h b cs t ∧ ¬ Live m b ∧ F = fb b
  z m := Blk m b cs t
  lt := by rintro h m F ⟨h1, _, rfl⟩ i hi; unfold fb at hi; subst hi; exact h1.lt
  nl := by rintro h m F ⟨h1, h2, rfl⟩ i hi; unfold fb at hi; subst hi; exact h2
  fr := by rintro h m F h' m' ⟨h1, h2, rfl⟩ k1 _ k3; exact ⟨h1.fr (k1 b rfl), k3 b rfl, rfl⟩
  fz := by rintro h m F G ⟨h1, h2, rfl⟩ _ k2; exact h1.settle (k2 b rfl)
section
variable {α : Type} {sz : Nat}
def CsA (a : Asn α sz) (h m : Heap) : List α → List Value → Foot → Prop
  | [], cs, F => cs = [] ∧ F = No
  | x :: l, cs, F => ∃ c1 c2 F1 F2, cs = c1 ++ c2 ∧ a.p h m x c1 F1 ∧ CsA a h m l c2 F2 ∧ Dj F1 F2 ∧ F = U F1 F2
variable {a : Asn α sz} {h h' m m' : Heap} {l l' : List α} {cs ds : List Value} {F F' F1 F2 G : Foot} {x y : α}
theorem CsA.len : ∀ {l : List α} {cs : List Value} {F : Foot}, CsA a h m l cs F → cs.length = l.length * sz
  | [], _, _, ⟨e, _⟩ => by rw [e]; simp
  | x :: l, _, _, ⟨c1, c2, F1, F2, e, h1, h2, _, _⟩ => by rw [e, List.length_append, CsA.len h2, a.len h1, List.length_cons, Nat.succ_mul, Nat.add_comm]
theorem CsA.flat : ∀ {l : List α} {cs : List Value} {F : Foot}, CsA a h m l cs F → ∀ v ∈ cs, Flat v
  | [], _, _, ⟨e, _⟩ => by rw [e]; exact Flats.nil
  | x :: l, _, _, ⟨c1, c2, F1, F2, e, h1, h2, _, _⟩ => by
    rw [e]; intro v hv
    rcases List.mem_append.1 hv with hv | hv
    · exact a.flat h1 v hv
    · exact CsA.flat h2 v hv
theorem CsA.lt : ∀ {l : List α} {cs : List Value} {F : Foot}, CsA a h m l cs F → ∀ b, F b → b < h.size
  | [], _, _, ⟨_, e⟩, b, hb => by rw [e] at hb; exact hb.elim
  | x :: l, _, _, ⟨c1, c2, F1, F2, _, h1, h2, _, rfl⟩, b, hb => hb.elim (a.lt h1 b) (CsA.lt h2 b)
theorem CsA.nl : ∀ {l : List α} {cs : List Value} {F : Foot}, CsA a h m l cs F → ∀ b, F b → ¬ Live m b
  | [], _, _, ⟨_, e⟩, b, hb => by rw [e] at hb; exact hb.elim
  | x :: l, _, _, ⟨c1, c2, F1, F2, _, h1, h2, _, rfl⟩, b, hb => hb.elim (a.nl h1 b) (CsA.nl h2 b)
theorem CsA.fr : ∀ {l : List α} {cs : List Value} {F : Foot}, CsA a h m l cs F → (∀ b, F b → h'[b]? = h[b]?) → Sub m m' → (∀ b, F b → ¬ Live m' b) → CsA a h' m' l cs F
  | [], _, _, hs, _, _, _ => hs
  | x :: l, _, _, ⟨c1, c2, F1, F2, e, h1, h2, d, rfl⟩, k1, k2, k3 => ⟨c1, c2, F1, F2, e, a.fr h1 (fun b hb => k1 b (.inl hb)) k2 (fun b hb => k3 b (.inl hb)), CsA.fr h2 (fun b hb => k1 b (.inr hb)) k2 (fun b hb => k3 b (.inr hb)), d, rfl⟩
theorem CsA.vf (v : a.vf) : ∀ {l : List α} {cs : List Value} {F : Foot}, CsA a h m l cs F → Sub m' h → (∀ b, F b → ¬ Live m' b) → CsA a h m' l cs F
  | [], _, _, hs, _, _ => hs
  | x :: l, _, _, ⟨c1, c2, F1, F2, e, h1, h2, d, rfl⟩, k1, k2 => ⟨c1, c2, F1, F2, e, v _ _ _ _ _ _ h1 k1 (fun b hb => k2 b (.inl hb)), CsA.vf v h2 k1 (fun b hb => k2 b (.inr hb)), d, rfl⟩
theorem CsA.fz : ∀ {l : List α} {cs : List Value} {F : Foot}, CsA a h m l cs F → Sub m h → (∀ b, F b → G b) → CsE sz a.E (addV m h G) l cs
  | [], _, _, ⟨e, _⟩, _, _ => e
  | x :: l, _, _, ⟨c1, c2, F1, F2, e, h1, h2, d, rfl⟩, k1, k2 => ⟨c1, c2, e, a.len h1, a.fz h1 k1 (fun b hb => k2 b (.inl hb)), CsA.fz h2 k1 (fun b hb => k2 b (.inr hb))⟩
theorem CsA.append : ∀ {l : List α} {cs : List Value} {F : Foot}, CsA a h m l cs F → CsA a h m l' ds F' → Dj F F' → CsA a h m (l ++ l') (cs ++ ds) (U F F')
  | [], _, _, ⟨e, e'⟩, h', _ => by subst e; subst e'; rw [U.no_left]; exact h'
  | x :: l, _, _, ⟨c1, c2, F1, F2, e, h1, h2, d, e'⟩, h', dd => by
    subst e; subst e'
    rw [List.append_assoc]
    exact ⟨c1, _, F1, _, rfl, h1, CsA.append h2 h' dd.ur, Dj.u' d dd.ul, U.assoc⟩
theorem CsA.split : ∀ {l : List α} {cs : List Value} {F : Foot} {i : Nat}, CsA a h m l cs F → l[i]? = some y →
    ∃ l1 l2 c1 ce c2 F1 Fe F2, l = l1 ++ y :: l2 ∧ l1.length = i ∧ cs = c1 ++ (ce ++ c2) ∧ c1.length = i * sz ∧ CsA a h m l1 c1 F1 ∧ a.p h m y ce Fe ∧ CsA a h m l2 c2 F2 ∧ Dj F1 Fe ∧ Dj F1 F2 ∧ Dj Fe F2 ∧ F = U Fe (U F1 F2)
  | [], _, _, _, _, hi => by cases hi
  | x :: l, _, _, 0, ⟨c1, c2, F1, F2, e, h1, h2, d, e'⟩, hi => by
    cases hi
    exact ⟨[], l, [], c1, c2, No, F1, F2, rfl, rfl, e, by simp, ⟨rfl, rfl⟩, h1, h2, .no, .no, d, by rw [e', U.no_left]⟩
  | x :: l, _, _, i + 1, ⟨d1, d2, F1, F2, e, h1, h2, d, e'⟩, hi => by
    obtain ⟨l1, l2, c1, ce, c2, G1, Ge, G2, rfl, k1, rfl, k2, k3, k4, k5, k6, k7, k8, rfl⟩ := CsA.split h2 (show l[i]? = some y by simpa using hi)
    refine ⟨x :: l1, l2, d1 ++ c1, ce, c2, U F1 G1, Ge, G2, rfl, by simp [k1], by rw [e, List.append_assoc], ?_, ⟨d1, c1, F1, G1, rfl, h1, k3, d.ur'.ul', rfl⟩, k4, k5, Dj.u d.ul' k6, Dj.u d.ur'.ur' k7, k8, ?_⟩
    · rw [List.length_append, a.len h1, k2, Nat.succ_mul, Nat.add_comm]
    · rw [e', U.left_comm, U.assoc]
theorem CsA.join {l1 l2 : List α} {c1 ce c2 : List Value} {Fe : Foot} (h1 : CsA a h m l1 c1 F1) (h2 : a.p h m y ce Fe) (h3 : CsA a h m l2 c2 F2) (d1 : Dj F1 Fe) (d2 : Dj F1 F2) (d3 : Dj Fe F2) : CsA a h m (l1 ++ y :: l2) (c1 ++ (ce ++ c2)) (U Fe (U F1 F2)) := by
  have := h1.append (show CsA a h m (y :: l2) (ce ++ c2) (U Fe F2) from ⟨ce, c2, Fe, F2, rfl, h2, h3, d3, rfl⟩) (Dj.u' d1 d2)
  rw [U.left_comm] at this
  exact this
theorem CsA.rep {zc : List Value} (hz : a.p h m x zc No) : ∀ n : Nat, CsA a h m (List.replicate n x) ((List.replicate n zc).flatten) No
  | 0 => ⟨rfl, rfl⟩
  | n + 1 => by rw [List.replicate_succ, List.replicate_succ, List.flatten_cons]; exact ⟨zc, _, No, No, rfl, hz, CsA.rep hz n, .no, U.no_left.symm⟩
theorem CsE.csa {E : Heap → α → List Value → Prop} {T : Tell sz E} : ∀ {l : List α} {cs : List Value}, CsE sz E m l cs → CsA (aE T) h m l cs No
  | [], _, e => ⟨e, rfl⟩
  | x :: l, _, ⟨c1, c2, e, h1, h2, h3⟩ => ⟨c1, c2, No, No, e, ⟨h2, rfl⟩, CsE.csa h3, .no, U.no_left.symm⟩
theorem CsA.cse {E : Heap → α → List Value → Prop} {T : Tell sz E} : ∀ {l : List α} {cs : List Value} {F : Foot}, CsA (aE T) h m l cs F → CsE sz E m l cs ∧ F = No
  | [], _, _, ⟨e, e'⟩ => ⟨e, e'⟩
  | x :: l, _, _, ⟨c1, c2, F1, F2, e, ⟨h1, h1'⟩, h2, _, e'⟩ => by
    obtain ⟨h3, h3'⟩ := CsA.cse h2
    subst h1'; subst h3'
    exact ⟨⟨c1, c2, e, T.len _ _ _ h1, h1, h3⟩, by rw [e', U.no_left]⟩
end
section
variable {α : Type} {sz : Nat}
def rowP (a : Asn α sz) (A : Option Addr) (c : Nat) (l : List α) (h m : Heap) (F : Foot) : Prop :=
  (l = [] ∧ c = 0 ∧ F = No) ∨ ∃ b t pre cs rest Fe, c ≠ 0 ∧ A = some ⟨b, pre.length, none⟩ ∧ Blk h b (pre ++ cs ++ rest) t ∧ CsA a h m l cs Fe ∧ l.length ≤ c ∧ (c - l.length) * sz ≤ rest.length ∧ ¬ Live m b ∧ ¬ Fe b ∧ F = U (fb b) Fe
def rR (a : Asn α sz) (A : Option Addr) (c : Nat) (l : List α) : Res where
  p := rowP a A c l
  z m := Rd sz a.E m A l ∧ l.length ≤ c
  lt := by
    rintro h m F (⟨_, _, rfl⟩ | ⟨b, t, pre, cs, rest, Fe, k0, k1, k2, k3, k4, k5, k6, k7, rfl⟩) i hi
    · exact hi.elim
    · rcases hi with hi | hi
      · unfold fb at hi; subst hi; exact k2.lt
      · exact k3.lt i hi
  nl := by
    rintro h m F (⟨_, _, rfl⟩ | ⟨b, t, pre, cs, rest, Fe, k0, k1, k2, k3, k4, k5, k6, k7, rfl⟩) i hi
    · exact hi.elim
    · rcases hi with hi | hi
      · unfold fb at hi; subst hi; exact k6
      · exact k3.nl i hi
  fr := by
    rintro h m F h' m' (⟨e1, e2, rfl⟩ | ⟨b, t, pre, cs, rest, Fe, k0, k1, k2, k3, k4, k5, k6, k7, rfl⟩) f1 f2 f3
    · exact .inl ⟨e1, e2, rfl⟩
    · exact .inr ⟨b, t, pre, cs, rest, Fe, k0, k1, k2.fr (f1 b (.inl rfl)), k3.fr (fun i hi => f1 i (.inr hi)) f2 (fun i hi => f3 i (.inr hi)), k4, k5, f3 b (.inl rfl), k7, rfl⟩
  fz := by
    rintro h m F G (⟨e1, e2, rfl⟩ | ⟨b, t, pre, cs, rest, Fe, k0, k1, k2, k3, k4, k5, k6, k7, rfl⟩) f1 f2
    · subst e1; exact ⟨.nil, Nat.zero_le _⟩
    · subst k1
      exact ⟨CsE.rd (k2.settle (f2 b (.inl rfl))) (k3.fz f1 (fun i hi => f2 i (.inr hi))) (fun _ _ h => h), k4⟩
variable {a : Asn α sz} {h h' h0 m m' m0 : Heap} {A : Option Addr} {c n k : Nat} {l l' : List α} {F F' G W : Foot} {x : Int} {y : α} {v : Value} {cs : List Value} {Rs : List Res} {b : Nat} {t : TypeId} {aa : Addr}
variable {E : Heap → α → List Value → Prop} {T : Tell sz E}
theorem rR_vf (v : a.vf) : (rR a A c l).vf := by
  rintro h m m' F (⟨e1, e2, rfl⟩ | ⟨b, t, pre, cs, rest, Fe, k0, k1, k2, k3, k4, k5, k6, k7, rfl⟩) f1 f2
  · exact .inl ⟨e1, e2, rfl⟩
  · exact .inr ⟨b, t, pre, cs, rest, Fe, k0, k1, k2, k3.vf v f1 (fun i hi => f2 i (.inr hi)), k4, k5, f2 b (.inl rfl), k7, rfl⟩
theorem rowP.cap (o : rowP a A c l h m F) : l.length ≤ c := by
  rcases o with ⟨rfl, rfl, _⟩ | ⟨b, t, pre, cs, rest, Fe, k0, k1, k2, k3, k4, _⟩
  · exact Nat.le_refl _
  · exact k4
theorem rowP.os (o : rowP (aE T) A c l h m F) (hw : ∀ b, F b → h0.size ≤ b ∨ W b) : OS W h0 sz E h m A l c ∧ F = fp A c := by
  rcases o with ⟨rfl, rfl, rfl⟩ | ⟨b, t, pre, cs, rest, Fe, k0, k1, k2, k3, k4, k5, k6, k7, rfl⟩
  · exact ⟨.inl ⟨rfl, rfl⟩, funext fun b => propext ⟨fun h => h.elim, fun h => h.1 rfl⟩⟩
  · obtain ⟨k8, rfl⟩ := k3.cse
    refine ⟨.inr ⟨b, t, pre, cs, rest, k1, k2, k8, k4, k5, hw b (.inl rfl), k6⟩, ?_⟩
    rw [U.no_right]
    subst k1
    exact funext fun i => propext ⟨fun hi => ⟨k0, _, rfl, hi.symm⟩, fun ⟨_, a, e, hi⟩ => by cases e; exact hi.symm⟩
theorem OS.rowP (o : OS W h0 sz E h m A l c) : rowP (aE T) A c l h m (fp A c) := by
  by_cases hc : c = 0
  · subst hc
    have := o.cap
    exact .inl ⟨List.length_eq_zero_iff.1 (by omega), rfl, funext fun b => propext ⟨fun h => h.1 rfl, fun h => h.elim⟩⟩
  rcases o with ⟨rfl, rfl⟩ | ⟨b, t, pre, cs, rest, k1, k2, k3, k4, k5, k6, k7⟩
  · exact (hc rfl).elim
  · refine .inr ⟨b, t, pre, cs, rest, No, hc, k1, k2, k3.csa, k4, k5, k7, fun h => h, ?_⟩
    rw [U.no_right]
    subst k1
    exact funext fun i => propext ⟨fun ⟨_, a, e, hi⟩ => by cases e; exact hi.symm, fun hi => ⟨hc, _, rfl, hi.symm⟩⟩
theorem Hold.os (O : Hold W h0 m0 h m Rs) (k : Nat) (hk : Rs[k]? = some (rR (aE T) A c l)) : OS W h0 sz E h m A l c := by
  obtain ⟨F, h1, h2, _⟩ := O.get k hk
  exact (rowP.os h1 h2).1
theorem Hold.ob (O : Hold W h0 m0 h m Rs) (k : Nat) (hk : Rs[k]? = some (rV b t cs)) : OB W h0 h m b cs t := by
  obtain ⟨F, ⟨h1, h3, rfl⟩, h2, _⟩ := O.get k hk
  exact ⟨h1, h2 b rfl, h3⟩
theorem Hold.all (O : Hold W h0 m0 h m Rs) (k : Nat) (hk : Rs[k]? = some (rV b t cs)) : cellsH h ⟨b, 0, none⟩ 0 cs.length = some cs := (O.ob k hk).all
theorem Hold.setV (O : Hold W h0 m0 h m Rs) (k : Nat) (hk : Rs[k]? = some (rV b t cs)) {cs' : List Value} (o : OB W h0 h' m b cs' t) (S : St (fb b) h m h' m) : Hold W h0 m0 h' m (Rs.set k (rV b t cs')) := by
  obtain ⟨F, ⟨h1, h3, rfl⟩, h2, h4⟩ := O.get k hk
  exact h4 S ⟨o.1, o.2.2, rfl⟩ (fun _ h => .inl h)
theorem Hold.setR (O : Hold W h0 m0 h m Rs) (k : Nat) (hk : Rs[k]? = some (rR (aE T) A c l)) (o : OS W h0 sz E h' m A l' c) (S : St (fp A c) h m h' m) : Hold W h0 m0 h' m (Rs.set k (rR (aE T) A c l')) := by
  obtain ⟨F, h1, h2, h4⟩ := O.get k hk
  obtain ⟨_, rfl⟩ := rowP.os h1 h2
  exact h4 S o.rowP (fun _ h => .inl h)
variable {K : Heap → Prop}
theorem Hold.new {z : Array Value} (O : Hold W h0 m0 h m Rs) (H : ∀ h', Ext h h' → Hold W h0 m0 h' m (Rs ++ [rV h.size t z.toList]) → K h') : newH h (.cells z t) K :=
  newH_in fun h' hb e hs => H h' e (O.add (St.of_ext O.s e) ⟨hb, St.notLive O.s, rfl⟩ (fun i hi => by unfold fb at hi; omega))
theorem Hold.st (O : Hold W h0 m0 h m Rs) (k : Nat) (hk : Rs[k]? = some (rV b t cs)) (j : Nat) (hj : j < cs.length) (hf : Flat v) (H : ∀ h', Hold W h0 m0 h' m (Rs.set k (rV b t (cs.set j v))) → K h') : ∃ h', st1 h (Addr.add ⟨b, 0, none⟩ j) v = some h' ∧ K h' := by
  obtain ⟨h', h1, h2, h3⟩ := (O.ob k hk).st O.s hj hf
  exact ⟨h', h1, H h' (O.setV k hk h2 h3)⟩
theorem Hold.st0 (O : Hold W h0 m0 h m Rs) (k : Nat) (hk : Rs[k]? = some (rV b t cs)) (hj : 0 < cs.length) (hf : Flat v) (H : ∀ h', Hold W h0 m0 h' m (Rs.set k (rV b t (cs.set 0 v))) → K h') : ∃ h', st1 h ⟨b, 0, none⟩ v = some h' ∧ K h' := O.st k hk 0 hj hf H
theorem Hold.stA (O : Hold W h0 m0 h m Rs) (k : Nat) (hk : Rs[k]? = some (rV b t cs)) {ds : List Value} (hn : ds.length = cs.length) (hf : ∀ v ∈ ds, Flat v) (H : ∀ h', Hold W h0 m0 h' m (Rs.set k (rV b t ds)) → K h') : ∃ h', stH h ⟨b, 0, none⟩ ds 0 = some h' ∧ K h' := by
  obtain ⟨h', h1, h2, h3⟩ := (O.ob k hk).stA O.s ds hn hf
  exact ⟨h', h1, H h' (O.setV k hk h2 h3)⟩
theorem Hold.elst (O : Hold W h0 m0 h m Rs) (k : Nat) (hk : Rs[k]? = some (rR (aE T) A c l)) (g : gi l x = some y) (ha : A = some aa) (hc : cellsH h (Addr.add aa (Int.toNat x * sz)) 0 sz = some cs) (j : Nat) (hj : j < sz) {y' : α} (hy : E m y' (cs.set j v)) (hf : Flat v) (e : l.set (Int.toNat x) y' = l')
    (H : ∀ h', Hold W h0 m0 h' m (Rs.set k (rR (aE T) A c l')) → K h') : ∃ h', st1 h (Addr.add (Addr.add aa (Int.toNat x * sz)) j) v = some h' ∧ K h' := by
  subst e
  obtain ⟨h', h1, h2, h3⟩ := (O.os k hk).st1k T O.s g ha hc j hj hy hf
  exact ⟨h', h1, H h' (O.setR k hk h2 h3)⟩
theorem Hold.elst0 (O : Hold W h0 m0 h m Rs) (k : Nat) (hk : Rs[k]? = some (rR (aE T) A c l)) (g : gi l x = some y) (ha : A = some aa) (hc : cellsH h (Addr.add aa (Int.toNat x * sz)) 0 sz = some cs) (hj : 0 < sz) {y' : α} (hy : E m y' (cs.set 0 v)) (hf : Flat v) (e : l.set (Int.toNat x) y' = l')
    (H : ∀ h', Hold W h0 m0 h' m (Rs.set k (rR (aE T) A c l')) → K h') : ∃ h', st1 h (Addr.add aa (Int.toNat x * sz)) v = some h' ∧ K h' := O.elst k hk g ha hc 0 hj hy hf e H
theorem Hold.row (O : Hold W h0 m0 h m Rs) (k : Nat) (hk : Rs[k]? = some (rV b t cs)) (a : Asn α sz) (hc : ∃ F, CsA a h m l cs F ∧ F = No) (hn : l.length = c) (h0' : c ≠ 0) : Hold W h0 m0 h m (Rs.set k (rR a (some ⟨b, 0, none⟩) c l)) :=
  O.conv k hk (R' := rR a (some ⟨b, 0, none⟩) c l) fun F hF => by
    obtain ⟨h1, h2, rfl⟩ := hF
    obtain ⟨_, hc, rfl⟩ := hc
    exact ⟨_, .inr ⟨b, t, [], cs, [], No, h0', rfl, by simpa using h1, hc, by omega, by simp [hn], h2, fun h => h, rfl⟩, fun i hi => hi.elim id (fun h => h.elim)⟩
theorem Hold.rowE (O : Hold W h0 m0 h m Rs) (k : Nat) (hk : Rs[k]? = some (rV b t cs)) (T : Tell sz E) (hc : CsE sz E m l cs) (hn : l.length = c) : Hold W h0 m0 h m (Rs.set k (rR (aE T) (some ⟨b, 0, none⟩) c l)) := by
  by_cases h0' : c = 0
  · subst h0'
    refine O.conv k hk (R' := rR (aE T) (some ⟨b, 0, none⟩) 0 l) fun F _ => ⟨No, .inl ⟨List.length_eq_zero_iff.1 hn, rfl, rfl⟩, fun _ h => h.elim⟩
  · exact O.row k hk (aE T) ⟨No, hc.csa, rfl⟩ hn h0'
theorem Hold.made {zc : Array Value} {z : α} {B : Int} (O : Hold W h0 m0 h m Rs) (k : Nat) (hk : Rs[k]? = some (rV b t (mkCells zc (Int.toNat x * sz)).toList)) (a : Asn α sz) (g : mks B x z = some l') (hz : a.p h m z zc.toList No) : Hold W h0 m0 h m (Rs.set k (rR a (some ⟨b, 0, none⟩) l'.length l')) := by
  obtain ⟨_, _, _, h3, rfl⟩ := mks_e g
  have hc : CsA a h m (List.replicate x.toNat z) (mkCells zc (x.toNat * sz)).toList No := by
    rw [mkCells_flat (by have := a.len hz; simpa using this)]
    exact CsA.rep hz _
  by_cases h0' : (List.replicate x.toNat z).length = 0
  · rw [h0', List.length_eq_zero_iff.1 h0']
    exact O.conv k hk (R' := rR a (some ⟨b, 0, none⟩) 0 []) fun F _ => ⟨No, .inl ⟨rfl, rfl, rfl⟩, fun _ h => h.elim⟩
  · exact O.row k hk a ⟨No, hc, rfl⟩ rfl h0'
end
def aRow {α : Type} {sz : Nat} (a : Asn α sz) : Asn (List α) 1 where
  p h m l cs F := ∃ A c, cs = [.slice A l.length c] ∧ (rR a A c l).p h m F
  E := eRow sz a.E
  T := tell_row a.T
  len := by rintro h m x cs F ⟨A, c, rfl, _⟩; rfl
  flat := by rintro h m x cs F ⟨A, c, rfl, _⟩; exact Flats.cons trivial Flats.nil
  lt := by rintro h m x cs F ⟨A, c, rfl, o⟩; exact (rR a A c x).lt o
  nl := by rintro h m x cs F ⟨A, c, rfl, o⟩; exact (rR a A c x).nl o
  fr := by rintro h m x cs F h' m' ⟨A, c, rfl, o⟩ k1 k2 k3; exact ⟨A, c, rfl, (rR a A c x).fr o k1 k2 k3⟩
  fz := by
    rintro h m x cs F G ⟨A, c, rfl, o⟩ k1 k2
    have := (rR a A c x).fz o k1 k2
    exact ⟨A, c, rfl, this.2, this.1⟩
section
variable {α : Type} {sz : Nat} {a : Asn α sz} {h h' h0 m m' m0 : Heap} {A : Option Addr} {c n k : Nat} {l l' xs : List α} {F F' G W : Foot} {x : Int} {y : α} {v X : Value} {cs es : List Value} {Rs : List Res} {b : Nat} {t e : TypeId} {aa : Addr}
variable {E : Heap → α → List Value → Prop} {T : Tell sz E}
theorem aRow_nil : (aRow a).p h m [] [.slice none 0 0] No := ⟨none, 0, rfl, .inl ⟨rfl, rfl, rfl⟩⟩
theorem rowP.app {bytes : Nat} {z : Array Value} {K : Value → Heap → Prop} {F2 : Foot} (o : rowP a A c l h m F) (s : Sub m h) (hn : n = l.length) (hz : z.size = sz) (h1 : srcCells sz X h = some (xs.length, es)) (h2 : CsA a h m xs es F2) (hd : Dj F F2) (hb0 : 0 < bytes) (g : ap bytes l xs = some l')
    (hk : ∀ A' c' h' F', rowP a A' c' l' h' m F' → St F h m h' m → (∀ b, F' b → F b ∨ F2 b ∨ h.size ≤ b) → K (.slice A' l'.length c') h') : AppW e sz bytes z A n c X h K := by
  subst hn
  obtain ⟨hb, rfl⟩ := ap_e g
  have he := h2.len
  refine ⟨xs.length, es, h1, ?_⟩
  have hpush : ∀ (old : List Value) (Fo : Foot) (hold : oldCells sz A l.length h = some old) (hE : CsA a h m l old Fo) (hFo : ∀ b, Fo b → F b), c < l.length + xs.length →
      ∃ old, oldCells sz A l.length h = some old ∧ ∀ c', l.length + xs.length ≤ c' → K (.slice (some ⟨h.size, 0, none⟩) (l.length + xs.length) c') (h.push (.cells (old.toArray ++ es.toArray ++ zcells z (c' - (l.length + xs.length))) e)) := by
    intro old Fo hold hE hFo hlt
    refine ⟨old, hold, fun c' hc' => ?_⟩
    rw [show (Value.slice (some ⟨h.size, 0, none⟩) (l.length + xs.length) c') = .slice (some ⟨h.size, 0, none⟩) (l ++ xs).length c' by rw [List.length_append]]
    have e1 := Ext.push h (Obj.cells (old.toArray ++ es.toArray ++ zcells z (c' - (l.length + xs.length))) e)
    have S1 := St.of_ext (W := F) s e1
    have hA := hE.append h2 (hd.mono hFo (fun _ h => h))
    have hA' := hA.fr (fun i hi => e1.2 i (hA.lt i hi)) (.refl _) (fun i hi => hA.nl i hi)
    refine hk _ _ _ _ (.inr ⟨h.size, e, [], old ++ es, (zcells z (c' - (l.length + xs.length))).toList, _, by omega, rfl, ?_, hA', by rw [List.length_append]; exact hc', ?_, St.notLive s, fun hf => by have := hA.lt _ hf; omega, rfl⟩) S1 ?_
    · have := Blk.new h (old.toArray ++ es.toArray ++ zcells z (c' - (l.length + xs.length))) e
      simpa using this
    · rw [zc_len, hz, List.length_append]; exact Nat.le_refl _
    · rintro i (hi | hi | hi)
      · unfold fb at hi; exact .inr (.inr (by omega))
      · exact .inl (hFo i hi)
      · exact .inr (.inl hi)
  rcases o with ⟨rfl, rfl, rfl⟩ | ⟨b, t, pre, cs, rest, Fe, k0, rfl, k1, k2, k3, k4, k5, k6, rfl⟩
  · by_cases hx : xs.length = 0
    · have hxs : xs = [] := List.length_eq_zero_iff.1 hx
      subst hxs
      obtain ⟨rfl, rfl⟩ : es = [] ∧ F2 = No := h2
      refine .inl ⟨by simp, ?_⟩
      have fin := hk A 0 h No (.inl ⟨rfl, rfl, rfl⟩) (St.refl s) (fun b hb => .inl hb)
      cases A with
      | none => exact .inl ⟨rfl, fin⟩
      | some a => exact .inr ⟨a, h, rfl, by simp [stH], fin⟩
    · refine .inr ⟨by simp; omega, by simpa using hb, hb0, ?_⟩
      refine hpush [] No ?_ ⟨rfl, rfl⟩ (fun _ h => h) (by simp; omega)
      cases A with
      | none => rfl
      | some a => simp [oldCells, cellsH]
  · have hl := k2.len
    by_cases hle : l.length + xs.length ≤ c
    · refine .inl ⟨hle, .inr ?_⟩
      have hmul : (c - l.length) * sz = xs.length * sz + (c - l.length - xs.length) * sz := by rw [← Nat.add_mul]; congr 1; omega
      have k1' : Blk h b ((pre ++ cs) ++ rest.take (xs.length * sz) ++ rest.drop (xs.length * sz)) t := by rw [List.append_assoc, List.take_append_drop]; exact k1
      obtain ⟨h', s1, b1, o1⟩ := Blk.stH es (a := (⟨b, pre.length, none⟩ : Addr).add (l.length * sz)) (i := 0) k1' (by rw [add_block]) (add_spot _ rfl) (by rw [add_off, List.length_append, hl, Nat.add_zero]) (by rw [List.length_take, he]; omega) (h2.flat)
      refine ⟨_, h', rfl, s1, ?_⟩
      rw [show (Value.slice (some ⟨b, pre.length, none⟩) (l.length + xs.length) c) = .slice (some ⟨b, pre.length, none⟩) (l ++ xs).length c by rw [List.length_append]]
      have S : St (fb b) h m h' m := .only s k5 o1
      have S2 : St (U (fb b) Fe) h m h' m := ⟨S.up, S.s, S.size, fun i hi hn => S.fr i hi (fun h => hn (.inl h)), fun i hi hl => .inl hl⟩
      have hA := k2.append h2 hd.ur
      have nb : ∀ i, U Fe F2 i → i ≠ b := fun i hi e' => by subst e'; exact hi.elim k6 (fun hf => hd i (.inl rfl) hf)
      have hA' := hA.fr (fun i hi => S.fr i (hA.lt i hi) (fun e' => nb i hi e')) (.refl _) (fun i hi => hA.nl i hi)
      refine hk _ _ _ _ (.inr ⟨b, t, pre, cs ++ es, rest.drop (xs.length * sz), _, k0, rfl, by rw [← List.append_assoc pre]; exact b1, hA', by rw [List.length_append]; exact hle, ?_, k5, fun hf => nb b hf rfl, rfl⟩) S2 ?_
      · rw [List.length_drop, List.length_append, show c - (l.length + xs.length) = c - l.length - xs.length by omega]; omega
      · rintro i (hi | hi | hi)
        · exact .inl (.inl hi)
        · exact .inl (.inr hi)
        · exact .inr (.inl hi)
    · refine .inr ⟨by omega, hb, hb0, ?_⟩
      refine hpush cs Fe ?_ k2 (fun _ h => .inr h) (by omega)
      have := k1.cells (a := ⟨b, pre.length, none⟩) rfl rfl (l.length * sz) 0 (by simp [hl])
      simp only [oldCells, this, Nat.add_zero]
      rw [List.append_assoc, List.drop_left, List.take_append_of_le_length (by omega), List.take_of_length_le (by omega)]
variable {K : Value → Heap → Prop} {bytes : Nat} {z : Array Value}
theorem Hold.app (O : Hold W h0 m0 h m Rs) (k : Nat) (hk : Rs[k]? = some (rR (aE T) A c l)) (hn : n = l.length) (hz : z.size = sz) (hs : Src sz E h m X xs) (hb0 : 0 < bytes) (g : ap bytes l xs = some l')
    (H : ∀ A' c' h', Hold W h0 m0 h' m (Rs.set k (rR (aE T) A' c' l')) → K (.slice A' l'.length c') h') : AppW e sz bytes z A n c X h K := by
  obtain ⟨F, h1, h2, h3⟩ := O.get k hk
  obtain ⟨es, s1, s2⟩ := hs
  refine rowP.app h1 O.s hn hz s1 (s2.csa (T := T)) .no' hb0 g fun A' c' h' F' q1 q2 q3 => H A' c' h' (h3 (R' := rR (aE T) A' c' l') q2 q1 fun b hb => ?_)
  rcases q3 b hb with hb | hb | hb
  · exact .inl hb
  · exact hb.elim
  · exact .inr hb
end
end Go.Hw

end
section
set_option linter.unusedVariables false
namespace Go.Hw
open Go
section
variable {m h : Heap} {a : Addr} {cs ds : List Value} {N n k j : Nat} {v : Value}
theorem ldAn (s : Sub m h) (hc : cellsH m a 0 N = some cs) (hn : N = n) : ldv true n h a = some (.agg cs.toArray) := by subst hn; exact ldA s hc
theorem lset {α : Type} {l : List α} {i : Nat} {y : α} : l.length = (l.set i y).length := (List.length_set ..).symm
theorem lset' {α : Type} {l l' : List α} {i : Nat} {y : α} (g : l.set i y = l') : l.length = l'.length := by rw [← g, List.length_set]
theorem gi_ltl {α : Type} {l : List α} {x : Int} {y : α} (g : gi l x = some y) (hn : n = l.length) : x < ((n : Nat) : Int) := by subst hn; exact gi_lt g
end
section
variable {α : Type} {sz : Nat} {a : Asn α sz} {h h' h0 m m' m0 : Heap} {A Ai : Option Addr} {c ci n k : Nat} {l li : List α} {ll ll' : List (List α)} {W : Foot} {x : Int} {y : α} {v : Value} {cs : List Value} {Rs Rs' : List Res} {b : Nat} {t : TypeId} {aa : Addr} {K : Heap → Prop}
variable {E : Heap → α → List Value → Prop} {T : Tell sz E}
theorem Hold.ret (O : Hold W h0 m0 h m Rs) (Q : Hold No h m h' m' Rs') : Hold W h0 m0 h' m' (Rs ++ Rs') := by
  obtain ⟨W', h1, h2⟩ := O.call []
  simp only [dropL, takeL] at h1 h2
  exact h2 ⟨⟨Q.S.up, Q.S.s, Q.S.size, fun b hb _ => Q.S.fr b hb (fun h => h), fun b hb hl => (Q.S.lv b hb hl).elim .inl (fun h => h.elim)⟩, by
    obtain ⟨F, k1, k2⟩ := Q.q
    exact ⟨F, k1, fun b hb => (k2 b hb).elim .inl (fun h => h.elim)⟩⟩
theorem vfs_nil : ∀ R ∈ ([] : List Res), R.vf := fun _ h => by cases h
theorem vfs_cons {R : Res} (v : R.vf) (w : ∀ R ∈ Rs, R.vf) : ∀ R' ∈ R :: Rs, R'.vf := fun R' h => by
  rcases List.mem_cons.1 h with rfl | h
  · exact v
  · exact w R' h
theorem Hold.retC (O : Hold W h0 m0 h m Rs) (Q : Hold No h m h' m' Rs') (v : ∀ R ∈ Rs', R.vf) : Hold W h0 m0 h' m (Rs ++ Rs') := by
  obtain ⟨m1, W', h1, h2, _, _, h5⟩ := O.lend [] []
  have s1 : Hold No h m h' m Rs' := by
    refine ⟨Q.S.unlend O.s (fun _ h => h.elim), ?_⟩
    obtain ⟨F, k1, k2⟩ := Q.q
    have T := Q.S.unlend O.s (fun _ h => h.elim)
    exact ⟨F, k1.vf v T.s (fun b hb hl => (k2 b hb).elim (fun h => by have := O.s.lt hl; omega) (fun h => h.elim)), k2⟩
  exact O.ret s1
theorem Hold.lend0 (O : Hold W h0 m0 h m Rs) (ls : List Nat) : ∃ m1, Sub m m1 ∧ Sub m1 h ∧ ZAll m1 (takeL Rs ls) ∧
    (∀ {h' m' : Heap} {Rs' : List Res}, Hold No h m1 h' m' Rs' → Hold W h0 m0 h' m' (dropL Rs ls ++ Rs')) ∧
    (∀ {h' m' : Heap} {Rs' : List Res}, Hold No h m1 h' m' Rs' → (∀ R ∈ Rs', R.vf) → Hold W h0 m0 h' m (Rs ++ Rs')) := by
  obtain ⟨m1, W', h1, h2, h3, h4, h5⟩ := O.lend [] ls
  simp only [dropL, takeL] at h2 h3 h4 h5
  have up : ∀ {h' m' : Heap} {Rs' : List Res}, Hold No h m1 h' m' Rs' → Hold W' h m1 h' m' Rs' := fun Q =>
    ⟨⟨Q.S.up, Q.S.s, Q.S.size, fun b hb _ => Q.S.fr b hb (fun h => h), fun b hb hl => (Q.S.lv b hb hl).elim .inl (fun h => h.elim)⟩, by
      obtain ⟨F, k1, k2⟩ := Q.q
      exact ⟨F, k1, fun b hb => (k2 b hb).elim .inl (fun h => h.elim)⟩⟩
  exact ⟨m1, h1, h2.s, h3, fun Q => h4 (up Q), fun Q v => h5 (up Q) v⟩
theorem nn_len {n : Nat} (h : cs.length = n + 1) : cs ≠ [] := fun e => by subst e; cases h
theorem Hold.adr {K : Addr → Prop} (O : Hold W h0 m0 h m Rs) (k : Nat) (hk : Rs[k]? = some (rR a A c l)) (hn : n = l.length) (g : gi l x = some y) (H : ∀ aa, A = some aa → K aa) : ptrOk A fun a => 0 ≤ x ∧ x < ((n : Nat) : Int) ∧ K a := by
  obtain ⟨F, h1, _⟩ := O.get k hk
  have g1 := gi_get g
  rcases h1 with ⟨rfl, _⟩ | ⟨b, t, pre, cs, rest, Fe, k0, rfl, _⟩
  · cases g1
  · exact ⟨gi_le g, gi_ltl g hn, H _ rfl⟩
end
section
variable {κ ν : Type} [DecidableEq κ] {h h' m m' h0 m0 : Heap} {b k : Nat} {W : Foot} {kv : κ → Value} {es : List (κ × ν)} {q : κ} {x zv : ν} {v z : Value} {P : Program} {t elem : TypeId} {EV : Heap → ν → Value → Prop} {M : MonoV EV} {Rs : List Res}
def FM (EV : Heap → ν → Value → Prop) (kv : κ → Value) (m : Heap) (b : Nat) (es : List (κ × ν)) : Prop := ∃ vs, MapB kv m b vs ∧ MR (EV m) es vs
def rM (M : MonoV EV) (kv : κ → Value) (b : Nat) (es : List (κ × ν)) : Res where
  p h m F := (∃ vs, MapB kv h b vs ∧ MR (EV m) es vs) ∧ ¬ Live m b ∧ F = fb b
  z m := FM EV kv m b es
  lt := by rintro h m F ⟨⟨vs, h1, _⟩, _, rfl⟩ i hi; unfold fb at hi; subst hi; exact h1.lt
  nl := by rintro h m F ⟨_, h2, rfl⟩ i hi; unfold fb at hi; subst hi; exact h2
  fr := by
    rintro h m F h' m' ⟨⟨vs, ⟨e, c, h1, h1'⟩, h2⟩, h3, rfl⟩ k1 k2 k3
    exact ⟨⟨vs, ⟨e, c, by rw [k1 b rfl]; exact h1, h1'⟩, h2.sub M k2⟩, k3 b rfl, rfl⟩
  fz := by
    rintro h m F G ⟨⟨vs, h1, h2⟩, h3, rfl⟩ k1 k2
    have hlt := h1.lt
    obtain ⟨e, c, h1, h1'⟩ := h1
    exact ⟨vs, ⟨e, c, by rw [addV_get hlt (.inr (k2 b rfl))]; exact h1, h1'⟩, h2.sub M (addV_up k1)⟩
omit [DecidableEq κ] in
theorem Hold.om (O : Hold W h0 m0 h m Rs) (k : Nat) (hk : Rs[k]? = some (rM M kv b es)) : OM W h0 EV kv h m b es := by
  obtain ⟨F, ⟨⟨vs, h1, h2⟩, h3, rfl⟩, h4, _⟩ := O.get k hk
  exact ⟨vs, h1, h2, h4 b rfl, h3⟩
omit [DecidableEq κ] in
theorem Hold.mkMap {K : Value → Heap → Prop} (O : Hold W h0 m0 h m Rs) (M : MonoV EV) (kv : κ → Value) (H : ∀ h', Ext h h' → Hold W h0 m0 h' m (Rs ++ [rM M kv h.size ([] : List (κ × ν))]) → K (.map (some h.size)) h') : Gen P (Instr.makeMap t none) h K :=
  gen_makeMap (kv := kv) fun h' b e _ => H h' e (O.add (R := rM M kv h.size ([] : List (κ × ν))) (St.of_ext O.s e) ⟨⟨[], b, rfl⟩, St.notLive O.s, rfl⟩ (fun i hi => by unfold fb at hi; omega))
theorem Hold.mapUpd {K : Unit → Heap → Prop} {es' : List (κ × ν)} (O : Hold W h0 m0 h m Rs) (k : Nat) (hk : Rs[k]? = some (rM M kv b es)) (ok : KeyOk P t kv elem) (q : κ) (he : EV m x v) (e : pset es q x = es') (H : ∀ h', Hold W h0 m0 h' m (Rs.set k (rM M kv b es')) → K () h') : Hwp P (Instr.mapUpdate t (.map (some b)) (kv q) v) h K := by
  subst e
  refine (O.om k hk).upd O.s ok q he fun h' o S => H h' ?_
  obtain ⟨F, ⟨_, h3, rfl⟩, h4, h5⟩ := O.get k hk
  obtain ⟨vs, k1, k2, _, k4⟩ := o
  exact h5 (R' := rM M kv b _) S ⟨⟨vs, k1, k2⟩, k4, rfl⟩ (fun _ h => .inl h)
end
end Go.Hw
namespace Go.Hw
end Go.Hw
namespace Go.Hw
open Go
class SetAt (k : Nat) (L : List Res) (r : Res) (out : outParam (List Res)) : Prop where
  eq : L.set k r = out
instance {a r : Res} {l : List Res} : SetAt 0 (a :: l) r (r :: l) := ⟨rfl⟩
instance {k : Nat} {a r : Res} {l o : List Res} [S : SetAt k l r o] : SetAt (k + 1) (a :: l) r (a :: o) := ⟨by rw [List.set_cons_succ, S.eq]⟩
class GetAt (k : Nat) (L : List Res) (r : outParam Res) : Prop where
  eq : L[k]? = some r
instance {a : Res} {l : List Res} : GetAt 0 (a :: l) a := ⟨rfl⟩
instance {k : Nat} {a r : Res} {l : List Res} [S : GetAt k l r] : GetAt (k + 1) (a :: l) r := ⟨by rw [List.getElem?_cons_succ, S.eq]⟩
class Apd (L M : List Res) (out : outParam (List Res)) : Prop where
  eq : L ++ M = out
instance {M : List Res} : Apd [] M M := ⟨rfl⟩
instance {a : Res} {l M o : List Res} [S : Apd l M o] : Apd (a :: l) M (a :: o) := ⟨by rw [List.cons_append, S.eq]⟩
class PickT (L : List Res) (is : List Nat) (T D : outParam (List Res)) : Prop where
  t : takeL L is = T
  d : dropL L is = D
instance {L : List Res} : PickT L [] [] L := ⟨rfl, rfl⟩
instance {L L2 T D : List Res} {i : Nat} {is : List Nat} {r : Res} [G : GetAt i L r] [S : SetAt i L rE L2] [P : PickT L2 is T D] : PickT L (i :: is) (r :: T) D := ⟨by simp only [takeL, G.eq, S.eq, P.t], by simp only [dropL, S.eq, P.d]⟩
class Nm (L : List Res) (out : outParam (List Res)) : Prop where
  eq : L = out
instance : Nm [] [] := ⟨rfl⟩
instance {a : Res} {l : List Res} : Nm (a :: l) (a :: l) := ⟨rfl⟩
instance {L L' o : List Res} {k : Nat} {r : Res} [N : Nm L L'] [S : SetAt k L' r o] : Nm (L.set k r) o := ⟨by rw [N.eq, S.eq]⟩
instance {L L' M M' o : List Res} [N : Nm L L'] [N' : Nm M M'] [S : Apd L' M' o] : Nm (L ++ M) o := ⟨by rw [N.eq, N'.eq, S.eq]⟩
instance {L L' T D : List Res} {is : List Nat} [N : Nm L L'] [S : PickT L' is T D] : Nm (takeL L is) T := ⟨by rw [N.eq, S.t]⟩
instance {L L' T D : List Res} {is : List Nat} [N : Nm L L'] [S : PickT L' is T D] : Nm (dropL L is) D := ⟨by rw [N.eq, S.d]⟩
theorem Hold.nm {W : Foot} {h0 m0 h m : Heap} {Rs Rs' : List Res} (O : Hold W h0 m0 h m Rs) [N : Nm Rs Rs'] : Hold W h0 m0 h m Rs' := N.eq ▸ O
end Go.Hw

end
section
namespace Go.Hw
open Go Go.RowKit
end Go.Hw

end
section
namespace Go.Hw
open Go
end Go.Hw

end
section
set_option linter.unusedVariables false
namespace Go.Hw
open Go
end Go.Hw
namespace Go.Hw
open Go
end Go.Hw
namespace Go.Hw
open Go
section
variable {α : Type} {f : α → Value} {d : α} {L : List α} {n off b : Nat} {m : Heap} {cs : List Value} {t : TypeId} {E : Heap → α → List Value → Prop} {ad : Addr}
theorem arrRd (hb : Blk m b cs t) (off : Nat) (had : ad = (⟨b, 0, none⟩ : Addr).add off) (hs : (cs.drop off).take n = (List.range n).map fun j => f (L.getD j d)) (ql : L.length = n) (hE : ∀ x, E m x [f x]) : Rd 1 E m (some (if n = Int.toNat (0 : Int) then ad else Addr.add ad (Int.toNat (0 : Int) * 1))) L := by
  intro i hi
  subst had
  rw [if_neg (by simp; omega)]
  refine ⟨_, [f L[i]], rfl, ?_, hE _⟩
  rw [arr_lit ql] at hs
  have h1 : ((cs.drop off).take n)[i]? = some (f L[i]) := by
    rw [hs, List.getElem?_map, List.getElem?_eq_getElem hi]; rfl
  rw [List.getElem?_take_of_lt (by omega), List.getElem?_drop] at h1
  have hlt : off + i < cs.length := (List.getElem?_eq_some_iff.1 h1).1
  have := hb.cells (a := ((⟨b, 0, none⟩ : Addr).add off).add (i * 1)) (by rw [add_block, add_block]) (add_spot _ (add_spot _ rfl)) 1 0 (by rw [add_off, add_off]; simp; omega)
  have e1 : Addr.add ((⟨b, 0, none⟩ : Addr).add off) (Int.toNat (0 : Int) * 1) = (⟨b, 0, none⟩ : Addr).add off := by simp [Addr.add]
  rw [e1, this, add_off, add_off]
  simp only [Nat.add_zero, Nat.zero_add, Nat.mul_one]
  rw [List.drop_eq_getElem_cons hlt, List.take_succ_cons, List.take_zero]
  congr 2
  rw [List.getElem?_eq_getElem hlt] at h1
  exact Option.some.inj h1
end
end Go.Hw

end
section
set_option linter.unusedVariables false
namespace Go.Hw
open Go
section
variable {α : Type} {sz : Nat}
def CsS (a : Asn α sz) (h m : Heap) (l : List α) (hs : List Value) (S : Option Nat) (F : Foot) : Prop :=
  match S with
  | none => CsA a h m l hs F
  | some i => ∃ l1 y l2 c1 ce c2 F1 F2, l = l1 ++ y :: l2 ∧ l1.length = i ∧ hs = c1 ++ (ce ++ c2) ∧ c1.length = i * sz ∧ ce.length = sz ∧ CsA a h m l1 c1 F1 ∧ CsA a h m l2 c2 F2 ∧ Dj F1 F2 ∧ F = U F1 F2
variable {a : Asn α sz} {h h' h0 m m' m0 : Heap} {A Ai : Option Addr} {c ci n k i : Nat} {l l' li : List α} {hs : List Value} {S : Option Nat} {F F' G W : Foot} {x : Int} {y y' : α} {v : Value} {cs : List Value} {Rs : List Res} {b : Nat} {t : TypeId} {aa : Addr} {K : Heap → Prop}
theorem CsS.lt (hc : CsS a h m l hs S F) : ∀ b, F b → b < h.size := by
  cases S with
  | none => exact CsA.lt hc
  | some i => obtain ⟨l1, y, l2, c1, ce, c2, F1, F2, _, _, _, _, _, h1, h2, _, rfl⟩ := hc; exact fun b hb => hb.elim (h1.lt b) (h2.lt b)
theorem CsS.nl (hc : CsS a h m l hs S F) : ∀ b, F b → ¬ Live m b := by
  cases S with
  | none => exact CsA.nl hc
  | some i => obtain ⟨l1, y, l2, c1, ce, c2, F1, F2, _, _, _, _, _, h1, h2, _, rfl⟩ := hc; exact fun b hb => hb.elim (h1.nl b) (h2.nl b)
theorem CsS.fr (hc : CsS a h m l hs S F) (k1 : ∀ b, F b → h'[b]? = h[b]?) (k2 : Sub m m') (k3 : ∀ b, F b → ¬ Live m' b) : CsS a h' m' l hs S F := by
  cases S with
  | none => exact CsA.fr hc k1 k2 k3
  | some i =>
    obtain ⟨l1, y, l2, c1, ce, c2, F1, F2, e1, e2, e3, e4, e5, h1, h2, d, rfl⟩ := hc
    exact ⟨l1, y, l2, c1, ce, c2, F1, F2, e1, e2, e3, e4, e5, h1.fr (fun b hb => k1 b (.inl hb)) k2 (fun b hb => k3 b (.inl hb)), h2.fr (fun b hb => k1 b (.inr hb)) k2 (fun b hb => k3 b (.inr hb)), d, rfl⟩
def rX (a : Asn α sz) (A : Option Addr) (c : Nat) (l : List α) (hs : List Value) (S : Option Nat) : Res where
  p h m F := ∃ b t pre rest Fe, c ≠ 0 ∧ A = some ⟨b, pre.length, none⟩ ∧ Blk h b (pre ++ hs ++ rest) t ∧ CsS a h m l hs S Fe ∧ l.length ≤ c ∧ (c - l.length) * sz ≤ rest.length ∧ ¬ Live m b ∧ ¬ Fe b ∧ F = U (fb b) Fe
  z _ := True
  lt := by
    rintro h m F ⟨b, t, pre, rest, Fe, k0, k1, k2, k3, k4, k5, k6, k7, rfl⟩ i hi
    rcases hi with hi | hi
    · unfold fb at hi; subst hi; exact k2.lt
    · exact k3.lt i hi
  nl := by
    rintro h m F ⟨b, t, pre, rest, Fe, k0, k1, k2, k3, k4, k5, k6, k7, rfl⟩ i hi
    rcases hi with hi | hi
    · unfold fb at hi; subst hi; exact k6
    · exact k3.nl i hi
  fr := by
    rintro h m F h' m' ⟨b, t, pre, rest, Fe, k0, k1, k2, k3, k4, k5, k6, k7, rfl⟩ f1 f2 f3
    exact ⟨b, t, pre, rest, Fe, k0, k1, k2.fr (f1 b (.inl rfl)), k3.fr (fun i hi => f1 i (.inr hi)) f2 (fun i hi => f3 i (.inr hi)), k4, k5, f3 b (.inl rfl), k7, rfl⟩
  fz := fun _ _ _ => trivial
theorem Hold.openX (O : Hold W h0 m0 h m Rs) (k : Nat) (hk : Rs[k]? = some (rR a A c l)) (g : gi l x = some y) : ∃ hs, Hold W h0 m0 h m (Rs.set k (rX a A c l hs none)) := by
  obtain ⟨F, h1, _, h3⟩ := O.get k hk
  have g1 := gi_get g
  rcases h1 with ⟨rfl, _⟩ | ⟨b, t, pre, cs, rest, Fe, k0, k1, k2, k3, k4, k5, k6, k7, rfl⟩
  · cases g1
  · exact ⟨cs, h3 (R' := rX a A c l cs none) (.refl O.s) ⟨b, t, pre, rest, Fe, k0, k1, k2, k3, k4, k5, k6, k7, rfl⟩ (fun _ h => .inl h)⟩
theorem Hold.closeX (O : Hold W h0 m0 h m Rs) (k : Nat) (hk : Rs[k]? = some (rX a A c l hs none)) : Hold W h0 m0 h m (Rs.set k (rR a A c l)) :=
  O.conv k hk (R' := rR a A c l) fun F ⟨b, t, pre, rest, Fe, k0, k1, k2, k3, k4, k5, k6, k7, e⟩ => ⟨F, .inr ⟨b, t, pre, hs, rest, Fe, k0, k1, k2, k3, k4, k5, k6, k7, e⟩, fun _ h => h⟩
theorem Hold.adrX {K : Addr → Prop} (O : Hold W h0 m0 h m Rs) (k : Nat) (hk : Rs[k]? = some (rX a A c l hs S)) (hn : n = l.length) (g : gi l x = some y) (H : ∀ aa, A = some aa → K aa) : ptrOk A fun a => 0 ≤ x ∧ x < ((n : Nat) : Int) ∧ K a := by
  obtain ⟨F, ⟨b, t, pre, rest, Fe, k0, k1, k2, k3, k4, _⟩, _⟩ := O.get k hk
  subst k1
  exact ⟨gi_le g, gi_ltl g hn, H _ rfl⟩
end
section
variable {α : Type} {sz : Nat} {a : Asn α sz} {h h' h0 m m' m0 : Heap} {A Ai : Option Addr} {c ci n k i : Nat} {ll ll' : List (List α)} {li l' : List α} {hs : List Value} {S : Option Nat} {F F' G W : Foot} {x : Int} {v : Value} {Rs : List Res} {b : Nat} {t : TypeId} {aa : Addr} {K : Heap → Prop}
variable {E : Heap → α → List Value → Prop} {T : Tell sz E}
theorem Hold.hdX (O : Hold W h0 m0 h m Rs) (k : Nat) (hk : Rs[k]? = some (rX (aRow a) A c ll hs none)) (ha : A = some aa) (g : gi ll x = some li) : ∃ Ai ci, hs[Int.toNat x]? = some (.slice Ai li.length ci) ∧ cellsH h (Addr.add aa (Int.toNat x * 1)) 0 1 = some [.slice Ai li.length ci] ∧ li.length ≤ ci := by
  obtain ⟨F, ⟨b, t, pre, rest, Fe, k0, k1, k2, k3, k4, _⟩, _⟩ := O.get k hk
  rw [ha] at k1; cases k1
  obtain ⟨l1, l2, c1, ce, c2, F1, F3, F2, e1, e2, rfl, e4, h1, ⟨Ai, ci, rfl, h2⟩, _⟩ := CsA.split k3 (gi_get g)
  have e5 : (c1 ++ ([Value.slice Ai li.length ci] ++ c2))[Int.toNat x]? = some (.slice Ai li.length ci) := by
    rw [List.getElem?_append_right (by omega), show Int.toNat x - c1.length = 0 by omega]; rfl
  refine ⟨Ai, ci, e5, ?_, rowP.cap h2⟩
  have hlt := (List.getElem?_eq_some_iff.1 e5).1
  have := k2.cells (a := (⟨b, pre.length, none⟩ : Addr).add (x.toNat * 1)) (by rw [add_block]) (add_spot _ rfl) 1 0 (by rw [add_off]; simp only [List.length_append] at hlt ⊢; omega)
  rw [this, add_off]
  simp only [Nat.add_zero, Nat.mul_one]
  rw [List.append_assoc pre, ← List.drop_drop, List.drop_left, List.drop_append_of_le_length (by omega), List.drop_eq_getElem_cons hlt, List.cons_append, List.take_succ_cons, List.take_zero]
  congr 2
  rw [List.getElem?_eq_getElem hlt] at e5
  exact Option.some.inj e5
theorem Hold.hcX (O : Hold W h0 m0 h m Rs) (k : Nat) (hk : Rs[k]? = some (rX (aRow a) A c ll hs S)) (ha : A = some aa) (hx : hs[i]? = some v) : cellsH h (Addr.add aa (i * 1)) 0 1 = some [v] := by
  obtain ⟨F, ⟨b, t, pre, rest, Fe, k0, k1, k2, k3, k4, _⟩, _⟩ := O.get k hk
  rw [ha] at k1; cases k1
  have hlt := (List.getElem?_eq_some_iff.1 hx).1
  have := k2.cells (a := (⟨b, pre.length, none⟩ : Addr).add (i * 1)) (by rw [add_block]) (add_spot _ rfl) 1 0 (by rw [add_off]; simp only [List.length_append] at hlt ⊢; omega)
  rw [this, add_off]
  simp only [Nat.add_zero, Nat.mul_one]
  rw [List.append_assoc pre, ← List.drop_drop, List.drop_left, List.drop_append_of_le_length (by omega), List.drop_eq_getElem_cons hlt, List.cons_append, List.take_succ_cons, List.take_zero]
  congr 2
  rw [List.getElem?_eq_getElem hlt] at hx
  exact Option.some.inj hx
theorem Hold.takeX (O : Hold W h0 m0 h m Rs) (k : Nat) (hk : Rs[k]? = some (rX (aRow a) A c ll hs none)) (hx : hs[Int.toNat x]? = some (.slice Ai n ci)) (g : gi ll x = some li) : Hold W h0 m0 h m (Rs.set k (rX (aRow a) A c ll hs (some (Int.toNat x))) ++ [rR a Ai ci li]) := by
  refine O.cut k hk fun F hF => ?_
  obtain ⟨b, t, pre, rest, Fe, k0, k1, k2, k3, k4, k5, k6, k7, rfl⟩ := hF
  obtain ⟨l1, l2, c1, ce, c2, F1, F3, F2, e1, e2, rfl, e4, h1, ⟨A2, c2', rfl, h2⟩, h3, d1, d2, d3, rfl⟩ := CsA.split k3 (gi_get g)
  have e5 : (c1 ++ ([Value.slice A2 li.length c2'] ++ c2))[Int.toNat x]? = some (.slice A2 li.length c2') := by
    rw [List.getElem?_append_right (by omega), show Int.toNat x - c1.length = 0 by omega]; rfl
  rw [e5] at hx
  cases hx
  refine ⟨U (fb b) (U F1 F2), F3, ⟨b, t, pre, rest, U F1 F2, k0, k1, k2, ⟨l1, li, l2, c1, _, c2, F1, F2, e1, e2, rfl, e4, rfl, h1, h3, d2, rfl⟩, k4, k5, k6, fun hb => k7 (.inr hb), rfl⟩, h2, ?_, ?_⟩
  · exact Dj.u (fun i hi hf => by unfold fb at hi; subst hi; exact k7 (.inl hf)) (Dj.u d1 d3.symm)
  · rintro i ((hi | hi) | hi)
    · exact .inl hi
    · exact .inr (.inr hi)
    · exact .inr (.inl hi)
theorem Hold.putX (O : Hold W h0 m0 h m Rs) (k j : Nat) (hk : Rs[k]? = some (rX (aRow a) A c ll hs (some i))) (hj : (Rs.set k rE)[j]? = some (rR a Ai ci li)) (hx : hs[i]? = some (.slice Ai n ci)) (hn : n = li.length) (e : ll.set i li = ll') : Hold W h0 m0 h m (((Rs.set k rE).set j rE).set k (rX (aRow a) A c ll' hs none)) := by
  subst e; subst hn
  refine O.fuse k j (R' := rX (aRow a) A c (ll.set i li) hs none) hk hj ?_
  rintro F1 F2 ⟨b, t, pre, rest, Fe, k0, k1, k2, ⟨l1, y', l2, c1, ce, c2, G1, G2, rfl, rfl, rfl, q4, q5, q6, q7, q8, rfl⟩, k4, k5, k6, k7, rfl⟩ h2 d
  have hce : ce = [.slice Ai li.length ci] := by
    rw [List.getElem?_append_right (by omega), show l1.length - c1.length = 0 by omega, List.getElem?_append_left (by omega)] at hx
    cases ce with
    | nil => cases q5
    | cons v ce => simp at hx q5; rw [hx, q5]
  subst hce
  have hl : (l1 ++ y' :: l2).set l1.length li = l1 ++ li :: l2 := by rw [List.set_append_right _ _ (Nat.le_refl _), Nat.sub_self, List.set_cons_zero]
  have hlen : (l1 ++ li :: l2).length = (l1 ++ y' :: l2).length := by simp
  rw [hl]
  refine ⟨U (fb b) (U F2 (U G1 G2)), ⟨b, t, pre, rest, _, k0, k1, k2, q6.join ⟨Ai, ci, rfl, h2⟩ q7 d.ur.ul q8 d.ur.ur.symm, by rw [hlen]; exact k4, by rw [hlen]; exact k5, k6, ?_, rfl⟩, ?_⟩
  · rintro (hf | hf)
    · exact d b (.inl rfl) hf
    · exact k7 hf
  · rintro i (hi | hi | hi)
    · exact .inl (.inl hi)
    · exact .inr hi
    · exact .inl (.inr hi)
theorem Hold.hdSt (O : Hold W h0 m0 h m Rs) (k : Nat) (hk : Rs[k]? = some (rX (aRow a) A c ll hs (some i))) (ha : A = some aa) (hf : Flat v) (H : ∀ h', Hold W h0 m0 h' m (Rs.set k (rX (aRow a) A c ll (hs.set i v) (some i))) → K h') : ∃ h', st1 h (Addr.add aa (i * 1)) v = some h' ∧ K h' := by
  obtain ⟨F, h1, h2, h3⟩ := O.get k hk
  obtain ⟨b, t, pre, rest, Fe, k0, k1, k2, ⟨l1, y', l2, c1, ce, c2, G1, G2, e1, rfl, rfl, q4, q5, q6, q7, q8, rfl⟩, k4, k5, k6, k7, rfl⟩ := h1
  subst ha; cases k1
  have hb : Blk h b ((pre ++ c1) ++ ce ++ (c2 ++ rest)) t := by
    have : (pre ++ c1) ++ ce ++ (c2 ++ rest) = pre ++ (c1 ++ (ce ++ c2)) ++ rest := by simp only [List.append_assoc]
    rw [this]; exact k2
  obtain ⟨h', s1, b1, o1⟩ := Blk.stH [v] (a := Addr.add ⟨b, pre.length, none⟩ (l1.length * 1)) (i := 0) hb (by rw [add_block]) (add_spot _ rfl)
    (by rw [add_off]; simp only [List.length_append]; omega) (by rw [q5]; rfl) (Flats.cons hf Flats.nil)
  have s2 : st1 h (Addr.add ⟨b, pre.length, none⟩ (l1.length * 1)) v = some h' := by
    simp only [stH] at s1
    split at s1
    · rename_i h4 h5
      cases s1; exact h5
    · cases s1
  refine ⟨h', s2, H h' ?_⟩
  have S : St (fb b) h m h' m := .only O.s k6 o1
  have S2 : St (U (fb b) (U G1 G2)) h m h' m := ⟨S.up, S.s, S.size, fun i hi hn => S.fr i hi (fun h => hn (.inl h)), fun i hi hl => .inl hl⟩
  have hk0 : ∀ b', G1 b' ∨ G2 b' → h'[b']? = h[b']? := fun b' hb' => S.fr b' (hb'.elim (q6.lt b') (q7.lt b')) (fun e => by unfold fb at e; subst e; exact k7 hb')
  have hset : (c1 ++ (ce ++ c2)).set l1.length v = c1 ++ ([v] ++ c2) := by
    rw [List.set_append_right _ _ (by omega), show l1.length - c1.length = 0 by omega]
    cases ce with
    | nil => cases q5
    | cons w ce => simp at q5; subst q5; rfl
  rw [hset]
  refine h3 (R' := rX (aRow a) (some ⟨b, pre.length, none⟩) c ll (c1 ++ ([v] ++ c2)) (some l1.length)) S2 ⟨b, t, pre, rest, _, k0, rfl, ?_, ⟨l1, y', l2, c1, [v], c2, G1, G2, e1, rfl, rfl, q4, rfl, q6.fr (fun i hi => hk0 i (.inl hi)) (.refl _) (fun i hi => q6.nl i hi), q7.fr (fun i hi => hk0 i (.inr hi)) (.refl _) (fun i hi => q7.nl i hi), q8, rfl⟩, k4, k5, k6, k7, rfl⟩ (fun _ h => .inl h)
  have : pre ++ (c1 ++ ([v] ++ c2)) ++ rest = (pre ++ c1) ++ [v] ++ (c2 ++ rest) := by simp only [List.append_assoc]
  rw [this]; exact b1
theorem hx_len {hs : List Value} {i n k c : Nat} {A : Option Addr} (h : hs[i]? = some (.slice A n c)) (e : n = k) : hs[i]? = some (.slice A k c) := by subst e; exact h
theorem hs_set {hs : List Value} {i : Nat} {v w : Value} (h : hs[i]? = some w) : (hs.set i v)[i]? = some v := List.getElem?_set_self (List.getElem?_eq_some_iff.1 h).1
theorem gi_ne {l l' : List α} {x j : Int} {y y' : α} (g : gi l j = some y) (e : l.set (Int.toNat x) y' = l') (hne : Int.toNat x ≠ Int.toNat j) : gi l' j = some y := by
  subst e
  unfold gi at g ⊢
  split at g
  · rename_i h; rw [if_pos h, List.getElem?_set_ne hne]; exact g
  · cases g
theorem Hold.xos (O : Hold W h0 m0 h m Rs) (k : Nat) (hk : Rs[k]? = some (rX (aRow (aE T)) A c ll hs none)) (hx : hs[Int.toNat x]? = some (.slice Ai n ci)) (g : gi ll x = some li) : OS W h0 sz E h m Ai li ci := by
  have O2 := O.takeX k hk hx g
  exact O2.os (T := T) Rs.length (by rw [List.getElem?_append_right (by simp)]; simp)
end
end Go.Hw

end
section
set_option linter.unusedVariables false
namespace Go.Hw
open Go
end Go.Hw

end
section
set_option linter.unusedVariables false
namespace Go.Hw
open Go Go.RowKit
def partB (P : Program) (t : TypeId) (cs : Array Value) (off : Nat) : Option Value :=
  match P.underlying t with
  | some D => match isAggD D with
    | true => match P.info? t with
      | some i => some (.agg ((cs.toList.drop off).take i.size).toArray)
      | none => none
    | false => cs[off]?
  | none => none
def fldsB (P : Program) (q : TypeId → Value → Value → Option Bool) (xs ys : Array Value) : List Field → Option Bool
  | [] => some true
  | f :: fs => match decide (f.name ≠ "_") with
    | false => fldsB P q xs ys fs
    | true => match partB P f.type xs f.offset, partB P f.type ys f.offset with
      | some x, some y => match q f.type x y with
        | some b => match fldsB P q xs ys fs with
          | some c => some (b && c)
          | none => none
        | none => none
      | _, _ => none
def elsB (P : Program) (q : TypeId → Value → Value → Option Bool) (e : TypeId) (s : Nat) (xs ys : Array Value) : List Nat → Option Bool
  | [] => some true
  | i :: r => match partB P e xs (i * s), partB P e ys (i * s) with
    | some x, some y => match q e x y with
      | some b => match elsB P q e s xs ys r with
        | some c => some (b && c)
        | none => none
      | none => none
    | _, _ => none
def eqB (P : Program) : Nat → TypeId → Value → Value → Option Bool
  | 0, _, _, _ => none
  | d + 1, t, x, y => match x, y with
    | .agg xs, .agg ys => match P.underlying t with
      | some (.struct fs) => match P.stoodInHeld t with
        | false => fldsB P (eqB P d) xs ys fs.toList
        | true => none
      | some (.array n e) => match P.info? e with
        | some i => elsB P (eqB P d) e i.size xs ys (List.range' 0 n)
        | none => none
      | _ => none
    | x, y => flatB P t x y
def aggN (P : Program) (t : TypeId) (xs ys : Array Value) : Option Bool :=
  match P.eqGuardType P.depth t with
  | false => eqB P 8 t (.agg xs) (.agg ys)
  | true => none
section
variable {P : Program} {t : TypeId}
theorem hwp_partB {cs : Array Value} {off : Nat} {v : Value} {h : Heap} {K : Value → Heap → Prop} (hv : partB P t cs off = some v) (hk : K v h) : Hwp P (part t cs off) h K := by
  unfold partB at hv
  split at hv
  · rename_i D hu
    unfold part
    refine hwp_bind (hwp_isAgg hu ?_)
    cases hd : isAggD D with
    | true =>
      rw [hd] at hv
      simp only at hv
      split at hv
      · rename_i i hi
        cases hv
        rw [if_pos rfl]
        refine hwp_bind (hwp_sizeOf hi ?_)
        have : cs.extract off (off + i.size) = ((cs.toList.drop off).take i.size).toArray := by
          apply Array.ext'
          rw [Array.toList_extract]
          simp [List.extract_eq_take_drop]
        rw [this]
        exact hk
      · cases hv
    | false =>
      rw [hd] at hv
      simp only at hv
      simp only [Bool.false_eq_true, if_false, hv]
      exact hk
  · cases hv
theorem eqB_spec : ∀ (d : Nat) {t : TypeId} {x y : Value} {b : Bool}, eqB P d t x y = some b → ∀ k, EqF P (d + 1 + k) t x y b := by
  intro d
  induction d with
  | zero => intro t x y b h; cases h
  | succ d ih =>
    intro t x y b hb k
    unfold eqB at hb
    split at hb
    · rename_i xs ys
      split at hb
      · rename_i fs hu
        split at hb
        · rename_i hp
          intro h K hk
          rw [show d + 1 + 1 + k = (d + 1 + k) + 1 by omega]
          unfold Op.equalIn
          refine hwp_bind (hwp_underlying hu ?_)
          refine hwp_bind (hwp_program ?_)
          rw [hp]
          simp only [Bool.false_eq_true, if_false]
          rw [← Array.forIn_toList]
          clear hu
          generalize fs.toList = l at *
          refine hwp_bind ?_
          induction l generalizing b with
          | nil => cases hb; exact hk
          | cons f l ih2 =>
            rw [List.forIn_cons]
            unfold fldsB at hb
            by_cases hn : f.name ≠ "_"
            · rw [decide_eq_true hn] at hb
              rw [if_pos hn]
              simp only at hb
              split at hb
              · rename_i x y hx hy
                split at hb
                · rename_i b1 h1
                  split at hb
                  · rename_i c hc
                    cases hb
                    have he := ih h1 k
                    refine hwp_bind (hwp_bind (hwp_partB hx (hwp_bind (hwp_partB hy (hwp_bind (he _ _ ?_))))))
                    cases b1 with
                    | false => exact hk
                    | true => exact ih2 hk hc
                  · cases hb
                · cases hb
              · cases hb
            · rw [decide_eq_false hn] at hb
              rw [if_neg hn]
              exact hwp_bind (hwp_pure (P := P) (ih2 hk hb))
        · cases hb
      · rename_i n e hu
        split at hb
        · rename_i i hi
          intro h K hk
          rw [show d + 1 + 1 + k = (d + 1 + k) + 1 by omega]
          unfold Op.equalIn
          refine hwp_bind (hwp_underlying hu ?_)
          refine hwp_bind (hwp_sizeOf hi ?_)
          simp only [Std.Legacy.Range.forIn_eq_forIn_range', Std.Legacy.Range.size, Nat.sub_zero, Nat.add_sub_cancel, Nat.div_one]
          clear hu
          generalize List.range' 0 n = l at *
          refine hwp_bind ?_
          induction l generalizing b with
          | nil => cases hb; exact hk
          | cons f l ih2 =>
            rw [List.forIn_cons]
            unfold elsB at hb
            split at hb
            · rename_i x y hx hy
              split at hb
              · rename_i b1 h1
                split at hb
                · rename_i c hc
                  cases hb
                  have he := ih h1 k
                  refine hwp_bind (hwp_bind (hwp_partB hx (hwp_bind (hwp_partB hy (hwp_bind (he _ _ ?_))))))
                  cases b1 with
                  | false => exact hk
                  | true => exact ih2 hk hc
                · cases hb
              · cases hb
            · cases hb
        · cases hb
      · cases hb
    · rw [show d + 1 + 1 + k = (d + 1 + k) + 1 by omega]
      exact (flatB_spec (d := d + 1 + k) hb).1
theorem equal_aggN {xs ys : Array Value} {b : Bool} {h : Heap} {K : Bool → Heap → Prop} (hb : aggN P t xs ys = some b) (hk : K b h) : Hwp P (Op.equal t (.agg xs) (.agg ys)) h K := by
  unfold aggN at hb
  split at hb
  · exact eqB_spec 8 hb 9991 h K hk
  · cases hb
end
end Go.Hw

end
section
set_option linter.unusedVariables false
namespace Go.Hw
open Go
end Go.Hw
namespace Go.Hw
open Go
end Go.Hw
namespace Go.Hw
open Go
end Go.Hw
namespace Go.Hw
open Go
end Go.Hw
namespace Go.Hw
open Go
end Go.Hw

end
section
set_option linter.unusedVariables false
namespace Go.Hw
open Go
end Go.Hw

end
section
set_option linter.unusedVariables false
namespace Go.Hw
open Go
section
noncomputable def agreeF {R : Type} (n : Nat) (f : Nat → Option R) : Option R :=
  open Classical in if ∃ r, ∀ j, j < n → f j = some r then f 0 else none
noncomputable def pickF {α R : Type} (left : List α) (over : Option R) (go : α → List α → Option R) : Option R :=
  match left with
  | [] => over
  | _ :: _ => agreeF left.length fun j => (left[j]?).bind fun c => go c (left.eraseIdx j)
variable {α R : Type} {left : List α} {over over' : Option R} {go go' : α → List α → Option R} {r : R}
end
attribute [irreducible] pickF agreeF
end Go.Hw
namespace Go.Hw
open Go
end Go.Hw

end
section
set_option linter.unusedVariables false
namespace Go.Hw
open Go
abbrev Vec (n : Nat) := {l : List Int // l.length = n}
def vec (n : Nat) (l : List Int) : Vec n := ⟨(List.range n).map fun j => l.getD j 0, by rw [List.length_map, List.length_range]⟩
def vecKey (n : Nat) (kd : IntKind) (a : Vec n) : Value := .agg ((List.range n).map fun j => Value.int kd (a.1.getD j 0)).toArray
def vecEq (x y : List Int) : List Nat → Bool
  | [] => true
  | j :: r => (x.getD j 0 == y.getD j 0) && vecEq x y r
theorem vecEq_iff (x y : List Int) : ∀ r : List Nat, vecEq x y r = true ↔ ∀ j ∈ r, x.getD j 0 = y.getD j 0
  | [] => by simp [vecEq]
  | j :: r => by
    rw [vecEq, Bool.and_eq_true, vecEq_iff x y r, beq_iff_eq]
    simp only [List.mem_cons, forall_eq_or_imp]
theorem vecEq_dec {n : Nat} (a b : Vec n) : vecEq a.1 b.1 (List.range n) = decide (a = b) := by
  rw [Bool.eq_iff_iff, vecEq_iff, decide_eq_true_iff]
  constructor
  · intro h
    apply Subtype.ext
    refine List.ext_getElem (by rw [a.2, b.2]) fun i h1 h2 => ?_
    have := h i (List.mem_range.2 (by rw [← a.2]; exact h1))
    rw [List.getD_eq_getElem?_getD, List.getD_eq_getElem?_getD, List.getElem?_eq_getElem h1, List.getElem?_eq_getElem h2] at this
    exact this
  · intro e j _; rw [e]
theorem vec_eq {n : Nat} {l : List Int} (h : l.length = n) : (vec n l).1 = l := by
  show ((List.range n).map fun j => l.getD j 0) = l
  refine List.ext_getElem (by rw [List.length_map, List.length_range, h]) fun i h1 h2 => ?_
  rw [List.getElem_map, List.getElem_range, List.getD_eq_getElem?_getD, List.getElem?_eq_getElem h2]; rfl
theorem vec_iff {n : Nat} {l m : List Int} (h : l.length = n) (h' : m.length = n) : vec n l = vec n m ↔ l = m :=
  ⟨fun e => by rw [← vec_eq h, ← vec_eq h', e], fun e => by rw [e]⟩
theorem same_ints (kd : IntKind) : ∀ l : List Int, ((l.map (Value.int kd)).zip (l.map (Value.int kd))).all (fun p => Instr.sameBits 9999 p.1 p.2) = true
  | [] => rfl
  | x :: l => by
    rw [List.map_cons, List.zip_cons_cons, List.all_cons, same_ints kd l, Bool.and_true]
    simp [Instr.sameBits]
theorem same_vec (kd : IntKind) (l : List Int) : Instr.sameBits 10000 (.agg (l.map (Value.int kd)).toArray) (.agg (l.map (Value.int kd)).toArray) = true := by
  show ((l.map (Value.int kd)).toArray.size == (l.map (Value.int kd)).toArray.size && ((l.map (Value.int kd)).toArray.toList.zip (l.map (Value.int kd)).toArray.toList).all fun (x, y) => Instr.sameBits 9999 x y) = true
  rw [beq_self_eq_true, Bool.true_and]
  exact same_ints kd l
section
variable {P : Program} {t : TypeId}
theorem keyOk_vec {key elem et n : Nat} {kd : IntKind} (hu : P.underlying t = some (.map key elem)) (hk : P.underlying key = some (.array n et)) (he : P.underlying et = some (.int kd)) (hI : (P.info? et).map (·.size) = some 1)
    (heq : ∀ x y : List Int, aggN P key ((List.range n).map fun j => Value.int kd (x.getD j 0)).toArray ((List.range n).map fun j => Value.int kd (y.getD j 0)).toArray = some (vecEq x y (List.range n))) : KeyOk P t (vecKey n kd) elem := by
  obtain ⟨inf, hi, hs⟩ : ∃ inf, P.info? et = some inf ∧ inf.size = 1 := by
    cases h : P.info? et with
    | none => rw [h] at hI; cases hI
    | some i => rw [h] at hI; exact ⟨i, rfl, Option.some.inj hI⟩
  exact { key := ⟨key, hu, fun b v h K hK => by
      unfold vecKey Instr.checkKey
      refine hwp_bind (hwp_underlying hk ?_)
      simp only [Std.Legacy.Range.forIn_eq_forIn_range', Std.Legacy.Range.size, Nat.sub_zero, Nat.add_sub_cancel, Nat.div_one]
      have key : ∀ l : List Nat, (∀ i ∈ l, i < n) → Hwp P (forIn l PUnit.unit fun i _ => do
          let __do_lift ← sizeOf et
          let __do_lift ← part et (List.map (fun j => Value.int kd (v.1.getD j 0)) (List.range n)).toArray (i * __do_lift)
          Instr.checkKey b 9999 et __do_lift
          pure (ForInStep.yield PUnit.unit)) h fun _ h' => Hwp P (pure ()) h' K := by
        intro l
        induction l with
        | nil => intro _; exact hwp_pure (P := P) hK
        | cons i l il =>
          intro hl
          have hin := hl i (List.mem_cons_self ..)
          rw [List.forIn_cons]
          have hp : partB P et (List.map (fun j => Value.int kd (v.1.getD j 0)) (List.range n)).toArray (i * inf.size) = some (Value.int kd (v.1.getD i 0)) := by
            unfold partB
            rw [he]
            show (List.map (fun j => Value.int kd (v.1.getD j 0)) (List.range n)).toArray[i * inf.size]? = _
            rw [hs, Nat.mul_one, List.getElem?_toArray, List.getElem?_map, List.getElem?_range hin]; rfl
          refine hwp_bind (hwp_bind (hwp_sizeOf hi (hwp_bind (hwp_partB hp (hwp_bind ?_)))))
          unfold Instr.checkKey
          refine hwp_bind (hwp_underlying he ?_)
          exact il fun j hj => hl j (List.mem_cons_of_mem _ hj)
      exact hwp_bind (key (List.range' 0 n) (fun i hi => by have := (List.mem_range'_1 (m := i) (s := 0) (n := n)).1 hi; omega)), fun k l es h K he' hK => by
      unfold Instr.findKey
      refine hwp_bind (hwp_underlying hk ?_)
      have ask : ∀ (l : List MapEntry) (es : List (Vec n × Value)) (i : Nat), l.map (fun x => (x.key, x.val)) = es.map (fun x => (vecKey n kd x.1, x.2)) → K (findAt k es i) h → Hwp P (Instr.findAsking key (vecKey n kd k) l i) h K := by
        intro l
        induction l with
        | nil =>
          intro es i he hK
          cases es with
          | nil => exact hwp_pure (P := P) hK
          | cons x es => cases he
        | cons e l il =>
          intro es i he hK
          cases es with
          | nil => cases he
          | cons x es =>
            simp only [List.map_cons, List.cons.injEq, Prod.mk.injEq] at he
            obtain ⟨⟨hkey, hval⟩, he⟩ := he
            unfold Instr.findAsking
            rw [hkey]
            refine hwp_bind (equal_aggN (heq k.1 x.1.1) ?_)
            rw [vecEq_dec k x.1]
            unfold findAt at hK
            by_cases c : k = x.1
            · rw [if_pos c] at hK
              rw [decide_eq_true c, if_pos rfl, hval]
              exact hwp_pure (P := P) hK
            · rw [if_neg c] at hK
              rw [decide_eq_false c, if_neg (by decide)]
              exact il es (i + 1) he hK
      cases l with
      | nil =>
        cases es with
        | nil => exact hwp_pure (P := P) hK
        | cons x es => cases he'
      | cons e l =>
        exact ask (e :: l) es 0 he' hK⟩
          same := fun a => by have := same_vec kd ((List.range n).map fun j => a.1.getD j 0); rw [List.map_map] at this; exact this }
end
end Go.Hw

end
