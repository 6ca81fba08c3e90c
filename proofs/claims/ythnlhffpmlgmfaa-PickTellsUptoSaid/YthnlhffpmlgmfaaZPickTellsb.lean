/- Part 2: what the law PickTells needs, put together out of texts of this session. -/
import Derived.ProofKit
import Derived.OpenShut
import Derived.ShutString
import Derived.ChangeOld
import Derived.Below
import Derived.SizedLaws
import Derived.ChangeArms
import Derived.Laws.StructEq
import Derived.Test.YthnlhffpmlgmfaaZPickTellsa
section
namespace Go.Proofs.Ythnlhffpmlgmfaa.Fw
open Go Go.Hw Go.Proofs
set_option linter.unusedVariables false
def f80.T : Tab := { sh := tSh, tup := tTup, keep := [], plan := [] }
def f80.kp : Keep := [([false, false, true, false, true, true], [4, 5, 11, 12, 13])]
theorem f80.good : goodCode Try.prog f80.T (rootOf Try.f80) = true := by kernel_rfl
def f80.l0 (R : Value → Heap → Prop) (x4 : Int) (x5 : Int) (A11 : Option Addr) (n11 : Nat) (c11 : Nat) (x12 : Int) (x13 : Int) (h : Heap) : Prop := Pt Try.prog Try.f80 R [false, false, true, false, true, true] (mkFr [(4, (Value.int .i64 x4)), (5, (Value.int .i64 x5)), (11, (Value.slice A11 n11 c11)), (12, (Value.int .i64 x12)), (13, (Value.int .i64 x13))]) h
set_option maxRecDepth 100000 in
def f80.l0T (R : Value → Heap → Prop) (x4 : Int) (x5 : Int) (A11 : Option Addr) (n11 : Nat) (c11 : Nat) (x12 : Int) (x13 : Int) (h : Heap) : Prop :=
  splitB (decide (x13 < x12)) (ptrOk A11 fun a1_ => 0 ≤ x13 ∧ x13 < ((n11 : Nat) : Int) ∧ (∃ v2_, ldv true 4 h (Addr.add a1_ (Int.toNat x13 * 4)) = some v2_ ∧ newH h (Obj.cells #[(Value.int .i64 (0 : Int)), (Value.int .i64 (0 : Int)), (Value.string (ByteArray.mk #[])), (Value.slice none 0 0)] 50) fun h3_ => ∃ l5_ : List Value, v2_ = Value.agg l5_.toArray ∧ l5_.length = 4 ∧ ∃ h4_, stH h3_ (⟨Array.size h, 0, none⟩) l5_ 0 = some h4_ ∧ ∃ v6_, ldv true 4 h4_ (⟨Array.size h, 0, none⟩) = some v6_ ∧ Run Try.prog 80 #[v6_] h4_ fun v7_ h8_ => ∃ x9_, ∃ x10_, v7_ = (Value.tuple #[(Value.int .i64 x9_), (Value.int .i64 x10_)]) ∧ f80.l0 R (if x9_ > x4 then x9_ else x4) (IntKind.wrap .i64 (x5 + x10_)) A11 n11 c11 x12 (IntKind.wrap .i64 (x13 + (1 : Int))) h8_)) (R (Value.tuple #[(Value.int .i64 (IntKind.wrap .i64 (x4 + (1 : Int)))), (Value.int .i64 x5)]) h)
set_option maxRecDepth 100000 in
theorem f80.l0_in {R : Value → Heap → Prop} {x4 : Int} {x5 : Int} {A11 : Option Addr} {n11 : Nat} {c11 : Nat} {x12 : Int} {x13 : Int} {h : Heap} (H : f80.l0T R x4 x5 A11 n11 c11 x12 x13 h) : f80.l0 R x4 x5 A11 n11 c11 x12 x13 h :=
  pt_intro mixed f80.good (Eq.mpr (show (Fwd Try.prog f80.T f80.kp Try.f80 R [false, false, true, false, true, true] (mkFr [(4, (Value.int .i64 x4)), (5, (Value.int .i64 x5)), (11, (Value.slice A11 n11 c11)), (12, (Value.int .i64 x12)), (13, (Value.int .i64 x13))]) h) = (f80.l0T R x4 x5 A11 n11 c11 x12 x13 h) by kernel_rfl) H)
set_option maxRecDepth 100000 in
def f80.runT (R : Value → Heap → Prop) (v0 : Value) (h : Heap) : Prop :=
  newH h (Obj.cells ((v0).cells) 50) fun h1_ => ∃ v2_, ldv false 1 h1_ (Addr.add (⟨Array.size h, 0, none⟩) 3) = some v2_ ∧ ∃ A3_, ∃ n3_, ∃ c3_, v2_ = (Value.slice A3_ n3_ c3_) ∧ f80.l0 R (0 : Int) (1 : Int) A3_ n3_ c3_ ((n3_ : Nat) : Int) (0 : Int) h1_
set_option maxRecDepth 100000 in
theorem f80.run {R : Value → Heap → Prop} {v0 : Value} {h : Heap} (H : f80.runT R v0 h) : Run Try.prog 80 #[v0] h R :=
  run_of mixed Try.func80 (by kernel_rfl) (by kernel_rfl) f80.good (Eq.mpr (show (Fwd Try.prog f80.T f80.kp Try.f80 R [] (mkFr (argL [v0] 0)) h) = (f80.runT R v0 h) by kernel_rfl) H)
def f23.T : Tab := { sh := tSh, tup := tTup, keep := [], plan := [] }
def f23.kp : Keep := []
theorem f23.good : goodCode Try.prog f23.T (rootOf Try.f23) = true := by kernel_rfl
set_option maxRecDepth 100000 in
def f23.runT (R : Value → Heap → Prop) (v0 : Value) (h : Heap) : Prop :=
  newH h (Obj.cells ((v0).cells) 50) fun h1_ => ∃ v2_, ldv true 4 h1_ (⟨Array.size h, 0, none⟩) = some v2_ ∧ Run Try.prog 80 #[v2_] h1_ fun v3_ h4_ => ∃ x5_, ∃ x6_, v3_ = (Value.tuple #[(Value.int .i64 x5_), (Value.int .i64 x6_)]) ∧ splitB (decide (x5_ ≤ (60 : Int))) (R (Value.bool (decide (x6_ ≤ (500 : Int)))) h4_) (R (Value.bool false) h4_)
set_option maxRecDepth 100000 in
theorem f23.run {R : Value → Heap → Prop} {v0 : Value} {h : Heap} (H : f23.runT R v0 h) : Run Try.prog 23 #[v0] h R :=
  run_of mixed Try.func23 (by kernel_rfl) (by kernel_rfl) f23.good (Eq.mpr (show (Fwd Try.prog f23.T f23.kp Try.f23 R [] (mkFr (argL [v0] 0)) h) = (f23.runT R v0 h) by kernel_rfl) H)
def f81.T : Tab := { sh := tSh, tup := tTup, keep := [], plan := [] }
def f81.kp : Keep := [([false, false, true, false, true], [0, 1, 7, 8])]
theorem f81.good : goodCode Try.prog f81.T (rootOf Try.f81) = true := by kernel_rfl
def f81.l0 (R : Value → Heap → Prop) (A0 : Option Addr) (n0 : Nat) (c0 : Nat) (v1 : Value) (x7 : Int) (x8 : Int) (h : Heap) : Prop := Pt Try.prog Try.f81 R [false, false, true, false, true] (mkFr [(0, (Value.slice A0 n0 c0)), (1, v1), (7, (Value.int .i64 x7)), (8, (Value.int .i64 x8))]) h
set_option maxRecDepth 100000 in
def f81.l0T (R : Value → Heap → Prop) (A0 : Option Addr) (n0 : Nat) (c0 : Nat) (v1 : Value) (x7 : Int) (x8 : Int) (h : Heap) : Prop :=
  splitB (decide (x8 < x7)) (ptrOk A0 fun a1_ => 0 ≤ x8 ∧ x8 < ((n0 : Nat) : Int) ∧ (∃ v2_, ldv true 4 h (Addr.add a1_ (Int.toNat x8 * 4)) = some v2_ ∧ CallF Try.prog v1 [v2_] h fun v3_ h4_ => ∃ b5_, v3_ = (Value.bool b5_) ∧ splitB b5_ (R (Value.int .i64 x8) h4_) (f81.l0 R A0 n0 c0 v1 x7 (IntKind.wrap .i64 (x8 + (1 : Int))) h4_))) (R (Value.int .i64 (-1 : Int)) h)
set_option maxRecDepth 100000 in
theorem f81.l0_in {R : Value → Heap → Prop} {A0 : Option Addr} {n0 : Nat} {c0 : Nat} {v1 : Value} {x7 : Int} {x8 : Int} {h : Heap} (H : f81.l0T R A0 n0 c0 v1 x7 x8 h) : f81.l0 R A0 n0 c0 v1 x7 x8 h :=
  pt_intro mixed f81.good (Eq.mpr (show (Fwd Try.prog f81.T f81.kp Try.f81 R [false, false, true, false, true] (mkFr [(0, (Value.slice A0 n0 c0)), (1, v1), (7, (Value.int .i64 x7)), (8, (Value.int .i64 x8))]) h) = (f81.l0T R A0 n0 c0 v1 x7 x8 h) by kernel_rfl) H)
set_option maxRecDepth 100000 in
def f81.runT (R : Value → Heap → Prop) (A0 : Option Addr) (n0 : Nat) (c0 : Nat) (v1 : Value) (h : Heap) : Prop :=
  f81.l0 R A0 n0 c0 v1 ((n0 : Nat) : Int) (0 : Int) h
set_option maxRecDepth 100000 in
theorem f81.run {R : Value → Heap → Prop} {A0 : Option Addr} {n0 : Nat} {c0 : Nat} {v1 : Value} {h : Heap} (H : f81.runT R A0 n0 c0 v1 h) : Run Try.prog 81 #[(Value.slice A0 n0 c0), v1] h R :=
  run_of mixed Try.func81 (by kernel_rfl) (by kernel_rfl) f81.good (Eq.mpr (show (Fwd Try.prog f81.T f81.kp Try.f81 R [] (mkFr (argL [(Value.slice A0 n0 c0), v1] 0)) h) = (f81.runT R A0 n0 c0 v1 h) by kernel_rfl) H)
def f24.T : Tab := { sh := tSh, tup := tTup, keep := [], plan := [] }
def f24.kp : Keep := []
theorem f24.good : goodCode Try.prog f24.T (rootOf Try.f24) = true := by kernel_rfl
set_option maxRecDepth 100000 in
def f24.runT (R : Value → Heap → Prop) (A0 : Option Addr) (n0 : Nat) (c0 : Nat) (v1 : Value) (h : Heap) : Prop :=
  Run Try.prog 81 #[(Value.slice A0 n0 c0), v1] h fun v1_ h2_ => ∃ x3_, v1_ = (Value.int .i64 x3_) ∧ R (Value.bool (decide (x3_ ≥ (0 : Int)))) h2_
set_option maxRecDepth 100000 in
theorem f24.run {R : Value → Heap → Prop} {A0 : Option Addr} {n0 : Nat} {c0 : Nat} {v1 : Value} {h : Heap} (H : f24.runT R A0 n0 c0 v1 h) : Run Try.prog 24 #[(Value.slice A0 n0 c0), v1] h R :=
  run_of mixed Try.func24 (by kernel_rfl) (by kernel_rfl) f24.good (Eq.mpr (show (Fwd Try.prog f24.T f24.kp Try.f24 R [] (mkFr (argL [(Value.slice A0 n0 c0), v1] 0)) h) = (f24.runT R A0 n0 c0 v1 h) by kernel_rfl) H)
def f82.T : Tab := { sh := tSh, tup := tTup, keep := [], plan := [] }
def f82.kp : Keep := []
theorem f82.good : goodCode Try.prog f82.T (rootOf Try.f82) = true := by kernel_rfl
set_option maxRecDepth 100000 in
theorem f82.ok : calleeOk Try.prog 82 = true := by kernel_rfl
set_option maxRecDepth 100000 in
def f82.runT (R : Value → Heap → Prop) (v0 : Value) (a1 : Addr) (h : Heap) : Prop :=
  newH h (Obj.cells ((v0).cells) 54) fun h1_ => ∃ v2_, ldv true 4 h1_ (⟨Array.size h, 0, none⟩) = some v2_ ∧ ∃ v3_, ldv false 1 h1_ a1 = some v3_ ∧ ∃ x4_, v3_ = (Value.int .i64 x4_) ∧ Run Try.prog 26 #[v2_, (Value.int .i64 (IntKind.wrap .i64 (x4_ - (1 : Int))))] h1_ fun v5_ h6_ => ∃ b7_, v5_ = (Value.bool b7_) ∧ R (Value.bool (!b7_)) h6_
set_option maxRecDepth 100000 in
theorem f82.run {R : Value → Heap → Prop} {v0 : Value} {a1 : Addr} {h : Heap} (H : f82.runT R v0 a1 h) : Run Try.prog 82 #[v0, (Value.pointer (some a1))] h R :=
  run_of mixed Try.func82 (by kernel_rfl) (by kernel_rfl) f82.good (Eq.mpr (show (Fwd Try.prog f82.T f82.kp Try.f82 R [] (mkFr (argL [v0, (Value.pointer (some a1))] 0)) h) = (f82.runT R v0 a1 h) by kernel_rfl) H)
def f26.T : Tab := { sh := tSh, tup := tTup, keep := [], plan := [] }
def f26.kp : Keep := [([true, true], [2, 3])]
theorem f26.good : goodCode Try.prog f26.T (rootOf Try.f26) = true := by kernel_rfl
def f26.j0 (R : Value → Heap → Prop) (a2 : Addr) (a3 : Addr) (h : Heap) : Prop := Pt Try.prog Try.f26 R [true, true] (mkFr [(2, (Value.pointer (some a2))), (3, (Value.pointer (some a3)))]) h
set_option maxRecDepth 100000 in
def f26.j0T (R : Value → Heap → Prop) (a2 : Addr) (a3 : Addr) (h : Heap) : Prop :=
  ∃ v1_, ldv false 1 h (Addr.add a2 3) = some v1_ ∧ ∃ A2_, ∃ n2_, ∃ c2_, v1_ = (Value.slice A2_ n2_ c2_) ∧ Run Try.prog 24 #[(Value.slice A2_ n2_ c2_), (Value.func (.func 82) #[] #[(Value.pointer (some a3))])] h fun v3_ h4_ => ∃ b5_, v3_ = (Value.bool b5_) ∧ R (Value.bool (!b5_)) h4_
set_option maxRecDepth 100000 in
theorem f26.j0_in {R : Value → Heap → Prop} {a2 : Addr} {a3 : Addr} {h : Heap} (H : f26.j0T R a2 a3 h) : f26.j0 R a2 a3 h :=
  pt_intro mixed f26.good (Eq.mpr (show (Fwd Try.prog f26.T f26.kp Try.f26 R [true, true] (mkFr [(2, (Value.pointer (some a2))), (3, (Value.pointer (some a3)))]) h) = (f26.j0T R a2 a3 h) by kernel_rfl) H)
set_option maxRecDepth 100000 in
def f26.runT (R : Value → Heap → Prop) (v0 : Value) (x1 : Int) (h : Heap) : Prop :=
  newH h (Obj.cells ((v0).cells) 54) fun h1_ => newH h1_ (Obj.cells #[(Value.int .i64 x1)] 3) fun h2_ => ∃ v3_, ldv false 1 h2_ (⟨Array.size h1_, 0, none⟩) = some v3_ ∧ ∃ x4_, v3_ = (Value.int .i64 x4_) ∧ splitB (decide (x4_ < (1 : Int))) (R (Value.bool false) h2_) (∃ v5_, ldv false 1 h2_ (Addr.add (⟨Array.size h, 0, none⟩) 3) = some v5_ ∧ ∃ A6_, ∃ n6_, ∃ c6_, v5_ = (Value.slice A6_ n6_ c6_) ∧ splitB (decide (((n6_ : Nat) : Int) > (20 : Int))) (R (Value.bool false) h2_) (f26.j0 R (⟨Array.size h, 0, none⟩) (⟨Array.size h1_, 0, none⟩) h2_))
set_option maxRecDepth 100000 in
theorem f26.run {R : Value → Heap → Prop} {v0 : Value} {x1 : Int} {h : Heap} (H : f26.runT R v0 x1 h) : Run Try.prog 26 #[v0, (Value.int .i64 x1)] h R :=
  run_of mixed Try.func26 (by kernel_rfl) (by kernel_rfl) f26.good (Eq.mpr (show (Fwd Try.prog f26.T f26.kp Try.f26 R [] (mkFr (argL [v0, (Value.int .i64 x1)] 0)) h) = (f26.runT R v0 x1 h) by kernel_rfl) H)
def f25.T : Tab := { sh := tSh, tup := tTup, keep := [], plan := [] }
def f25.kp : Keep := []
theorem f25.good : goodCode Try.prog f25.T (rootOf Try.f25) = true := by kernel_rfl
set_option maxRecDepth 100000 in
theorem f25.ok : calleeOk Try.prog 25 = true := by kernel_rfl
set_option maxRecDepth 100000 in
def f25.runT (R : Value → Heap → Prop) (v0 : Value) (h : Heap) : Prop :=
  newH h (Obj.cells ((v0).cells) 54) fun h1_ => ∃ v2_, ldv true 4 h1_ (⟨Array.size h, 0, none⟩) = some v2_ ∧ Run Try.prog 26 #[v2_, (Value.int .i64 (60 : Int))] h1_ fun v3_ h4_ => ∃ b5_, v3_ = (Value.bool b5_) ∧ R (Value.bool (!b5_)) h4_
set_option maxRecDepth 100000 in
theorem f25.run {R : Value → Heap → Prop} {v0 : Value} {h : Heap} (H : f25.runT R v0 h) : Run Try.prog 25 #[v0] h R :=
  run_of mixed Try.func25 (by kernel_rfl) (by kernel_rfl) f25.good (Eq.mpr (show (Fwd Try.prog f25.T f25.kp Try.f25 R [] (mkFr (argL [v0] 0)) h) = (f25.runT R v0 h) by kernel_rfl) H)
def f83.T : Tab := { sh := tSh, tup := tTup, keep := [], plan := [] }
def f83.kp : Keep := [([false, false, true, false, true], [0, 1, 7, 8])]
theorem f83.good : goodCode Try.prog f83.T (rootOf Try.f83) = true := by kernel_rfl
def f83.l0 (R : Value → Heap → Prop) (A0 : Option Addr) (n0 : Nat) (c0 : Nat) (v1 : Value) (x7 : Int) (x8 : Int) (h : Heap) : Prop := Pt Try.prog Try.f83 R [false, false, true, false, true] (mkFr [(0, (Value.slice A0 n0 c0)), (1, v1), (7, (Value.int .i64 x7)), (8, (Value.int .i64 x8))]) h
set_option maxRecDepth 100000 in
def f83.l0T (R : Value → Heap → Prop) (A0 : Option Addr) (n0 : Nat) (c0 : Nat) (v1 : Value) (x7 : Int) (x8 : Int) (h : Heap) : Prop :=
  splitB (decide (x8 < x7)) (ptrOk A0 fun a1_ => 0 ≤ x8 ∧ x8 < ((n0 : Nat) : Int) ∧ (∃ v2_, ldv true 9 h (Addr.add a1_ (Int.toNat x8 * 9)) = some v2_ ∧ CallF Try.prog v1 [v2_] h fun v3_ h4_ => ∃ b5_, v3_ = (Value.bool b5_) ∧ splitB b5_ (R (Value.int .i64 x8) h4_) (f83.l0 R A0 n0 c0 v1 x7 (IntKind.wrap .i64 (x8 + (1 : Int))) h4_))) (R (Value.int .i64 (-1 : Int)) h)
set_option maxRecDepth 100000 in
theorem f83.l0_in {R : Value → Heap → Prop} {A0 : Option Addr} {n0 : Nat} {c0 : Nat} {v1 : Value} {x7 : Int} {x8 : Int} {h : Heap} (H : f83.l0T R A0 n0 c0 v1 x7 x8 h) : f83.l0 R A0 n0 c0 v1 x7 x8 h :=
  pt_intro mixed f83.good (Eq.mpr (show (Fwd Try.prog f83.T f83.kp Try.f83 R [false, false, true, false, true] (mkFr [(0, (Value.slice A0 n0 c0)), (1, v1), (7, (Value.int .i64 x7)), (8, (Value.int .i64 x8))]) h) = (f83.l0T R A0 n0 c0 v1 x7 x8 h) by kernel_rfl) H)
set_option maxRecDepth 100000 in
def f83.runT (R : Value → Heap → Prop) (A0 : Option Addr) (n0 : Nat) (c0 : Nat) (v1 : Value) (h : Heap) : Prop :=
  f83.l0 R A0 n0 c0 v1 ((n0 : Nat) : Int) (0 : Int) h
set_option maxRecDepth 100000 in
theorem f83.run {R : Value → Heap → Prop} {A0 : Option Addr} {n0 : Nat} {c0 : Nat} {v1 : Value} {h : Heap} (H : f83.runT R A0 n0 c0 v1 h) : Run Try.prog 83 #[(Value.slice A0 n0 c0), v1] h R :=
  run_of mixed Try.func83 (by kernel_rfl) (by kernel_rfl) f83.good (Eq.mpr (show (Fwd Try.prog f83.T f83.kp Try.f83 R [] (mkFr (argL [(Value.slice A0 n0 c0), v1] 0)) h) = (f83.runT R A0 n0 c0 v1 h) by kernel_rfl) H)
def f27.T : Tab := { sh := tSh, tup := tTup, keep := [], plan := [] }
def f27.kp : Keep := []
theorem f27.good : goodCode Try.prog f27.T (rootOf Try.f27) = true := by kernel_rfl
set_option maxRecDepth 100000 in
def f27.runT (R : Value → Heap → Prop) (A0 : Option Addr) (n0 : Nat) (c0 : Nat) (v1 : Value) (h : Heap) : Prop :=
  Run Try.prog 83 #[(Value.slice A0 n0 c0), v1] h fun v1_ h2_ => ∃ x3_, v1_ = (Value.int .i64 x3_) ∧ R (Value.bool (decide (x3_ ≥ (0 : Int)))) h2_
set_option maxRecDepth 100000 in
theorem f27.run {R : Value → Heap → Prop} {A0 : Option Addr} {n0 : Nat} {c0 : Nat} {v1 : Value} {h : Heap} (H : f27.runT R A0 n0 c0 v1 h) : Run Try.prog 27 #[(Value.slice A0 n0 c0), v1] h R :=
  run_of mixed Try.func27 (by kernel_rfl) (by kernel_rfl) f27.good (Eq.mpr (show (Fwd Try.prog f27.T f27.kp Try.f27 R [] (mkFr (argL [(Value.slice A0 n0 c0), v1] 0)) h) = (f27.runT R A0 n0 c0 v1 h) by kernel_rfl) H)
def f28.T : Tab := { sh := tSh, tup := tTup, keep := [], plan := [] }
def f28.kp : Keep := []
theorem f28.good : goodCode Try.prog f28.T (rootOf Try.f28) = true := by kernel_rfl
set_option maxRecDepth 100000 in
theorem f28.ok : calleeOk Try.prog 28 = true := by kernel_rfl
set_option maxRecDepth 100000 in
def f28.runT (R : Value → Heap → Prop) (v0 : Value) (h : Heap) : Prop :=
  newH h (Obj.cells ((v0).cells) 59) fun h1_ => ∃ v2_, ldv true 4 h1_ (Addr.add (⟨Array.size h, 0, none⟩) 5) = some v2_ ∧ Run Try.prog 23 #[v2_] h1_ fun v3_ h4_ => ∃ b5_, v3_ = (Value.bool b5_) ∧ R (Value.bool (!b5_)) h4_
set_option maxRecDepth 100000 in
theorem f28.run {R : Value → Heap → Prop} {v0 : Value} {h : Heap} (H : f28.runT R v0 h) : Run Try.prog 28 #[v0] h R :=
  run_of mixed Try.func28 (by kernel_rfl) (by kernel_rfl) f28.good (Eq.mpr (show (Fwd Try.prog f28.T f28.kp Try.f28 R [] (mkFr (argL [v0] 0)) h) = (f28.runT R v0 h) by kernel_rfl) H)
def f112.T : Tab := { sh := tSh, tup := tTup, keep := [], plan := [] }
def f112.kp : Keep := []
theorem f112.good : goodCode Try.prog f112.T (rootOf Try.f112) = true := by kernel_rfl
set_option maxRecDepth 100000 in
def f112.runT (R : Value → Heap → Prop) (A0 : Option Addr) (n0 : Nat) (c0 : Nat) (h : Heap) : Prop :=
  splitB (Option.isNone A0) (R (Value.slice none 0 0) h) (newH h (Obj.cells #[] 50) fun h1_ => AppW 50 4 56 #[(Value.int .i64 (0 : Int)), (Value.int .i64 (0 : Int)), (Value.string (ByteArray.mk #[])), (Value.slice none 0 0)] (some ⟨Array.size h, 0, none⟩) 0 0 (Value.slice A0 n0 c0) h1_ fun v2_ h3_ => ∃ A4_, ∃ n4_, ∃ c4_, v2_ = (Value.slice A4_ n4_ c4_) ∧ R (Value.slice A4_ n4_ c4_) h3_)
set_option maxRecDepth 100000 in
theorem f112.run {R : Value → Heap → Prop} {A0 : Option Addr} {n0 : Nat} {c0 : Nat} {h : Heap} (H : f112.runT R A0 n0 c0 h) : Run Try.prog 112 #[(Value.slice A0 n0 c0)] h R :=
  run_of mixed Try.func112 (by kernel_rfl) (by kernel_rfl) f112.good (Eq.mpr (show (Fwd Try.prog f112.T f112.kp Try.f112 R [] (mkFr (argL [(Value.slice A0 n0 c0)] 0)) h) = (f112.runT R A0 n0 c0 h) by kernel_rfl) H)
def f84.T : Tab := { sh := tSh, tup := tTup, keep := [], plan := [(5, (.take 0 (.take 2 (.take 3 (.alt true 1 (.eff false 4 (.take 5 (.eff false 6 .done))) (.eff false 4 (.eff true 1 (.take 5 (.eff false 6 .done)))))))))] }
def f84.kp : Keep := [([false, false, true, false, true, true], [1, 2, 10, 11, 12])]
theorem f84.good : goodCode Try.prog f84.T (rootOf Try.f84) = true := by kernel_rfl
def f84.l0 (R : Value → Heap → Prop) (a1 : Addr) (a2 : Addr) (A10 : Option Addr) (n10 : Nat) (c10 : Nat) (x11 : Int) (x12 : Int) (h : Heap) : Prop := Pt Try.prog Try.f84 R [false, false, true, false, true, true] (mkFr [(1, (Value.pointer (some a1))), (2, (Value.pointer (some a2))), (10, (Value.slice A10 n10 c10)), (11, (Value.int .i64 x11)), (12, (Value.int .i64 x12))]) h
set_option maxRecDepth 100000 in
def f84.l0T (R : Value → Heap → Prop) (a1 : Addr) (a2 : Addr) (A10 : Option Addr) (n10 : Nat) (c10 : Nat) (x11 : Int) (x12 : Int) (h : Heap) : Prop :=
  splitB (decide (x12 < x11)) (ptrOk A10 fun a1_ => 0 ≤ x12 ∧ x12 < ((n10 : Nat) : Int) ∧ (∃ v2_, ldv true 4 h (Addr.add a1_ (Int.toNat x12 * 4)) = some v2_ ∧ newH h (Obj.cells #[(Value.int .i64 (0 : Int)), (Value.int .i64 (0 : Int)), (Value.string (ByteArray.mk #[])), (Value.slice none 0 0)] 50) fun h3_ => ∃ l5_ : List Value, v2_ = Value.agg l5_.toArray ∧ l5_.length = 4 ∧ ∃ h4_, stH h3_ (⟨Array.size h, 0, none⟩) l5_ 0 = some h4_ ∧ ∃ v6_, ldv true 4 h4_ (⟨Array.size h, 0, none⟩) = some v6_ ∧ (∃ v7_, ldv false 1 h4_ (Addr.add a1 3) = some v7_ ∧ ∃ A8_, ∃ n8_, ∃ c8_, v7_ = (Value.slice A8_ n8_ c8_) ∧ Ext h4_ h4_ ∧ (Run Try.prog 84 #[v6_] h4_ fun v9_ h10_ => ptrOk A8_ fun a11_ => 0 ≤ x12 ∧ x12 < ((n8_ : Nat) : Int) ∧ (∃ l13_ : List Value, v9_ = Value.agg l13_.toArray ∧ l13_.length = 4 ∧ ∃ h12_, stH h10_ (Addr.add a11_ (Int.toNat x12 * 4)) l13_ 0 = some h12_ ∧ f84.l0 R a1 a2 A10 n10 c10 x11 (IntKind.wrap .i64 (x12 + (1 : Int))) h12_))) ∧ (Run Try.prog 84 #[v6_] h4_ fun v14_ h15_ => ∃ v16_, ldv false 1 h15_ (Addr.add a1 3) = some v16_ ∧ ∃ A17_, ∃ n17_, ∃ c17_, v16_ = (Value.slice A17_ n17_ c17_) ∧ Ext h15_ h15_ ∧ (ptrOk A17_ fun a18_ => 0 ≤ x12 ∧ x12 < ((n17_ : Nat) : Int) ∧ (∃ l20_ : List Value, v14_ = Value.agg l20_.toArray ∧ l20_.length = 4 ∧ ∃ h19_, stH h15_ (Addr.add a18_ (Int.toNat x12 * 4)) l20_ 0 = some h19_ ∧ f84.l0 R a1 a2 A10 n10 c10 x11 (IntKind.wrap .i64 (x12 + (1 : Int))) h19_))))) (∃ v21_, ldv true 4 h a1 = some v21_ ∧ ∃ l23_ : List Value, v21_ = Value.agg l23_.toArray ∧ l23_.length = 4 ∧ ∃ h22_, stH h a2 l23_ 0 = some h22_ ∧ ∃ v24_, ldv true 4 h22_ a2 = some v24_ ∧ R v24_ h22_)
set_option maxRecDepth 100000 in
theorem f84.l0_in {R : Value → Heap → Prop} {a1 : Addr} {a2 : Addr} {A10 : Option Addr} {n10 : Nat} {c10 : Nat} {x11 : Int} {x12 : Int} {h : Heap} (H : f84.l0T R a1 a2 A10 n10 c10 x11 x12 h) : f84.l0 R a1 a2 A10 n10 c10 x11 x12 h :=
  pt_intro mixed f84.good (Eq.mpr (show (Fwd Try.prog f84.T f84.kp Try.f84 R [false, false, true, false, true, true] (mkFr [(1, (Value.pointer (some a1))), (2, (Value.pointer (some a2))), (10, (Value.slice A10 n10 c10)), (11, (Value.int .i64 x11)), (12, (Value.int .i64 x12))]) h) = (f84.l0T R a1 a2 A10 n10 c10 x11 x12 h) by kernel_rfl) H)
set_option maxRecDepth 100000 in
def f84.runT (R : Value → Heap → Prop) (v0 : Value) (h : Heap) : Prop :=
  newH h (Obj.cells ((v0).cells) 50) fun h1_ => newH h1_ (Obj.cells #[(Value.int .i64 (0 : Int)), (Value.int .i64 (0 : Int)), (Value.string (ByteArray.mk #[])), (Value.slice none 0 0)] 50) fun h2_ => ∃ v3_, ldv false 1 h2_ (Addr.add (⟨Array.size h, 0, none⟩) 3) = some v3_ ∧ ∃ A4_, ∃ n4_, ∃ c4_, v3_ = (Value.slice A4_ n4_ c4_) ∧ Run Try.prog 112 #[(Value.slice A4_ n4_ c4_)] h2_ fun v5_ h6_ => ∃ A7_, ∃ n7_, ∃ c7_, v5_ = (Value.slice A7_ n7_ c7_) ∧ ∃ h8_, st1 h6_ (Addr.add (⟨Array.size h, 0, none⟩) 3) (Value.slice A7_ n7_ c7_) = some h8_ ∧ ∃ v9_, ldv false 1 h8_ (Addr.add (⟨Array.size h, 0, none⟩) 3) = some v9_ ∧ ∃ A10_, ∃ n10_, ∃ c10_, v9_ = (Value.slice A10_ n10_ c10_) ∧ f84.l0 R (⟨Array.size h, 0, none⟩) (⟨Array.size h1_, 0, none⟩) A10_ n10_ c10_ ((n10_ : Nat) : Int) (0 : Int) h8_
set_option maxRecDepth 100000 in
theorem f84.run {R : Value → Heap → Prop} {v0 : Value} {h : Heap} (H : f84.runT R v0 h) : Run Try.prog 84 #[v0] h R :=
  run_of mixed Try.func84 (by kernel_rfl) (by kernel_rfl) f84.good (Eq.mpr (show (Fwd Try.prog f84.T f84.kp Try.f84 R [] (mkFr (argL [v0] 0)) h) = (f84.runT R v0 h) by kernel_rfl) H)
def f85.T : Tab := { sh := tSh, tup := tTup, keep := [], plan := [(7, (.take 1 (.take 3 (.take 0 (.take 2 (.take 4 (.take 5 (.eff false 6 (.take 7 (.take 8 (.take 9 (.take 10 (.take 11 .done)))))))))))))] }
def f85.kp : Keep := [([true, false, true], [2, 3, 29]), ([true, true], [2, 3]), ([false, false, true, false, true, true, true], [3, 6, 31, 32, 33])]
theorem f85.good : goodCode Try.prog f85.T (rootOf Try.f85) = true := by kernel_rfl
def f85.j1 (R : Value → Heap → Prop) (a2 : Addr) (a3 : Addr) (b29 : Bool) (h : Heap) : Prop := Pt Try.prog Try.f85 R [true, false, true] (mkFr [(2, (Value.pointer (some a2))), (3, (Value.pointer (some a3))), (29, (Value.bool b29))]) h
def f85.j0 (R : Value → Heap → Prop) (a2 : Addr) (a3 : Addr) (h : Heap) : Prop := Pt Try.prog Try.f85 R [true, true] (mkFr [(2, (Value.pointer (some a2))), (3, (Value.pointer (some a3)))]) h
def f85.l0 (R : Value → Heap → Prop) (a3 : Addr) (A6 : Option Addr) (n6 : Nat) (c6 : Nat) (A31 : Option Addr) (n31 : Nat) (c31 : Nat) (x32 : Int) (x33 : Int) (h : Heap) : Prop := Pt Try.prog Try.f85 R [false, false, true, false, true, true, true] (mkFr [(3, (Value.pointer (some a3))), (6, (Value.slice A6 n6 c6)), (31, (Value.slice A31 n31 c31)), (32, (Value.int .i64 x32)), (33, (Value.int .i64 x33))]) h
set_option maxRecDepth 100000 in
def f85.j1T (R : Value → Heap → Prop) (a2 : Addr) (a3 : Addr) (b29 : Bool) (h : Heap) : Prop :=
  splitB b29 (R (Value.tuple #[(Value.slice none 0 0), (Value.bool false)]) h) (f85.j0 R a2 a3 h)
set_option maxRecDepth 100000 in
theorem f85.j1_in {R : Value → Heap → Prop} {a2 : Addr} {a3 : Addr} {b29 : Bool} {h : Heap} (H : f85.j1T R a2 a3 b29 h) : f85.j1 R a2 a3 b29 h :=
  pt_intro mixed f85.good (Eq.mpr (show (Fwd Try.prog f85.T f85.kp Try.f85 R [true, false, true] (mkFr [(2, (Value.pointer (some a2))), (3, (Value.pointer (some a3))), (29, (Value.bool b29))]) h) = (f85.j1T R a2 a3 b29 h) by kernel_rfl) H)
set_option maxRecDepth 100000 in
def f85.j0T (R : Value → Heap → Prop) (a2 : Addr) (a3 : Addr) (h : Heap) : Prop :=
  ∃ v1_, ldv false 1 h (Addr.add a2 3) = some v1_ ∧ ∃ A2_, ∃ n2_, ∃ c2_, v1_ = (Value.slice A2_ n2_ c2_) ∧ f85.l0 R a3 none 0 0 A2_ n2_ c2_ ((n2_ : Nat) : Int) (0 : Int) h
set_option maxRecDepth 100000 in
theorem f85.j0_in {R : Value → Heap → Prop} {a2 : Addr} {a3 : Addr} {h : Heap} (H : f85.j0T R a2 a3 h) : f85.j0 R a2 a3 h :=
  pt_intro mixed f85.good (Eq.mpr (show (Fwd Try.prog f85.T f85.kp Try.f85 R [true, true] (mkFr [(2, (Value.pointer (some a2))), (3, (Value.pointer (some a3)))]) h) = (f85.j0T R a2 a3 h) by kernel_rfl) H)
set_option maxRecDepth 100000 in
def f85.l0T (R : Value → Heap → Prop) (a3 : Addr) (A6 : Option Addr) (n6 : Nat) (c6 : Nat) (A31 : Option Addr) (n31 : Nat) (c31 : Nat) (x32 : Int) (x33 : Int) (h : Heap) : Prop :=
  splitB (decide (x33 < x32)) (ptrOk A31 fun a1_ => 0 ≤ x33 ∧ x33 < ((n31 : Nat) : Int) ∧ (∃ v2_, ldv true 4 h (Addr.add a1_ (Int.toNat x33 * 4)) = some v2_ ∧ newH h (Obj.cells #[(Value.int .i64 (0 : Int)), (Value.int .i64 (0 : Int)), (Value.string (ByteArray.mk #[])), (Value.slice none 0 0)] 54) fun h3_ => ∃ l5_ : List Value, v2_ = Value.agg l5_.toArray ∧ l5_.length = 4 ∧ ∃ h4_, stH h3_ (⟨Array.size h, 0, none⟩) l5_ 0 = some h4_ ∧ ∃ v6_, ldv true 4 h4_ (⟨Array.size h, 0, none⟩) = some v6_ ∧ ∃ v7_, ldv false 1 h4_ (Addr.add a3 3) = some v7_ ∧ ∃ A8_, ∃ n8_, ∃ c8_, v7_ = (Value.slice A8_ n8_ c8_) ∧ ptrOk A8_ fun a9_ => 0 ≤ x33 ∧ x33 < ((n8_ : Nat) : Int) ∧ (∃ v10_, ldv true 4 h4_ (Addr.add a9_ (Int.toNat x33 * 4)) = some v10_ ∧ Run Try.prog 29 #[v6_, v10_] h4_ fun v11_ h12_ => ∃ A13_, ∃ n13_, ∃ c13_, ∃ b14_, v11_ = (Value.tuple #[(Value.slice A13_ n13_ c13_), (Value.bool b14_)]) ∧ splitB (!b14_) (R (Value.tuple #[(Value.slice none 0 0), (Value.bool false)]) h12_) (AppW 50 4 56 #[(Value.int .i64 (0 : Int)), (Value.int .i64 (0 : Int)), (Value.string (ByteArray.mk #[])), (Value.slice none 0 0)] A6 n6 c6 (Value.slice A13_ n13_ c13_) h12_ fun v15_ h16_ => ∃ A17_, ∃ n17_, ∃ c17_, v15_ = (Value.slice A17_ n17_ c17_) ∧ f85.l0 R a3 A17_ n17_ c17_ A31 n31 c31 x32 (IntKind.wrap .i64 (x33 + (1 : Int))) h16_)))) (R (Value.tuple #[(Value.slice A6 n6 c6), (Value.bool true)]) h)
set_option maxRecDepth 100000 in
theorem f85.l0_in {R : Value → Heap → Prop} {a3 : Addr} {A6 : Option Addr} {n6 : Nat} {c6 : Nat} {A31 : Option Addr} {n31 : Nat} {c31 : Nat} {x32 : Int} {x33 : Int} {h : Heap} (H : f85.l0T R a3 A6 n6 c6 A31 n31 c31 x32 x33 h) : f85.l0 R a3 A6 n6 c6 A31 n31 c31 x32 x33 h :=
  pt_intro mixed f85.good (Eq.mpr (show (Fwd Try.prog f85.T f85.kp Try.f85 R [false, false, true, false, true, true, true] (mkFr [(3, (Value.pointer (some a3))), (6, (Value.slice A6 n6 c6)), (31, (Value.slice A31 n31 c31)), (32, (Value.int .i64 x32)), (33, (Value.int .i64 x33))]) h) = (f85.l0T R a3 A6 n6 c6 A31 n31 c31 x32 x33 h) by kernel_rfl) H)
set_option maxRecDepth 100000 in
def f85.runT (R : Value → Heap → Prop) (v0 : Value) (v1 : Value) (h : Heap) : Prop :=
  newH h (Obj.cells ((v0).cells) 54) fun h1_ => newH h1_ (Obj.cells ((v1).cells) 50) fun h2_ => ∃ v3_, ldv false 1 h2_ (⟨Array.size h1_, 0, none⟩) = some v3_ ∧ ∃ x4_, v3_ = (Value.int .i64 x4_) ∧ splitB (x4_ != (5 : Int)) (f85.j1 R (⟨Array.size h, 0, none⟩) (⟨Array.size h1_, 0, none⟩) true h2_) (∃ v5_, ldv false 1 h2_ (Addr.add (⟨Array.size h1_, 0, none⟩) 2) = some v5_ ∧ ∃ s6_, v5_ = (Value.string s6_) ∧ ∃ v7_, ldv false 1 h2_ (Addr.add (⟨Array.size h, 0, none⟩) 2) = some v7_ ∧ ∃ s8_, v7_ = (Value.string s8_) ∧ splitB (!(ByteArray.toList s6_ == ByteArray.toList s8_)) (f85.j1 R (⟨Array.size h, 0, none⟩) (⟨Array.size h1_, 0, none⟩) true h2_) (∃ v9_, ldv false 1 h2_ (Addr.add (⟨Array.size h1_, 0, none⟩) 3) = some v9_ ∧ ∃ A10_, ∃ n10_, ∃ c10_, v9_ = (Value.slice A10_ n10_ c10_) ∧ ∃ v11_, ldv false 1 h2_ (Addr.add (⟨Array.size h, 0, none⟩) 3) = some v11_ ∧ ∃ A12_, ∃ n12_, ∃ c12_, v11_ = (Value.slice A12_ n12_ c12_) ∧ f85.j1 R (⟨Array.size h, 0, none⟩) (⟨Array.size h1_, 0, none⟩) (((n10_ : Nat) : Int) != ((n12_ : Nat) : Int)) h2_))
set_option maxRecDepth 100000 in
theorem f85.run {R : Value → Heap → Prop} {v0 : Value} {v1 : Value} {h : Heap} (H : f85.runT R v0 v1 h) : Run Try.prog 85 #[v0, v1] h R :=
  run_of mixed Try.func85 (by kernel_rfl) (by kernel_rfl) f85.good (Eq.mpr (show (Fwd Try.prog f85.T f85.kp Try.f85 R [] (mkFr (argL [v0, v1] 0)) h) = (f85.runT R v0 v1 h) by kernel_rfl) H)
def f29.T : Tab := { sh := tSh, tup := tTup, keep := [], plan := [(7, (.take 0 (.take 1 (.take 2 (.take 3 (.split 3 (.take 4 (.take 6 (.take 10 (.take 5 (.take 7 (.take 8 (.take 9 (.take 11 .done)))))))))))))), (9, (.take 0 (.take 1 (.take 2 (.take 3 (.split 3 (.take 4 (.take 6 (.take 10 (.take 5 (.take 7 (.take 8 (.take 9 (.take 11 .done)))))))))))))), (11, (.take 0 (.take 1 (.take 2 (.take 3 (.split 3 (.take 4 (.take 6 (.take 10 (.take 5 (.take 7 (.take 8 (.take 9 (.take 11 .done))))))))))))))] }
def f29.kp : Keep := []
theorem f29.good : goodCode Try.prog f29.T (rootOf Try.f29) = true := by kernel_rfl
set_option maxRecDepth 100000 in
def f29.runT (R : Value → Heap → Prop) (v0 : Value) (v1 : Value) (h : Heap) : Prop :=
  newH h (Obj.cells ((v0).cells) 54) fun h1_ => newH h1_ (Obj.cells ((v1).cells) 50) fun h2_ => ∃ v3_, ldv false 1 h2_ (⟨Array.size h, 0, none⟩) = some v3_ ∧ ∃ x4_, v3_ = (Value.int .i64 x4_) ∧ splitB (x4_ == (1 : Int)) (R (Value.tuple #[(Value.slice none 0 0), (Value.bool true)]) h2_) (splitB (x4_ == (2 : Int)) (∃ v5_, ldv true 4 h2_ (⟨Array.size h1_, 0, none⟩) = some v5_ ∧ Run Try.prog 84 #[v5_] h2_ fun v6_ h7_ => ∃ l8_ : List Value, v6_ = Value.agg l8_.toArray ∧ l8_.length = 4 ∧ (newH h7_ (Obj.cells ((List.take 0 ([(Value.int .i64 (0 : Int)), (Value.int .i64 (0 : Int)), (Value.string (ByteArray.mk #[])), (Value.slice none 0 0)]) ++ l8_ ++ List.drop 4 ([(Value.int .i64 (0 : Int)), (Value.int .i64 (0 : Int)), (Value.string (ByteArray.mk #[])), (Value.slice none 0 0)])).toArray) 50) fun h9_ => R (Value.tuple #[(Value.slice (some ⟨Array.size h7_, 0, none⟩) 1 1), (Value.bool true)]) h9_)) (splitB (x4_ == (3 : Int)) (∃ v10_, ldv false 1 h2_ (⟨Array.size h1_, 0, none⟩) = some v10_ ∧ ∃ x11_, v10_ = (Value.int .i64 x11_) ∧ splitB (x11_ == (2 : Int)) (∃ v12_, ldv false 1 h2_ (Addr.add (⟨Array.size h1_, 0, none⟩) 1) = some v12_ ∧ ∃ x13_, v12_ = (Value.int .i64 x13_) ∧ ∃ v14_, ldv false 1 h2_ (Addr.add (⟨Array.size h, 0, none⟩) 1) = some v14_ ∧ ∃ x15_, v14_ = (Value.int .i64 x15_) ∧ R (Value.tuple #[(Value.slice none 0 0), (Value.bool (x13_ == x15_))]) h2_) (R (Value.tuple #[(Value.slice none 0 0), (Value.bool false)]) h2_)) (splitB (x4_ == (4 : Int)) (∃ v16_, ldv false 1 h2_ (⟨Array.size h1_, 0, none⟩) = some v16_ ∧ ∃ x17_, v16_ = (Value.int .i64 x17_) ∧ splitB (x17_ == (3 : Int)) (∃ v18_, ldv false 1 h2_ (Addr.add (⟨Array.size h1_, 0, none⟩) 1) = some v18_ ∧ ∃ x19_, v18_ = (Value.int .i64 x19_) ∧ ∃ v20_, ldv false 1 h2_ (Addr.add (⟨Array.size h, 0, none⟩) 1) = some v20_ ∧ ∃ x21_, v20_ = (Value.int .i64 x21_) ∧ R (Value.tuple #[(Value.slice none 0 0), (Value.bool (x19_ == x21_))]) h2_) (R (Value.tuple #[(Value.slice none 0 0), (Value.bool false)]) h2_)) (splitB (x4_ == (5 : Int)) (∃ v22_, ldv false 1 h2_ (⟨Array.size h1_, 0, none⟩) = some v22_ ∧ ∃ x23_, v22_ = (Value.int .i64 x23_) ∧ splitB (x23_ == (4 : Int)) (∃ v24_, ldv false 1 h2_ (Addr.add (⟨Array.size h1_, 0, none⟩) 2) = some v24_ ∧ ∃ s25_, v24_ = (Value.string s25_) ∧ ∃ v26_, ldv false 1 h2_ (Addr.add (⟨Array.size h, 0, none⟩) 2) = some v26_ ∧ ∃ s27_, v26_ = (Value.string s27_) ∧ R (Value.tuple #[(Value.slice none 0 0), (Value.bool (ByteArray.toList s25_ == ByteArray.toList s27_))]) h2_) (R (Value.tuple #[(Value.slice none 0 0), (Value.bool false)]) h2_)) (splitB (x4_ == (6 : Int)) (∃ v28_, ldv true 4 h2_ (⟨Array.size h, 0, none⟩) = some v28_ ∧ ∃ v29_, ldv true 4 h2_ (⟨Array.size h1_, 0, none⟩) = some v29_ ∧ Run Try.prog 85 #[v28_, v29_] h2_ fun v30_ h31_ => ∃ A32_, ∃ n32_, ∃ c32_, ∃ b33_, v30_ = (Value.tuple #[(Value.slice A32_ n32_ c32_), (Value.bool b33_)]) ∧ R (Value.tuple #[(Value.slice A32_ n32_ c32_), (Value.bool b33_)]) h31_) (R (Value.tuple #[(Value.slice none 0 0), (Value.bool false)]) h2_))))))
set_option maxRecDepth 100000 in
theorem f29.run {R : Value → Heap → Prop} {v0 : Value} {v1 : Value} {h : Heap} (H : f29.runT R v0 v1 h) : Run Try.prog 29 #[v0, v1] h R :=
  run_of mixed Try.func29 (by kernel_rfl) (by kernel_rfl) f29.good (Eq.mpr (show (Fwd Try.prog f29.T f29.kp Try.f29 R [] (mkFr (argL [v0, v1] 0)) h) = (f29.runT R v0 v1 h) by kernel_rfl) H)
def f30.T : Tab := { sh := tSh, tup := tTup, keep := [], plan := [(2, (.take 0 (.take 1 (.take 2 (.take 4 (.take 3 (.eff true 5 (.eff false 6 (.take 7 (.take 9 (.alt false 8 (.eff false 10 .done) (.eff false 10 (.eff false 8 .done))))))))))))), (18, (.take 0 (.take 2 (.take 5 (.take 7 (.take 10 (.take 1 (.take 3 (.take 4 (.take 6 (.take 8 (.take 9 (.eff false 11 (.take 12 .done))))))))))))))] }
def f30.kp : Keep := [([true, true], [2, 3, 4]), ([true, false, true, false, true, true, true], [2, 3, 4, 7, 28, 29]), ([true, true, true, false, true, false, true, true, true], [2, 3, 4, 7, 28, 32]), ([true, false, true, true, true, true, true, true, true, false, true, false, true, true, true], [2, 3, 4, 8]), ([false, false, true, false, true, false, true, true, true, true, true, true, true, false, true, false, true, true, true], [2, 3, 4, 8, 9]), ([true, false, false, true, false, true, false, true, true, true, true, true, true, true, false, true, false, true, true, true], [2, 3, 4, 9])]
theorem f30.good : goodCode Try.prog f30.T (rootOf Try.f30) = true := by kernel_rfl
def f30.j0 (R : Value → Heap → Prop) (a2 : Addr) (a3 : Addr) (a4 : Addr) (h : Heap) : Prop := Pt Try.prog Try.f30 R [true, true] (mkFr [(2, (Value.pointer (some a2))), (3, (Value.pointer (some a3))), (4, (Value.pointer (some a4)))]) h
def f30.j1 (R : Value → Heap → Prop) (a2 : Addr) (a3 : Addr) (a4 : Addr) (x7 : Int) (x28 : Int) (b29 : Bool) (h : Heap) : Prop := Pt Try.prog Try.f30 R [true, false, true, false, true, true, true] (mkFr [(2, (Value.pointer (some a2))), (3, (Value.pointer (some a3))), (4, (Value.pointer (some a4))), (7, (Value.int .i64 x7)), (28, (Value.int .i64 x28)), (29, (Value.bool b29))]) h
def f30.j2 (R : Value → Heap → Prop) (a2 : Addr) (a3 : Addr) (a4 : Addr) (x7 : Int) (x28 : Int) (b32 : Bool) (h : Heap) : Prop := Pt Try.prog Try.f30 R [true, true, true, false, true, false, true, true, true] (mkFr [(2, (Value.pointer (some a2))), (3, (Value.pointer (some a3))), (4, (Value.pointer (some a4))), (7, (Value.int .i64 x7)), (28, (Value.int .i64 x28)), (32, (Value.bool b32))]) h
def f30.j3 (R : Value → Heap → Prop) (a2 : Addr) (a3 : Addr) (a4 : Addr) (b8 : Bool) (h : Heap) : Prop := Pt Try.prog Try.f30 R [true, false, true, true, true, true, true, true, true, false, true, false, true, true, true] (mkFr [(2, (Value.pointer (some a2))), (3, (Value.pointer (some a3))), (4, (Value.pointer (some a4))), (8, (Value.bool b8))]) h
def f30.l0 (R : Value → Heap → Prop) (a2 : Addr) (a3 : Addr) (a4 : Addr) (b8 : Bool) (x9 : Int) (h : Heap) : Prop := Pt Try.prog Try.f30 R [false, false, true, false, true, false, true, true, true, true, true, true, true, false, true, false, true, true, true] (mkFr [(2, (Value.pointer (some a2))), (3, (Value.pointer (some a3))), (4, (Value.pointer (some a4))), (8, (Value.bool b8)), (9, (Value.int .i64 x9))]) h
def f30.j4 (R : Value → Heap → Prop) (a2 : Addr) (a3 : Addr) (a4 : Addr) (x9 : Int) (h : Heap) : Prop := Pt Try.prog Try.f30 R [true, false, false, true, false, true, false, true, true, true, true, true, true, true, false, true, false, true, true, true] (mkFr [(2, (Value.pointer (some a2))), (3, (Value.pointer (some a3))), (4, (Value.pointer (some a4))), (9, (Value.int .i64 x9))]) h
set_option maxRecDepth 100000 in
def f30.j0T (R : Value → Heap → Prop) (a2 : Addr) (a3 : Addr) (a4 : Addr) (h : Heap) : Prop :=
  Gen Try.prog (Instr.makeMap 145 none) h fun v1_ h2_ => Hwp Try.prog (Instr.mapUpdate 145 v1_ (Value.int .i64 (3 : Int)) (Value.int .i64 (2 : Int))) h2_ fun _ h3_ => Hwp Try.prog (Instr.mapUpdate 145 v1_ (Value.int .i64 (4 : Int)) (Value.int .i64 (3 : Int))) h3_ fun _ h4_ => Hwp Try.prog (Instr.mapUpdate 145 v1_ (Value.int .i64 (5 : Int)) (Value.int .i64 (4 : Int))) h4_ fun _ h5_ => Hwp Try.prog (Instr.mapUpdate 145 v1_ (Value.int .i64 (6 : Int)) (Value.int .i64 (5 : Int))) h5_ fun _ h6_ => ∃ v7_, ldv false 1 h6_ a3 = some v7_ ∧ ∃ x8_, v7_ = (Value.int .i64 x8_) ∧ Gen Try.prog (Instr.lookup 145 v1_ (Value.int .i64 x8_) false) h6_ fun v9_ h10_ => ∃ x11_, v9_ = (Value.int .i64 x11_) ∧ ∃ v12_, ldv false 1 h10_ a3 = some v12_ ∧ ∃ x13_, v12_ = (Value.int .i64 x13_) ∧ splitB (x13_ == (1 : Int)) (f30.j1 R a2 a3 a4 x11_ x13_ (x13_ == (1 : Int)) h10_) (f30.j1 R a2 a3 a4 x11_ x13_ (x13_ == (2 : Int)) h10_)
set_option maxRecDepth 100000 in
theorem f30.j0_in {R : Value → Heap → Prop} {a2 : Addr} {a3 : Addr} {a4 : Addr} {h : Heap} (H : f30.j0T R a2 a3 a4 h) : f30.j0 R a2 a3 a4 h :=
  pt_intro mixed f30.good (Eq.mpr (show (Fwd Try.prog f30.T f30.kp Try.f30 R [true, true] (mkFr [(2, (Value.pointer (some a2))), (3, (Value.pointer (some a3))), (4, (Value.pointer (some a4)))]) h) = (f30.j0T R a2 a3 a4 h) by kernel_rfl) H)
set_option maxRecDepth 100000 in
def f30.j1T (R : Value → Heap → Prop) (a2 : Addr) (a3 : Addr) (a4 : Addr) (x7 : Int) (x28 : Int) (b29 : Bool) (h : Heap) : Prop :=
  splitB b29 (R (Value.bool true) h) (splitB (x28 == (3 : Int)) (f30.j2 R a2 a3 a4 x7 x28 (x28 == (3 : Int)) h) (f30.j2 R a2 a3 a4 x7 x28 (x28 == (4 : Int)) h))
set_option maxRecDepth 100000 in
theorem f30.j1_in {R : Value → Heap → Prop} {a2 : Addr} {a3 : Addr} {a4 : Addr} {x7 : Int} {x28 : Int} {b29 : Bool} {h : Heap} (H : f30.j1T R a2 a3 a4 x7 x28 b29 h) : f30.j1 R a2 a3 a4 x7 x28 b29 h :=
  pt_intro mixed f30.good (Eq.mpr (show (Fwd Try.prog f30.T f30.kp Try.f30 R [true, false, true, false, true, true, true] (mkFr [(2, (Value.pointer (some a2))), (3, (Value.pointer (some a3))), (4, (Value.pointer (some a4))), (7, (Value.int .i64 x7)), (28, (Value.int .i64 x28)), (29, (Value.bool b29))]) h) = (f30.j1T R a2 a3 a4 x7 x28 b29 h) by kernel_rfl) H)
set_option maxRecDepth 100000 in
def f30.j2T (R : Value → Heap → Prop) (a2 : Addr) (a3 : Addr) (a4 : Addr) (x7 : Int) (x28 : Int) (b32 : Bool) (h : Heap) : Prop :=
  splitB b32 (∃ v1_, ldv false 1 h a4 = some v1_ ∧ ∃ x2_, v1_ = (Value.int .i64 x2_) ∧ splitB (x2_ == x7) (∃ v3_, ldv false 1 h (Addr.add a4 1) = some v3_ ∧ ∃ x4_, v3_ = (Value.int .i64 x4_) ∧ ∃ v5_, ldv false 1 h (Addr.add a3 1) = some v5_ ∧ ∃ x6_, v5_ = (Value.int .i64 x6_) ∧ R (Value.bool (x4_ == x6_)) h) (R (Value.bool false) h)) (splitB (x28 == (5 : Int)) (∃ v7_, ldv false 1 h a4 = some v7_ ∧ ∃ x8_, v7_ = (Value.int .i64 x8_) ∧ splitB (x8_ == x7) (∃ v9_, ldv false 1 h (Addr.add a4 2) = some v9_ ∧ ∃ s10_, v9_ = (Value.string s10_) ∧ ∃ v11_, ldv false 1 h (Addr.add a3 2) = some v11_ ∧ ∃ s12_, v11_ = (Value.string s12_) ∧ R (Value.bool (ByteArray.toList s10_ == ByteArray.toList s12_)) h) (R (Value.bool false) h)) (splitB (x28 == (6 : Int)) (∃ v13_, ldv false 1 h a4 = some v13_ ∧ ∃ x14_, v13_ = (Value.int .i64 x14_) ∧ splitB (x14_ == x7) (∃ v15_, ldv false 1 h (Addr.add a4 2) = some v15_ ∧ ∃ s16_, v15_ = (Value.string s16_) ∧ ∃ v17_, ldv false 1 h (Addr.add a3 2) = some v17_ ∧ ∃ s18_, v17_ = (Value.string s18_) ∧ splitB (ByteArray.toList s16_ == ByteArray.toList s18_) (∃ v19_, ldv false 1 h (Addr.add a4 3) = some v19_ ∧ ∃ A20_, ∃ n20_, ∃ c20_, v19_ = (Value.slice A20_ n20_ c20_) ∧ ∃ v21_, ldv false 1 h (Addr.add a3 3) = some v21_ ∧ ∃ A22_, ∃ n22_, ∃ c22_, v21_ = (Value.slice A22_ n22_ c22_) ∧ f30.j3 R a2 a3 a4 (((n20_ : Nat) : Int) == ((n22_ : Nat) : Int)) h) (f30.j3 R a2 a3 a4 false h)) (f30.j3 R a2 a3 a4 false h)) (R (Value.bool false) h)))
set_option maxRecDepth 100000 in
theorem f30.j2_in {R : Value → Heap → Prop} {a2 : Addr} {a3 : Addr} {a4 : Addr} {x7 : Int} {x28 : Int} {b32 : Bool} {h : Heap} (H : f30.j2T R a2 a3 a4 x7 x28 b32 h) : f30.j2 R a2 a3 a4 x7 x28 b32 h :=
  pt_intro mixed f30.good (Eq.mpr (show (Fwd Try.prog f30.T f30.kp Try.f30 R [true, true, true, false, true, false, true, true, true] (mkFr [(2, (Value.pointer (some a2))), (3, (Value.pointer (some a3))), (4, (Value.pointer (some a4))), (7, (Value.int .i64 x7)), (28, (Value.int .i64 x28)), (32, (Value.bool b32))]) h) = (f30.j2T R a2 a3 a4 x7 x28 b32 h) by kernel_rfl) H)
set_option maxRecDepth 100000 in
def f30.j3T (R : Value → Heap → Prop) (a2 : Addr) (a3 : Addr) (a4 : Addr) (b8 : Bool) (h : Heap) : Prop :=
  f30.l0 R a2 a3 a4 b8 (0 : Int) h
set_option maxRecDepth 100000 in
theorem f30.j3_in {R : Value → Heap → Prop} {a2 : Addr} {a3 : Addr} {a4 : Addr} {b8 : Bool} {h : Heap} (H : f30.j3T R a2 a3 a4 b8 h) : f30.j3 R a2 a3 a4 b8 h :=
  pt_intro mixed f30.good (Eq.mpr (show (Fwd Try.prog f30.T f30.kp Try.f30 R [true, false, true, true, true, true, true, true, true, false, true, false, true, true, true] (mkFr [(2, (Value.pointer (some a2))), (3, (Value.pointer (some a3))), (4, (Value.pointer (some a4))), (8, (Value.bool b8))]) h) = (f30.j3T R a2 a3 a4 b8 h) by kernel_rfl) H)
set_option maxRecDepth 100000 in
def f30.l0T (R : Value → Heap → Prop) (a2 : Addr) (a3 : Addr) (a4 : Addr) (b8 : Bool) (x9 : Int) (h : Heap) : Prop :=
  splitB b8 (∃ v1_, ldv false 1 h (Addr.add a3 3) = some v1_ ∧ ∃ A2_, ∃ n2_, ∃ c2_, v1_ = (Value.slice A2_ n2_ c2_) ∧ splitB (decide (x9 < ((n2_ : Nat) : Int))) (f30.j4 R a2 a3 a4 x9 h) (R (Value.bool b8) h)) (R (Value.bool b8) h)
set_option maxRecDepth 100000 in
theorem f30.l0_in {R : Value → Heap → Prop} {a2 : Addr} {a3 : Addr} {a4 : Addr} {b8 : Bool} {x9 : Int} {h : Heap} (H : f30.l0T R a2 a3 a4 b8 x9 h) : f30.l0 R a2 a3 a4 b8 x9 h :=
  pt_intro mixed f30.good (Eq.mpr (show (Fwd Try.prog f30.T f30.kp Try.f30 R [false, false, true, false, true, false, true, true, true, true, true, true, true, false, true, false, true, true, true] (mkFr [(2, (Value.pointer (some a2))), (3, (Value.pointer (some a3))), (4, (Value.pointer (some a4))), (8, (Value.bool b8)), (9, (Value.int .i64 x9))]) h) = (f30.l0T R a2 a3 a4 b8 x9 h) by kernel_rfl) H)
set_option maxRecDepth 100000 in
def f30.j4T (R : Value → Heap → Prop) (a2 : Addr) (a3 : Addr) (a4 : Addr) (x9 : Int) (h : Heap) : Prop :=
  ∃ v1_, ldv false 1 h (Addr.add a3 3) = some v1_ ∧ ∃ A2_, ∃ n2_, ∃ c2_, v1_ = (Value.slice A2_ n2_ c2_) ∧ ptrOk A2_ fun a3_ => 0 ≤ x9 ∧ x9 < ((n2_ : Nat) : Int) ∧ (∃ v4_, ldv true 4 h (Addr.add a3_ (Int.toNat x9 * 4)) = some v4_ ∧ ∃ v5_, ldv false 1 h (Addr.add a4 3) = some v5_ ∧ ∃ A6_, ∃ n6_, ∃ c6_, v5_ = (Value.slice A6_ n6_ c6_) ∧ ptrOk A6_ fun a7_ => 0 ≤ x9 ∧ x9 < ((n6_ : Nat) : Int) ∧ (∃ v8_, ldv true 4 h (Addr.add a7_ (Int.toNat x9 * 4)) = some v8_ ∧ Run Try.prog 30 #[v4_, v8_, (Value.pointer (some a2))] h fun v9_ h10_ => ∃ b11_, v9_ = (Value.bool b11_) ∧ f30.l0 R a2 a3 a4 b11_ (IntKind.wrap .i64 (x9 + (1 : Int))) h10_))
set_option maxRecDepth 100000 in
theorem f30.j4_in {R : Value → Heap → Prop} {a2 : Addr} {a3 : Addr} {a4 : Addr} {x9 : Int} {h : Heap} (H : f30.j4T R a2 a3 a4 x9 h) : f30.j4 R a2 a3 a4 x9 h :=
  pt_intro mixed f30.good (Eq.mpr (show (Fwd Try.prog f30.T f30.kp Try.f30 R [true, false, false, true, false, true, false, true, true, true, true, true, true, true, false, true, false, true, true, true] (mkFr [(2, (Value.pointer (some a2))), (3, (Value.pointer (some a3))), (4, (Value.pointer (some a4))), (9, (Value.int .i64 x9))]) h) = (f30.j4T R a2 a3 a4 x9 h) by kernel_rfl) H)
set_option maxRecDepth 100000 in
def f30.runT (R : Value → Heap → Prop) (v0 : Value) (v1 : Value) (a2 : Addr) (h : Heap) : Prop :=
  newH h (Obj.cells ((v0).cells) 54) fun h1_ => newH h1_ (Obj.cells ((v1).cells) 50) fun h2_ => ∃ v3_, ldv false 1 h2_ (⟨Array.size h, 0, none⟩) = some v3_ ∧ ∃ x4_, v3_ = (Value.int .i64 x4_) ∧ splitB (x4_ == (2 : Int)) (∃ v5_, ldv false 1 h2_ a2 = some v5_ ∧ ∃ A6_, ∃ n6_, ∃ c6_, v5_ = (Value.slice A6_ n6_ c6_) ∧ ∃ v7_, ldv true 4 h2_ (⟨Array.size h1_, 0, none⟩) = some v7_ ∧ ∃ l8_ : List Value, (Value.agg #[(Value.int .i64 (0 : Int)), (Value.int .i64 (0 : Int)), (Value.string (ByteArray.mk #[])), (Value.slice none 0 0)]) = Value.agg l8_.toArray ∧ l8_.length = 4 ∧ (newH h2_ (Obj.cells ((List.take 0 ([(Value.int .i64 (0 : Int)), (Value.int .i64 (0 : Int)), (Value.string (ByteArray.mk #[])), (Value.slice none 0 0)]) ++ l8_ ++ List.drop 4 ([(Value.int .i64 (0 : Int)), (Value.int .i64 (0 : Int)), (Value.string (ByteArray.mk #[])), (Value.slice none 0 0)])).toArray) 50) fun h9_ => Ext h2_ h9_ ∧ (AppW 50 4 56 #[(Value.int .i64 (0 : Int)), (Value.int .i64 (0 : Int)), (Value.string (ByteArray.mk #[])), (Value.slice none 0 0)] A6_ n6_ c6_ (Value.slice (some ⟨Array.size h2_, 0, none⟩) 1 1) h9_ fun v10_ h11_ => ∃ A12_, ∃ n12_, ∃ c12_, v10_ = (Value.slice A12_ n12_ c12_) ∧ ptrOk A12_ fun a13_ => 0 ≤ ((n6_ : Nat) : Int) ∧ ((n6_ : Nat) : Int) < ((n12_ : Nat) : Int) ∧ ((∃ l15_ : List Value, v7_ = Value.agg l15_.toArray ∧ l15_.length = 4 ∧ ∃ h14_, stH h11_ (Addr.add a13_ (Int.toNat ((n6_ : Nat) : Int) * 4)) l15_ 0 = some h14_ ∧ ∃ h16_, st1 h14_ a2 (Value.slice A12_ n12_ c12_) = some h16_ ∧ f30.j0 R a2 (⟨Array.size h, 0, none⟩) (⟨Array.size h1_, 0, none⟩) h16_) ∧ (∃ h17_, st1 h11_ a2 (Value.slice A12_ n12_ c12_) = some h17_ ∧ ∃ l19_ : List Value, v7_ = Value.agg l19_.toArray ∧ l19_.length = 4 ∧ ∃ h18_, stH h17_ (Addr.add a13_ (Int.toNat ((n6_ : Nat) : Int) * 4)) l19_ 0 = some h18_ ∧ f30.j0 R a2 (⟨Array.size h, 0, none⟩) (⟨Array.size h1_, 0, none⟩) h18_))))) (f30.j0 R a2 (⟨Array.size h, 0, none⟩) (⟨Array.size h1_, 0, none⟩) h2_)
set_option maxRecDepth 100000 in
theorem f30.run {R : Value → Heap → Prop} {v0 : Value} {v1 : Value} {a2 : Addr} {h : Heap} (H : f30.runT R v0 v1 a2 h) : Run Try.prog 30 #[v0, v1, (Value.pointer (some a2))] h R :=
  run_of mixed Try.func30 (by kernel_rfl) (by kernel_rfl) f30.good (Eq.mpr (show (Fwd Try.prog f30.T f30.kp Try.f30 R [] (mkFr (argL [v0, v1, (Value.pointer (some a2))] 0)) h) = (f30.runT R v0 v1 a2 h) by kernel_rfl) H)
def f86.T : Tab := { sh := tSh, tup := tTup, keep := [], plan := [(6, (.take 0 (.take 2 (.take 5 (.take 7 (.take 1 (.take 3 (.take 4 (.take 6 (.take 8 (.take 9 (.eff false 10 (.take 11 .done)))))))))))))] }
def f86.kp : Keep := [([true, true], [2, 3]), ([false, false, true, false, true, true], [2, 3, 36, 37])]
theorem f86.good : goodCode Try.prog f86.T (rootOf Try.f86) = true := by kernel_rfl
def f86.j0 (R : Value → Heap → Prop) (a2 : Addr) (a3 : Addr) (h : Heap) : Prop := Pt Try.prog Try.f86 R [true, true] (mkFr [(2, (Value.pointer (some a2))), (3, (Value.pointer (some a3)))]) h
def f86.l0 (R : Value → Heap → Prop) (a2 : Addr) (a3 : Addr) (x36 : Int) (x37 : Int) (h : Heap) : Prop := Pt Try.prog Try.f86 R [false, false, true, false, true, true] (mkFr [(2, (Value.pointer (some a2))), (3, (Value.pointer (some a3))), (36, (Value.int .i64 x36)), (37, (Value.int .i64 x37))]) h
set_option maxRecDepth 100000 in
def f86.j0T (R : Value → Heap → Prop) (a2 : Addr) (a3 : Addr) (h : Heap) : Prop :=
  ∃ v1_, ldv false 1 h (Addr.add a2 3) = some v1_ ∧ ∃ A2_, ∃ n2_, ∃ c2_, v1_ = (Value.slice A2_ n2_ c2_) ∧ f86.l0 R a2 a3 ((n2_ : Nat) : Int) (0 : Int) h
set_option maxRecDepth 100000 in
theorem f86.j0_in {R : Value → Heap → Prop} {a2 : Addr} {a3 : Addr} {h : Heap} (H : f86.j0T R a2 a3 h) : f86.j0 R a2 a3 h :=
  pt_intro mixed f86.good (Eq.mpr (show (Fwd Try.prog f86.T f86.kp Try.f86 R [true, true] (mkFr [(2, (Value.pointer (some a2))), (3, (Value.pointer (some a3)))]) h) = (f86.j0T R a2 a3 h) by kernel_rfl) H)
set_option maxRecDepth 100000 in
def f86.l0T (R : Value → Heap → Prop) (a2 : Addr) (a3 : Addr) (x36 : Int) (x37 : Int) (h : Heap) : Prop :=
  splitB (decide (x37 < x36)) (∃ v1_, ldv false 1 h (Addr.add a2 3) = some v1_ ∧ ∃ A2_, ∃ n2_, ∃ c2_, v1_ = (Value.slice A2_ n2_ c2_) ∧ ptrOk A2_ fun a3_ => 0 ≤ x37 ∧ x37 < ((n2_ : Nat) : Int) ∧ (∃ v4_, ldv true 4 h (Addr.add a3_ (Int.toNat x37 * 4)) = some v4_ ∧ ∃ v5_, ldv false 1 h (Addr.add a3 3) = some v5_ ∧ ∃ A6_, ∃ n6_, ∃ c6_, v5_ = (Value.slice A6_ n6_ c6_) ∧ ptrOk A6_ fun a7_ => 0 ≤ x37 ∧ x37 < ((n6_ : Nat) : Int) ∧ (∃ v8_, ldv true 4 h (Addr.add a7_ (Int.toNat x37 * 4)) = some v8_ ∧ Run Try.prog 86 #[v4_, v8_] h fun v9_ h10_ => ∃ b11_, v9_ = (Value.bool b11_) ∧ splitB (!b11_) (R (Value.bool false) h10_) (f86.l0 R a2 a3 x36 (IntKind.wrap .i64 (x37 + (1 : Int))) h10_)))) (R (Value.bool true) h)
set_option maxRecDepth 100000 in
theorem f86.l0_in {R : Value → Heap → Prop} {a2 : Addr} {a3 : Addr} {x36 : Int} {x37 : Int} {h : Heap} (H : f86.l0T R a2 a3 x36 x37 h) : f86.l0 R a2 a3 x36 x37 h :=
  pt_intro mixed f86.good (Eq.mpr (show (Fwd Try.prog f86.T f86.kp Try.f86 R [false, false, true, false, true, true] (mkFr [(2, (Value.pointer (some a2))), (3, (Value.pointer (some a3))), (36, (Value.int .i64 x36)), (37, (Value.int .i64 x37))]) h) = (f86.l0T R a2 a3 x36 x37 h) by kernel_rfl) H)
set_option maxRecDepth 100000 in
def f86.runT (R : Value → Heap → Prop) (v0 : Value) (v1 : Value) (h : Heap) : Prop :=
  newH h (Obj.cells ((v0).cells) 50) fun h1_ => newH h1_ (Obj.cells ((v1).cells) 50) fun h2_ => ∃ v3_, ldv false 1 h2_ (⟨Array.size h, 0, none⟩) = some v3_ ∧ ∃ x4_, v3_ = (Value.int .i64 x4_) ∧ ∃ v5_, ldv false 1 h2_ (⟨Array.size h1_, 0, none⟩) = some v5_ ∧ ∃ x6_, v5_ = (Value.int .i64 x6_) ∧ splitB (x4_ != x6_) (R (Value.bool false) h2_) (∃ v7_, ldv false 1 h2_ (Addr.add (⟨Array.size h, 0, none⟩) 1) = some v7_ ∧ ∃ x8_, v7_ = (Value.int .i64 x8_) ∧ ∃ v9_, ldv false 1 h2_ (Addr.add (⟨Array.size h1_, 0, none⟩) 1) = some v9_ ∧ ∃ x10_, v9_ = (Value.int .i64 x10_) ∧ splitB (x8_ != x10_) (R (Value.bool false) h2_) (∃ v11_, ldv false 1 h2_ (Addr.add (⟨Array.size h, 0, none⟩) 2) = some v11_ ∧ ∃ s12_, v11_ = (Value.string s12_) ∧ ∃ v13_, ldv false 1 h2_ (Addr.add (⟨Array.size h1_, 0, none⟩) 2) = some v13_ ∧ ∃ s14_, v13_ = (Value.string s14_) ∧ splitB (!(ByteArray.toList s12_ == ByteArray.toList s14_)) (R (Value.bool false) h2_) (∃ v15_, ldv false 1 h2_ (Addr.add (⟨Array.size h, 0, none⟩) 3) = some v15_ ∧ ∃ A16_, ∃ n16_, ∃ c16_, v15_ = (Value.slice A16_ n16_ c16_) ∧ ∃ v17_, ldv false 1 h2_ (Addr.add (⟨Array.size h1_, 0, none⟩) 3) = some v17_ ∧ ∃ A18_, ∃ n18_, ∃ c18_, v17_ = (Value.slice A18_ n18_ c18_) ∧ splitB (((n16_ : Nat) : Int) != ((n18_ : Nat) : Int)) (R (Value.bool false) h2_) (f86.j0 R (⟨Array.size h, 0, none⟩) (⟨Array.size h1_, 0, none⟩) h2_))))
set_option maxRecDepth 100000 in
theorem f86.run {R : Value → Heap → Prop} {v0 : Value} {v1 : Value} {h : Heap} (H : f86.runT R v0 v1 h) : Run Try.prog 86 #[v0, v1] h R :=
  run_of mixed Try.func86 (by kernel_rfl) (by kernel_rfl) f86.good (Eq.mpr (show (Fwd Try.prog f86.T f86.kp Try.f86 R [] (mkFr (argL [v0, v1] 0)) h) = (f86.runT R v0 v1 h) by kernel_rfl) H)
def f31.T : Tab := { sh := tSh, tup := tTup, keep := [], plan := [(6, (.take 0 (.take 1 (.take 2 (.take 4 (.take 5 (.take 6 (.take 3 (.take 7 (.eff false 8 (.take 9 .done)))))))))))] }
def f31.kp : Keep := [([false, false, true, false, true, true], [0, 1, 12, 13])]
theorem f31.good : goodCode Try.prog f31.T (rootOf Try.f31) = true := by kernel_rfl
def f31.l0 (R : Value → Heap → Prop) (A0 : Option Addr) (n0 : Nat) (c0 : Nat) (A1 : Option Addr) (n1 : Nat) (c1 : Nat) (x12 : Int) (x13 : Int) (h : Heap) : Prop := Pt Try.prog Try.f31 R [false, false, true, false, true, true] (mkFr [(0, (Value.slice A0 n0 c0)), (1, (Value.slice A1 n1 c1)), (12, (Value.int .i64 x12)), (13, (Value.int .i64 x13))]) h
set_option maxRecDepth 100000 in
def f31.l0T (R : Value → Heap → Prop) (A0 : Option Addr) (n0 : Nat) (c0 : Nat) (A1 : Option Addr) (n1 : Nat) (c1 : Nat) (x12 : Int) (x13 : Int) (h : Heap) : Prop :=
  splitB (decide (x13 < x12)) (ptrOk A0 fun a1_ => 0 ≤ x13 ∧ x13 < ((n0 : Nat) : Int) ∧ (ptrOk A1 fun a2_ => 0 ≤ x13 ∧ x13 < ((n1 : Nat) : Int) ∧ (∃ v3_, ldv true 4 h (Addr.add a1_ (Int.toNat x13 * 4)) = some v3_ ∧ ∃ v4_, ldv true 4 h (Addr.add a2_ (Int.toNat x13 * 4)) = some v4_ ∧ Run Try.prog 86 #[v3_, v4_] h fun v5_ h6_ => ∃ b7_, v5_ = (Value.bool b7_) ∧ splitB (!b7_) (R (Value.bool false) h6_) (f31.l0 R A0 n0 c0 A1 n1 c1 x12 (IntKind.wrap .i64 (x13 + (1 : Int))) h6_)))) (R (Value.bool true) h)
set_option maxRecDepth 100000 in
theorem f31.l0_in {R : Value → Heap → Prop} {A0 : Option Addr} {n0 : Nat} {c0 : Nat} {A1 : Option Addr} {n1 : Nat} {c1 : Nat} {x12 : Int} {x13 : Int} {h : Heap} (H : f31.l0T R A0 n0 c0 A1 n1 c1 x12 x13 h) : f31.l0 R A0 n0 c0 A1 n1 c1 x12 x13 h :=
  pt_intro mixed f31.good (Eq.mpr (show (Fwd Try.prog f31.T f31.kp Try.f31 R [false, false, true, false, true, true] (mkFr [(0, (Value.slice A0 n0 c0)), (1, (Value.slice A1 n1 c1)), (12, (Value.int .i64 x12)), (13, (Value.int .i64 x13))]) h) = (f31.l0T R A0 n0 c0 A1 n1 c1 x12 x13 h) by kernel_rfl) H)
set_option maxRecDepth 100000 in
def f31.runT (R : Value → Heap → Prop) (A0 : Option Addr) (n0 : Nat) (c0 : Nat) (A1 : Option Addr) (n1 : Nat) (c1 : Nat) (h : Heap) : Prop :=
  splitB (((n0 : Nat) : Int) != ((n1 : Nat) : Int)) (R (Value.bool false) h) (f31.l0 R A0 n0 c0 A1 n1 c1 ((n0 : Nat) : Int) (0 : Int) h)
set_option maxRecDepth 100000 in
theorem f31.run {R : Value → Heap → Prop} {A0 : Option Addr} {n0 : Nat} {c0 : Nat} {A1 : Option Addr} {n1 : Nat} {c1 : Nat} {h : Heap} (H : f31.runT R A0 n0 c0 A1 n1 c1 h) : Run Try.prog 31 #[(Value.slice A0 n0 c0), (Value.slice A1 n1 c1)] h R :=
  run_of mixed Try.func31 (by kernel_rfl) (by kernel_rfl) f31.good (Eq.mpr (show (Fwd Try.prog f31.T f31.kp Try.f31 R [] (mkFr (argL [(Value.slice A0 n0 c0), (Value.slice A1 n1 c1)] 0)) h) = (f31.runT R A0 n0 c0 A1 n1 c1 h) by kernel_rfl) H)
def f87.T : Tab := { sh := tSh, tup := tTup, keep := [], plan := [] }
def f87.kp : Keep := []
theorem f87.good : goodCode Try.prog f87.T (rootOf Try.f87) = true := by kernel_rfl
set_option maxRecDepth 100000 in
theorem f87.ok : calleeOk Try.prog 87 = true := by kernel_rfl
set_option maxRecDepth 100000 in
def f87.runT (R : Value → Heap → Prop) (v0 : Value) (a1 : Addr) (h : Heap) : Prop :=
  newH h (Obj.cells ((v0).cells) 54) fun h1_ => ∃ v2_, ldv true 4 h1_ (⟨Array.size h, 0, none⟩) = some v2_ ∧ ∃ v3_, ldv true 4 h1_ a1 = some v3_ ∧ Run Try.prog 29 #[v2_, v3_] h1_ fun v4_ h5_ => ∃ A6_, ∃ n6_, ∃ c6_, ∃ b7_, v4_ = (Value.tuple #[(Value.slice A6_ n6_ c6_), (Value.bool b7_)]) ∧ R (Value.bool b7_) h5_
set_option maxRecDepth 100000 in
theorem f87.run {R : Value → Heap → Prop} {v0 : Value} {a1 : Addr} {h : Heap} (H : f87.runT R v0 a1 h) : Run Try.prog 87 #[v0, (Value.pointer (some a1))] h R :=
  run_of mixed Try.func87 (by kernel_rfl) (by kernel_rfl) f87.good (Eq.mpr (show (Fwd Try.prog f87.T f87.kp Try.f87 R [] (mkFr (argL [v0, (Value.pointer (some a1))] 0)) h) = (f87.runT R v0 a1 h) by kernel_rfl) H)
def f32.T : Tab := { sh := tSh, tup := tTup, keep := [], plan := [] }
def f32.kp : Keep := []
theorem f32.good : goodCode Try.prog f32.T (rootOf Try.f32) = true := by kernel_rfl
set_option maxRecDepth 100000 in
def f32.runT (R : Value → Heap → Prop) (A0 : Option Addr) (n0 : Nat) (c0 : Nat) (v1 : Value) (h : Heap) : Prop :=
  newH h (Obj.cells ((v1).cells) 50) fun h1_ => Run Try.prog 81 #[(Value.slice A0 n0 c0), (Value.func (.func 87) #[] #[(Value.pointer (some ⟨Array.size h, 0, none⟩))])] h1_ fun v2_ h3_ => ∃ x4_, v2_ = (Value.int .i64 x4_) ∧ R (Value.int .i64 x4_) h3_
set_option maxRecDepth 100000 in
theorem f32.run {R : Value → Heap → Prop} {A0 : Option Addr} {n0 : Nat} {c0 : Nat} {v1 : Value} {h : Heap} (H : f32.runT R A0 n0 c0 v1 h) : Run Try.prog 32 #[(Value.slice A0 n0 c0), v1] h R :=
  run_of mixed Try.func32 (by kernel_rfl) (by kernel_rfl) f32.good (Eq.mpr (show (Fwd Try.prog f32.T f32.kp Try.f32 R [] (mkFr (argL [(Value.slice A0 n0 c0), v1] 0)) h) = (f32.runT R A0 n0 c0 v1 h) by kernel_rfl) H)
def f33.T : Tab := { sh := tSh, tup := tTup, keep := [], plan := [] }
def f33.kp : Keep := [([false, false, true, false, true], [3, 8, 9, 10])]
theorem f33.good : goodCode Try.prog f33.T (rootOf Try.f33) = true := by kernel_rfl
def f33.l0 (R : Value → Heap → Prop) (a3 : Addr) (A8 : Option Addr) (n8 : Nat) (c8 : Nat) (x9 : Int) (x10 : Int) (h : Heap) : Prop := Pt Try.prog Try.f33 R [false, false, true, false, true] (mkFr [(3, (Value.pointer (some a3))), (8, (Value.slice A8 n8 c8)), (9, (Value.int .i64 x9)), (10, (Value.int .i64 x10))]) h
set_option maxRecDepth 100000 in
def f33.l0T (R : Value → Heap → Prop) (a3 : Addr) (A8 : Option Addr) (n8 : Nat) (c8 : Nat) (x9 : Int) (x10 : Int) (h : Heap) : Prop :=
  splitB (decide (x10 < x9)) (ptrOk A8 fun a1_ => 0 ≤ x10 ∧ x10 < ((n8 : Nat) : Int) ∧ (∃ v2_, ldv true 4 h (Addr.add a1_ (Int.toNat x10 * 4)) = some v2_ ∧ newH h (Obj.cells #[(Value.int .i64 (0 : Int)), (Value.int .i64 (0 : Int)), (Value.string (ByteArray.mk #[])), (Value.slice none 0 0)] 54) fun h3_ => ∃ l5_ : List Value, v2_ = Value.agg l5_.toArray ∧ l5_.length = 4 ∧ ∃ h4_, stH h3_ (⟨Array.size h, 0, none⟩) l5_ 0 = some h4_ ∧ newH h4_ (Obj.cells #[(Value.slice none 0 0)] 48) fun h6_ => ∃ v7_, ldv true 4 h6_ (⟨Array.size h, 0, none⟩) = some v7_ ∧ ∃ v8_, ldv true 4 h6_ a3 = some v8_ ∧ Run Try.prog 30 #[v7_, v8_, (Value.pointer (some ⟨Array.size h4_, 0, none⟩))] h6_ fun v9_ h10_ => ∃ b11_, v9_ = (Value.bool b11_) ∧ splitB b11_ (R (Value.int .i64 x10) h10_) (f33.l0 R a3 A8 n8 c8 x9 (IntKind.wrap .i64 (x10 + (1 : Int))) h10_))) (R (Value.int .i64 (-1 : Int)) h)
set_option maxRecDepth 100000 in
theorem f33.l0_in {R : Value → Heap → Prop} {a3 : Addr} {A8 : Option Addr} {n8 : Nat} {c8 : Nat} {x9 : Int} {x10 : Int} {h : Heap} (H : f33.l0T R a3 A8 n8 c8 x9 x10 h) : f33.l0 R a3 A8 n8 c8 x9 x10 h :=
  pt_intro mixed f33.good (Eq.mpr (show (Fwd Try.prog f33.T f33.kp Try.f33 R [false, false, true, false, true] (mkFr [(3, (Value.pointer (some a3))), (8, (Value.slice A8 n8 c8)), (9, (Value.int .i64 x9)), (10, (Value.int .i64 x10))]) h) = (f33.l0T R a3 A8 n8 c8 x9 x10 h) by kernel_rfl) H)
set_option maxRecDepth 100000 in
def f33.runT (R : Value → Heap → Prop) (A0 : Option Addr) (n0 : Nat) (c0 : Nat) (v1 : Value) (h : Heap) : Prop :=
  newH h (Obj.cells ((v1).cells) 50) fun h1_ => f33.l0 R (⟨Array.size h, 0, none⟩) A0 n0 c0 ((n0 : Nat) : Int) (0 : Int) h1_
set_option maxRecDepth 100000 in
theorem f33.run {R : Value → Heap → Prop} {A0 : Option Addr} {n0 : Nat} {c0 : Nat} {v1 : Value} {h : Heap} (H : f33.runT R A0 n0 c0 v1 h) : Run Try.prog 33 #[(Value.slice A0 n0 c0), v1] h R :=
  run_of mixed Try.func33 (by kernel_rfl) (by kernel_rfl) f33.good (Eq.mpr (show (Fwd Try.prog f33.T f33.kp Try.f33 R [] (mkFr (argL [(Value.slice A0 n0 c0), v1] 0)) h) = (f33.runT R A0 n0 c0 v1 h) by kernel_rfl) H)
def f113.T : Tab := { sh := tSh, tup := tTup, keep := [], plan := [] }
def f113.kp : Keep := [([true, true], [1]), ([false, false, true, false, true, true], [23, 24, 25])]
theorem f113.good : goodCode Try.prog f113.T (rootOf Try.f113) = true := by kernel_rfl
def f113.j0 (R : Value → Heap → Prop) (a1 : Addr) (h : Heap) : Prop := Pt Try.prog Try.f113 R [true, true] (mkFr [(1, (Value.pointer (some a1)))]) h
def f113.l0 (R : Value → Heap → Prop) (A23 : Option Addr) (n23 : Nat) (c23 : Nat) (x24 : Int) (x25 : Int) (h : Heap) : Prop := Pt Try.prog Try.f113 R [false, false, true, false, true, true] (mkFr [(23, (Value.slice A23 n23 c23)), (24, (Value.int .i64 x24)), (25, (Value.int .i64 x25))]) h
set_option maxRecDepth 100000 in
def f113.j0T (R : Value → Heap → Prop) (a1 : Addr) (h : Heap) : Prop :=
  ∃ v1_, ldv false 1 h a1 = some v1_ ∧ ∃ A2_, ∃ n2_, ∃ c2_, v1_ = (Value.slice A2_ n2_ c2_) ∧ f113.l0 R A2_ n2_ c2_ ((n2_ : Nat) : Int) (0 : Int) h
set_option maxRecDepth 100000 in
theorem f113.j0_in {R : Value → Heap → Prop} {a1 : Addr} {h : Heap} (H : f113.j0T R a1 h) : f113.j0 R a1 h :=
  pt_intro mixed f113.good (Eq.mpr (show (Fwd Try.prog f113.T f113.kp Try.f113 R [true, true] (mkFr [(1, (Value.pointer (some a1)))]) h) = (f113.j0T R a1 h) by kernel_rfl) H)
set_option maxRecDepth 100000 in
def f113.l0T (R : Value → Heap → Prop) (A23 : Option Addr) (n23 : Nat) (c23 : Nat) (x24 : Int) (x25 : Int) (h : Heap) : Prop :=
  splitB (decide (x25 < x24)) (ptrOk A23 fun a1_ => 0 ≤ x25 ∧ x25 < ((n23 : Nat) : Int) ∧ (∃ v2_, ldv true 9 h (Addr.add a1_ (Int.toNat x25 * 9)) = some v2_ ∧ newH h (Obj.cells #[(Value.int .i64 (0 : Int)), (Value.int .i64 (0 : Int)), (Value.int .i64 (0 : Int)), (Value.int .i64 (0 : Int)), (Value.string (ByteArray.mk #[])), (Value.int .i64 (0 : Int)), (Value.int .i64 (0 : Int)), (Value.string (ByteArray.mk #[])), (Value.slice none 0 0)] 59) fun h3_ => ∃ l5_ : List Value, v2_ = Value.agg l5_.toArray ∧ l5_.length = 9 ∧ ∃ h4_, stH h3_ (⟨Array.size h, 0, none⟩) l5_ 0 = some h4_ ∧ ∃ v6_, ldv false 1 h4_ (⟨Array.size h, 0, none⟩) = some v6_ ∧ ∃ x7_, v6_ = (Value.int .i64 x7_) ∧ splitB (x7_ != (1 : Int)) (∃ v8_, ldv false 1 h4_ (⟨Array.size h, 0, none⟩) = some v8_ ∧ ∃ x9_, v8_ = (Value.int .i64 x9_) ∧ splitB (x9_ != (2 : Int)) (R (Value.int .i64 (3 : Int)) h4_) (f113.l0 R A23 n23 c23 x24 (IntKind.wrap .i64 (x25 + (1 : Int))) h4_)) (f113.l0 R A23 n23 c23 x24 (IntKind.wrap .i64 (x25 + (1 : Int))) h4_))) (R (Value.int .i64 (0 : Int)) h)
set_option maxRecDepth 100000 in
theorem f113.l0_in {R : Value → Heap → Prop} {A23 : Option Addr} {n23 : Nat} {c23 : Nat} {x24 : Int} {x25 : Int} {h : Heap} (H : f113.l0T R A23 n23 c23 x24 x25 h) : f113.l0 R A23 n23 c23 x24 x25 h :=
  pt_intro mixed f113.good (Eq.mpr (show (Fwd Try.prog f113.T f113.kp Try.f113 R [false, false, true, false, true, true] (mkFr [(23, (Value.slice A23 n23 c23)), (24, (Value.int .i64 x24)), (25, (Value.int .i64 x25))]) h) = (f113.l0T R A23 n23 c23 x24 x25 h) by kernel_rfl) H)
set_option maxRecDepth 100000 in
def f113.runT (R : Value → Heap → Prop) (v0 : Value) (h : Heap) : Prop :=
  newH h (Obj.cells ((v0).cells) 46) fun h1_ => ∃ v2_, ldv false 1 h1_ (⟨Array.size h, 0, none⟩) = some v2_ ∧ ∃ A3_, ∃ n3_, ∃ c3_, v2_ = (Value.slice A3_ n3_ c3_) ∧ splitB (decide (((n3_ : Nat) : Int) > (60 : Int))) (R (Value.int .i64 (2 : Int)) h1_) (∃ v4_, ldv false 1 h1_ (Addr.add (⟨Array.size h, 0, none⟩) 1) = some v4_ ∧ ∃ x5_, v4_ = (Value.int .i64 x5_) ∧ splitB (decide (x5_ < (0 : Int))) (R (Value.int .i64 (1 : Int)) h1_) (∃ v6_, ldv false 1 h1_ (Addr.add (⟨Array.size h, 0, none⟩) 1) = some v6_ ∧ ∃ x7_, v6_ = (Value.int .i64 x7_) ∧ ∃ v8_, ldv false 1 h1_ (⟨Array.size h, 0, none⟩) = some v8_ ∧ ∃ A9_, ∃ n9_, ∃ c9_, v8_ = (Value.slice A9_ n9_ c9_) ∧ splitB (decide (x7_ > ((n9_ : Nat) : Int))) (R (Value.int .i64 (1 : Int)) h1_) (f113.j0 R (⟨Array.size h, 0, none⟩) h1_)))
set_option maxRecDepth 100000 in
theorem f113.run {R : Value → Heap → Prop} {v0 : Value} {h : Heap} (H : f113.runT R v0 h) : Run Try.prog 113 #[v0] h R :=
  run_of mixed Try.func113 (by kernel_rfl) (by kernel_rfl) f113.good (Eq.mpr (show (Fwd Try.prog f113.T f113.kp Try.f113 R [] (mkFr (argL [v0] 0)) h) = (f113.runT R v0 h) by kernel_rfl) H)
def f114.T : Tab := { sh := tSh, tup := tTup, keep := [], plan := [] }
def f114.kp : Keep := []
theorem f114.good : goodCode Try.prog f114.T (rootOf Try.f114) = true := by kernel_rfl
set_option maxRecDepth 100000 in
def f114.runT (R : Value → Heap → Prop) (A0 : Option Addr) (n0 : Nat) (c0 : Nat) (h : Heap) : Prop :=
  splitB (Option.isNone A0) (R (Value.slice none 0 0) h) (newH h (Obj.cells #[] 59) fun h1_ => AppW 59 9 104 #[(Value.int .i64 (0 : Int)), (Value.int .i64 (0 : Int)), (Value.int .i64 (0 : Int)), (Value.int .i64 (0 : Int)), (Value.string (ByteArray.mk #[])), (Value.int .i64 (0 : Int)), (Value.int .i64 (0 : Int)), (Value.string (ByteArray.mk #[])), (Value.slice none 0 0)] (some ⟨Array.size h, 0, none⟩) 0 0 (Value.slice A0 n0 c0) h1_ fun v2_ h3_ => ∃ A4_, ∃ n4_, ∃ c4_, v2_ = (Value.slice A4_ n4_ c4_) ∧ R (Value.slice A4_ n4_ c4_) h3_)
set_option maxRecDepth 100000 in
theorem f114.run {R : Value → Heap → Prop} {A0 : Option Addr} {n0 : Nat} {c0 : Nat} {h : Heap} (H : f114.runT R A0 n0 c0 h) : Run Try.prog 114 #[(Value.slice A0 n0 c0)] h R :=
  run_of mixed Try.func114 (by kernel_rfl) (by kernel_rfl) f114.good (Eq.mpr (show (Fwd Try.prog f114.T f114.kp Try.f114 R [] (mkFr (argL [(Value.slice A0 n0 c0)] 0)) h) = (f114.runT R A0 n0 c0 h) by kernel_rfl) H)
def f115.T : Tab := { sh := tSh, tup := tTup, keep := [], plan := [] }
def f115.kp : Keep := []
theorem f115.good : goodCode Try.prog f115.T (rootOf Try.f115) = true := by kernel_rfl
set_option maxRecDepth 100000 in
def f115.runT (R : Value → Heap → Prop) (v0 : Value) (h : Heap) : Prop :=
  newH h (Obj.cells ((v0).cells) 59) fun h1_ => newH h1_ (Obj.cells #[(Value.int .i64 (0 : Int)), (Value.int .i64 (0 : Int)), (Value.string (ByteArray.mk #[])), (Value.slice none 0 0)] 50) fun h2_ => ∃ v3_, ldv false 1 h2_ (⟨Array.size h, 0, none⟩) = some v3_ ∧ ∃ x4_, v3_ = (Value.int .i64 x4_) ∧ splitB (x4_ != (2 : Int)) (∃ v5_, ldv true 4 h2_ (Addr.add (⟨Array.size h, 0, none⟩) 5) = some v5_ ∧ Run Try.prog 84 #[v5_] h2_ fun v6_ h7_ => ∃ l9_ : List Value, v6_ = Value.agg l9_.toArray ∧ l9_.length = 4 ∧ ∃ h8_, stH h7_ (⟨Array.size h1_, 0, none⟩) l9_ 0 = some h8_ ∧ ∃ v10_, ldv true 4 h8_ (⟨Array.size h1_, 0, none⟩) = some v10_ ∧ R v10_ h8_) (∃ v11_, ldv false 1 h2_ (Addr.add (⟨Array.size h, 0, none⟩) 1) = some v11_ ∧ ∃ x12_, v11_ = (Value.int .i64 x12_) ∧ ∃ v13_, ldv false 1 h2_ (Addr.add (⟨Array.size h, 0, none⟩) 3) = some v13_ ∧ ∃ x14_, v13_ = (Value.int .i64 x14_) ∧ ∃ l15_ : List Value, (Value.agg #[(Value.int .i64 (6 : Int)), (Value.int .i64 x12_), (Value.string (ByteArray.mk #[])), (Value.slice none 0 0)]) = Value.agg l15_.toArray ∧ l15_.length = 4 ∧ (∃ l16_ : List Value, (Value.agg #[(Value.int .i64 (2 : Int)), (Value.int .i64 x14_), (Value.string (ByteArray.mk #[])), (Value.slice none 0 0)]) = Value.agg l16_.toArray ∧ l16_.length = 4 ∧ (newH h2_ (Obj.cells ((List.take 4 (List.take 0 ([(Value.int .i64 (0 : Int)), (Value.int .i64 (0 : Int)), (Value.string (ByteArray.mk #[])), (Value.slice none 0 0), (Value.int .i64 (0 : Int)), (Value.int .i64 (0 : Int)), (Value.string (ByteArray.mk #[])), (Value.slice none 0 0)]) ++ l15_ ++ List.drop 4 ([(Value.int .i64 (0 : Int)), (Value.int .i64 (0 : Int)), (Value.string (ByteArray.mk #[])), (Value.slice none 0 0), (Value.int .i64 (0 : Int)), (Value.int .i64 (0 : Int)), (Value.string (ByteArray.mk #[])), (Value.slice none 0 0)])) ++ l16_ ++ List.drop 8 (List.take 0 ([(Value.int .i64 (0 : Int)), (Value.int .i64 (0 : Int)), (Value.string (ByteArray.mk #[])), (Value.slice none 0 0), (Value.int .i64 (0 : Int)), (Value.int .i64 (0 : Int)), (Value.string (ByteArray.mk #[])), (Value.slice none 0 0)]) ++ l15_ ++ List.drop 4 ([(Value.int .i64 (0 : Int)), (Value.int .i64 (0 : Int)), (Value.string (ByteArray.mk #[])), (Value.slice none 0 0), (Value.int .i64 (0 : Int)), (Value.int .i64 (0 : Int)), (Value.string (ByteArray.mk #[])), (Value.slice none 0 0)]))).toArray) 50) fun h17_ => ∃ l19_ : List Value, (Value.agg #[(Value.int .i64 (5 : Int)), (Value.int .i64 (0 : Int)), (Value.string (ByteArray.mk #[68, 111, 119, 110])), (Value.slice (some ⟨Array.size h2_, 0, none⟩) 2 2)]) = Value.agg l19_.toArray ∧ l19_.length = 4 ∧ ∃ h18_, stH h17_ (⟨Array.size h1_, 0, none⟩) l19_ 0 = some h18_ ∧ ∃ v20_, ldv true 4 h18_ (⟨Array.size h1_, 0, none⟩) = some v20_ ∧ R v20_ h18_)))
set_option maxRecDepth 100000 in
theorem f115.run {R : Value → Heap → Prop} {v0 : Value} {h : Heap} (H : f115.runT R v0 h) : Run Try.prog 115 #[v0] h R :=
  run_of mixed Try.func115 (by kernel_rfl) (by kernel_rfl) f115.good (Eq.mpr (show (Fwd Try.prog f115.T f115.kp Try.f115 R [] (mkFr (argL [v0] 0)) h) = (f115.runT R v0 h) by kernel_rfl) H)
def f116.T : Tab := { sh := tSh, tup := tTup, keep := [], plan := [(5, (.take 0 (.take 1 (.take 2 (.take 3 (.take 4 (.take 5 (.eff false 6 (.take 7 .done)))))))))] }
def f116.kp : Keep := []
theorem f116.good : goodCode Try.prog f116.T (rootOf Try.f116) = true := by kernel_rfl
set_option maxRecDepth 100000 in
def f116.runT (R : Value → Heap → Prop) (A0 : Option Addr) (n0 : Nat) (c0 : Nat) (x1 : Int) (x2 : Int) (h : Heap) : Prop :=
  0 ≤ x1 ∧ x1 ≤ x2 ∧ x2 ≤ ((n0 : Nat) : Int) ∧ ((n0 : Nat) : Int) ≤ ((c0 : Nat) : Int) ∧ (splitB (x1 == x2) (R (Value.slice A0 n0 c0) h) (0 ≤ (0 : Int) ∧ (0 : Int) ≤ x1 ∧ x1 ≤ ((c0 : Nat) : Int) ∧ (0 ≤ x2 ∧ x2 ≤ ((n0 : Nat) : Int) ∧ ((n0 : Nat) : Int) ≤ ((c0 : Nat) : Int) ∧ (AppW 59 9 104 #[(Value.int .i64 (0 : Int)), (Value.int .i64 (0 : Int)), (Value.int .i64 (0 : Int)), (Value.int .i64 (0 : Int)), (Value.string (ByteArray.mk #[])), (Value.int .i64 (0 : Int)), (Value.int .i64 (0 : Int)), (Value.string (ByteArray.mk #[])), (Value.slice none 0 0)] (sliceA A0 (Int.toNat (0 : Int)) c0 9) (Int.toNat x1 - Int.toNat (0 : Int)) (c0 - Int.toNat (0 : Int)) (Value.slice (sliceA A0 (Int.toNat x2) c0 9) (Int.toNat ((n0 : Nat) : Int) - Int.toNat x2) (c0 - Int.toNat x2)) h fun v1_ h2_ => ∃ A3_, ∃ n3_, ∃ c3_, v1_ = (Value.slice A3_ n3_ c3_) ∧ 0 ≤ ((n3_ : Nat) : Int) ∧ ((n3_ : Nat) : Int) ≤ ((n0 : Nat) : Int) ∧ ((n0 : Nat) : Int) ≤ ((c3_ : Nat) : Int) ∧ (Gen Try.prog (Builtin.clear_ #[44] 0 #[(Value.slice (sliceA A3_ (Int.toNat ((n3_ : Nat) : Int)) c3_ 9) (Int.toNat ((n0 : Nat) : Int) - Int.toNat ((n3_ : Nat) : Int)) (c3_ - Int.toNat ((n3_ : Nat) : Int)))]) h2_ fun v4_ h5_ => v4_ = (Value.tuple #[]) ∧ R (Value.slice A3_ n3_ c3_) h5_)))))
set_option maxRecDepth 100000 in
theorem f116.run {R : Value → Heap → Prop} {A0 : Option Addr} {n0 : Nat} {c0 : Nat} {x1 : Int} {x2 : Int} {h : Heap} (H : f116.runT R A0 n0 c0 x1 x2 h) : Run Try.prog 116 #[(Value.slice A0 n0 c0), (Value.int .i64 x1), (Value.int .i64 x2)] h R :=
  run_of mixed Try.func116 (by kernel_rfl) (by kernel_rfl) f116.good (Eq.mpr (show (Fwd Try.prog f116.T f116.kp Try.f116 R [] (mkFr (argL [(Value.slice A0 n0 c0), (Value.int .i64 x1), (Value.int .i64 x2)] 0)) h) = (f116.runT R A0 n0 c0 x1 x2 h) by kernel_rfl) H)
def f88.T : Tab := { sh := tSh, tup := tTup, keep := [], plan := [(10, (.take 0 (.take 1 (.take 2 (.take 3 (.alt false 4 (.alt false 5 (.alt false 6 (.eff false 7 (.eff false 8 (.take 9 (.take 10 .done)))) (.eff false 7 (.eff false 6 (.eff false 8 (.take 9 (.take 10 .done)))))) (.eff false 6 (.eff false 5 (.eff false 7 (.eff false 8 (.take 9 (.take 10 .done))))))) (.eff false 6 (.eff false 4 (.eff false 5 (.eff false 7 (.eff false 8 (.take 9 (.take 10 .done)))))))))))))] }
def f88.kp : Keep := [([false, false, true, false, true, true, true], [1, 4, 5, 9, 10])]
theorem f88.good : goodCode Try.prog f88.T (rootOf Try.f88) = true := by kernel_rfl
def f88.l0 (R : Value → Heap → Prop) (v1 : Value) (a4 : Addr) (a5 : Addr) (A9 : Option Addr) (n9 : Nat) (c9 : Nat) (x10 : Int) (h : Heap) : Prop := Pt Try.prog Try.f88 R [false, false, true, false, true, true, true] (mkFr [(1, v1), (4, (Value.pointer (some a4))), (5, (Value.pointer (some a5))), (9, (Value.slice A9 n9 c9)), (10, (Value.int .i64 x10))]) h
set_option maxRecDepth 100000 in
def f88.l0T (R : Value → Heap → Prop) (v1 : Value) (a4 : Addr) (a5 : Addr) (A9 : Option Addr) (n9 : Nat) (c9 : Nat) (x10 : Int) (h : Heap) : Prop :=
  splitB (decide (x10 < ((n9 : Nat) : Int))) (ptrOk A9 fun a1_ => 0 ≤ x10 ∧ x10 < ((n9 : Nat) : Int) ∧ (∃ v2_, ldv true 9 h (Addr.add a1_ (Int.toNat x10 * 9)) = some v2_ ∧ newH h (Obj.cells #[(Value.int .i64 (0 : Int)), (Value.int .i64 (0 : Int)), (Value.int .i64 (0 : Int)), (Value.int .i64 (0 : Int)), (Value.string (ByteArray.mk #[])), (Value.int .i64 (0 : Int)), (Value.int .i64 (0 : Int)), (Value.string (ByteArray.mk #[])), (Value.slice none 0 0)] 59) fun h3_ => ∃ l5_ : List Value, v2_ = Value.agg l5_.toArray ∧ l5_.length = 9 ∧ ∃ h4_, stH h3_ (⟨Array.size h, 0, none⟩) l5_ 0 = some h4_ ∧ ∃ v6_, ldv true 9 h4_ (⟨Array.size h, 0, none⟩) = some v6_ ∧ Run Try.prog 115 #[v6_] h4_ fun v7_ h8_ => CallF Try.prog v1 [v7_] h8_ fun v9_ h10_ => ∃ b11_, v9_ = (Value.bool b11_) ∧ splitB b11_ ((Run Try.prog 116 #[(Value.slice A9 n9 c9), (Value.int .i64 x10), (Value.int .i64 (IntKind.wrap .i64 (x10 + (1 : Int))))] h10_ fun v12_ h13_ => ∃ A14_, ∃ n14_, ∃ c14_, v12_ = (Value.slice A14_ n14_ c14_) ∧ ((∃ v15_, ldv true 9 h13_ (⟨Array.size h, 0, none⟩) = some v15_ ∧ ∃ l17_ : List Value, (Value.agg #[(Value.slice A14_ n14_ c14_), (Value.int .i64 (0 : Int))]) = Value.agg l17_.toArray ∧ l17_.length = 2 ∧ ∃ h16_, stH h13_ a4 l17_ 0 = some h16_ ∧ ∃ l19_ : List Value, v15_ = Value.agg l19_.toArray ∧ l19_.length = 9 ∧ ∃ h18_, stH h16_ a5 l19_ 0 = some h18_ ∧ ∃ v20_, ldv true 2 h18_ a4 = some v20_ ∧ ∃ v21_, ldv true 9 h18_ a5 = some v21_ ∧ R (Value.tuple #[v20_, v21_, (Value.bool true), (Value.int .i64 (0 : Int))]) h18_) ∧ (∃ l23_ : List Value, (Value.agg #[(Value.slice A14_ n14_ c14_), (Value.int .i64 (0 : Int))]) = Value.agg l23_.toArray ∧ l23_.length = 2 ∧ ∃ h22_, stH h13_ a4 l23_ 0 = some h22_ ∧ ∃ v24_, ldv true 9 h22_ (⟨Array.size h, 0, none⟩) = some v24_ ∧ ∃ l26_ : List Value, v24_ = Value.agg l26_.toArray ∧ l26_.length = 9 ∧ ∃ h25_, stH h22_ a5 l26_ 0 = some h25_ ∧ ∃ v27_, ldv true 2 h25_ a4 = some v27_ ∧ ∃ v28_, ldv true 9 h25_ a5 = some v28_ ∧ R (Value.tuple #[v27_, v28_, (Value.bool true), (Value.int .i64 (0 : Int))]) h25_)) ∧ (∃ v29_, ldv true 9 h13_ (⟨Array.size h, 0, none⟩) = some v29_ ∧ ∃ l31_ : List Value, (Value.agg #[(Value.slice A14_ n14_ c14_), (Value.int .i64 (0 : Int))]) = Value.agg l31_.toArray ∧ l31_.length = 2 ∧ ∃ h30_, stH h13_ a4 l31_ 0 = some h30_ ∧ ∃ l33_ : List Value, v29_ = Value.agg l33_.toArray ∧ l33_.length = 9 ∧ ∃ h32_, stH h30_ a5 l33_ 0 = some h32_ ∧ ∃ v34_, ldv true 2 h32_ a4 = some v34_ ∧ ∃ v35_, ldv true 9 h32_ a5 = some v35_ ∧ R (Value.tuple #[v34_, v35_, (Value.bool true), (Value.int .i64 (0 : Int))]) h32_)) ∧ (∃ v36_, ldv true 9 h10_ (⟨Array.size h, 0, none⟩) = some v36_ ∧ Run Try.prog 116 #[(Value.slice A9 n9 c9), (Value.int .i64 x10), (Value.int .i64 (IntKind.wrap .i64 (x10 + (1 : Int))))] h10_ fun v37_ h38_ => ∃ A39_, ∃ n39_, ∃ c39_, v37_ = (Value.slice A39_ n39_ c39_) ∧ ∃ l41_ : List Value, (Value.agg #[(Value.slice A39_ n39_ c39_), (Value.int .i64 (0 : Int))]) = Value.agg l41_.toArray ∧ l41_.length = 2 ∧ ∃ h40_, stH h38_ a4 l41_ 0 = some h40_ ∧ ∃ l43_ : List Value, v36_ = Value.agg l43_.toArray ∧ l43_.length = 9 ∧ ∃ h42_, stH h40_ a5 l43_ 0 = some h42_ ∧ ∃ v44_, ldv true 2 h42_ a4 = some v44_ ∧ ∃ v45_, ldv true 9 h42_ a5 = some v45_ ∧ R (Value.tuple #[v44_, v45_, (Value.bool true), (Value.int .i64 (0 : Int))]) h42_)) (f88.l0 R v1 a4 a5 A9 n9 c9 (IntKind.wrap .i64 (x10 + (1 : Int))) h10_))) (∃ l47_ : List Value, (Value.agg #[(Value.slice A9 n9 c9), (Value.int .i64 ((n9 : Nat) : Int))]) = Value.agg l47_.toArray ∧ l47_.length = 2 ∧ ∃ h46_, stH h a4 l47_ 0 = some h46_ ∧ ∃ l49_ : List Value, (Value.agg #[(Value.int .i64 (0 : Int)), (Value.int .i64 (0 : Int)), (Value.int .i64 (0 : Int)), (Value.int .i64 (0 : Int)), (Value.string (ByteArray.mk #[])), (Value.int .i64 (0 : Int)), (Value.int .i64 (0 : Int)), (Value.string (ByteArray.mk #[])), (Value.slice none 0 0)]) = Value.agg l49_.toArray ∧ l49_.length = 9 ∧ ∃ h48_, stH h46_ a5 l49_ 0 = some h48_ ∧ ∃ v50_, ldv true 2 h48_ a4 = some v50_ ∧ ∃ v51_, ldv true 9 h48_ a5 = some v51_ ∧ R (Value.tuple #[v50_, v51_, (Value.bool false), (Value.int .i64 (0 : Int))]) h48_)
set_option maxRecDepth 100000 in
theorem f88.l0_in {R : Value → Heap → Prop} {v1 : Value} {a4 : Addr} {a5 : Addr} {A9 : Option Addr} {n9 : Nat} {c9 : Nat} {x10 : Int} {h : Heap} (H : f88.l0T R v1 a4 a5 A9 n9 c9 x10 h) : f88.l0 R v1 a4 a5 A9 n9 c9 x10 h :=
  pt_intro mixed f88.good (Eq.mpr (show (Fwd Try.prog f88.T f88.kp Try.f88 R [false, false, true, false, true, true, true] (mkFr [(1, v1), (4, (Value.pointer (some a4))), (5, (Value.pointer (some a5))), (9, (Value.slice A9 n9 c9)), (10, (Value.int .i64 x10))]) h) = (f88.l0T R v1 a4 a5 A9 n9 c9 x10 h) by kernel_rfl) H)
set_option maxRecDepth 100000 in
def f88.runT (R : Value → Heap → Prop) (v0 : Value) (v1 : Value) (h : Heap) : Prop :=
  newH h (Obj.cells ((v0).cells) 46) fun h1_ => newH h1_ (Obj.cells #[(Value.slice none 0 0), (Value.int .i64 (0 : Int))] 46) fun h2_ => newH h2_ (Obj.cells #[(Value.int .i64 (0 : Int)), (Value.int .i64 (0 : Int)), (Value.int .i64 (0 : Int)), (Value.int .i64 (0 : Int)), (Value.string (ByteArray.mk #[])), (Value.int .i64 (0 : Int)), (Value.int .i64 (0 : Int)), (Value.string (ByteArray.mk #[])), (Value.slice none 0 0)] 59) fun h3_ => ∃ v4_, ldv true 2 h3_ (⟨Array.size h, 0, none⟩) = some v4_ ∧ Run Try.prog 113 #[v4_] h3_ fun v5_ h6_ => ∃ x7_, v5_ = (Value.int .i64 x7_) ∧ splitB (x7_ != (0 : Int)) (∃ l9_ : List Value, (Value.agg #[(Value.slice none 0 0), (Value.int .i64 (0 : Int))]) = Value.agg l9_.toArray ∧ l9_.length = 2 ∧ ∃ h8_, stH h6_ (⟨Array.size h1_, 0, none⟩) l9_ 0 = some h8_ ∧ ∃ l11_ : List Value, (Value.agg #[(Value.int .i64 (0 : Int)), (Value.int .i64 (0 : Int)), (Value.int .i64 (0 : Int)), (Value.int .i64 (0 : Int)), (Value.string (ByteArray.mk #[])), (Value.int .i64 (0 : Int)), (Value.int .i64 (0 : Int)), (Value.string (ByteArray.mk #[])), (Value.slice none 0 0)]) = Value.agg l11_.toArray ∧ l11_.length = 9 ∧ ∃ h10_, stH h8_ (⟨Array.size h2_, 0, none⟩) l11_ 0 = some h10_ ∧ ∃ v12_, ldv true 2 h10_ (⟨Array.size h1_, 0, none⟩) = some v12_ ∧ ∃ v13_, ldv true 9 h10_ (⟨Array.size h2_, 0, none⟩) = some v13_ ∧ R (Value.tuple #[v12_, v13_, (Value.bool false), (Value.int .i64 x7_)]) h10_) (∃ v14_, ldv false 1 h6_ (⟨Array.size h, 0, none⟩) = some v14_ ∧ ∃ A15_, ∃ n15_, ∃ c15_, v14_ = (Value.slice A15_ n15_ c15_) ∧ Run Try.prog 114 #[(Value.slice A15_ n15_ c15_)] h6_ fun v16_ h17_ => ∃ A18_, ∃ n18_, ∃ c18_, v16_ = (Value.slice A18_ n18_ c18_) ∧ ∃ v19_, ldv false 1 h17_ (Addr.add (⟨Array.size h, 0, none⟩) 1) = some v19_ ∧ ∃ x20_, v19_ = (Value.int .i64 x20_) ∧ f88.l0 R v1 (⟨Array.size h1_, 0, none⟩) (⟨Array.size h2_, 0, none⟩) A18_ n18_ c18_ x20_ h17_)
set_option maxRecDepth 100000 in
theorem f88.run {R : Value → Heap → Prop} {v0 : Value} {v1 : Value} {h : Heap} (H : f88.runT R v0 v1 h) : Run Try.prog 88 #[v0, v1] h R :=
  run_of mixed Try.func88 (by kernel_rfl) (by kernel_rfl) f88.good (Eq.mpr (show (Fwd Try.prog f88.T f88.kp Try.f88 R [] (mkFr (argL [v0, v1] 0)) h) = (f88.runT R v0 v1 h) by kernel_rfl) H)
def f89.T : Tab := { sh := tSh, tup := tTup, keep := [], plan := [] }
def f89.kp : Keep := []
theorem f89.good : goodCode Try.prog f89.T (rootOf Try.f89) = true := by kernel_rfl
set_option maxRecDepth 100000 in
theorem f89.ok : calleeOk Try.prog 89 = true := by kernel_rfl
set_option maxRecDepth 100000 in
def f89.runT (R : Value → Heap → Prop) (v0 : Value) (a1 : Addr) (a2 : Addr) (h : Heap) : Prop :=
  newH h (Obj.cells ((v0).cells) 50) fun h1_ => ∃ v2_, ldv false 1 h1_ a1 = some v2_ ∧ ∃ A3_, ∃ n3_, ∃ c3_, v2_ = (Value.slice A3_ n3_ c3_) ∧ ∃ v4_, ldv true 4 h1_ (⟨Array.size h, 0, none⟩) = some v4_ ∧ Run Try.prog 32 #[(Value.slice A3_ n3_ c3_), v4_] h1_ fun v5_ h6_ => ∃ x7_, v5_ = (Value.int .i64 x7_) ∧ ∃ h8_, st1 h6_ a2 (Value.int .i64 x7_) = some h8_ ∧ ∃ v9_, ldv false 1 h8_ a2 = some v9_ ∧ ∃ x10_, v9_ = (Value.int .i64 x10_) ∧ R (Value.bool (decide (x10_ ≥ (0 : Int)))) h8_
set_option maxRecDepth 100000 in
theorem f89.run {R : Value → Heap → Prop} {v0 : Value} {a1 : Addr} {a2 : Addr} {h : Heap} (H : f89.runT R v0 a1 a2 h) : Run Try.prog 89 #[v0, (Value.pointer (some a1)), (Value.pointer (some a2))] h R :=
  run_of mixed Try.func89 (by kernel_rfl) (by kernel_rfl) f89.good (Eq.mpr (show (Fwd Try.prog f89.T f89.kp Try.f89 R [] (mkFr (argL [v0, (Value.pointer (some a1)), (Value.pointer (some a2))] 0)) h) = (f89.runT R v0 a1 a2 h) by kernel_rfl) H)
def f34.T : Tab := { sh := tSh, tup := tTup, keep := [], plan := [(7, (.take 3 (.take 0 (.alt true 1 (.alt true 2 (.eff false 4 (.eff false 5 (.take 6 (.take 7 .done)))) (.eff false 4 (.alt true 2 (.eff false 5 (.take 6 (.take 7 .done))) (.eff false 5 (.eff true 2 (.take 6 (.take 7 .done))))))) (.alt true 2 (.alt true 1 (.eff false 4 (.eff false 5 (.take 6 (.take 7 .done)))) (.eff false 4 (.eff true 1 (.eff false 5 (.take 6 (.take 7 .done)))))) (.eff false 4 (.alt true 1 (.alt true 2 (.eff false 5 (.take 6 (.take 7 .done))) (.eff false 5 (.eff true 2 (.take 6 (.take 7 .done))))) (.eff true 2 (.eff true 1 (.eff false 5 (.take 6 (.take 7 .done))))))))))))] }
def f34.kp : Keep := [([true, true, true, true], [4, 5, 8, 9, 10, 12]), ([true, true, true, true, true], [4, 5, 8, 9, 10, 12])]
theorem f34.good : goodCode Try.prog f34.T (rootOf Try.f34) = true := by kernel_rfl
def f34.j0 (R : Value → Heap → Prop) (a4 : Addr) (a5 : Addr) (a8 : Addr) (a9 : Addr) (a10 : Addr) (x12 : Int) (h : Heap) : Prop := Pt Try.prog Try.f34 R [true, true, true, true] (mkFr [(4, (Value.pointer (some a4))), (5, (Value.pointer (some a5))), (8, (Value.pointer (some a8))), (9, (Value.pointer (some a9))), (10, (Value.pointer (some a10))), (12, (Value.int .i64 x12))]) h
def f34.j1 (R : Value → Heap → Prop) (a4 : Addr) (a5 : Addr) (a8 : Addr) (a9 : Addr) (a10 : Addr) (x12 : Int) (h : Heap) : Prop := Pt Try.prog Try.f34 R [true, true, true, true, true] (mkFr [(4, (Value.pointer (some a4))), (5, (Value.pointer (some a5))), (8, (Value.pointer (some a8))), (9, (Value.pointer (some a9))), (10, (Value.pointer (some a10))), (12, (Value.int .i64 x12))]) h
set_option maxRecDepth 100000 in
def f34.j0T (R : Value → Heap → Prop) (a4 : Addr) (a5 : Addr) (a8 : Addr) (a9 : Addr) (a10 : Addr) (x12 : Int) (h : Heap) : Prop :=
  splitB (x12 != (0 : Int)) (∃ h1_, st1 h a8 (Value.int .i64 (0 : Int)) = some h1_ ∧ f34.j1 R a4 a5 a8 a9 a10 x12 h1_) (f34.j1 R a4 a5 a8 a9 a10 x12 h)
set_option maxRecDepth 100000 in
theorem f34.j0_in {R : Value → Heap → Prop} {a4 : Addr} {a5 : Addr} {a8 : Addr} {a9 : Addr} {a10 : Addr} {x12 : Int} {h : Heap} (H : f34.j0T R a4 a5 a8 a9 a10 x12 h) : f34.j0 R a4 a5 a8 a9 a10 x12 h :=
  pt_intro mixed f34.good (Eq.mpr (show (Fwd Try.prog f34.T f34.kp Try.f34 R [true, true, true, true] (mkFr [(4, (Value.pointer (some a4))), (5, (Value.pointer (some a5))), (8, (Value.pointer (some a8))), (9, (Value.pointer (some a9))), (10, (Value.pointer (some a10))), (12, (Value.int .i64 x12))]) h) = (f34.j0T R a4 a5 a8 a9 a10 x12 h) by kernel_rfl) H)
set_option maxRecDepth 100000 in
def f34.j1T (R : Value → Heap → Prop) (a4 : Addr) (a5 : Addr) (a8 : Addr) (a9 : Addr) (a10 : Addr) (x12 : Int) (h : Heap) : Prop :=
  ∃ v1_, ldv true 2 h a9 = some v1_ ∧ (∃ v2_, ldv true 9 h a10 = some v2_ ∧ Ext h h ∧ ((∃ v3_, ldv false 1 h a8 = some v3_ ∧ ∃ x4_, v3_ = (Value.int .i64 x4_) ∧ Ext h h ∧ (∃ l6_ : List Value, v1_ = Value.agg l6_.toArray ∧ l6_.length = 2 ∧ ∃ h5_, stH h a4 l6_ 0 = some h5_ ∧ ∃ l8_ : List Value, v2_ = Value.agg l8_.toArray ∧ l8_.length = 9 ∧ ∃ h7_, stH h5_ a5 l8_ 0 = some h7_ ∧ ∃ v9_, ldv true 2 h7_ a4 = some v9_ ∧ ∃ v10_, ldv true 9 h7_ a5 = some v10_ ∧ R (Value.tuple #[v9_, v10_, (Value.int .i64 x4_), (Value.int .i64 x12)]) h7_)) ∧ (∃ l12_ : List Value, v1_ = Value.agg l12_.toArray ∧ l12_.length = 2 ∧ ∃ h11_, stH h a4 l12_ 0 = some h11_ ∧ (∃ v13_, ldv false 1 h11_ a8 = some v13_ ∧ ∃ x14_, v13_ = (Value.int .i64 x14_) ∧ Ext h11_ h11_ ∧ (∃ l16_ : List Value, v2_ = Value.agg l16_.toArray ∧ l16_.length = 9 ∧ ∃ h15_, stH h11_ a5 l16_ 0 = some h15_ ∧ ∃ v17_, ldv true 2 h15_ a4 = some v17_ ∧ ∃ v18_, ldv true 9 h15_ a5 = some v18_ ∧ R (Value.tuple #[v17_, v18_, (Value.int .i64 x14_), (Value.int .i64 x12)]) h15_)) ∧ (∃ l20_ : List Value, v2_ = Value.agg l20_.toArray ∧ l20_.length = 9 ∧ ∃ h19_, stH h11_ a5 l20_ 0 = some h19_ ∧ ∃ v21_, ldv false 1 h19_ a8 = some v21_ ∧ ∃ x22_, v21_ = (Value.int .i64 x22_) ∧ Ext h19_ h19_ ∧ (∃ v23_, ldv true 2 h19_ a4 = some v23_ ∧ ∃ v24_, ldv true 9 h19_ a5 = some v24_ ∧ R (Value.tuple #[v23_, v24_, (Value.int .i64 x22_), (Value.int .i64 x12)]) h19_))))) ∧ ((∃ v25_, ldv false 1 h a8 = some v25_ ∧ ∃ x26_, v25_ = (Value.int .i64 x26_) ∧ Ext h h ∧ ((∃ v27_, ldv true 9 h a10 = some v27_ ∧ Ext h h ∧ (∃ l29_ : List Value, v1_ = Value.agg l29_.toArray ∧ l29_.length = 2 ∧ ∃ h28_, stH h a4 l29_ 0 = some h28_ ∧ ∃ l31_ : List Value, v27_ = Value.agg l31_.toArray ∧ l31_.length = 9 ∧ ∃ h30_, stH h28_ a5 l31_ 0 = some h30_ ∧ ∃ v32_, ldv true 2 h30_ a4 = some v32_ ∧ ∃ v33_, ldv true 9 h30_ a5 = some v33_ ∧ R (Value.tuple #[v32_, v33_, (Value.int .i64 x26_), (Value.int .i64 x12)]) h30_)) ∧ (∃ l35_ : List Value, v1_ = Value.agg l35_.toArray ∧ l35_.length = 2 ∧ ∃ h34_, stH h a4 l35_ 0 = some h34_ ∧ ∃ v36_, ldv true 9 h34_ a10 = some v36_ ∧ Ext h34_ h34_ ∧ (∃ l38_ : List Value, v36_ = Value.agg l38_.toArray ∧ l38_.length = 9 ∧ ∃ h37_, stH h34_ a5 l38_ 0 = some h37_ ∧ ∃ v39_, ldv true 2 h37_ a4 = some v39_ ∧ ∃ v40_, ldv true 9 h37_ a5 = some v40_ ∧ R (Value.tuple #[v39_, v40_, (Value.int .i64 x26_), (Value.int .i64 x12)]) h37_)))) ∧ (∃ l42_ : List Value, v1_ = Value.agg l42_.toArray ∧ l42_.length = 2 ∧ ∃ h41_, stH h a4 l42_ 0 = some h41_ ∧ (∃ v43_, ldv true 9 h41_ a10 = some v43_ ∧ Ext h41_ h41_ ∧ ((∃ v44_, ldv false 1 h41_ a8 = some v44_ ∧ ∃ x45_, v44_ = (Value.int .i64 x45_) ∧ Ext h41_ h41_ ∧ (∃ l47_ : List Value, v43_ = Value.agg l47_.toArray ∧ l47_.length = 9 ∧ ∃ h46_, stH h41_ a5 l47_ 0 = some h46_ ∧ ∃ v48_, ldv true 2 h46_ a4 = some v48_ ∧ ∃ v49_, ldv true 9 h46_ a5 = some v49_ ∧ R (Value.tuple #[v48_, v49_, (Value.int .i64 x45_), (Value.int .i64 x12)]) h46_)) ∧ (∃ l51_ : List Value, v43_ = Value.agg l51_.toArray ∧ l51_.length = 9 ∧ ∃ h50_, stH h41_ a5 l51_ 0 = some h50_ ∧ ∃ v52_, ldv false 1 h50_ a8 = some v52_ ∧ ∃ x53_, v52_ = (Value.int .i64 x53_) ∧ Ext h50_ h50_ ∧ (∃ v54_, ldv true 2 h50_ a4 = some v54_ ∧ ∃ v55_, ldv true 9 h50_ a5 = some v55_ ∧ R (Value.tuple #[v54_, v55_, (Value.int .i64 x53_), (Value.int .i64 x12)]) h50_)))) ∧ (∃ v56_, ldv false 1 h41_ a8 = some v56_ ∧ ∃ x57_, v56_ = (Value.int .i64 x57_) ∧ Ext h41_ h41_ ∧ (∃ v58_, ldv true 9 h41_ a10 = some v58_ ∧ Ext h41_ h41_ ∧ (∃ l60_ : List Value, v58_ = Value.agg l60_.toArray ∧ l60_.length = 9 ∧ ∃ h59_, stH h41_ a5 l60_ 0 = some h59_ ∧ ∃ v61_, ldv true 2 h59_ a4 = some v61_ ∧ ∃ v62_, ldv true 9 h59_ a5 = some v62_ ∧ R (Value.tuple #[v61_, v62_, (Value.int .i64 x57_), (Value.int .i64 x12)]) h59_)))))
set_option maxRecDepth 100000 in
theorem f34.j1_in {R : Value → Heap → Prop} {a4 : Addr} {a5 : Addr} {a8 : Addr} {a9 : Addr} {a10 : Addr} {x12 : Int} {h : Heap} (H : f34.j1T R a4 a5 a8 a9 a10 x12 h) : f34.j1 R a4 a5 a8 a9 a10 x12 h :=
  pt_intro mixed f34.good (Eq.mpr (show (Fwd Try.prog f34.T f34.kp Try.f34 R [true, true, true, true, true] (mkFr [(4, (Value.pointer (some a4))), (5, (Value.pointer (some a5))), (8, (Value.pointer (some a8))), (9, (Value.pointer (some a9))), (10, (Value.pointer (some a10))), (12, (Value.int .i64 x12))]) h) = (f34.j1T R a4 a5 a8 a9 a10 x12 h) by kernel_rfl) H)
set_option maxRecDepth 100000 in
def f34.runT (R : Value → Heap → Prop) (v0 : Value) (A1 : Option Addr) (n1 : Nat) (c1 : Nat) (h : Heap) : Prop :=
  newH h (Obj.cells ((v0).cells) 46) fun h1_ => newH h1_ (Obj.cells #[(Value.slice A1 n1 c1)] 47) fun h2_ => newH h2_ (Obj.cells #[(Value.slice none 0 0), (Value.int .i64 (0 : Int))] 46) fun h3_ => newH h3_ (Obj.cells #[(Value.int .i64 (0 : Int)), (Value.int .i64 (0 : Int)), (Value.int .i64 (0 : Int)), (Value.int .i64 (0 : Int)), (Value.string (ByteArray.mk #[])), (Value.int .i64 (0 : Int)), (Value.int .i64 (0 : Int)), (Value.string (ByteArray.mk #[])), (Value.slice none 0 0)] 59) fun h4_ => newH h4_ (Obj.cells #[(Value.int .i64 (0 : Int))] 3) fun h5_ => ∃ h6_, st1 h5_ (⟨Array.size h4_, 0, none⟩) (Value.int .i64 (-1 : Int)) = some h6_ ∧ ∃ v7_, ldv true 2 h6_ (⟨Array.size h, 0, none⟩) = some v7_ ∧ Run Try.prog 88 #[v7_, (Value.func (.func 89) #[] #[(Value.pointer (some ⟨Array.size h1_, 0, none⟩)), (Value.pointer (some ⟨Array.size h4_, 0, none⟩))])] h6_ fun v8_ h9_ => ∃ v10_, ∃ v11_, ∃ b12_, ∃ x13_, v8_ = (Value.tuple #[v10_, v11_, (Value.bool b12_), (Value.int .i64 x13_)]) ∧ newH h9_ (Obj.cells #[(Value.slice none 0 0), (Value.int .i64 (0 : Int))] 46) fun h14_ => newH h14_ (Obj.cells #[(Value.int .i64 (0 : Int)), (Value.int .i64 (0 : Int)), (Value.int .i64 (0 : Int)), (Value.int .i64 (0 : Int)), (Value.string (ByteArray.mk #[])), (Value.int .i64 (0 : Int)), (Value.int .i64 (0 : Int)), (Value.string (ByteArray.mk #[])), (Value.slice none 0 0)] 59) fun h15_ => ∃ l17_ : List Value, v10_ = Value.agg l17_.toArray ∧ l17_.length = 2 ∧ ∃ h16_, stH h15_ (⟨Array.size h9_, 0, none⟩) l17_ 0 = some h16_ ∧ ∃ l19_ : List Value, v11_ = Value.agg l19_.toArray ∧ l19_.length = 9 ∧ ∃ h18_, stH h16_ (⟨Array.size h14_, 0, none⟩) l19_ 0 = some h18_ ∧ splitB (!b12_) (∃ h20_, st1 h18_ (⟨Array.size h4_, 0, none⟩) (Value.int .i64 (-1 : Int)) = some h20_ ∧ f34.j0 R (⟨Array.size h2_, 0, none⟩) (⟨Array.size h3_, 0, none⟩) (⟨Array.size h4_, 0, none⟩) (⟨Array.size h9_, 0, none⟩) (⟨Array.size h14_, 0, none⟩) x13_ h20_) (f34.j0 R (⟨Array.size h2_, 0, none⟩) (⟨Array.size h3_, 0, none⟩) (⟨Array.size h4_, 0, none⟩) (⟨Array.size h9_, 0, none⟩) (⟨Array.size h14_, 0, none⟩) x13_ h18_)
set_option maxRecDepth 100000 in
theorem f34.run {R : Value → Heap → Prop} {v0 : Value} {A1 : Option Addr} {n1 : Nat} {c1 : Nat} {h : Heap} (H : f34.runT R v0 A1 n1 c1 h) : Run Try.prog 34 #[v0, (Value.slice A1 n1 c1)] h R :=
  run_of mixed Try.func34 (by kernel_rfl) (by kernel_rfl) f34.good (Eq.mpr (show (Fwd Try.prog f34.T f34.kp Try.f34 R [] (mkFr (argL [v0, (Value.slice A1 n1 c1)] 0)) h) = (f34.runT R v0 A1 n1 c1 h) by kernel_rfl) H)
def f58.T : Tab := { sh := tSh, tup := tTup, keep := [], plan := [] }
def f58.kp : Keep := []
theorem f58.good : goodCode Try.prog f58.T (rootOf Try.f58) = true := by kernel_rfl
set_option maxRecDepth 100000 in
def f58.runT (R : Value → Heap → Prop) (x0 : Int) (x1 : Int) (x2 : Int) (h : Heap) : Prop :=
  splitB (decide (x0 ≥ x1)) (R (Value.bool (decide (x0 ≤ x2))) h) (R (Value.bool false) h)
set_option maxRecDepth 100000 in
theorem f58.run {R : Value → Heap → Prop} {x0 : Int} {x1 : Int} {x2 : Int} {h : Heap} (H : f58.runT R x0 x1 x2 h) : Run Try.prog 58 #[(Value.int .i64 x0), (Value.int .i64 x1), (Value.int .i64 x2)] h R :=
  run_of mixed Try.func58 (by kernel_rfl) (by kernel_rfl) f58.good (Eq.mpr (show (Fwd Try.prog f58.T f58.kp Try.f58 R [] (mkFr (argL [(Value.int .i64 x0), (Value.int .i64 x1), (Value.int .i64 x2)] 0)) h) = (f58.runT R x0 x1 x2 h) by kernel_rfl) H)
def f35.T : Tab := { sh := tSh, tup := tTup, keep := [], plan := [] }
def f35.kp : Keep := [([false, false, true, false, true, true, true], [17, 18, 19])]
theorem f35.good : goodCode Try.prog f35.T (rootOf Try.f35) = true := by kernel_rfl
def f35.l0 (R : Value → Heap → Prop) (A17 : Option Addr) (n17 : Nat) (c17 : Nat) (x18 : Int) (x19 : Int) (h : Heap) : Prop := Pt Try.prog Try.f35 R [false, false, true, false, true, true, true] (mkFr [(17, (Value.slice A17 n17 c17)), (18, (Value.int .i64 x18)), (19, (Value.int .i64 x19))]) h
set_option maxRecDepth 100000 in
def f35.l0T (R : Value → Heap → Prop) (A17 : Option Addr) (n17 : Nat) (c17 : Nat) (x18 : Int) (x19 : Int) (h : Heap) : Prop :=
  splitB (decide (x19 < x18)) (ptrOk A17 fun a1_ => 0 ≤ x19 ∧ x19 < ((n17 : Nat) : Int) ∧ (∃ v2_, ldv true 9 h (Addr.add a1_ (Int.toNat x19 * 9)) = some v2_ ∧ newH h (Obj.cells #[(Value.int .i64 (0 : Int)), (Value.int .i64 (0 : Int)), (Value.int .i64 (0 : Int)), (Value.int .i64 (0 : Int)), (Value.string (ByteArray.mk #[])), (Value.int .i64 (0 : Int)), (Value.int .i64 (0 : Int)), (Value.string (ByteArray.mk #[])), (Value.slice none 0 0)] 59) fun h3_ => ∃ l5_ : List Value, v2_ = Value.agg l5_.toArray ∧ l5_.length = 9 ∧ ∃ h4_, stH h3_ (⟨Array.size h, 0, none⟩) l5_ 0 = some h4_ ∧ ∃ v6_, ldv false 1 h4_ (⟨Array.size h, 0, none⟩) = some v6_ ∧ ∃ x7_, v6_ = (Value.int .i64 x7_) ∧ Run Try.prog 58 #[(Value.int .i64 x7_), (Value.int .i64 (1 : Int)), (Value.int .i64 (2 : Int))] h4_ fun v8_ h9_ => ∃ b10_, v8_ = (Value.bool b10_) ∧ splitB (!b10_) (R (Value.int .i64 (3 : Int)) h9_) (f35.l0 R A17 n17 c17 x18 (IntKind.wrap .i64 (x19 + (1 : Int))) h9_))) (R (Value.int .i64 (0 : Int)) h)
set_option maxRecDepth 100000 in
theorem f35.l0_in {R : Value → Heap → Prop} {A17 : Option Addr} {n17 : Nat} {c17 : Nat} {x18 : Int} {x19 : Int} {h : Heap} (H : f35.l0T R A17 n17 c17 x18 x19 h) : f35.l0 R A17 n17 c17 x18 x19 h :=
  pt_intro mixed f35.good (Eq.mpr (show (Fwd Try.prog f35.T f35.kp Try.f35 R [false, false, true, false, true, true, true] (mkFr [(17, (Value.slice A17 n17 c17)), (18, (Value.int .i64 x18)), (19, (Value.int .i64 x19))]) h) = (f35.l0T R A17 n17 c17 x18 x19 h) by kernel_rfl) H)
set_option maxRecDepth 100000 in
def f35.runT (R : Value → Heap → Prop) (v0 : Value) (h : Heap) : Prop :=
  newH h (Obj.cells ((v0).cells) 46) fun h1_ => ∃ v2_, ldv false 1 h1_ (⟨Array.size h, 0, none⟩) = some v2_ ∧ ∃ A3_, ∃ n3_, ∃ c3_, v2_ = (Value.slice A3_ n3_ c3_) ∧ splitB (decide (((n3_ : Nat) : Int) > (60 : Int))) (R (Value.int .i64 (2 : Int)) h1_) (∃ v4_, ldv false 1 h1_ (Addr.add (⟨Array.size h, 0, none⟩) 1) = some v4_ ∧ ∃ x5_, v4_ = (Value.int .i64 x5_) ∧ ∃ v6_, ldv false 1 h1_ (⟨Array.size h, 0, none⟩) = some v6_ ∧ ∃ A7_, ∃ n7_, ∃ c7_, v6_ = (Value.slice A7_ n7_ c7_) ∧ Run Try.prog 58 #[(Value.int .i64 x5_), (Value.int .i64 (0 : Int)), (Value.int .i64 ((n7_ : Nat) : Int))] h1_ fun v8_ h9_ => ∃ b10_, v8_ = (Value.bool b10_) ∧ splitB (!b10_) (R (Value.int .i64 (1 : Int)) h9_) (∃ v11_, ldv false 1 h9_ (⟨Array.size h, 0, none⟩) = some v11_ ∧ ∃ A12_, ∃ n12_, ∃ c12_, v11_ = (Value.slice A12_ n12_ c12_) ∧ f35.l0 R A12_ n12_ c12_ ((n12_ : Nat) : Int) (0 : Int) h9_))
set_option maxRecDepth 100000 in
theorem f35.run {R : Value → Heap → Prop} {v0 : Value} {h : Heap} (H : f35.runT R v0 h) : Run Try.prog 35 #[v0] h R :=
  run_of mixed Try.func35 (by kernel_rfl) (by kernel_rfl) f35.good (Eq.mpr (show (Fwd Try.prog f35.T f35.kp Try.f35 R [] (mkFr (argL [v0] 0)) h) = (f35.runT R v0 h) by kernel_rfl) H)
def f37.T : Tab := { sh := tSh, tup := tTup, keep := [], plan := [] }
def f37.kp : Keep := []
theorem f37.good : goodCode Try.prog f37.T (rootOf Try.f37) = true := by kernel_rfl
set_option maxRecDepth 100000 in
def f37.runT (R : Value → Heap → Prop) (v0 : Value) (v1 : Value) (h : Heap) : Prop :=
  newH h (Obj.cells ((v0).cells) 59) fun h1_ => newH h1_ (Obj.cells ((v1).cells) 59) fun h2_ => ∃ v3_, ldv false 1 h2_ (⟨Array.size h, 0, none⟩) = some v3_ ∧ ∃ x4_, v3_ = (Value.int .i64 x4_) ∧ ∃ v5_, ldv false 1 h2_ (⟨Array.size h1_, 0, none⟩) = some v5_ ∧ ∃ x6_, v5_ = (Value.int .i64 x6_) ∧ splitB (x4_ == x6_) (∃ v7_, ldv false 1 h2_ (Addr.add (⟨Array.size h, 0, none⟩) 1) = some v7_ ∧ ∃ x8_, v7_ = (Value.int .i64 x8_) ∧ ∃ v9_, ldv false 1 h2_ (Addr.add (⟨Array.size h1_, 0, none⟩) 1) = some v9_ ∧ ∃ x10_, v9_ = (Value.int .i64 x10_) ∧ splitB (x8_ == x10_) (∃ v11_, ldv false 1 h2_ (Addr.add (⟨Array.size h, 0, none⟩) 2) = some v11_ ∧ ∃ x12_, v11_ = (Value.int .i64 x12_) ∧ ∃ v13_, ldv false 1 h2_ (Addr.add (⟨Array.size h1_, 0, none⟩) 2) = some v13_ ∧ ∃ x14_, v13_ = (Value.int .i64 x14_) ∧ splitB (x12_ == x14_) (∃ v15_, ldv false 1 h2_ (Addr.add (⟨Array.size h, 0, none⟩) 3) = some v15_ ∧ ∃ x16_, v15_ = (Value.int .i64 x16_) ∧ ∃ v17_, ldv false 1 h2_ (Addr.add (⟨Array.size h1_, 0, none⟩) 3) = some v17_ ∧ ∃ x18_, v17_ = (Value.int .i64 x18_) ∧ splitB (x16_ == x18_) (∃ v19_, ldv false 1 h2_ (Addr.add (⟨Array.size h, 0, none⟩) 4) = some v19_ ∧ ∃ s20_, v19_ = (Value.string s20_) ∧ ∃ v21_, ldv false 1 h2_ (Addr.add (⟨Array.size h1_, 0, none⟩) 4) = some v21_ ∧ ∃ s22_, v21_ = (Value.string s22_) ∧ splitB (ByteArray.toList s20_ == ByteArray.toList s22_) (∃ v23_, ldv true 4 h2_ (Addr.add (⟨Array.size h, 0, none⟩) 5) = some v23_ ∧ ∃ v24_, ldv true 4 h2_ (Addr.add (⟨Array.size h1_, 0, none⟩) 5) = some v24_ ∧ Run Try.prog 86 #[v23_, v24_] h2_ fun v25_ h26_ => ∃ b27_, v25_ = (Value.bool b27_) ∧ R (Value.bool b27_) h26_) (R (Value.bool false) h2_)) (R (Value.bool false) h2_)) (R (Value.bool false) h2_)) (R (Value.bool false) h2_)) (R (Value.bool false) h2_)
set_option maxRecDepth 100000 in
theorem f37.run {R : Value → Heap → Prop} {v0 : Value} {v1 : Value} {h : Heap} (H : f37.runT R v0 v1 h) : Run Try.prog 37 #[v0, v1] h R :=
  run_of mixed Try.func37 (by kernel_rfl) (by kernel_rfl) f37.good (Eq.mpr (show (Fwd Try.prog f37.T f37.kp Try.f37 R [] (mkFr (argL [v0, v1] 0)) h) = (f37.runT R v0 v1 h) by kernel_rfl) H)
def f90.T : Tab := { sh := tSh, tup := tTup, keep := [], plan := [(6, (.take 0 (.take 1 (.take 2 (.take 4 (.take 5 (.take 6 (.take 3 (.take 7 (.eff false 8 (.take 9 .done)))))))))))] }
def f90.kp : Keep := [([false, false, true, false, true, true], [0, 1, 12, 13])]
theorem f90.good : goodCode Try.prog f90.T (rootOf Try.f90) = true := by kernel_rfl
def f90.l0 (R : Value → Heap → Prop) (A0 : Option Addr) (n0 : Nat) (c0 : Nat) (A1 : Option Addr) (n1 : Nat) (c1 : Nat) (x12 : Int) (x13 : Int) (h : Heap) : Prop := Pt Try.prog Try.f90 R [false, false, true, false, true, true] (mkFr [(0, (Value.slice A0 n0 c0)), (1, (Value.slice A1 n1 c1)), (12, (Value.int .i64 x12)), (13, (Value.int .i64 x13))]) h
set_option maxRecDepth 100000 in
def f90.l0T (R : Value → Heap → Prop) (A0 : Option Addr) (n0 : Nat) (c0 : Nat) (A1 : Option Addr) (n1 : Nat) (c1 : Nat) (x12 : Int) (x13 : Int) (h : Heap) : Prop :=
  splitB (decide (x13 < x12)) (ptrOk A0 fun a1_ => 0 ≤ x13 ∧ x13 < ((n0 : Nat) : Int) ∧ (ptrOk A1 fun a2_ => 0 ≤ x13 ∧ x13 < ((n1 : Nat) : Int) ∧ (∃ v3_, ldv true 9 h (Addr.add a1_ (Int.toNat x13 * 9)) = some v3_ ∧ ∃ v4_, ldv true 9 h (Addr.add a2_ (Int.toNat x13 * 9)) = some v4_ ∧ Run Try.prog 37 #[v3_, v4_] h fun v5_ h6_ => ∃ b7_, v5_ = (Value.bool b7_) ∧ splitB (!b7_) (R (Value.bool false) h6_) (f90.l0 R A0 n0 c0 A1 n1 c1 x12 (IntKind.wrap .i64 (x13 + (1 : Int))) h6_)))) (R (Value.bool true) h)
set_option maxRecDepth 100000 in
theorem f90.l0_in {R : Value → Heap → Prop} {A0 : Option Addr} {n0 : Nat} {c0 : Nat} {A1 : Option Addr} {n1 : Nat} {c1 : Nat} {x12 : Int} {x13 : Int} {h : Heap} (H : f90.l0T R A0 n0 c0 A1 n1 c1 x12 x13 h) : f90.l0 R A0 n0 c0 A1 n1 c1 x12 x13 h :=
  pt_intro mixed f90.good (Eq.mpr (show (Fwd Try.prog f90.T f90.kp Try.f90 R [false, false, true, false, true, true] (mkFr [(0, (Value.slice A0 n0 c0)), (1, (Value.slice A1 n1 c1)), (12, (Value.int .i64 x12)), (13, (Value.int .i64 x13))]) h) = (f90.l0T R A0 n0 c0 A1 n1 c1 x12 x13 h) by kernel_rfl) H)
set_option maxRecDepth 100000 in
def f90.runT (R : Value → Heap → Prop) (A0 : Option Addr) (n0 : Nat) (c0 : Nat) (A1 : Option Addr) (n1 : Nat) (c1 : Nat) (h : Heap) : Prop :=
  splitB (((n0 : Nat) : Int) != ((n1 : Nat) : Int)) (R (Value.bool false) h) (f90.l0 R A0 n0 c0 A1 n1 c1 ((n0 : Nat) : Int) (0 : Int) h)
set_option maxRecDepth 100000 in
theorem f90.run {R : Value → Heap → Prop} {A0 : Option Addr} {n0 : Nat} {c0 : Nat} {A1 : Option Addr} {n1 : Nat} {c1 : Nat} {h : Heap} (H : f90.runT R A0 n0 c0 A1 n1 c1 h) : Run Try.prog 90 #[(Value.slice A0 n0 c0), (Value.slice A1 n1 c1)] h R :=
  run_of mixed Try.func90 (by kernel_rfl) (by kernel_rfl) f90.good (Eq.mpr (show (Fwd Try.prog f90.T f90.kp Try.f90 R [] (mkFr (argL [(Value.slice A0 n0 c0), (Value.slice A1 n1 c1)] 0)) h) = (f90.runT R A0 n0 c0 A1 n1 c1 h) by kernel_rfl) H)
def f36.T : Tab := { sh := tSh, tup := tTup, keep := [], plan := [] }
def f36.kp : Keep := []
theorem f36.good : goodCode Try.prog f36.T (rootOf Try.f36) = true := by kernel_rfl
set_option maxRecDepth 100000 in
def f36.runT (R : Value → Heap → Prop) (v0 : Value) (v1 : Value) (h : Heap) : Prop :=
  newH h (Obj.cells ((v0).cells) 46) fun h1_ => newH h1_ (Obj.cells ((v1).cells) 46) fun h2_ => ∃ v3_, ldv false 1 h2_ (Addr.add (⟨Array.size h, 0, none⟩) 1) = some v3_ ∧ ∃ x4_, v3_ = (Value.int .i64 x4_) ∧ ∃ v5_, ldv false 1 h2_ (Addr.add (⟨Array.size h1_, 0, none⟩) 1) = some v5_ ∧ ∃ x6_, v5_ = (Value.int .i64 x6_) ∧ splitB (x4_ == x6_) (∃ v7_, ldv false 1 h2_ (⟨Array.size h, 0, none⟩) = some v7_ ∧ ∃ A8_, ∃ n8_, ∃ c8_, v7_ = (Value.slice A8_ n8_ c8_) ∧ ∃ v9_, ldv false 1 h2_ (⟨Array.size h1_, 0, none⟩) = some v9_ ∧ ∃ A10_, ∃ n10_, ∃ c10_, v9_ = (Value.slice A10_ n10_ c10_) ∧ Run Try.prog 90 #[(Value.slice A8_ n8_ c8_), (Value.slice A10_ n10_ c10_)] h2_ fun v11_ h12_ => ∃ b13_, v11_ = (Value.bool b13_) ∧ R (Value.bool b13_) h12_) (R (Value.bool false) h2_)
set_option maxRecDepth 100000 in
theorem f36.run {R : Value → Heap → Prop} {v0 : Value} {v1 : Value} {h : Heap} (H : f36.runT R v0 v1 h) : Run Try.prog 36 #[v0, v1] h R :=
  run_of mixed Try.func36 (by kernel_rfl) (by kernel_rfl) f36.good (Eq.mpr (show (Fwd Try.prog f36.T f36.kp Try.f36 R [] (mkFr (argL [v0, v1] 0)) h) = (f36.runT R v0 v1 h) by kernel_rfl) H)
def f38.T : Tab := { sh := tSh, tup := tTup, keep := [], plan := [] }
def f38.kp : Keep := []
theorem f38.good : goodCode Try.prog f38.T (rootOf Try.f38) = true := by kernel_rfl
set_option maxRecDepth 100000 in
def f38.runT (R : Value → Heap → Prop) (v0 : Value) (h : Heap) : Prop :=
  newH h (Obj.cells ((v0).cells) 59) fun h1_ => newH h1_ (Obj.cells #[(Value.int .i64 (0 : Int)), (Value.int .i64 (0 : Int)), (Value.string (ByteArray.mk #[])), (Value.slice none 0 0)] 50) fun h2_ => ∃ v3_, ldv false 1 h2_ (⟨Array.size h, 0, none⟩) = some v3_ ∧ ∃ x4_, v3_ = (Value.int .i64 x4_) ∧ splitB (x4_ == (2 : Int)) (∃ v5_, ldv false 1 h2_ (Addr.add (⟨Array.size h, 0, none⟩) 1) = some v5_ ∧ ∃ x6_, v5_ = (Value.int .i64 x6_) ∧ ∃ v7_, ldv false 1 h2_ (Addr.add (⟨Array.size h, 0, none⟩) 3) = some v7_ ∧ ∃ x8_, v7_ = (Value.int .i64 x8_) ∧ ∃ l9_ : List Value, (Value.agg #[(Value.int .i64 (6 : Int)), (Value.int .i64 x6_), (Value.string (ByteArray.mk #[])), (Value.slice none 0 0)]) = Value.agg l9_.toArray ∧ l9_.length = 4 ∧ (∃ l10_ : List Value, (Value.agg #[(Value.int .i64 (2 : Int)), (Value.int .i64 x8_), (Value.string (ByteArray.mk #[])), (Value.slice none 0 0)]) = Value.agg l10_.toArray ∧ l10_.length = 4 ∧ (newH h2_ (Obj.cells ((List.take 4 (List.take 0 ([(Value.int .i64 (0 : Int)), (Value.int .i64 (0 : Int)), (Value.string (ByteArray.mk #[])), (Value.slice none 0 0), (Value.int .i64 (0 : Int)), (Value.int .i64 (0 : Int)), (Value.string (ByteArray.mk #[])), (Value.slice none 0 0)]) ++ l9_ ++ List.drop 4 ([(Value.int .i64 (0 : Int)), (Value.int .i64 (0 : Int)), (Value.string (ByteArray.mk #[])), (Value.slice none 0 0), (Value.int .i64 (0 : Int)), (Value.int .i64 (0 : Int)), (Value.string (ByteArray.mk #[])), (Value.slice none 0 0)])) ++ l10_ ++ List.drop 8 (List.take 0 ([(Value.int .i64 (0 : Int)), (Value.int .i64 (0 : Int)), (Value.string (ByteArray.mk #[])), (Value.slice none 0 0), (Value.int .i64 (0 : Int)), (Value.int .i64 (0 : Int)), (Value.string (ByteArray.mk #[])), (Value.slice none 0 0)]) ++ l9_ ++ List.drop 4 ([(Value.int .i64 (0 : Int)), (Value.int .i64 (0 : Int)), (Value.string (ByteArray.mk #[])), (Value.slice none 0 0), (Value.int .i64 (0 : Int)), (Value.int .i64 (0 : Int)), (Value.string (ByteArray.mk #[])), (Value.slice none 0 0)]))).toArray) 50) fun h11_ => ∃ l13_ : List Value, (Value.agg #[(Value.int .i64 (5 : Int)), (Value.int .i64 (0 : Int)), (Value.string (ByteArray.mk #[68, 111, 119, 110])), (Value.slice (some ⟨Array.size h2_, 0, none⟩) 2 2)]) = Value.agg l13_.toArray ∧ l13_.length = 4 ∧ ∃ h12_, stH h11_ (⟨Array.size h1_, 0, none⟩) l13_ 0 = some h12_ ∧ ∃ v14_, ldv true 4 h12_ (⟨Array.size h1_, 0, none⟩) = some v14_ ∧ R v14_ h12_))) (∃ v15_, ldv true 4 h2_ (Addr.add (⟨Array.size h, 0, none⟩) 5) = some v15_ ∧ ∃ l17_ : List Value, v15_ = Value.agg l17_.toArray ∧ l17_.length = 4 ∧ ∃ h16_, stH h2_ (⟨Array.size h1_, 0, none⟩) l17_ 0 = some h16_ ∧ ∃ v18_, ldv true 4 h16_ (⟨Array.size h1_, 0, none⟩) = some v18_ ∧ R v18_ h16_)
set_option maxRecDepth 100000 in
theorem f38.run {R : Value → Heap → Prop} {v0 : Value} {h : Heap} (H : f38.runT R v0 h) : Run Try.prog 38 #[v0] h R :=
  run_of mixed Try.func38 (by kernel_rfl) (by kernel_rfl) f38.good (Eq.mpr (show (Fwd Try.prog f38.T f38.kp Try.f38 R [] (mkFr (argL [v0] 0)) h) = (f38.runT R v0 h) by kernel_rfl) H)
def f91.T : Tab := { sh := tSh, tup := tTup, keep := [], plan := [] }
def f91.kp : Keep := [([true, true], [0, 1])]
theorem f91.good : goodCode Try.prog f91.T (rootOf Try.f91) = true := by kernel_rfl
def f91.j0 (R : Value → Heap → Prop) (A0 : Option Addr) (n0 : Nat) (c0 : Nat) (x1 : Int) (h : Heap) : Prop := Pt Try.prog Try.f91 R [true, true] (mkFr [(0, (Value.slice A0 n0 c0)), (1, (Value.int .i64 x1))]) h
set_option maxRecDepth 100000 in
def f91.j0T (R : Value → Heap → Prop) (A0 : Option Addr) (n0 : Nat) (c0 : Nat) (x1 : Int) (h : Heap) : Prop :=
  splitB (decide ((IntKind.wrap .i64 (x1 - (IntKind.wrap .i64 (((c0 : Nat) : Int) - ((n0 : Nat) : Int))))) > (0 : Int))) (0 ≤ (0 : Int) ∧ (0 : Int) ≤ ((c0 : Nat) : Int) ∧ ((c0 : Nat) : Int) ≤ ((c0 : Nat) : Int) ∧ (AppZ 59 9 104 #[(Value.int .i64 (0 : Int)), (Value.int .i64 (0 : Int)), (Value.int .i64 (0 : Int)), (Value.int .i64 (0 : Int)), (Value.string (ByteArray.mk #[])), (Value.int .i64 (0 : Int)), (Value.int .i64 (0 : Int)), (Value.string (ByteArray.mk #[])), (Value.slice none 0 0)] (sliceA A0 (Int.toNat (0 : Int)) c0 9) (Int.toNat ((c0 : Nat) : Int) - Int.toNat (0 : Int)) (c0 - Int.toNat (0 : Int)) (Value.int .i64 (IntKind.wrap .i64 (x1 - (IntKind.wrap .i64 (((c0 : Nat) : Int) - ((n0 : Nat) : Int)))))) h fun v1_ h2_ => ∃ A3_, ∃ n3_, ∃ c3_, v1_ = (Value.slice A3_ n3_ c3_) ∧ 0 ≤ (0 : Int) ∧ (0 : Int) ≤ ((n0 : Nat) : Int) ∧ ((n0 : Nat) : Int) ≤ ((c3_ : Nat) : Int) ∧ (R (Value.slice (sliceA A3_ (Int.toNat (0 : Int)) c3_ 9) (Int.toNat ((n0 : Nat) : Int) - Int.toNat (0 : Int)) (c3_ - Int.toNat (0 : Int))) h2_))) (R (Value.slice A0 n0 c0) h)
set_option maxRecDepth 100000 in
theorem f91.j0_in {R : Value → Heap → Prop} {A0 : Option Addr} {n0 : Nat} {c0 : Nat} {x1 : Int} {h : Heap} (H : f91.j0T R A0 n0 c0 x1 h) : f91.j0 R A0 n0 c0 x1 h :=
  pt_intro mixed f91.good (Eq.mpr (show (Fwd Try.prog f91.T f91.kp Try.f91 R [true, true] (mkFr [(0, (Value.slice A0 n0 c0)), (1, (Value.int .i64 x1))]) h) = (f91.j0T R A0 n0 c0 x1 h) by kernel_rfl) H)
set_option maxRecDepth 100000 in
def f91.runT (R : Value → Heap → Prop) (A0 : Option Addr) (n0 : Nat) (c0 : Nat) (x1 : Int) (h : Heap) : Prop :=
  splitB (decide (x1 < (0 : Int))) (Gen Try.prog (Instr.makeInterface 9 (Value.string (ByteArray.mk #[99, 97, 110, 110, 111, 116, 32, 98, 101, 32, 110, 101, 103, 97, 116, 105, 118, 101]))) h fun v1_ h2_ => False) (f91.j0 R A0 n0 c0 x1 h)
set_option maxRecDepth 100000 in
theorem f91.run {R : Value → Heap → Prop} {A0 : Option Addr} {n0 : Nat} {c0 : Nat} {x1 : Int} {h : Heap} (H : f91.runT R A0 n0 c0 x1 h) : Run Try.prog 91 #[(Value.slice A0 n0 c0), (Value.int .i64 x1)] h R :=
  run_of mixed Try.func91 (by kernel_rfl) (by kernel_rfl) f91.good (Eq.mpr (show (Fwd Try.prog f91.T f91.kp Try.f91 R [] (mkFr (argL [(Value.slice A0 n0 c0), (Value.int .i64 x1)] 0)) h) = (f91.runT R A0 n0 c0 x1 h) by kernel_rfl) H)
def f39.T : Tab := { sh := tSh, tup := tTup, keep := [], plan := [] }
def f39.kp : Keep := [([false, false, true, false, true, true], [0, 3, 9, 10, 11]), ([false, false, true, false, true, true, true, true], [6, 25, 26, 27])]
theorem f39.good : goodCode Try.prog f39.T (rootOf Try.f39) = true := by kernel_rfl
def f39.l0 (R : Value → Heap → Prop) (A0 : Option Addr) (n0 : Nat) (c0 : Nat) (x3 : Int) (A9 : Option Addr) (n9 : Nat) (c9 : Nat) (x10 : Int) (x11 : Int) (h : Heap) : Prop := Pt Try.prog Try.f39 R [false, false, true, false, true, true] (mkFr [(0, (Value.slice A0 n0 c0)), (3, (Value.int .i64 x3)), (9, (Value.slice A9 n9 c9)), (10, (Value.int .i64 x10)), (11, (Value.int .i64 x11))]) h
def f39.l1 (R : Value → Heap → Prop) (A6 : Option Addr) (n6 : Nat) (c6 : Nat) (A25 : Option Addr) (n25 : Nat) (c25 : Nat) (x26 : Int) (x27 : Int) (h : Heap) : Prop := Pt Try.prog Try.f39 R [false, false, true, false, true, true, true, true] (mkFr [(6, (Value.slice A6 n6 c6)), (25, (Value.slice A25 n25 c25)), (26, (Value.int .i64 x26)), (27, (Value.int .i64 x27))]) h
set_option maxRecDepth 100000 in
def f39.l0T (R : Value → Heap → Prop) (A0 : Option Addr) (n0 : Nat) (c0 : Nat) (x3 : Int) (A9 : Option Addr) (n9 : Nat) (c9 : Nat) (x10 : Int) (x11 : Int) (h : Heap) : Prop :=
  splitB (decide (x11 < x10)) (ptrOk A9 fun a1_ => 0 ≤ x11 ∧ x11 < ((n9 : Nat) : Int) ∧ (∃ v2_, ldv false 1 h (Addr.add a1_ (Int.toNat x11 * 1)) = some v2_ ∧ ∃ A3_, ∃ n3_, ∃ c3_, v2_ = (Value.slice A3_ n3_ c3_) ∧ splitB (decide ((IntKind.wrap .i64 (x3 + ((n3_ : Nat) : Int))) < (0 : Int))) (Gen Try.prog (Instr.makeInterface 9 (Value.string (ByteArray.mk #[108, 101, 110, 32, 111, 117, 116, 32, 111, 102, 32, 114, 97, 110, 103, 101]))) h fun v4_ h5_ => False) (f39.l0 R A0 n0 c0 (IntKind.wrap .i64 (x3 + ((n3_ : Nat) : Int))) A9 n9 c9 x10 (IntKind.wrap .i64 (x11 + (1 : Int))) h))) (Run Try.prog 91 #[(Value.slice none 0 0), (Value.int .i64 x3)] h fun v6_ h7_ => ∃ A8_, ∃ n8_, ∃ c8_, v6_ = (Value.slice A8_ n8_ c8_) ∧ f39.l1 R A8_ n8_ c8_ A0 n0 c0 ((n0 : Nat) : Int) (0 : Int) h7_)
set_option maxRecDepth 100000 in
theorem f39.l0_in {R : Value → Heap → Prop} {A0 : Option Addr} {n0 : Nat} {c0 : Nat} {x3 : Int} {A9 : Option Addr} {n9 : Nat} {c9 : Nat} {x10 : Int} {x11 : Int} {h : Heap} (H : f39.l0T R A0 n0 c0 x3 A9 n9 c9 x10 x11 h) : f39.l0 R A0 n0 c0 x3 A9 n9 c9 x10 x11 h :=
  pt_intro mixed f39.good (Eq.mpr (show (Fwd Try.prog f39.T f39.kp Try.f39 R [false, false, true, false, true, true] (mkFr [(0, (Value.slice A0 n0 c0)), (3, (Value.int .i64 x3)), (9, (Value.slice A9 n9 c9)), (10, (Value.int .i64 x10)), (11, (Value.int .i64 x11))]) h) = (f39.l0T R A0 n0 c0 x3 A9 n9 c9 x10 x11 h) by kernel_rfl) H)
set_option maxRecDepth 100000 in
def f39.l1T (R : Value → Heap → Prop) (A6 : Option Addr) (n6 : Nat) (c6 : Nat) (A25 : Option Addr) (n25 : Nat) (c25 : Nat) (x26 : Int) (x27 : Int) (h : Heap) : Prop :=
  splitB (decide (x27 < x26)) (ptrOk A25 fun a1_ => 0 ≤ x27 ∧ x27 < ((n25 : Nat) : Int) ∧ (∃ v2_, ldv false 1 h (Addr.add a1_ (Int.toNat x27 * 1)) = some v2_ ∧ ∃ A3_, ∃ n3_, ∃ c3_, v2_ = (Value.slice A3_ n3_ c3_) ∧ AppW 59 9 104 #[(Value.int .i64 (0 : Int)), (Value.int .i64 (0 : Int)), (Value.int .i64 (0 : Int)), (Value.int .i64 (0 : Int)), (Value.string (ByteArray.mk #[])), (Value.int .i64 (0 : Int)), (Value.int .i64 (0 : Int)), (Value.string (ByteArray.mk #[])), (Value.slice none 0 0)] A6 n6 c6 (Value.slice A3_ n3_ c3_) h fun v4_ h5_ => ∃ A6_, ∃ n6_, ∃ c6_, v4_ = (Value.slice A6_ n6_ c6_) ∧ f39.l1 R A6_ n6_ c6_ A25 n25 c25 x26 (IntKind.wrap .i64 (x27 + (1 : Int))) h5_)) (R (Value.slice A6 n6 c6) h)
set_option maxRecDepth 100000 in
theorem f39.l1_in {R : Value → Heap → Prop} {A6 : Option Addr} {n6 : Nat} {c6 : Nat} {A25 : Option Addr} {n25 : Nat} {c25 : Nat} {x26 : Int} {x27 : Int} {h : Heap} (H : f39.l1T R A6 n6 c6 A25 n25 c25 x26 x27 h) : f39.l1 R A6 n6 c6 A25 n25 c25 x26 x27 h :=
  pt_intro mixed f39.good (Eq.mpr (show (Fwd Try.prog f39.T f39.kp Try.f39 R [false, false, true, false, true, true, true, true] (mkFr [(6, (Value.slice A6 n6 c6)), (25, (Value.slice A25 n25 c25)), (26, (Value.int .i64 x26)), (27, (Value.int .i64 x27))]) h) = (f39.l1T R A6 n6 c6 A25 n25 c25 x26 x27 h) by kernel_rfl) H)
set_option maxRecDepth 100000 in
def f39.runT (R : Value → Heap → Prop) (A0 : Option Addr) (n0 : Nat) (c0 : Nat) (h : Heap) : Prop :=
  f39.l0 R A0 n0 c0 (0 : Int) A0 n0 c0 ((n0 : Nat) : Int) (0 : Int) h
set_option maxRecDepth 100000 in
theorem f39.run {R : Value → Heap → Prop} {A0 : Option Addr} {n0 : Nat} {c0 : Nat} {h : Heap} (H : f39.runT R A0 n0 c0 h) : Run Try.prog 39 #[(Value.slice A0 n0 c0)] h R :=
  run_of mixed Try.func39 (by kernel_rfl) (by kernel_rfl) f39.good (Eq.mpr (show (Fwd Try.prog f39.T f39.kp Try.f39 R [] (mkFr (argL [(Value.slice A0 n0 c0)] 0)) h) = (f39.runT R A0 n0 c0 h) by kernel_rfl) H)
def f5.T : Tab := { sh := tSh, tup := tTup, keep := [], plan := [(14, (.take 0 (.take 3 (.take 1 (.take 4 (.eff true 2 (.eff false 5 (.take 6 .done)))))))), (25, (.take 1 (.take 3 (.take 5 (.take 7 (.take 8 (.take 0 (.take 2 (.take 4 (.take 6 (.take 9 (.eff true 10 (.eff true 11 (.eff true 12 (.eff true 13 (.take 14 (.split 14 (.take 16 (.take 18 (.take 15 (.take 17 (.take 19 (.take 20 (.eff false 21 (.take 22 (.take 23 (.split 23 (.take 24 (.take 25 (.take 26 (.take 27 (.take 28 (.split 28 (.take 29 (.take 30 (.take 31 (.take 32 .done)))))))))))))))))))))))))))))))))))))] }
def f5.kp : Keep := [([true, true], [1, 3, 5]), ([false, false, true, false, true, true], [1, 3, 5, 37, 38, 39]), ([true, true, true, true, true, false, false, true, true, false, false, true, false, true, true], [1, 3, 5, 9, 10, 11, 12, 37, 38, 39]), ([false, false, true, false, true, true, true, true, true, true], [1, 3, 13, 14, 15, 16, 18])]
theorem f5.good : goodCode Try.prog f5.T (rootOf Try.f5) = true := by kernel_rfl
def f5.j0 (R : Value → Heap → Prop) (A1 : Option Addr) (n1 : Nat) (c1 : Nat) (a3 : Addr) (a5 : Addr) (h : Heap) : Prop := Pt Try.prog Try.f5 R [true, true] (mkFr [(1, (Value.slice A1 n1 c1)), (3, (Value.pointer (some a3))), (5, (Value.pointer (some a5)))]) h
def f5.l0 (R : Value → Heap → Prop) (A1 : Option Addr) (n1 : Nat) (c1 : Nat) (a3 : Addr) (a5 : Addr) (A37 : Option Addr) (n37 : Nat) (c37 : Nat) (x38 : Int) (x39 : Int) (h : Heap) : Prop := Pt Try.prog Try.f5 R [false, false, true, false, true, true] (mkFr [(1, (Value.slice A1 n1 c1)), (3, (Value.pointer (some a3))), (5, (Value.pointer (some a5))), (37, (Value.slice A37 n37 c37)), (38, (Value.int .i64 x38)), (39, (Value.int .i64 x39))]) h
def f5.j1 (R : Value → Heap → Prop) (A1 : Option Addr) (n1 : Nat) (c1 : Nat) (a3 : Addr) (a5 : Addr) (A9 : Option Addr) (n9 : Nat) (c9 : Nat) (b10 : Bool) (a11 : Addr) (b12 : Bool) (A37 : Option Addr) (n37 : Nat) (c37 : Nat) (x38 : Int) (x39 : Int) (h : Heap) : Prop := Pt Try.prog Try.f5 R [true, true, true, true, true, false, false, true, true, false, false, true, false, true, true] (mkFr [(1, (Value.slice A1 n1 c1)), (3, (Value.pointer (some a3))), (5, (Value.pointer (some a5))), (9, (Value.slice A9 n9 c9)), (10, (Value.bool b10)), (11, (Value.pointer (some a11))), (12, (Value.bool b12)), (37, (Value.slice A37 n37 c37)), (38, (Value.int .i64 x38)), (39, (Value.int .i64 x39))]) h
def f5.l1 (R : Value → Heap → Prop) (A1 : Option Addr) (n1 : Nat) (c1 : Nat) (a3 : Addr) (a13 : Addr) (a14 : Addr) (x15 : Int) (x16 : Int) (x18 : Int) (h : Heap) : Prop := Pt Try.prog Try.f5 R [false, false, true, false, true, true, true, true, true, true] (mkFr [(1, (Value.slice A1 n1 c1)), (3, (Value.pointer (some a3))), (13, (Value.pointer (some a13))), (14, (Value.pointer (some a14))), (15, (Value.int .i64 x15)), (16, (Value.int .i64 x16)), (18, (Value.int .i64 x18))]) h
set_option maxRecDepth 100000 in
def f5.j0T (R : Value → Heap → Prop) (A1 : Option Addr) (n1 : Nat) (c1 : Nat) (a3 : Addr) (a5 : Addr) (h : Heap) : Prop :=
  f5.l0 R A1 n1 c1 a3 a5 A1 n1 c1 ((n1 : Nat) : Int) (0 : Int) h
set_option maxRecDepth 100000 in
theorem f5.j0_in {R : Value → Heap → Prop} {A1 : Option Addr} {n1 : Nat} {c1 : Nat} {a3 : Addr} {a5 : Addr} {h : Heap} (H : f5.j0T R A1 n1 c1 a3 a5 h) : f5.j0 R A1 n1 c1 a3 a5 h :=
  pt_intro mixed f5.good (Eq.mpr (show (Fwd Try.prog f5.T f5.kp Try.f5 R [true, true] (mkFr [(1, (Value.slice A1 n1 c1)), (3, (Value.pointer (some a3))), (5, (Value.pointer (some a5)))]) h) = (f5.j0T R A1 n1 c1 a3 a5 h) by kernel_rfl) H)
set_option maxRecDepth 100000 in
def f5.l0T (R : Value → Heap → Prop) (A1 : Option Addr) (n1 : Nat) (c1 : Nat) (a3 : Addr) (a5 : Addr) (A37 : Option Addr) (n37 : Nat) (c37 : Nat) (x38 : Int) (x39 : Int) (h : Heap) : Prop :=
  splitB (decide (x39 < x38)) (ptrOk A37 fun a1_ => 0 ≤ x39 ∧ x39 < ((n37 : Nat) : Int) ∧ (∃ v2_, ldv true 4 h (Addr.add a1_ (Int.toNat x39 * 4)) = some v2_ ∧ newH h (Obj.cells #[(Value.int .i64 (0 : Int)), (Value.int .i64 (0 : Int)), (Value.string (ByteArray.mk #[])), (Value.slice none 0 0)] 54) fun h3_ => ∃ l5_ : List Value, v2_ = Value.agg l5_.toArray ∧ l5_.length = 4 ∧ ∃ h4_, stH h3_ (⟨Array.size h, 0, none⟩) l5_ 0 = some h4_ ∧ ∃ v6_, ldv true 4 h4_ (⟨Array.size h, 0, none⟩) = some v6_ ∧ ∃ v7_, ldv true 4 h4_ a5 = some v7_ ∧ Run Try.prog 29 #[v6_, v7_] h4_ fun v8_ h9_ => ∃ A10_, ∃ n10_, ∃ c10_, ∃ b11_, v8_ = (Value.tuple #[(Value.slice A10_ n10_ c10_), (Value.bool b11_)]) ∧ newH h9_ (Obj.cells #[(Value.slice none 0 0)] 48) fun h12_ => ∃ v13_, ldv true 4 h12_ (⟨Array.size h, 0, none⟩) = some v13_ ∧ ∃ v14_, ldv true 4 h12_ a5 = some v14_ ∧ Run Try.prog 30 #[v13_, v14_, (Value.pointer (some ⟨Array.size h9_, 0, none⟩))] h12_ fun v15_ h16_ => ∃ b17_, v15_ = (Value.bool b17_) ∧ splitB (!b17_) (∃ h18_, st1 h16_ (⟨Array.size h9_, 0, none⟩) (Value.slice none 0 0) = some h18_ ∧ f5.j1 R A1 n1 c1 a3 a5 A10_ n10_ c10_ b11_ (⟨Array.size h9_, 0, none⟩) b17_ A37 n37 c37 x38 x39 h18_) (f5.j1 R A1 n1 c1 a3 a5 A10_ n10_ c10_ b11_ (⟨Array.size h9_, 0, none⟩) b17_ A37 n37 c37 x38 x39 h16_))) (∃ v19_, ldv true 4 h a5 = some v19_ ∧ ∃ v20_, ldv true 4 h a5 = some v20_ ∧ Run Try.prog 32 #[(Value.slice A1 n1 c1), v19_] h fun v21_ h22_ => ∃ x23_, v21_ = (Value.int .i64 x23_) ∧ Ext h h22_ ∧ (Run Try.prog 33 #[(Value.slice A1 n1 c1), v20_] h22_ fun v24_ h25_ => ∃ x26_, v24_ = (Value.int .i64 x26_) ∧ splitB (x23_ != x26_) (R (Value.bool false) h25_) (∃ v27_, ldv true 2 h25_ a3 = some v27_ ∧ Run Try.prog 34 #[v27_, (Value.slice A1 n1 c1)] h25_ fun v28_ h29_ => ∃ v30_, ∃ v31_, ∃ x32_, ∃ x33_, v28_ = (Value.tuple #[v30_, v31_, (Value.int .i64 x32_), (Value.int .i64 x33_)]) ∧ newH h29_ (Obj.cells #[(Value.slice none 0 0), (Value.int .i64 (0 : Int))] 46) fun h34_ => newH h34_ (Obj.cells #[(Value.int .i64 (0 : Int)), (Value.int .i64 (0 : Int)), (Value.int .i64 (0 : Int)), (Value.int .i64 (0 : Int)), (Value.string (ByteArray.mk #[])), (Value.int .i64 (0 : Int)), (Value.int .i64 (0 : Int)), (Value.string (ByteArray.mk #[])), (Value.slice none 0 0)] 59) fun h35_ => ∃ l37_ : List Value, v30_ = Value.agg l37_.toArray ∧ l37_.length = 2 ∧ ∃ h36_, stH h35_ (⟨Array.size h29_, 0, none⟩) l37_ 0 = some h36_ ∧ ∃ l39_ : List Value, v31_ = Value.agg l39_.toArray ∧ l39_.length = 9 ∧ ∃ h38_, stH h36_ (⟨Array.size h34_, 0, none⟩) l39_ 0 = some h38_ ∧ ∃ v40_, ldv true 2 h38_ a3 = some v40_ ∧ Run Try.prog 35 #[v40_] h38_ fun v41_ h42_ => ∃ x43_, v41_ = (Value.int .i64 x43_) ∧ splitB (x43_ != (0 : Int)) (∃ v44_, ldv true 2 h42_ (⟨Array.size h29_, 0, none⟩) = some v44_ ∧ Run Try.prog 36 #[v44_, (Value.agg #[(Value.slice none 0 0), (Value.int .i64 (0 : Int))])] h42_ fun v45_ h46_ => ∃ b47_, v45_ = (Value.bool b47_) ∧ splitB b47_ (∃ v48_, ldv true 9 h46_ (⟨Array.size h34_, 0, none⟩) = some v48_ ∧ Run Try.prog 37 #[v48_, (Value.agg #[(Value.int .i64 (0 : Int)), (Value.int .i64 (0 : Int)), (Value.int .i64 (0 : Int)), (Value.int .i64 (0 : Int)), (Value.string (ByteArray.mk #[])), (Value.int .i64 (0 : Int)), (Value.int .i64 (0 : Int)), (Value.string (ByteArray.mk #[])), (Value.slice none 0 0)])] h46_ fun v49_ h50_ => ∃ b51_, v49_ = (Value.bool b51_) ∧ splitB b51_ (splitB (x32_ == (0 : Int)) (R (Value.bool (x33_ == x43_)) h50_) (R (Value.bool false) h50_)) (R (Value.bool false) h50_)) (R (Value.bool false) h46_)) (∃ v52_, ldv false 1 h42_ (Addr.add a3 1) = some v52_ ∧ ∃ x53_, v52_ = (Value.int .i64 x53_) ∧ f5.l1 R A1 n1 c1 a3 (⟨Array.size h29_, 0, none⟩) (⟨Array.size h34_, 0, none⟩) x32_ x33_ x53_ h42_))))
set_option maxRecDepth 100000 in
theorem f5.l0_in {R : Value → Heap → Prop} {A1 : Option Addr} {n1 : Nat} {c1 : Nat} {a3 : Addr} {a5 : Addr} {A37 : Option Addr} {n37 : Nat} {c37 : Nat} {x38 : Int} {x39 : Int} {h : Heap} (H : f5.l0T R A1 n1 c1 a3 a5 A37 n37 c37 x38 x39 h) : f5.l0 R A1 n1 c1 a3 a5 A37 n37 c37 x38 x39 h :=
  pt_intro mixed f5.good (Eq.mpr (show (Fwd Try.prog f5.T f5.kp Try.f5 R [false, false, true, false, true, true] (mkFr [(1, (Value.slice A1 n1 c1)), (3, (Value.pointer (some a3))), (5, (Value.pointer (some a5))), (37, (Value.slice A37 n37 c37)), (38, (Value.int .i64 x38)), (39, (Value.int .i64 x39))]) h) = (f5.l0T R A1 n1 c1 a3 a5 A37 n37 c37 x38 x39 h) by kernel_rfl) H)
set_option maxRecDepth 100000 in
def f5.j1T (R : Value → Heap → Prop) (A1 : Option Addr) (n1 : Nat) (c1 : Nat) (a3 : Addr) (a5 : Addr) (A9 : Option Addr) (n9 : Nat) (c9 : Nat) (b10 : Bool) (a11 : Addr) (b12 : Bool) (A37 : Option Addr) (n37 : Nat) (c37 : Nat) (x38 : Int) (x39 : Int) (h : Heap) : Prop :=
  splitB (!(b10 == b12)) (R (Value.bool false) h) (∃ v1_, ldv false 1 h a11 = some v1_ ∧ ∃ A2_, ∃ n2_, ∃ c2_, v1_ = (Value.slice A2_ n2_ c2_) ∧ Run Try.prog 31 #[(Value.slice A9 n9 c9), (Value.slice A2_ n2_ c2_)] h fun v3_ h4_ => ∃ b5_, v3_ = (Value.bool b5_) ∧ splitB (!b5_) (R (Value.bool false) h4_) (f5.l0 R A1 n1 c1 a3 a5 A37 n37 c37 x38 (IntKind.wrap .i64 (x39 + (1 : Int))) h4_))
set_option maxRecDepth 100000 in
theorem f5.j1_in {R : Value → Heap → Prop} {A1 : Option Addr} {n1 : Nat} {c1 : Nat} {a3 : Addr} {a5 : Addr} {A9 : Option Addr} {n9 : Nat} {c9 : Nat} {b10 : Bool} {a11 : Addr} {b12 : Bool} {A37 : Option Addr} {n37 : Nat} {c37 : Nat} {x38 : Int} {x39 : Int} {h : Heap} (H : f5.j1T R A1 n1 c1 a3 a5 A9 n9 c9 b10 a11 b12 A37 n37 c37 x38 x39 h) : f5.j1 R A1 n1 c1 a3 a5 A9 n9 c9 b10 a11 b12 A37 n37 c37 x38 x39 h :=
  pt_intro mixed f5.good (Eq.mpr (show (Fwd Try.prog f5.T f5.kp Try.f5 R [true, true, true, true, true, false, false, true, true, false, false, true, false, true, true] (mkFr [(1, (Value.slice A1 n1 c1)), (3, (Value.pointer (some a3))), (5, (Value.pointer (some a5))), (9, (Value.slice A9 n9 c9)), (10, (Value.bool b10)), (11, (Value.pointer (some a11))), (12, (Value.bool b12)), (37, (Value.slice A37 n37 c37)), (38, (Value.int .i64 x38)), (39, (Value.int .i64 x39))]) h) = (f5.j1T R A1 n1 c1 a3 a5 A9 n9 c9 b10 a11 b12 A37 n37 c37 x38 x39 h) by kernel_rfl) H)
set_option maxRecDepth 100000 in
def f5.l1T (R : Value → Heap → Prop) (A1 : Option Addr) (n1 : Nat) (c1 : Nat) (a3 : Addr) (a13 : Addr) (a14 : Addr) (x15 : Int) (x16 : Int) (x18 : Int) (h : Heap) : Prop :=
  ∃ v1_, ldv false 1 h a3 = some v1_ ∧ ∃ A2_, ∃ n2_, ∃ c2_, v1_ = (Value.slice A2_ n2_ c2_) ∧ splitB (decide (x18 < ((n2_ : Nat) : Int))) (∃ v3_, ldv false 1 h a3 = some v3_ ∧ ∃ A4_, ∃ n4_, ∃ c4_, v3_ = (Value.slice A4_ n4_ c4_) ∧ ptrOk A4_ fun a5_ => 0 ≤ x18 ∧ x18 < ((n4_ : Nat) : Int) ∧ (∃ v6_, ldv true 9 h (Addr.add a5_ (Int.toNat x18 * 9)) = some v6_ ∧ Run Try.prog 38 #[v6_] h fun v7_ h8_ => Run Try.prog 33 #[(Value.slice A1 n1 c1), v7_] h8_ fun v9_ h10_ => ∃ x11_, v9_ = (Value.int .i64 x11_) ∧ splitB (decide (x11_ ≥ (0 : Int))) (∃ v12_, ldv true 2 h10_ a13 = some v12_ ∧ ∃ v13_, ldv false 1 h10_ a3 = some v13_ ∧ ∃ A14_, ∃ n14_, ∃ c14_, v13_ = (Value.slice A14_ n14_ c14_) ∧ 0 ≤ (0 : Int) ∧ (0 : Int) ≤ x18 ∧ x18 ≤ ((c14_ : Nat) : Int) ∧ (∃ v15_, ldv false 1 h10_ a3 = some v15_ ∧ ∃ A16_, ∃ n16_, ∃ c16_, v15_ = (Value.slice A16_ n16_ c16_) ∧ 0 ≤ (IntKind.wrap .i64 (x18 + (1 : Int))) ∧ (IntKind.wrap .i64 (x18 + (1 : Int))) ≤ ((n16_ : Nat) : Int) ∧ ((n16_ : Nat) : Int) ≤ ((c16_ : Nat) : Int) ∧ (newH h10_ (Obj.cells #[(Value.slice (sliceA A14_ (Int.toNat (0 : Int)) c14_ 9) (Int.toNat x18 - Int.toNat (0 : Int)) (c14_ - Int.toNat (0 : Int))), (Value.slice (sliceA A16_ (Int.toNat (IntKind.wrap .i64 (x18 + (1 : Int)))) c16_ 9) (Int.toNat ((n16_ : Nat) : Int) - Int.toNat (IntKind.wrap .i64 (x18 + (1 : Int)))) (c16_ - Int.toNat (IntKind.wrap .i64 (x18 + (1 : Int)))))] 44) fun h17_ => Ext h10_ h17_ ∧ (Run Try.prog 39 #[(Value.slice (some ⟨Array.size h10_, 0, none⟩) 2 2)] h17_ fun v18_ h19_ => ∃ A20_, ∃ n20_, ∃ c20_, v18_ = (Value.slice A20_ n20_ c20_) ∧ Ext h17_ h19_ ∧ (Ext h19_ h19_ ∧ (Run Try.prog 36 #[v12_, (Value.agg #[(Value.slice A20_ n20_ c20_), (Value.int .i64 (0 : Int))])] h19_ fun v21_ h22_ => ∃ b23_, v21_ = (Value.bool b23_) ∧ Ext h19_ h22_ ∧ (splitB b23_ (∃ v24_, ldv true 9 h22_ a14 = some v24_ ∧ ∃ v25_, ldv false 1 h22_ a3 = some v25_ ∧ ∃ A26_, ∃ n26_, ∃ c26_, v25_ = (Value.slice A26_ n26_ c26_) ∧ ptrOk A26_ fun a27_ => 0 ≤ x18 ∧ x18 < ((n26_ : Nat) : Int) ∧ (∃ v28_, ldv true 9 h22_ (Addr.add a27_ (Int.toNat x18 * 9)) = some v28_ ∧ Run Try.prog 37 #[v24_, v28_] h22_ fun v29_ h30_ => ∃ b31_, v29_ = (Value.bool b31_) ∧ splitB b31_ (splitB (x15 == x11_) (R (Value.bool (x16 == (0 : Int))) h30_) (R (Value.bool false) h30_)) (R (Value.bool false) h30_))) (R (Value.bool false) h22_)))))))) (f5.l1 R A1 n1 c1 a3 a13 a14 x15 x16 (IntKind.wrap .i64 (x18 + (1 : Int))) h10_))) (∃ v32_, ldv true 2 h a13 = some v32_ ∧ ∃ v33_, ldv false 1 h a3 = some v33_ ∧ ∃ A34_, ∃ n34_, ∃ c34_, v33_ = (Value.slice A34_ n34_ c34_) ∧ ∃ v35_, ldv false 1 h a3 = some v35_ ∧ ∃ A36_, ∃ n36_, ∃ c36_, v35_ = (Value.slice A36_ n36_ c36_) ∧ Run Try.prog 36 #[v32_, (Value.agg #[(Value.slice A34_ n34_ c34_), (Value.int .i64 ((n36_ : Nat) : Int))])] h fun v37_ h38_ => ∃ b39_, v37_ = (Value.bool b39_) ∧ splitB b39_ (∃ v40_, ldv true 9 h38_ a14 = some v40_ ∧ Run Try.prog 37 #[v40_, (Value.agg #[(Value.int .i64 (0 : Int)), (Value.int .i64 (0 : Int)), (Value.int .i64 (0 : Int)), (Value.int .i64 (0 : Int)), (Value.string (ByteArray.mk #[])), (Value.int .i64 (0 : Int)), (Value.int .i64 (0 : Int)), (Value.string (ByteArray.mk #[])), (Value.slice none 0 0)])] h38_ fun v41_ h42_ => ∃ b43_, v41_ = (Value.bool b43_) ∧ splitB b43_ (splitB (x15 == (-1 : Int)) (R (Value.bool (x16 == (0 : Int))) h42_) (R (Value.bool false) h42_)) (R (Value.bool false) h42_)) (R (Value.bool false) h38_))
set_option maxRecDepth 100000 in
theorem f5.l1_in {R : Value → Heap → Prop} {A1 : Option Addr} {n1 : Nat} {c1 : Nat} {a3 : Addr} {a13 : Addr} {a14 : Addr} {x15 : Int} {x16 : Int} {x18 : Int} {h : Heap} (H : f5.l1T R A1 n1 c1 a3 a13 a14 x15 x16 x18 h) : f5.l1 R A1 n1 c1 a3 a13 a14 x15 x16 x18 h :=
  pt_intro mixed f5.good (Eq.mpr (show (Fwd Try.prog f5.T f5.kp Try.f5 R [false, false, true, false, true, true, true, true, true, true] (mkFr [(1, (Value.slice A1 n1 c1)), (3, (Value.pointer (some a3))), (13, (Value.pointer (some a13))), (14, (Value.pointer (some a14))), (15, (Value.int .i64 x15)), (16, (Value.int .i64 x16)), (18, (Value.int .i64 x18))]) h) = (f5.l1T R A1 n1 c1 a3 a13 a14 x15 x16 x18 h) by kernel_rfl) H)
set_option maxRecDepth 100000 in
def f5.runT (R : Value → Heap → Prop) (v0 : Value) (A1 : Option Addr) (n1 : Nat) (c1 : Nat) (v2 : Value) (h : Heap) : Prop :=
  newH h (Obj.cells ((v0).cells) 46) fun h1_ => newH h1_ (Obj.cells ((v2).cells) 50) fun h2_ => ∃ v3_, ldv true 4 h2_ (⟨Array.size h1_, 0, none⟩) = some v3_ ∧ Run Try.prog 23 #[v3_] h2_ fun v4_ h5_ => ∃ b6_, v4_ = (Value.bool b6_) ∧ splitB (!b6_) (R (Value.bool true) h5_) (splitB (decide (((n1 : Nat) : Int) > (30 : Int))) (R (Value.bool true) h5_) (Run Try.prog 24 #[(Value.slice A1 n1 c1), (Value.func (.func 25) #[] #[])] h5_ fun v7_ h8_ => ∃ b9_, v7_ = (Value.bool b9_) ∧ splitB b9_ (R (Value.bool true) h8_) (∃ v10_, ldv false 1 h8_ (⟨Array.size h, 0, none⟩) = some v10_ ∧ ∃ A11_, ∃ n11_, ∃ c11_, v10_ = (Value.slice A11_ n11_ c11_) ∧ Run Try.prog 27 #[(Value.slice A11_ n11_ c11_), (Value.func (.func 28) #[] #[])] h8_ fun v12_ h13_ => ∃ b14_, v12_ = (Value.bool b14_) ∧ splitB b14_ (R (Value.bool true) h13_) (f5.j0 R A1 n1 c1 (⟨Array.size h, 0, none⟩) (⟨Array.size h1_, 0, none⟩) h13_))))
set_option maxRecDepth 100000 in
theorem f5.run {R : Value → Heap → Prop} {v0 : Value} {A1 : Option Addr} {n1 : Nat} {c1 : Nat} {v2 : Value} {h : Heap} (H : f5.runT R v0 A1 n1 c1 v2 h) : Run Try.prog 5 #[v0, (Value.slice A1 n1 c1), v2] h R :=
  run_of mixed Try.func5 (by kernel_rfl) (by kernel_rfl) f5.good (Eq.mpr (show (Fwd Try.prog f5.T f5.kp Try.f5 R [] (mkFr (argL [v0, (Value.slice A1 n1 c1), v2] 0)) h) = (f5.runT R v0 A1 n1 c1 v2 h) by kernel_rfl) H)
end Go.Proofs.Ythnlhffpmlgmfaa.Fw

end
section
namespace Go.Hw
open Go
section tests
variable {A B : Prop}
theorem split_dec {p : Prop} [Decidable p] (hA : p → A) (hB : ¬ p → B) : splitB (decide p) A B := by
  by_cases h : p
  · rw [decide_eq_true h]; exact hA h
  · rw [decide_eq_false h]; exact hB h
theorem split_eq {x y : Int} (hA : x = y → A) (hB : x ≠ y → B) : splitB (x == y) A B := by
  by_cases h : x = y
  · rw [show (x == y) = true from beq_iff_eq.2 h]; exact hA h
  · rw [show (x == y) = false from beq_eq_false_iff_ne.2 h]; exact hB h
theorem split_not {b : Bool} (h : splitB b B A) : splitB (!b) A B := by cases b <;> exact h
theorem split_t (h : A) : splitB true A B := h
theorem split_f (h : B) : splitB false A B := h
end tests
theorem wrap_in {n : Int} (h0 : -9223372036854775808 ≤ n) (h1 : n ≤ 9223372036854775807) : IntKind.wrap .i64 n = n := by
  rcases Int.le_total 0 n with h | h
  · exact wrap_nat h h1
  · rcases (show n = 0 ∨ n < 0 by omega) with h2 | h2
    · subst h2; rfl
    have e : n % (2 ^ 64 : Int) = n + 2 ^ 64 := by omega
    simp only [IntKind.wrap, IntKind.signed, IntKind.bits, e, Bool.true_and]
    rw [if_pos (by simp only [decide_eq_true_eq]; omega)]
    omega
theorem add_add (a : Addr) (m n : Nat) : (a.add m).add n = a.add (m + n) := by
  unfold Addr.add
  by_cases h1 : m = 0
  · subst h1; simp
  · by_cases h2 : n = 0
    · subst h2; simp
    · have h3 : m + n ≠ 0 := by omega
      simp only [if_neg h1, if_neg h2, if_neg h3]
      rw [Nat.add_assoc]
theorem add_block (a : Addr) (n : Nat) : (a.add n).block = a.block := by unfold Addr.add; split <;> rfl
theorem add_off (a : Addr) (n : Nat) : (a.add n).off = a.off + n := by
  unfold Addr.add
  split
  · rename_i h; subst h; rfl
  · rfl
theorem add_spot {a : Addr} (n : Nat) (h : a.spot = none) : (a.add n).spot = none := by unfold Addr.add; split; exact h; rfl
def Blk (h : Heap) (b : Nat) (c : List Value) (t : TypeId) : Prop := h[b]? = some (.cells c.toArray t (0, 0))
def Only (h h' : Heap) (b : Nat) : Prop := h'.size = h.size ∧ ∀ i, i ≠ b → h'[i]? = h[i]?
section
variable {h h' : Heap} {b : Nat} {c : List Value} {t : TypeId}
theorem Blk.lt (hb : Blk h b c t) : b < h.size := (Array.getElem?_eq_some_iff.1 hb).1
theorem Blk.cell (hb : Blk h b c t) {a : Addr} {v : Value} (h1 : a.block = b) (h2 : a.spot = none) (h3 : c[a.off]? = some v) : cellH h a = some v := by
  unfold cellH Blk at *
  rw [h1, hb, h2]
  simpa using h3
theorem Blk.cells (hb : Blk h b c t) {a : Addr} (h1 : a.block = b) (h2 : a.spot = none) : ∀ (n i : Nat), a.off + i + n ≤ c.length → cellsH h a i n = some ((c.drop (a.off + i)).take n) := by
  intro n
  induction n with
  | zero => intro i _; simp [cellsH]
  | succ n ih =>
    intro i hle
    have hlt : a.off + i < c.length := by omega
    have h3 : c[(a.add i).off]? = some c[a.off + i] := by rw [add_off]; exact List.getElem?_eq_getElem hlt
    simp only [cellsH, hb.cell (a := a.add i) (by rw [add_block]; exact h1) (add_spot i h2) h3, ih (i + 1) (by omega)]
    rw [List.drop_eq_getElem_cons hlt, List.take_succ_cons]
    rfl
theorem Blk.st (hb : Blk h b c t) {a : Addr} {v : Value} (h1 : a.block = b) (h2 : a.spot = none) (h3 : a.off < c.length) (h4 : oneCell v True) :
    ∃ h', st1 h a v = some h' ∧ Blk h' b (c.set a.off v) t ∧ Only h h' b := by
  have hc : cellH h a = some c[a.off] := hb.cell h1 h2 (List.getElem?_eq_getElem h3)
  have hf : frozenH h a = false := by
    unfold frozenH
    rw [h1, show h[b]? = some (.cells c.toArray t (0, 0)) from hb]
    simp
  refine ⟨setH h a v, ?_, ?_, ?_⟩
  · cases v <;> simp_all [st1, oneCell]
  · unfold Blk setH
    rw [Array.getElem?_modify, if_pos h1.symm.symm, show h[b]? = some (.cells c.toArray t (0, 0)) from hb]
    simp [h2]
  · refine ⟨by simp [setH], fun i hi => ?_⟩
    unfold setH
    rw [Array.getElem?_modify, if_neg (by rw [h1]; exact fun e => hi e.symm)]
theorem Blk.new (h : Heap) (c : Array Value) (t : TypeId) : Blk (h.push (.cells c t)) h.size c.toList t := by
  unfold Blk; simp
theorem Ext.push (h : Heap) (o : Obj) : Ext h (h.push o) := ⟨by simp, fun i hi => by rw [Array.getElem?_push, if_neg (by omega)]⟩
theorem Only.refl (h : Heap) (b : Nat) : Only h h b := ⟨rfl, fun _ _ => rfl⟩
theorem Only.trans {h'' : Heap} {b : Nat} (o : Only h h' b) (p : Only h' h'' b) : Only h h'' b := ⟨p.1.trans o.1, fun i hi => (p.2 i hi).trans (o.2 i hi)⟩
end
def Rd {α : Type} (sz : Nat) (E : Heap → α → List Value → Prop) (h : Heap) (A : Option Addr) (l : List α) : Prop :=
  ∀ i (hi : i < l.length), ∃ a cs, A = some a ∧ cellsH h (a.add (i * sz)) 0 sz = some cs ∧ E h l[i] cs
def eInt (k : IntKind) (_ : Heap) (x : Int) (cs : List Value) : Prop := cs = [.int k x]
def eStr (_ : Heap) (x : ByteArray) (cs : List Value) : Prop := cs = [.string x]
def eRow {α : Type} (sz : Nat) (E : Heap → α → List Value → Prop) (h : Heap) (l : List α) (cs : List Value) : Prop := ∃ A c, cs = [.slice A l.length c] ∧ l.length ≤ c ∧ Rd sz E h A l
section
variable {α : Type} {sz : Nat} {E : Heap → α → List Value → Prop} {h h' : Heap} {A : Option Addr} {l : List α}
theorem Rd.nil : Rd sz E h A ([] : List α) := fun i hi => by cases hi
end
theorem CallF.of {P : Program} {f : FuncId} {first captured : Array Value} {args : List Value} {h : Heap} {R : Value → Heap → Prop} (l : List Value) (hc : calleeOk P f = true) (hl : first.toList ++ args ++ captured.toList = l) (hr : Run P f l.toArray h R) :
    CallF P (.func (.func f) first captured) args h R := by
  unfold CallF
  simp only [hc, hl]
  exact hr
theorem newH_in {h : Heap} {c : Array Value} {t : TypeId} {K : Heap → Prop} (H : ∀ h', Blk h' h.size c.toList t → Ext h h' → h'.size = h.size + 1 → K h') : newH h (.cells c t) K :=
  H _ (Blk.new _ _ _) (Ext.push _ _) (by simp)
theorem CallF.mono {P : Program} {v : Value} {args : List Value} {h : Heap} {R R' : Value → Heap → Prop} (hh : CallF P v args h R) (hr : ∀ v h, R v h → R' v h) : CallF P v args h R' := by
  unfold CallF at hh ⊢
  split at hh
  · split at hh
    · exact hh.mono hr
    · exact ExtF.mono hh hr
  · exact hh.elim
def idxOf {α : Type} (p : α → Bool) (l : List α) : Int := match l.findIdx? p with | some i => i | none => -1
theorem idxOf_ge {α : Type} (p : α → Bool) (l : List α) : decide (idxOf p l ≥ 0) = l.any p := by
  unfold idxOf
  cases h : l.findIdx? p with
  | none =>
    rw [List.findIdx?_eq_none_iff] at h
    have : l.any p = false := by simpa using h
    simp [this]
  | some i =>
    have hs : (l.findIdx? p).isSome = true := by rw [h]; rfl
    rw [List.findIdx?_isSome] at hs
    simp [hs]
end Go.Hw

end
section
namespace Go.Hw
open Go Go.RowKit
theorem below_of {W W' : World} (e : Ext W.heap W'.heap) (s : Same W W') : Below W.heap.size W W' := ⟨s.os, s.tape, s.output, e.1, e.2⟩
section
variable {H : Type} {enc : TypeId × Value → H} {P : Program} {W : World}
theorem cells_of {base : Nat} {a : Addr} {n : Nat} {cs : List Value} (hc : W.cells? base a n = some cs) : cellsH W.heap a 0 n = some cs := by
  obtain ⟨_, hlen, hget⟩ := World.cells?_some hc
  have key : ∀ (m i : Nat), i + m = n → cellsH W.heap a i m = some (cs.drop i) := by
    intro m
    induction m with
    | zero =>
      intro i hi
      rw [List.drop_eq_nil_of_le (by omega)]
      rfl
    | succ m ih =>
      intro i hi
      have hlt : i < cs.length := by omega
      have h1 : cellH W.heap (a.add i) = some cs[i] := (hget i (by omega)).trans (List.getElem?_eq_getElem hlt)
      simp only [cellsH, h1, ih (i + 1) (by omega)]
      rw [List.drop_eq_getElem_cons hlt]
  simpa using key n 0 (by omega)
def Tells {α : Type} (enc : TypeId × Value → H) (P : Program) (W : World) (t : TypeId) (E : Heap → α → List Value → Prop) (Q : α → Prop) : Prop :=
  ∀ (fuel : Nat) (cs : List Value) (x : DataW H × List MemPlace), DataW.trod enc P W 0 (fun _ => true) true fuel t cs = some x → (x.1.weights P t).all (· ≤ reachBytes) = true → ∃ a, E W.heap a cs ∧ Q a
theorem tells_int {t : TypeId} {k : IntKind} (hu : P.underlying t = some (.int k)) : Tells enc P W t (eInt k) (fun x => (Lit.int k x).wf = true) := by
  intro fuel cs x h _
  obtain ⟨n, h1, _, h3⟩ := DataW.trod_int hu h
  exact ⟨n, h1, h3⟩
theorem tells_str {t : TypeId} (hu : P.underlying t = some .string) : Tells enc P W t eStr (fun s => s.size ≤ reachBytes) := by
  intro fuel cs x h hw
  obtain ⟨s, h1, h2, _⟩ := DataW.trod_string hu h
  refine ⟨s, h1, ?_⟩
  rw [h2] at hw
  simp only [DataW.weights, List.all_cons, List.all_nil, Bool.and_true, decide_eq_true_eq] at hw
  simpa using hw
theorem weightsAll_all {e : TypeId} : ∀ (l : List (DataW H)), (DataW.weightsAll P e l).all (· ≤ reachBytes) = true → ∀ d ∈ l, (d.weights P e).all (· ≤ reachBytes) = true := by
  intro l
  induction l with
  | nil => intro _ d hd; cases hd
  | cons x l ih =>
    intro h d hd
    simp only [DataW.weightsAll, List.all_append, Bool.and_eq_true] at h
    rcases List.mem_cons.1 hd with rfl | hd
    · exact h.1
    · exact ih h.2 d hd
theorem list_choose {α : Type} {n : Nat} {p : Nat → α → Prop} (h : ∀ i, i < n → ∃ x, p i x) : ∃ l : List α, l.length = n ∧ ∀ i (hi : i < l.length), p i l[i] := by
  induction n with
  | zero => exact ⟨[], rfl, fun i hi => by cases hi⟩
  | succ n ih =>
    obtain ⟨l, h1, h2⟩ := ih fun i hi => h i (by omega)
    obtain ⟨x, hx⟩ := h n (by omega)
    refine ⟨l ++ [x], by simp [h1], fun i hi => ?_⟩
    rw [List.length_append, List.length_singleton] at hi
    by_cases hin : i < l.length
    · rw [List.getElem_append_left hin]; exact h2 i hin
    · have : i = l.length := by omega
      subst this
      rw [List.getElem_append_right (Nat.le_refl _)]
      simp only [Nat.sub_self, List.getElem_cons_zero]
      rw [h1]; exact hx
theorem tells_slice {α : Type} {t e : TypeId} {sz B : Nat} {E : Heap → α → List Value → Prop} {Q : α → Prop} (hu : P.underlying t = some (.slice e)) (hc : P.cellsOf e = sz) (hB : P.bytesOf e = B) (he : Tells enc P W e E Q) :
    Tells enc P W t (eRow sz E) (fun l => l.length * B ≤ reachBytes ∧ ∀ a ∈ l, Q a) := by
  intro fuel cs x h hw
  rcases DataW.trod_slice hu h with ⟨h1, h2⟩ | ⟨a, len, cap, elems, rest, n, _, h1, h2, _, hl, hm, hlen, hel, _, _⟩
  · exact ⟨[], ⟨none, 0, h1, Nat.le_refl _, Rd.nil⟩, by simp, fun a ha => by cases ha⟩
  · rw [h2] at hw
    simp only [DataW.weights, hu, List.all_cons, List.all_append, Bool.and_eq_true, decide_eq_true_eq] at hw
    obtain ⟨hw1, hw2, _⟩ := hw
    have hall := weightsAll_all _ hw2
    obtain ⟨l, h3, h4⟩ := list_choose (n := len) (p := fun i x => (∃ cs', cellsH W.heap (a.add (i * sz)) 0 sz = some cs' ∧ E W.heap x cs') ∧ Q x) (fun i hi => by
      have h5 := hel i hi
      have hlt : i < elems.length := by omega
      rw [List.getElem?_eq_getElem hlt] at h5
      obtain ⟨cs', h6, h7⟩ := Option.bind_eq_some_iff.1 h5
      obtain ⟨x, h8, h9⟩ := he _ _ _ h7 (hall _ (List.mem_map.2 ⟨_, List.getElem_mem hlt, rfl⟩))
      rw [hc] at h6
      exact ⟨x, ⟨cs', cells_of h6, h8⟩, h9⟩)
    refine ⟨l, ⟨some a, cap, by rw [h1, h3], by omega, fun i hi => ?_⟩, ?_, fun x hx => ?_⟩
    · obtain ⟨⟨cs', h5, h6⟩, _⟩ := h4 i hi
      exact ⟨a, cs', rfl, h5, h6⟩
    · rw [hB] at hw1
      have : l.length ≤ (List.map (·.1) elems).length + (List.map (·.1) rest).length := by simp; omega
      exact Nat.le_trans (Nat.mul_le_mul_right _ this) hw1
    · obtain ⟨i, hi, rfl⟩ := List.getElem_of_mem hx
      exact (h4 i hi).2
end
theorem wf_i64 {x : Int} (h : (Lit.int .i64 x).wf = true) : -9223372036854775808 ≤ x ∧ x ≤ 9223372036854775807 := by
  simpa [Lit.wf, IntKind.min, IntKind.max, IntKind.signed, IntKind.bits] using h
end Go.Hw

end
section
namespace Go.Hw
open Go
theorem cellsH_length {h : Heap} {a : Addr} : ∀ {n i : Nat} {cs : List Value}, cellsH h a i n = some cs → cs.length = n := by
  intro n
  induction n with
  | zero => intro i cs hc; simp only [cellsH, Option.some.injEq] at hc; subst hc; rfl
  | succ n ih =>
    intro i cs hc
    simp only [cellsH] at hc
    split at hc
    · split at hc
      · rename_i vs hv; cases hc; simp [ih hv]
      · cases hc
    · cases hc
def Flat (v : Value) : Prop := oneCell v True
theorem Blk.stH {b : Nat} {t : TypeId} : ∀ (xs : List Value) {h : Heap} {p q r : List Value} {a : Addr} {i : Nat}, Blk h b (p ++ q ++ r) t → a.block = b → a.spot = none → a.off + i = p.length → q.length = xs.length → (∀ v ∈ xs, Flat v) →
    ∃ h', stH h a xs i = some h' ∧ Blk h' b (p ++ xs ++ r) t ∧ Only h h' b := by
  intro xs
  induction xs with
  | nil =>
    intro h p q r a i hb h1 h2 h3 h4 h5
    rw [List.length_eq_zero_iff.1 h4] at hb
    exact ⟨h, rfl, hb, .refl _ _⟩
  | cons v xs ih =>
    intro h p q r a i hb h1 h2 h3 h4 h5
    obtain ⟨u, q', rfl⟩ : ∃ u q', q = u :: q' := by cases q with | nil => cases h4 | cons u q' => exact ⟨u, q', rfl⟩
    have hoff : (a.add i).off = p.length := by rw [add_off, h3]
    obtain ⟨h', s1, b1, o1⟩ := hb.st (a := a.add i) (v := v) (by rw [add_block, h1]) (add_spot _ h2) (by rw [hoff]; simp) (h5 v (List.mem_cons_self ..))
    rw [hoff] at b1
    have e : (p ++ u :: q' ++ r).set p.length v = (p ++ [v]) ++ q' ++ r := by
      rw [List.append_assoc, List.set_append_right _ _ (Nat.le_refl _)]; simp
    rw [e] at b1
    obtain ⟨h'', s2, b2, o2⟩ := ih (p := p ++ [v]) (q := q') (r := r) (a := a) (i := i + 1) b1 h1 h2 (by simp; omega) (by simpa using h4) (fun x hx => h5 x (List.mem_cons_of_mem _ hx))
    refine ⟨h'', ?_, by simpa using b2, o1.trans o2⟩
    simp only [Go.Hw.stH, s1, s2]
theorem zcells_size (z : Array Value) (n : Nat) : (zcells z n).size = n * z.size := by
  unfold zcells Builtin.zeroCells
  simp
end Go.Hw

end
section
namespace Go.Hw
open Go Go.RowKit
theorem cellsH_get {h : Heap} {a : Addr} : ∀ {n i : Nat} {cs : List Value} {k : Nat} {v : Value}, cellsH h a i n = some cs → cs[k]? = some v → cellH h (a.add (i + k)) = some v := by
  intro n
  induction n with
  | zero => intro i cs k v hc hv; simp only [cellsH, Option.some.injEq] at hc; subst hc; cases hv
  | succ n ih =>
    intro i cs k v hc hv
    simp only [cellsH] at hc
    split at hc
    · rename_i u hu
      split at hc
      · rename_i vs hvs
        cases hc
        cases k with
        | zero => cases hv; exact hu
        | succ k => rw [show i + (k + 1) = i + 1 + k by omega]; exact ih hvs (by simpa using hv)
      · cases hc
    · cases hc
section
variable {α : Type} {sz : Nat} {E : Heap → α → List Value → Prop} {h h' : Heap} {A : Option Addr} {l : List α}
theorem cellsH_append {h : Heap} {a : Addr} : ∀ {m i n : Nat} {cs ds : List Value}, cellsH h a i m = some cs → cellsH h a (i + m) n = some ds → cellsH h a i (m + n) = some (cs ++ ds) := by
  intro m
  induction m with
  | zero => intro i n cs ds h1 h2; simp only [cellsH, Option.some.injEq] at h1; subst h1; simpa using h2
  | succ m ih =>
    intro i n cs ds h1 h2
    simp only [cellsH] at h1
    split at h1
    · rename_i u hu
      split at h1
      · rename_i vs hvs
        cases h1
        rw [show m + 1 + n = (m + n) + 1 by omega]
        have h3 := ih hvs (n := n) (ds := ds) (by rw [show i + 1 + m = i + (m + 1) by omega]; exact h2)
        simp only [cellsH, hu, h3, List.cons_append]
      · cases h1
    · cases h1
theorem cellsH_shift {h : Heap} {a : Addr} {j : Nat} : ∀ {n i : Nat}, cellsH h (a.add j) i n = cellsH h a (j + i) n := by
  intro n
  induction n with
  | zero => intro i; rfl
  | succ n ih =>
    intro i
    simp only [cellsH, add_add]
    rw [ih, Nat.add_assoc]
end
theorem Blk.stAll {h : Heap} {b : Nat} {c : List Value} {t : TypeId} (hb : Blk h b c t) (l : List Value) (hn : l.length = c.length) (hf : ∀ v ∈ l, Flat v) :
    ∃ h', Go.Hw.stH h ⟨b, 0, none⟩ l 0 = some h' ∧ Blk h' b l t ∧ Only h h' b := by
  obtain ⟨h', s1, b1, o1⟩ := Blk.stH l (p := []) (q := c) (r := []) (a := ⟨b, 0, none⟩) (i := 0) (by simpa using hb) rfl rfl rfl hn.symm hf
  exact ⟨h', s1, by simpa using b1, o1⟩
section
variable {P : Program} {d : Nat} {t : TypeId}
def flatB (P : Program) (t : TypeId) (x y : Value) : Option Bool :=
  match P.underlying t, x, y with
  | some (.int _), .int k a, .int k' b => match kindB k k' with | true => some (a == b) | false => none
  | some .bool, .bool a, .bool b => some (a == b)
  | some .string, .string a, .string b => some (a == b)
  | _, _, _ => none
end
section
variable {H : Type} {enc : TypeId × Value → H} {P : Program} {W : World}
def TellsF {α : Type} (enc : TypeId × Value → H) (P : Program) (W : World) (T o : Nat) (fs : List (TypeId × Nat)) (F : Heap → α → List Value → Prop) (Q : α → Prop) : Prop :=
  ∀ (n : Nat) (cs : List Value) (xs : List (DataW H × List MemPlace)), cs.length = T → xs.length = fs.length → (∀ (i : Nat) (f : TypeId × Nat), fs[i]? = some f → DataW.trod enc P W 0 (fun _ => true) true n f.1 ((cs.drop f.2).take (P.cellsOf f.1)) = xs[i]?) →
    (DataW.weightsEach P (fs.map (·.1)) (xs.map (·.1))).all (· ≤ reachBytes) = true → ∃ b, F W.heap b (cs.drop o) ∧ Q b
def eNil (_ : Heap) (_ : Unit) (cs : List Value) : Prop := cs = []
def eCons {α β : Type} (E : Heap → α → List Value → Prop) (F : Heap → β → List Value → Prop) (h : Heap) (x : α × β) (cs : List Value) : Prop := ∃ c1 c2, cs = c1 ++ c2 ∧ E h x.1 c1 ∧ F h x.2 c2
theorem tf_nil {T : Nat} : TellsF enc P W T T [] eNil (fun _ => True) := fun n cs xs hl _ _ _ => ⟨(), by unfold eNil; rw [List.drop_eq_nil_of_le (by omega)], trivial⟩
theorem tf_cons {α β : Type} {E : Heap → α → List Value → Prop} {F : Heap → β → List Value → Prop} {Q : α → Prop} {Q' : β → Prop} {T o s : Nat} {f : TypeId} {fs : List (TypeId × Nat)} (hs : P.cellsOf f = s)
    (he : Tells enc P W f E Q) (hf : TellsF enc P W T (o + s) fs F Q') : TellsF enc P W T o ((f, o) :: fs) (eCons E F) (fun x => Q x.1 ∧ Q' x.2) := by
  intro n cs xs hl hx hi hw
  cases xs with
  | nil => cases hx
  | cons x xs =>
    have h0 := hi 0 (f, o) rfl
    simp only [hs] at h0
    simp only [List.map_cons, DataW.weightsEach, List.all_append, Bool.and_eq_true] at hw
    obtain ⟨a, ha, qa⟩ := he n _ _ h0 hw.1
    obtain ⟨b, hb, qb⟩ := hf n cs xs hl (by simpa using hx) (fun i g hg => by simpa using hi (i + 1) g hg) hw.2
    exact ⟨(a, b), ⟨_, _, by rw [← List.drop_drop, List.take_append_drop], ha, hb⟩, qa, qb⟩
def shapeOf (P : Program) (t : TypeId) : Option (List (TypeId × Nat)) := match P.underlying t with | some (.struct fs) => some (fs.toList.map fun f => (f.type, f.offset)) | _ => none
theorem tells_struct {α : Type} {F : Heap → α → List Value → Prop} {Q : α → Prop} {t : TypeId} {fs : List (TypeId × Nat)} {T : Nat} (hs : shapeOf P t = some fs) (hc : P.cellsOf t = T) (hf : TellsF enc P W T 0 fs F Q) : Tells enc P W t F Q := by
  intro fuel cs x h hw
  unfold shapeOf at hs
  split at hs
  · rename_i fa hu
    cases hs
    obtain ⟨xs, n, _, rfl, hl, hlen, hi⟩ := DataW.trod_struct hu h
    simp only [DataW.weights, hu] at hw
    obtain ⟨b, hb, qb⟩ := hf n cs xs (by rw [hl, hc]) (by simpa using hlen) (fun i f hif => by
      rw [List.getElem?_map, Option.map_eq_some_iff] at hif
      obtain ⟨g, hg, rfl⟩ := hif
      exact hi i g (by simpa using hg)) (by rw [List.map_map]; exact hw)
    exact ⟨b, by simpa using hb, qb⟩
  · cases hs
theorem tells_map {α β : Type} {E : Heap → α → List Value → Prop} {F : Heap → β → List Value → Prop} {Q : α → Prop} {Q' : β → Prop} {t : TypeId} (he : Tells enc P W t E Q) (hm : ∀ a cs, E W.heap a cs → Q a → ∃ b, F W.heap b cs ∧ Q' b) : Tells enc P W t F Q' :=
  fun fuel cs x h hw => let ⟨a, ha, qa⟩ := he fuel cs x h hw; hm a cs ha qa
theorem okWide_agg_of {t : TypeId} {fs : List (TypeId × Nat)} {v : Value} {r : Reach} {base : Nat} (hs : shapeOf P t = some fs) (h : Value.okWide P W r base t v) : ∃ cs : List Value, v = .agg cs.toArray := by
  unfold shapeOf at hs
  split at hs
  · rename_i fa hu
    simp only [Value.okWide, hu] at h
    cases v <;> simp_all
    rename_i xs
    exact ⟨xs.toList, by simp⟩
  · cases hs
end
end Go.Hw

end
section
namespace Go.Hw
open Go
def MapB {α : Type} (kv : α → Value) (h : Heap) (m : Nat) (es : List (α × Value)) : Prop :=
  ∃ (e : Array MapEntry) (clock : Nat), h[m]? = some (.map e clock) ∧ e.toList.map (fun x => (x.key, x.val)) = es.map fun x => (kv x.1, x.2)
section
variable {α : Type} {kv : α → Value} {h h' : Heap} {m : Nat} {es : List (α × Value)}
theorem MapB.lt (hb : MapB kv h m es) : m < h.size := by
  obtain ⟨e, c, h1, _⟩ := hb
  exact (Array.getElem?_eq_some_iff.1 h1).1
variable {P : Program} {t : TypeId}
theorem gen_makeMap {K : Value → Heap → Prop} (hk : ∀ h', MapB kv h' h.size [] → Ext h h' → h'.size = h.size + 1 → K (.map (some h.size)) h') : Gen P (Instr.makeMap t none) h K :=
  hk _ ⟨#[], 0, by simp, rfl⟩ (Ext.push _ _) (by simp)
theorem hwp_getObj {r : Nat} {o : Obj} {K : Obj → Heap → Prop} (h1 : h[r]? = some o) (h2 : ∀ c e f, o ≠ .cells c e f) (hk : K o h) : Hwp P (getObj r) h K := ⟨o, h1, h2, hk⟩
theorem hwp_setObj {r : Nat} {o o' : Obj} {K : Unit → Heap → Prop} (h1 : h[r]? = some o') (h2 : ∀ c e f, o' ≠ .cells c e f) (hk : K () (h.setIfInBounds r o)) : Hwp P (setObj r o) h K := ⟨o', h1, h2, hk⟩
def mget {α : Type} [DecidableEq α] (es : List (α × Value)) (k : α) : Option Value := (es.find? fun x => decide (k = x.1)).map (·.2)
structure KeyOk (P : Program) (t : TypeId) {α : Type} [DecidableEq α] (kv : α → Value) (elem : TypeId) : Prop where
  key : ∃ key kind, P.underlying t = some (.map key elem) ∧ P.underlying key = some kind ∧ (∀ b n v h K, K () h → Hwp P (Instr.checkKey b (n + 1) key (kv v)) h K) ∧ ∀ a b, Instr.sameNow kind (kv a) (kv b) = some (decide (a = b))
  same : ∀ a, Instr.sameBits 10000 (kv a) (kv a) = true
variable [DecidableEq α]
theorem findNow_spec {kind : TypeDesc} (hs : ∀ a b, Instr.sameNow kind (kv a) (kv b) = some (decide (a = b))) (k : α) : ∀ (l : List MapEntry) (es : List (α × Value)) (i : Nat), l.map (fun x => (x.key, x.val)) = es.map (fun x => (kv x.1, x.2)) →
    ∃ r, Instr.findNow kind (kv k) l i = some r ∧ r.map (·.2) = mget es k ∧ (∀ j v, r = some (j, v) → i ≤ j ∧ ∃ x, es[j - i]? = some (k, x) ∧ ∀ q, q < j - i → ∀ y, es[q]? = some y → y.1 ≠ k) := by
  intro l
  induction l with
  | nil =>
    intro es i he
    cases es with
    | nil => exact ⟨none, rfl, rfl, fun j v h => by cases h⟩
    | cons x es => cases he
  | cons e l ih =>
    intro es i he
    cases es with
    | nil => cases he
    | cons x es =>
      simp only [List.map_cons, List.cons.injEq, Prod.mk.injEq] at he
      obtain ⟨⟨hkey, hval⟩, he⟩ := he
      unfold Instr.findNow
      rw [hkey, hs]
      by_cases hkx : k = x.1
      · rw [decide_eq_true hkx]
        refine ⟨_, rfl, ?_, fun j v h => ?_⟩
        · unfold mget
          rw [List.find?_cons_of_pos (by simpa using hkx)]
          simp [hval]
        · cases h
          refine ⟨Nat.le_refl _, x.2, ?_, fun q hq => by omega⟩
          simp [hkx]
      · rw [decide_eq_false hkx]
        obtain ⟨r, h1, h2, h3⟩ := ih es (i + 1) he
        refine ⟨r, h1, ?_, fun j v h => ?_⟩
        · rw [h2]; unfold mget
          rw [List.find?_cons_of_neg (by simpa using hkx)]
        · obtain ⟨h4, y, h5, h6⟩ := h3 j v h
          refine ⟨by omega, y, ?_, fun q hq z hz => ?_⟩
          · rw [show j - i = (j - (i + 1)) + 1 by omega]; simpa using h5
          · cases q with
            | zero => simp at hz; subst hz; exact fun hh => hkx hh.symm
            | succ q => exact h6 q (by omega) z (by simpa using hz)
theorem gen_lookup {elem : TypeId} {z : Value} (ok : KeyOk P t kv elem) (hb : MapB kv h m es) (k : α) (hz : zeroOf P elem = some z) {K : Value → Heap → Prop} (hk : K ((mget es k).getD z) h) : Gen P (Instr.lookup t (.map (some m)) (kv k) false) h K := by
  obtain ⟨key, kind, hu, hkind, hck, hs⟩ := ok.key
  obtain ⟨e, clock, h1, h2⟩ := hb
  unfold Gen Instr.lookup
  refine hwp_bind (hwp_underlying hu ?_)
  refine hwp_bind (hwp_getObj h1 (fun _ _ _ hh => by cases hh) ?_)
  refine hwp_bind (hwp_pure (P := P) ?_)
  refine hwp_bind (hck _ _ _ _ _ ?_)
  unfold Instr.findKey
  refine hwp_bind (hwp_bind (hwp_underlying hkind ?_))
  obtain ⟨r, h3, h4, _⟩ := findNow_spec hs k e.toList es 0 h2
  rw [h3]
  cases r with
  | none =>
    have : mget es k = none := by rw [← h4]; rfl
    rw [this] at hk
    exact hwp_pure (P := P) (hwp_bind (hwp_zero hz (hwp_pure (P := P) (hwp_pure (P := P) hk))))
  | some iv =>
    have : mget es k = some iv.2 := by rw [← h4]; rfl
    rw [this] at hk
    exact hwp_pure (P := P) (hwp_pure (P := P) (hwp_pure (P := P) hk))
def mset : List (α × Value) → α → Value → List (α × Value)
  | [], k, v => [(k, v)]
  | x :: es, k, v => if k = x.1 then (k, v) :: es else x :: mset es k v
theorem findNow_set {kind : TypeDesc} (hs : ∀ a b, Instr.sameNow kind (kv a) (kv b) = some (decide (a = b))) (k : α) (v : Value) : ∀ (l : List MapEntry) (es : List (α × Value)) (i : Nat), l.map (fun x => (x.key, x.val)) = es.map (fun x => (kv x.1, x.2)) →
    ∃ r, Instr.findNow kind (kv k) l i = some r ∧ match r with
      | none => mset es k v = es ++ [(k, v)]
      | some (j, _) => i ≤ j ∧ (∃ e, l[j - i]? = some e ∧ e.key = kv k) ∧ (l.modify (j - i) fun e => { e with key := kv k, val := v }).map (fun x => (x.key, x.val)) = (mset es k v).map (fun x => (kv x.1, x.2)) := by
  intro l
  induction l with
  | nil =>
    intro es i he
    cases es with
    | nil => exact ⟨none, rfl, rfl⟩
    | cons x es => cases he
  | cons e l ih =>
    intro es i he
    cases es with
    | nil => cases he
    | cons x es =>
      simp only [List.map_cons, List.cons.injEq, Prod.mk.injEq] at he
      obtain ⟨⟨hkey, hval⟩, he⟩ := he
      unfold Instr.findNow
      rw [hkey, hs]
      by_cases hkx : k = x.1
      · rw [decide_eq_true hkx]
        refine ⟨_, rfl, Nat.le_refl _, ⟨e, by simp, by rw [hkey, hkx]⟩, ?_⟩
        unfold mset
        rw [if_pos hkx, Nat.sub_self]
        simp [he]
      · rw [decide_eq_false hkx]
        obtain ⟨r, h1, h2⟩ := ih es (i + 1) he
        refine ⟨r, h1, ?_⟩
        unfold mset
        rw [if_neg hkx]
        cases r with
        | none => simp only at h2 ⊢; rw [h2]; rfl
        | some jv =>
          simp only at h2 ⊢
          obtain ⟨h3, ⟨e', h4, h5⟩, h6⟩ := h2
          have e1 : jv.1 - i = (jv.1 - (i + 1)) + 1 := by omega
          refine ⟨by omega, ⟨e', by rw [e1]; simpa using h4, h5⟩, ?_⟩
          rw [e1, List.modify_succ_cons, List.map_cons, List.map_cons, h6, hkey, hval]
theorem gen_mapUpdate {elem : TypeId} (ok : KeyOk P t kv elem) (hb : MapB kv h m es) (k : α) (v : Value) {K : Unit → Heap → Prop} (hk : ∀ h', MapB kv h' m (mset es k v) → Only h h' m → K () h') : Hwp P (Instr.mapUpdate t (.map (some m)) (kv k) v) h K := by
  have hlt := hb.lt
  obtain ⟨key, kind, hu, hkind, hck, hs⟩ := ok.key
  obtain ⟨e, clock, h1, h2⟩ := hb
  have only : ∀ o, Only h (h.setIfInBounds m o) m := fun o => ⟨by simp, fun i hi => by rw [Array.getElem?_setIfInBounds, if_neg (fun hh => hi hh.symm)]⟩
  have at' : ∀ o, (h.setIfInBounds m o)[m]? = some o := fun o => by rw [Array.getElem?_setIfInBounds, if_pos rfl, if_pos hlt]
  unfold Instr.mapUpdate
  refine hwp_bind (hwp_underlying hu ?_)
  refine hwp_bind (hwp_getObj h1 (fun _ _ _ hh => by cases hh) ?_)
  refine hwp_bind (hck _ _ _ _ _ ?_)
  unfold Instr.findKey
  refine hwp_bind (hwp_bind (hwp_underlying hkind ?_))
  obtain ⟨r, h3, h4⟩ := findNow_set hs k v e.toList es 0 h2
  rw [h3]
  cases r with
  | none =>
    simp only at h4
    refine hwp_pure (P := P) (hwp_setObj h1 (fun _ _ _ hh => by cases hh) (hk _ ⟨_, _, at' _, ?_⟩ (only _)))
    rw [h4, Array.toList_push, List.map_append, List.map_append, h2]; rfl
  | some jv =>
    obtain ⟨j, x⟩ := jv
    simp only at h4
    obtain ⟨_, ⟨e', h5, h6⟩, h7⟩ := h4
    refine hwp_pure (P := P) ?_
    have hkey : ((e[j]?).map (·.key)).getD (kv k) = kv k := by
      have : e[j]? = some e' := by simpa using h5
      rw [this]; exact h6
    show Hwp P (Instr.keyThatStays (((e[j]?).map (·.key)).getD (kv k)) (kv k) >>= _) h K
    rw [hkey]
    refine hwp_bind ?_
    unfold Instr.keyThatStays
    rw [ok.same, if_pos rfl]
    refine hwp_pure (P := P) (hwp_setObj h1 (fun _ _ _ hh => by cases hh) (hk _ ⟨_, _, at' _, ?_⟩ (only _)))
    rw [Array.toList_modify]
    exact h7
end
theorem ba_toList {a b : ByteArray} (h : a.toList = b.toList) : a = b := by
  rw [ByteArray.toList_eq, ByteArray.toList_eq] at h
  obtain ⟨⟨x⟩⟩ := a
  obtain ⟨⟨y⟩⟩ := b
  have : x = y := h
  rw [this]
section
variable {P : Program} {t : TypeId}
theorem keyOk_int {key elem : TypeId} {k : IntKind} (hu : P.underlying t = some (.map key elem)) (hk : P.underlying key = some (.int k)) : KeyOk P t (fun n : Int => Value.int k n) elem where
  key := ⟨key, .int k, hu, hk, fun b n v h K hh => by
      unfold Instr.checkKey
      exact hwp_bind (hwp_underlying hk hh), fun a b => by
      show (if k = k then some (a == b) else none) = _
      rw [if_pos rfl]
      by_cases h : a = b
      · rw [decide_eq_true h, h]; simp
      · rw [decide_eq_false h]; simp [h]⟩
  same := fun a => by simp [Instr.sameBits]
end
end Go.Hw

end
section
namespace Go.Hw
open Go
end Go.Hw

end
section
namespace Go.Hw
open Go
end Go.Hw

end
section
namespace Go.Hw
open Go
def dead : Obj := .cells #[] 0 (0, 0)
def Live (m : Heap) (b : Nat) : Prop := ∃ o, m[b]? = some o ∧ o ≠ dead
def Sub (m h : Heap) : Prop := ∀ (b : Nat) (o : Obj), m[b]? = some o → o ≠ dead → h[b]? = some o
abbrev No : Nat → Prop := fun _ => False
section
variable {m m' h h' k h0 m0 : Heap} {b : Nat} {W W' : Nat → Prop}
theorem Sub.refl (h : Heap) : Sub h h := fun _ _ h _ => h
theorem Sub.trans (s : Sub m h) (t : Sub h k) : Sub m k := fun b o h1 h2 => t b o (s b o h1 h2) h2
theorem Sub.lt (s : Sub m h) (l : Live m b) : b < h.size := by
  obtain ⟨o, h1, h2⟩ := l
  exact (Array.getElem?_eq_some_iff.1 (s b o h1 h2)).1
theorem Sub.ext (s : Sub m h) (e : Ext h h') : Sub m h' := fun b o h1 h2 => by rw [e.2 b (s.lt ⟨o, h1, h2⟩)]; exact s b o h1 h2
theorem Sub.cell (s : Sub m h) {a : Addr} {v : Value} (hc : cellH m a = some v) : cellH h a = some v := by
  unfold cellH at hc
  split at hc
  · rename_i c e f hm
    have hne : (Obj.cells c e f) ≠ dead := by
      intro hd
      unfold dead at hd
      cases hd
      split at hc <;> simp at hc
    unfold cellH
    rw [s _ _ hm hne]; exact hc
  · cases hc
theorem Sub.cells (s : Sub m h) {a : Addr} : ∀ (n i : Nat) {vs : List Value}, cellsH m a i n = some vs → cellsH h a i n = some vs := by
  intro n
  induction n with
  | zero => intro i vs hc; exact hc
  | succ n ih =>
    intro i vs hc
    simp only [cellsH] at hc ⊢
    split at hc
    · rename_i v hv
      rw [s.cell hv]
      split at hc
      · rename_i us hu
        rw [ih _ hu]; exact hc
      · cases hc
    · cases hc
theorem Sub.blk (s : Sub m h) {c : List Value} {t : TypeId} (hb : Blk m b c t) (hc : c ≠ []) : Blk h b c t := by
  unfold Blk at *
  refine s _ _ hb ?_
  intro hd
  unfold dead at hd
  cases c with
  | nil => exact hc rfl
  | cons x c => simp at hd
end
structure Tell {α : Type} (sz : Nat) (E : Heap → α → List Value → Prop) : Prop where
  mono : ∀ m h x cs, Sub m h → E m x cs → E h x cs
  len : ∀ h x cs, E h x cs → cs.length = sz
  flat : ∀ h x cs, E h x cs → ∀ v ∈ cs, Flat v
theorem Flats.nil : ∀ v ∈ ([] : List Value), Flat v := fun v hv => by cases hv
theorem Flats.cons {x : Value} {l : List Value} (h : Flat x) (t : ∀ v ∈ l, Flat v) : ∀ v ∈ x :: l, Flat v := fun v hv => by
  rcases List.mem_cons.1 hv with rfl | hv
  · exact h
  · exact t v hv
theorem tell_int (k : IntKind) : Tell 1 (eInt k) := ⟨fun _ _ _ _ _ h => h, fun _ _ _ h => by rw [h]; rfl, fun _ _ _ h => by rw [h]; exact Flats.cons trivial Flats.nil⟩
theorem tell_str : Tell 1 eStr := ⟨fun _ _ _ _ _ h => h, fun _ _ _ h => by rw [h]; rfl, fun _ _ _ h => by rw [h]; exact Flats.cons trivial Flats.nil⟩
section
variable {α : Type} {sz : Nat} {E : Heap → α → List Value → Prop} {m m' h h' : Heap} {A : Option Addr} {l : List α} {c : Nat}
theorem Rd.sub (r : Rd sz E m A l) (T : Tell sz E) (s : Sub m h) : Rd sz E h A l := fun i hi =>
  let ⟨a, cs, h1, h2, h3⟩ := r i hi
  ⟨a, cs, h1, s.cells _ _ h2, T.mono _ _ _ _ s h3⟩
theorem tell_row (T : Tell sz E) : Tell 1 (eRow sz E) := ⟨fun _ _ _ _ s ⟨A, c, h1, h2, h3⟩ => ⟨A, c, h1, h2, h3.sub T s⟩, fun _ _ _ ⟨A, c, h1, _, _⟩ => by rw [h1]; rfl, fun _ _ _ ⟨A, c, h1, _, _⟩ => by rw [h1]; exact Flats.cons trivial Flats.nil⟩
end
structure St (W : Nat → Prop) (h0 m0 h m : Heap) : Prop where
  up : Sub m0 m
  s : Sub m h
  size : h0.size ≤ h.size
  fr : ∀ b, b < h0.size → ¬ W b → h[b]? = h0[b]?
  lv : ∀ b, b < h0.size → Live m b → Live m0 b ∨ W b
def fb (b0 b : Nat) : Prop := b = b0
def fp (A : Option Addr) (c : Nat) (b : Nat) : Prop := c ≠ 0 ∧ ∃ a, A = some a ∧ a.block = b
def Dj (F G : Nat → Prop) : Prop := ∀ b, F b → G b → False
section
variable {m m' h h' h0 m0 : Heap} {b b' : Nat} {W W' F G G' : Nat → Prop}
theorem Dj.symm (d : Dj F G) : Dj G F := fun b h1 h2 => d b h2 h1
theorem Dj.no : Dj No F := fun _ h _ => h
theorem St.refl (s : Sub m h) : St W h m h m := ⟨.refl _, s, Nat.le_refl _, fun _ _ _ => rfl, fun _ _ h => .inl h⟩
theorem St.of_ext (s : Sub m h) (e : Ext h h') : St W h m h' m := ⟨.refl _, s.ext e, e.1, fun b hb _ => e.2 b hb, fun _ _ h => .inl h⟩
theorem St.ext (S : St No h m h' m') : Ext h h' := ⟨S.size, fun b hb => S.fr b hb (fun h => h)⟩
theorem St.then (S : St W h0 m0 h m) (T : St W' h m h' m') (hw : ∀ b, b < h.size → W' b → h0.size ≤ b ∨ W b) : St W h0 m0 h' m' where
  up := S.up.trans T.up
  s := T.s
  size := Nat.le_trans S.size T.size
  fr b hb hn := by
    rw [T.fr b (by have := S.size; omega) (fun hw' => (hw b (by have := S.size; omega) hw').elim (fun h => by omega) hn)]
    exact S.fr b hb hn
  lv b hb hl := by
    rcases T.lv b (by have := S.size; omega) hl with h1 | h1
    · exact S.lv b hb h1
    · exact .inr ((hw b (by have := S.size; omega) h1).elim (fun h => by omega) id)
theorem St.grow (S : St W h0 m0 h m) (T : St No h m h' m') : St W h0 m0 h' m' := S.then T fun _ _ h => h.elim
theorem St.notLive (s : Sub m h) : ¬ Live m h.size := fun l => by have := s.lt l; omega
theorem St.only (s : Sub m h) (hn : ¬ Live m b) (o : Only h h' b) : St (fb b) h m h' m where
  up := .refl _
  s i x h1 h2 := by
    rw [o.2 i (fun e => hn (e ▸ ⟨x, h1, h2⟩))]; exact s i x h1 h2
  size := by rw [o.1]; exact Nat.le_refl _
  fr i _ hw := o.2 i hw
  lv i _ hl := .inl hl
end
open Classical in
noncomputable def addV (m h : Heap) (F : Nat → Prop) : Heap := Array.ofFn (n := h.size) fun i => if Live m i.1 ∨ F i.1 then h[i.1] else dead
section
variable {m h : Heap} {b : Nat} {F : Nat → Prop}
theorem addV_get (hb : b < h.size) (hl : Live m b ∨ F b) : (addV m h F)[b]? = h[b]? := by
  unfold addV
  rw [Array.getElem?_ofFn, dif_pos hb, if_pos hl, Array.getElem?_eq_getElem hb]
theorem addV_live (hl : Live (addV m h F) b) : (Live m b ∨ F b) ∧ b < h.size := by
  obtain ⟨o, h1, h2⟩ := hl
  unfold addV at h1
  rw [Array.getElem?_ofFn] at h1
  split at h1
  · rename_i hb
    refine ⟨?_, hb⟩
    by_cases hc : Live m b ∨ F b
    · exact hc
    · rw [if_neg hc] at h1; cases h1; exact (h2 rfl).elim
  · cases h1
theorem addV_sub : Sub (addV m h F) h := fun b o h1 h2 => by
  have := addV_live ⟨o, h1, h2⟩
  rw [← addV_get this.2 this.1]; exact h1
theorem addV_up (s : Sub m h) : Sub m (addV m h F) := fun b o h1 h2 => by
  rw [addV_get (s.lt ⟨o, h1, h2⟩) (.inl ⟨o, h1, h2⟩)]; exact s b o h1 h2
theorem St.settle (s : Sub m h) (F : Nat → Prop) : St F h m h (addV m h F) := ⟨addV_up s, addV_sub, Nat.le_refl _, fun _ _ _ => rfl, fun _ _ hl => (addV_live hl).1⟩
theorem Blk.settle {c : List Value} {t : TypeId} (hb : Blk h b c t) (hF : F b) : Blk (addV m h F) b c t := by
  unfold Blk at *
  rw [addV_get (Blk.lt hb) (.inr hF)]; exact hb
end
section
variable {α : Type} {sz : Nat} {E : Heap → α → List Value → Prop} {m m' h h' h0 m0 : Heap} {A : Option Addr} {l l' : List α} {c : Nat} {cs ds : List Value} {x y : α} {W W' : Nat → Prop}
def CsE (sz : Nat) (E : Heap → α → List Value → Prop) (m : Heap) : List α → List Value → Prop
  | [], cs => cs = []
  | x :: l, cs => ∃ c1 c2, cs = c1 ++ c2 ∧ c1.length = sz ∧ E m x c1 ∧ CsE sz E m l c2
theorem CsE.nil : CsE sz E m ([] : List α) [] := rfl
theorem CsE.cons {c1 : List Value} (h1 : E m x c1) (h2 : c1.length = sz) (h : CsE sz E m l cs) : CsE sz E m (x :: l) (c1 ++ cs) := ⟨c1, cs, rfl, h2, h1, h⟩
theorem CsE.len : ∀ {l : List α} {cs : List Value}, CsE sz E m l cs → cs.length = l.length * sz := by
  intro l
  induction l with
  | nil => intro cs h; rw [show cs = [] from h]; simp
  | cons x l ih => rintro cs ⟨c1, c2, rfl, h1, h2, h3⟩; rw [List.length_append, ih h3, h1, List.length_cons, Nat.succ_mul, Nat.add_comm]
theorem CsE.append : ∀ {l l' : List α} {cs ds : List Value}, CsE sz E m l cs → CsE sz E m l' ds → CsE sz E m (l ++ l') (cs ++ ds) := by
  intro l
  induction l with
  | nil => intro l' cs ds h h'; rw [show cs = [] from h]; exact h'
  | cons x l ih => rintro l' cs ds ⟨c1, c2, rfl, h1, h2, h3⟩ h'; rw [List.append_assoc]; exact ⟨c1, c2 ++ ds, rfl, h1, h2, ih h3 h'⟩
theorem CsE.flat (T : Tell sz E) : ∀ {l : List α} {cs : List Value}, CsE sz E m l cs → ∀ v ∈ cs, Flat v := by
  intro l
  induction l with
  | nil => intro cs h; rw [show cs = [] from h]; exact Flats.nil
  | cons x l ih =>
    rintro cs ⟨c1, c2, rfl, h1, h2, h3⟩ v hv
    rcases List.mem_append.1 hv with hv | hv
    · exact T.flat _ _ _ h2 v hv
    · exact ih h3 v hv
theorem CsE.get : ∀ {l : List α} {cs : List Value} {i : Nat}, CsE sz E m l cs → l[i]? = some y → E m y ((cs.drop (i * sz)).take sz) ∧ i * sz + sz ≤ cs.length := by
  intro l
  induction l with
  | nil => intro cs i h h'; cases h'
  | cons x l ih =>
    rintro cs i ⟨c1, c2, rfl, h1, h2, h3⟩ hy
    cases i with
    | zero =>
      cases hy
      simp only [Nat.zero_mul, List.drop_zero]
      rw [← h1, List.take_left]
      exact ⟨h2, by simp⟩
    | succ i =>
      have := ih (i := i) h3 (by simpa using hy)
      rw [show (i + 1) * sz = c1.length + i * sz by rw [h1, Nat.succ_mul, Nat.add_comm], ← List.drop_drop, List.drop_left, List.length_append]
      exact ⟨this.1, by omega⟩
theorem CsE.set {c1 : List Value} (hx : E m x c1) (hz : c1.length = sz) : ∀ {l : List α} {cs : List Value} {i : Nat}, CsE sz E m l cs → i < l.length → CsE sz E m (l.set i x) (cs.take (i * sz) ++ c1 ++ cs.drop (i * sz + sz)) := by
  intro l
  induction l with
  | nil => intro cs i h h'; cases h'
  | cons y l ih =>
    rintro cs i ⟨d1, d2, rfl, h1, h2, h3⟩ hi
    cases i with
    | zero =>
      simp only [Nat.zero_mul, List.take_zero, List.nil_append, Nat.zero_add, List.set_cons_zero]
      rw [← h1, List.drop_left]
      exact ⟨c1, d2, rfl, by rw [hz, h1], hx, by rw [h1]; exact h3⟩
    | succ i =>
      have := ih (i := i) h3 (by simpa using hi)
      rw [show (i + 1) * sz = d1.length + i * sz by rw [h1, Nat.succ_mul, Nat.add_comm], List.take_length_add_append, show d1.length + i * sz + sz = d1.length + (i * sz + sz) by omega, List.drop_length_add_append, List.set_cons_succ]
      exact ⟨d1, _, by simp [List.append_assoc], h1, h2, this⟩
theorem CsE.drop : ∀ {l : List α} {cs : List Value} (k : Nat), CsE sz E m l cs → CsE sz E m (l.drop k) (cs.drop (k * sz)) := by
  intro l
  induction l with
  | nil => intro cs k h; rw [show cs = [] from h]; simp [CsE]
  | cons x l ih =>
    rintro cs k ⟨c1, c2, rfl, h1, h2, h3⟩
    cases k with
    | zero => rw [Nat.zero_mul, List.drop_zero, List.drop_zero]; exact ⟨c1, c2, rfl, h1, h2, h3⟩
    | succ k =>
      rw [show (k + 1) * sz = c1.length + k * sz by rw [h1, Nat.succ_mul, Nat.add_comm], ← List.drop_drop (l := c1 ++ c2), List.drop_left, List.drop_succ_cons]
      exact ih k h3
theorem CsE.take : ∀ {l : List α} {cs : List Value} (k : Nat), CsE sz E m l cs → CsE sz E m (l.take k) (cs.take (k * sz)) := by
  intro l
  induction l with
  | nil => intro cs k h; rw [show cs = [] from h]; simp [CsE]
  | cons x l ih =>
    rintro cs k ⟨c1, c2, rfl, h1, h2, h3⟩
    cases k with
    | zero => simp [CsE]
    | succ k =>
      rw [show (k + 1) * sz = c1.length + k * sz by rw [h1, Nat.succ_mul, Nat.add_comm], List.take_length_add_append, List.take_succ_cons]
      exact ⟨c1, _, rfl, h1, h2, ih k h3⟩
theorem Rd.tail (r : Rd sz E m A (x :: l)) : ∀ a, A = some a → Rd sz E m (some (a.add sz)) l := by
  intro a ha i hi
  obtain ⟨a', cs, h1, h2, h3⟩ := r (i + 1) (by simpa using hi)
  rw [ha] at h1; cases h1
  refine ⟨_, cs, rfl, ?_, h3⟩
  rw [add_add, show sz + i * sz = (i + 1) * sz by rw [Nat.succ_mul, Nat.add_comm]]; exact h2
theorem Rd.cse (T : Tell sz E) : ∀ {l : List α} {a : Addr}, Rd sz E m (some a) l → ∃ cs, cellsH m a 0 (l.length * sz) = some cs ∧ CsE sz E m l cs := by
  intro l
  induction l with
  | nil => intro a r; exact ⟨[], by simp [cellsH], rfl⟩
  | cons x l ih =>
    intro a r
    obtain ⟨cs, h1, h2⟩ := ih (r.tail a rfl)
    obtain ⟨a', c1, h3, h4, h5⟩ := r 0 (by simp)
    cases h3
    rw [Nat.zero_mul, show a.add 0 = a from rfl] at h4
    refine ⟨c1 ++ cs, ?_, c1, cs, rfl, T.len _ _ _ h5, h5, h2⟩
    rw [List.length_cons, Nat.succ_mul, Nat.add_comm]
    refine cellsH_append h4 ?_
    rw [cellsH_shift] at h1
    simpa using h1
theorem CsE.rd {b : Nat} {t : TypeId} {pre rest : List Value} (hb : Blk h b (pre ++ cs ++ rest) t) (hc : CsE sz E m l cs) (hm : ∀ x cs, E m x cs → E h x cs) : Rd sz E h (some ⟨b, pre.length, none⟩) l := by
  intro i hi
  have hg := hc.get (List.getElem?_eq_getElem hi)
  refine ⟨_, _, rfl, ?_, hm _ _ hg.1⟩
  have := hb.cells (a := (⟨b, pre.length, none⟩ : Addr).add (i * sz)) (by rw [add_block]) (add_spot _ rfl) sz 0 (by rw [add_off, List.length_append, List.length_append]; simp only [Nat.add_zero]; omega)
  rw [this, add_off]
  simp only [Nat.add_zero]
  rw [List.append_assoc, ← List.drop_drop, List.drop_left, List.drop_append_of_le_length (by omega), List.take_append_of_le_length (by rw [List.length_drop]; omega)]
def OS (W : Nat → Prop) (h0 : Heap) (sz : Nat) (E : Heap → α → List Value → Prop) (h m : Heap) (A : Option Addr) (l : List α) (c : Nat) : Prop :=
  (l = [] ∧ c = 0) ∨ ∃ b t pre cs rest, A = some ⟨b, pre.length, none⟩ ∧ Blk h b (pre ++ cs ++ rest) t ∧ CsE sz E m l cs ∧ l.length ≤ c ∧ (c - l.length) * sz ≤ rest.length ∧ (h0.size ≤ b ∨ W b) ∧ ¬ Live m b
theorem OS.cap (o : OS W h0 sz E h m A l c) : l.length ≤ c := by
  rcases o with ⟨rfl, rfl⟩ | ⟨b, t, pre, cs, rest, h1, h2, h3, h4, h5, h6, h7⟩
  · exact Nat.le_refl _
  · exact h4
theorem OS.wr (o : OS W h0 sz E h m A l c) : ∀ b, fp A c b → h0.size ≤ b ∨ W b := by
  rintro b ⟨hc, a, ha, rfl⟩
  rcases o with ⟨rfl, rfl⟩ | ⟨b, t, pre, cs, rest, h1, h2, h3, h4, h5, h6, h7⟩
  · exact (hc rfl).elim
  · rw [h1] at ha; cases ha; exact h6
def OB (W : Nat → Prop) (h0 h m : Heap) (b : Nat) (cs : List Value) (t : TypeId) : Prop := Blk h b cs t ∧ (h0.size ≤ b ∨ W b) ∧ ¬ Live m b
variable {b : Nat} {t : TypeId}
theorem OB.all (o : OB W h0 h m b cs t) : cellsH h ⟨b, 0, none⟩ 0 cs.length = some cs := by
  have := o.1.cells (a := ⟨b, 0, none⟩) rfl rfl cs.length 0 (by simp)
  simpa using this
theorem Blk.all' (o : Blk m b cs t) : cellsH m ⟨b, 0, none⟩ 0 cs.length = some cs := by
  have := o.cells (a := ⟨b, 0, none⟩) rfl rfl cs.length 0 (by simp)
  simpa using this
def VB (E : Heap → α → List Value → Prop) (m : Heap) (b : Nat) (x : α) : Prop := ∃ cs t, Blk m b cs t ∧ cs ≠ [] ∧ E m x cs
theorem VB.sub (v : VB E m b x) (T : Tell sz E) (s : Sub m h) : VB E h b x := let ⟨cs, t, h1, h2, h3⟩ := v; ⟨cs, t, s.blk h1 h2, h2, T.mono _ _ _ _ s h3⟩
end
end Go.Hw

end
section
namespace Go.Hw
def LeO {β : Type} (a b : Option β) : Prop := ∀ r, a = some r → b = some r
theorem LeO.refl {β : Type} (a : Option β) : LeO a a := fun _ h => h
theorem LeO.bind {β γ : Type} {a b : Option β} {f g : β → Option γ} (h : LeO a b) (k : ∀ x, LeO (f x) (g x)) : LeO (a.bind f) (b.bind g) := by
  intro r hr
  cases a with
  | none => cases hr
  | some x => rw [h x rfl]; exact k x r hr
theorem LeO.ite {β : Type} {p : Prop} [Decidable p] {a b a' b' : Option β} (h : LeO a a') (k : LeO b b') : LeO (if p then a else b) (if p then a' else b') := by
  by_cases c : p
  · rw [if_pos c, if_pos c]; exact h
  · rw [if_neg c, if_neg c]; exact k
section
variable {α : Type} {β : α → Type} {F : ((x : α) → Option (β x)) → (x : α) → Option (β x)}
def MonoF (F : ((x : α) → Option (β x)) → (x : α) → Option (β x)) : Prop := ∀ f g, (∀ x, LeO (f x) (g x)) → ∀ x, LeO (F f x) (F g x)
def FixR (F : ((x : α) → Option (β x)) → (x : α) → Option (β x)) (x : α) (r : β x) : Prop :=
  ∀ I : (x : α) → β x → Prop, (∀ f, (∀ x r, f x = some r → I x r) → ∀ x r, F f x = some r → I x r) → I x r
theorem FixR.close {f : (x : α) → Option (β x)} (hf : ∀ x r, f x = some r → FixR F x r) {x : α} {r : β x} (h : F f x = some r) : FixR F x r :=
  fun I hI => hI f (fun y s hs => hf y s hs I hI) x r h
theorem FixR.uniq (M : MonoF F) {x : α} {r r' : β x} (h : FixR F x r) (h' : FixR F x r') : r = r' := by
  refine (h (fun x r => FixR F x r ∧ ∀ r', FixR F x r' → r = r') ?_).2 r' h'
  intro f hf x r hr
  refine ⟨FixR.close (fun y s hs => (hf y s hs).1) hr, fun s hs => ?_⟩
  have key := hs (fun y s => FixR F y s ∧ ∀ e : x = y, (e ▸ r) = s) ?_
  · exact key.2 rfl
  intro f' hf' y t ht
  refine ⟨FixR.close (fun z s hs => (hf' z s hs).1) ht, ?_⟩
  rintro rfl
  let g : (x : α) → Option (β x) := fun z => match f z with | some u => some u | none => f' z
  have hfg : ∀ z, LeO (f z) (g z) := fun z u hu => by simp only [g, hu]
  have hfg' : ∀ z, LeO (f' z) (g z) := by
    intro z u hu
    simp only [g]
    cases hz : f z with
    | none => exact hu
    | some w => simp only; rw [(hf z w hz).2 u (hf' z u hu).1]
  have e1 := M f g hfg _ _ hr
  have e2 := M f' g hfg' _ _ ht
  rw [e1] at e2
  exact Option.some.inj e2
open Classical in
noncomputable def fixF (F : ((x : α) → Option (β x)) → (x : α) → Option (β x)) (x : α) : Option (β x) := if h : ∃ r, FixR F x r then some (Classical.choose h) else none
theorem fixF_iff (M : MonoF F) {x : α} {r : β x} : fixF F x = some r ↔ FixR F x r := by
  unfold fixF
  constructor
  · intro h
    split at h
    · rename_i hx; cases h; exact Classical.choose_spec hx
    · cases h
  · intro h
    rw [dif_pos ⟨r, h⟩, FixR.uniq M (Classical.choose_spec (⟨r, h⟩ : ∃ r, FixR F x r)) h]
theorem fixF_eq (M : MonoF F) (x : α) : fixF F x = F (fixF F) x := by
  have h1 : ∀ r, fixF F x = some r → F (fixF F) x = some r := by
    intro r hr
    refine ((fixF_iff M).1 hr (fun x r => FixR F x r ∧ F (fixF F) x = some r) ?_).2
    intro f hf y s hs
    refine ⟨FixR.close (fun z s hs => (hf z s hs).1) hs, ?_⟩
    exact M f (fixF F) (fun z u hu => (fixF_iff M).2 (hf z u hu).1) _ _ hs
  have h2 : ∀ r, F (fixF F) x = some r → fixF F x = some r := fun r hr => (fixF_iff M).2 (FixR.close (fun y s hs => (fixF_iff M).1 hs) hr)
  cases h : fixF F x with
  | some r => exact (h1 r h).symm
  | none =>
    cases k : F (fixF F) x with
    | none => rfl
    | some r => rw [h2 r k] at h; cases h
theorem fixF_ind (M : MonoF F) {I : (x : α) → β x → Prop} (hI : ∀ f, (∀ x r, f x = some r → I x r) → ∀ x r, F f x = some r → I x r) {x : α} {r : β x} (h : fixF F x = some r) : I x r := (fixF_iff M).1 h I hI
end
end Go.Hw

end
section
namespace Go.Hw
open Go
section tests
variable {A B : Prop} {β γ : Type} {a b : Option β} {r : β}
theorem bind_e {a : Option γ} {f : γ → Option β} (e : a.bind f = some r) : ∃ x, a = some x ∧ f x = some r := by
  cases a with
  | none => cases e
  | some x => exact ⟨x, rfl, e⟩
theorem guard_e {p : Prop} [Decidable p] (e : (if p then a else none) = some r) : p ∧ a = some r := by
  by_cases h : p
  · rw [if_pos h] at e; exact ⟨h, e⟩
  · rw [if_neg h] at e; cases e
theorem split_dec_e {p : Prop} [Decidable p] (e : (if p then a else b) = some r) (hA : p → a = some r → A) (hB : ¬ p → b = some r → B) : splitB (decide p) A B := by
  by_cases h : p
  · rw [if_pos h] at e; rw [decide_eq_true h]; exact hA h e
  · rw [if_neg h] at e; rw [decide_eq_false h]; exact hB h e
theorem split_eq_e {x y : Int} (e : (if x = y then a else b) = some r) (hA : x = y → a = some r → A) (hB : x ≠ y → b = some r → B) : splitB (x == y) A B := by
  by_cases h : x = y
  · rw [if_pos h] at e; rw [show (x == y) = true from beq_iff_eq.2 h]; exact hA h e
  · rw [if_neg h] at e; rw [show (x == y) = false from beq_eq_false_iff_ne.2 h]; exact hB h e
theorem split_ne_e {x y : Int} (e : (if x = y then b else a) = some r) (hA : x ≠ y → a = some r → A) (hB : x = y → b = some r → B) : splitB (x != y) A B := by
  by_cases h : x = y
  · rw [if_pos h] at e; rw [show (x != y) = false from bne_eq_false_iff_eq.2 h]; exact hB h e
  · rw [if_neg h] at e; rw [show (x != y) = true from bne_iff_ne.2 h]; exact hA h e
theorem split_any_e {t : Bool} (e : (if t = true then a else b) = some r) (hA : t = true → a = some r → A) (hB : t = false → b = some r → B) : splitB t A B := by
  cases t
  · exact hB rfl e
  · exact hA rfl e
theorem ba_list (s t : ByteArray) : (ByteArray.toList s == ByteArray.toList t) = decide (s = t) := by
  by_cases h : s = t
  · subst h; simp
  · rw [decide_eq_false h]
    exact beq_eq_false_iff_ne.2 fun e => h (ba_toList e)
end tests
section
variable {α : Type} {l : List α} {x : Int} {y : α}
def gi (l : List α) (x : Int) : Option α := if 0 ≤ x then l[x.toNat]? else none
theorem gi_nat (l : List α) (k : Nat) : gi l (k : Int) = l[k]? := by unfold gi; rw [if_pos (by omega)]; rfl
theorem gi_le (g : gi l x = some y) : 0 ≤ x := by unfold gi at g; split at g; assumption; cases g
theorem gi_get (g : gi l x = some y) : l[x.toNat]? = some y := by unfold gi at g; split at g; exact g; cases g
theorem gi_lt (g : gi l x = some y) : x < (l.length : Int) := by
  have h1 := gi_get g
  have h2 := gi_le g
  have := (List.getElem?_eq_some_iff.1 h1).1
  omega
theorem gi_ltN (g : gi l x = some y) : x.toNat < l.length := (List.getElem?_eq_some_iff.1 (gi_get g)).1
def sl (l : List α) (lo hi : Int) : List α := (l.take hi.toNat).drop lo.toNat
theorem sl_len {lo hi : Int} (h1 : 0 ≤ lo) (h2 : lo ≤ hi) (h3 : hi ≤ (l.length : Int)) : Int.toNat hi - Int.toNat lo = (sl l lo hi).length := by
  unfold sl; rw [List.length_drop, List.length_take]; omega
theorem sl_lo {lo : Int} : sl l lo (l.length : Int) = l.drop lo.toNat := by unfold sl; simp
theorem sl_hi {hi : Int} : sl l 0 hi = l.take hi.toNat := by unfold sl; simp
end
section
variable {α : Type} {sz : Nat} {E : Heap → α → List Value → Prop} {m m' h h' h0 m0 : Heap} {A : Option Addr} {l : List α} {c n k : Nat} {cs : List Value} {x : Int} {y : α} {W : Nat → Prop} {a : Addr} {v : Value} {b : Nat} {t : TypeId}
theorem Rd.addr {K : Addr → Prop} (r : Rd sz E m A l) (hn : n = l.length) (g : gi l x = some y) (hk : ∀ a cs, A = some a → cellsH m (a.add (Int.toNat x * sz)) 0 sz = some cs → E m y cs → K a) : ptrOk A fun a => 0 ≤ x ∧ x < ((n : Nat) : Int) ∧ K a := by
  subst hn
  have h1 := gi_get g
  obtain ⟨hi, h2⟩ := List.getElem?_eq_some_iff.1 h1
  obtain ⟨a, cs, rfl, h3, h4⟩ := r _ hi
  rw [h2] at h4
  exact ⟨gi_le g, gi_lt g, hk a cs rfl h3 h4⟩
theorem OS.cellsAt (o : OS W h0 sz E h m A l c) (g : gi l x = some y) : ∃ a cs, A = some a ∧ cellsH h (a.add (Int.toNat x * sz)) 0 sz = some cs ∧ E m y cs := by
  have h1 := gi_get g
  rcases o with ⟨rfl, rfl⟩ | ⟨b, t, pre, cs, rest, rfl, h3, h4, h5, h6, h7⟩
  · cases h1
  have h8 := h4.get h1
  refine ⟨_, _, rfl, ?_, h8.1⟩
  have := h3.cells (a := (⟨b, pre.length, none⟩ : Addr).add (x.toNat * sz)) (by rw [add_block]) (add_spot _ rfl) sz 0 (by rw [add_off, List.length_append, List.length_append]; simp only [Nat.add_zero]; omega)
  rw [this, add_off]
  simp only [Nat.add_zero]
  rw [List.append_assoc, ← List.drop_drop, List.drop_left, List.drop_append_of_le_length (by omega), List.take_append_of_le_length (by rw [List.length_drop]; omega)]
theorem OS.addr {K : Addr → Prop} (o : OS W h0 sz E h m A l c) (hn : n = l.length) (g : gi l x = some y) (hk : ∀ a cs, A = some a → cellsH h (a.add (Int.toNat x * sz)) 0 sz = some cs → E m y cs → K a) : ptrOk A fun a => 0 ≤ x ∧ x < ((n : Nat) : Int) ∧ K a := by
  subst hn
  obtain ⟨a, cs, rfl, h1, h2⟩ := o.cellsAt g
  exact ⟨gi_le g, gi_lt g, hk a cs rfl h1 h2⟩
theorem ld0 (s : Sub m h) (hc : cellsH m a 0 n = some cs) (hv : cs[0]? = some v) : ldv false 1 h a = some v := by
  have h1 : cellH h (a.add 0) = some v := cellsH_get (s.cells _ _ hc) hv
  exact h1
theorem ldk (s : Sub m h) (hc : cellsH m a 0 n = some cs) (hv : cs[k]? = some v) : ldv false 1 h (Addr.add a k) = some v := by
  have := cellsH_get (s.cells _ _ hc) hv
  simpa [ldv] using this
theorem ldA (s : Sub m h) (hc : cellsH m a 0 n = some cs) : ldv true n h a = some (.agg cs.toArray) := by
  simp only [ldv, s.cells _ _ hc, Option.map_some]
theorem cellsH_part : ∀ {n i : Nat} {cs : List Value} (k j : Nat), cellsH h a i n = some cs → k + j ≤ n → cellsH h a (i + k) j = some ((cs.drop k).take j) := by
  intro n
  induction n with
  | zero =>
    intro i cs k j hc hk
    obtain ⟨rfl, rfl⟩ : k = 0 ∧ j = 0 := by omega
    simp [cellsH]
  | succ n ih =>
    intro i cs k j hc hk
    cases k with
    | succ k =>
      simp only [cellsH] at hc
      split at hc
      · split at hc
        · rename_i vs hvs
          cases hc
          have := ih k j hvs (by omega)
          rw [show i + (k + 1) = i + 1 + k by omega, this]; simp
        · cases hc
      · cases hc
    | zero =>
      cases j with
      | zero => simp [cellsH]
      | succ j =>
        simp only [cellsH] at hc
        split at hc
        · rename_i u hu
          split at hc
          · rename_i vs hvs
            cases hc
            have := ih 0 j hvs (by omega)
            simp only [Nat.add_zero, List.drop_zero] at this
            simp only [Nat.add_zero, cellsH, hu, this, List.drop_zero, List.take_succ_cons]
          · cases hc
        · cases hc
theorem ldAk {j : Nat} (s : Sub m h) (hc : cellsH m a 0 n = some cs) (hk : k + j ≤ n) : ldv true j h (Addr.add a k) = some (.agg ((cs.drop k).take j).toArray) := by
  have := cellsH_part k j (s.cells _ _ hc) hk
  simp only [ldv, cellsH_shift]
  simp only [Nat.zero_add] at this
  simp only [Nat.add_zero, this, Option.map_some]
theorem OB.st (o : OB W h0 h m b cs t) (s : Sub m h) (hk : k < cs.length) (hf : Flat v) : ∃ h', st1 h (Addr.add ⟨b, 0, none⟩ k) v = some h' ∧ OB W h0 h' m b (cs.set k v) t ∧ St (fb b) h m h' m := by
  obtain ⟨h', h1, h2, h3⟩ := o.1.st (a := Addr.add ⟨b, 0, none⟩ k) (v := v) (add_block _ _) (add_spot _ rfl) (by rw [add_off]; simpa using hk) hf
  rw [add_off, Nat.zero_add] at h2
  exact ⟨h', h1, ⟨h2, o.2⟩, .only s o.2.2 h3⟩
theorem OB.stA (o : OB W h0 h m b cs t) (s : Sub m h) (l : List Value) (hn : l.length = cs.length) (hf : ∀ v ∈ l, Flat v) : ∃ h', stH h ⟨b, 0, none⟩ l 0 = some h' ∧ OB W h0 h' m b l t ∧ St (fb b) h m h' m := by
  obtain ⟨h', h1, h2, h3⟩ := o.1.stAll l hn hf
  exact ⟨h', h1, ⟨h2, o.2⟩, .only s o.2.2 h3⟩
theorem OS.stP (o : OS W h0 sz E h m A l c) (T : Tell sz E) (s : Sub m h) (g : gi l x = some y) (ha : A = some a) (hc : cellsH h (Addr.add a (Int.toNat x * sz)) 0 sz = some cs) {ds : List Value} {y' : α} (k : Nat) (hk : k + ds.length ≤ sz) (hy : E m y' (cs.take k ++ ds ++ cs.drop (k + ds.length))) (hf : ∀ v ∈ ds, Flat v) :
    ∃ h', stH h (Addr.add (Addr.add a (Int.toNat x * sz)) k) ds 0 = some h' ∧ OS W h0 sz E h' m A (l.set (Int.toNat x) y') c ∧ St (fp A c) h m h' m := by
  have h1 := gi_get g
  have hlt := gi_ltN g
  rcases o with ⟨rfl, rfl⟩ | ⟨b, t, pre, es, rest, rfl, h3, h4, h5, h6, h7, h8⟩
  · cases h1
  cases ha
  have h9 := h4.get h1
  have hcs : cs = (es.drop (x.toNat * sz)).take sz := by
    have := h3.cells (a := (⟨b, pre.length, none⟩ : Addr).add (x.toNat * sz)) (by rw [add_block]) (add_spot _ rfl) sz 0 (by rw [add_off, List.length_append, List.length_append]; simp only [Nat.add_zero]; omega)
    rw [hc, add_off] at this
    simp only [Nat.add_zero, Option.some.injEq] at this
    rw [this, List.append_assoc, ← List.drop_drop, List.drop_left, List.drop_append_of_le_length (by omega), List.take_append_of_le_length (by rw [List.length_drop]; omega)]
  have hlen : cs.length = sz := cellsH_length hc
  have hes : es = es.take (x.toNat * sz) ++ cs ++ es.drop (x.toNat * sz + sz) := by
    rw [hcs, List.append_assoc, ← List.drop_drop, List.take_append_drop, List.take_append_drop]
  have hcs2 : cs = cs.take k ++ (cs.drop k).take ds.length ++ cs.drop (k + ds.length) := by
    rw [List.append_assoc, ← List.drop_drop, List.take_append_drop, List.take_append_drop]
  have hb : Blk h b ((pre ++ es.take (x.toNat * sz) ++ cs.take k) ++ (cs.drop k).take ds.length ++ (cs.drop (k + ds.length) ++ (es.drop (x.toNat * sz + sz) ++ rest))) t := by
    have : (pre ++ es.take (x.toNat * sz) ++ cs.take k) ++ (cs.drop k).take ds.length ++ (cs.drop (k + ds.length) ++ (es.drop (x.toNat * sz + sz) ++ rest)) = pre ++ es ++ rest := by
      conv => rhs; rw [hes]; rw [hcs2]
      simp only [List.append_assoc]
    rw [this]; exact h3
  obtain ⟨h', s1, b1, o1⟩ := Blk.stH ds (a := Addr.add (Addr.add ⟨b, pre.length, none⟩ (x.toNat * sz)) k) (i := 0) hb (by rw [add_block, add_block]) (add_spot _ (add_spot _ rfl))
    (by rw [add_off, add_off, List.length_append, List.length_append, List.length_take, List.length_take]; simp only [Nat.add_zero]; omega) (by rw [List.length_take, List.length_drop]; omega) hf
  refine ⟨h', s1, .inr ⟨b, t, pre, es.take (x.toNat * sz) ++ (cs.take k ++ ds ++ cs.drop (k + ds.length)) ++ es.drop (x.toNat * sz + sz), rest, rfl, ?_, ?_, ?_, ?_, h7, h8⟩, ?_⟩
  · have : pre ++ (es.take (x.toNat * sz) ++ (cs.take k ++ ds ++ cs.drop (k + ds.length)) ++ es.drop (x.toNat * sz + sz)) ++ rest = (pre ++ es.take (x.toNat * sz) ++ cs.take k) ++ ds ++ (cs.drop (k + ds.length) ++ (es.drop (x.toNat * sz + sz) ++ rest)) := by simp only [List.append_assoc]
    rw [this]; exact b1
  · exact h4.set hy (T.len _ _ _ hy) hlt
  · rwa [List.length_set]
  · rwa [List.length_set]
  · refine ⟨.refl _, fun i o1' k1 k2 => ?_, by rw [o1.1]; exact Nat.le_refl _, fun i hi hw => ?_, fun i _ hl => .inl hl⟩
    · rw [o1.2 i (fun e => h8 (e ▸ ⟨o1', k1, k2⟩))]; exact s i o1' k1 k2
    · refine o1.2 i fun e => hw ⟨?_, _, rfl, e.symm⟩
      omega
theorem OS.stA (o : OS W h0 sz E h m A l c) (T : Tell sz E) (s : Sub m h) (g : gi l x = some y) (ha : A = some a) (hc : cellsH h (Addr.add a (Int.toNat x * sz)) 0 sz = some cs) {ds : List Value} {y' : α} (hy : E m y' ds) (hf : ∀ v ∈ ds, Flat v) :
    ∃ h', stH h (Addr.add a (Int.toNat x * sz)) ds 0 = some h' ∧ OS W h0 sz E h' m A (l.set (Int.toNat x) y') c ∧ St (fp A c) h m h' m := by
  have hlen : cs.length = sz := cellsH_length hc
  have hd := T.len _ _ _ hy
  refine o.stP T s g ha hc (ds := ds) (y' := y') 0 (by omega) ?_ hf
  rw [List.take_zero, List.nil_append, List.drop_eq_nil_of_le (by omega), List.append_nil]; exact hy
theorem cap_in {hi : Int} (h1 : hi ≤ (l.length : Int)) (h2 : l.length ≤ c) : hi ≤ ((c : Nat) : Int) := by omega
theorem Rd.sl {lo hi : Int} {mx : Nat} (r : Rd sz E m A l) (h1 : 0 ≤ lo) (h2 : lo ≤ hi) (h3 : hi ≤ (l.length : Int)) (h4 : hi.toNat ≤ mx) : Rd sz E m (sliceA A (Int.toNat lo) mx sz) (sl l lo hi) := by
  intro i hi'
  rw [← sl_len h1 h2 h3] at hi'
  obtain ⟨a, cs, e1, e2, e3⟩ := r (lo.toNat + i) (by omega)
  refine ⟨a.add (lo.toNat * sz), cs, ?_, ?_, ?_⟩
  · unfold sliceA; rw [if_neg (by omega), e1]; rfl
  · rw [add_add, ← Nat.add_mul]; exact e2
  · simpa [Hw.sl] using e3
theorem sl_cap {lo hi : Int} {mx : Nat} (h1 : 0 ≤ lo) (h2 : lo ≤ hi) (h3 : hi ≤ (l.length : Int)) (h4 : hi.toNat ≤ mx) : (sl l lo hi).length ≤ mx - Int.toNat lo := by rw [← sl_len h1 h2 h3]; omega
theorem OS.sl {lo hi : Int} {mx : Nat} (o : OS W h0 sz E h m A l c) (h1 : 0 ≤ lo) (h2 : lo ≤ hi) (h3 : hi ≤ (l.length : Int)) (h4 : hi.toNat ≤ mx) (h5 : mx ≤ c) : OS W h0 sz E h m (sliceA A (Int.toNat lo) mx sz) (sl l lo hi) (mx - Int.toNat lo) := by
  rcases o with ⟨rfl, rfl⟩ | ⟨b, t, pre, cs, rest, rfl, k1, k2, k3, k4, k5⟩
  · exact .inl ⟨by unfold Hw.sl; simp, by omega⟩
  by_cases hm : mx = lo.toNat
  · refine .inl ⟨List.length_eq_zero_iff.1 (by rw [← sl_len h1 h2 h3]; omega), by omega⟩
  have hl := k2.len
  have e1 : (cs.take (lo.toNat * sz)).length = lo.toNat * sz := by
    rw [List.length_take, hl]; have := Nat.mul_le_mul_right sz (show lo.toNat ≤ l.length by omega); omega
  have e2 : hi.toNat * sz ≤ l.length * sz := Nat.mul_le_mul_right _ (by omega)
  have e3 : lo.toNat * sz ≤ hi.toNat * sz := Nat.mul_le_mul_right _ (by omega)
  refine .inr ⟨b, t, pre ++ cs.take (lo.toNat * sz), (cs.take (hi.toNat * sz)).drop (lo.toNat * sz), cs.drop (hi.toNat * sz) ++ rest, ?_, ?_, ?_, sl_cap h1 h2 h3 h4, ?_, k5⟩
  · unfold sliceA
    rw [if_neg hm, Option.map_some, List.length_append, e1]
    unfold Addr.add
    split
    · rename_i h9; rw [h9]; rfl
    · rfl
  · have : pre ++ cs.take (lo.toNat * sz) ++ (cs.take (hi.toNat * sz)).drop (lo.toNat * sz) ++ (cs.drop (hi.toNat * sz) ++ rest) = pre ++ cs ++ rest := by
      have e4 : cs.take (lo.toNat * sz) = (cs.take (hi.toNat * sz)).take (lo.toNat * sz) := by rw [List.take_take, Nat.min_eq_left e3]
      rw [e4, List.append_assoc pre, List.take_append_drop, ← List.append_assoc, List.append_assoc pre, List.take_append_drop]
    rw [this]; exact k1
  · exact (k2.take hi.toNat).drop lo.toNat
  · rw [List.length_append, List.length_drop, hl, ← sl_len h1 h2 h3]
    have e5 : (mx - lo.toNat - (hi.toNat - lo.toNat)) * sz + hi.toNat * sz ≤ c * sz := by rw [← Nat.add_mul]; exact Nat.mul_le_mul_right _ (by omega)
    have e6 : (c - l.length) * sz + l.length * sz = c * sz := by rw [← Nat.add_mul, Nat.sub_add_cancel k3]
    omega
theorem zc_len {z : Array Value} {n : Nat} : (zcells z n).toList.length = n * z.size := by rw [Array.length_toList, zcells_size]
def Src (sz : Nat) (E : Heap → α → List Value → Prop) (h m : Heap) (x : Value) (xs : List α) : Prop := ∃ es, srcCells sz x h = some (xs.length, es) ∧ CsE sz E m xs es
theorem Rd.srcE (r : Rd sz E m A l) (T : Tell sz E) (s : Sub m h) (hn : n = l.length) : Src sz E h m (.slice A n c) l := by
  subst hn
  cases A with
  | none =>
    have : l = [] := by
      cases l with
      | nil => rfl
      | cons x l => obtain ⟨a, _, h1, _⟩ := r 0 (by simp); cases h1
    subst this
    exact ⟨[], rfl, rfl⟩
  | some a =>
    obtain ⟨es, h1, h2⟩ := Rd.cse T r
    exact ⟨es, by simp only [srcCells, s.cells _ _ h1, Option.map_some], h2⟩
theorem OS.srcE {c' : Nat} (o : OS W h0 sz E h m A l c) (hn : n = l.length) : Src sz E h m (.slice A n c') l := by
  subst hn
  rcases o with ⟨rfl, rfl⟩ | ⟨b, t, pre, cs, rest, rfl, k1, k2, k3, k4, k5⟩
  · refine ⟨[], ?_, rfl⟩
    cases A with
    | none => rfl
    | some a => simp [srcCells, cellsH]
  · refine ⟨cs, ?_, k2⟩
    have hl := k2.len
    have := k1.cells (a := ⟨b, pre.length, none⟩) rfl rfl (l.length * sz) 0 (by simp [hl])
    simp only [srcCells, this, Nat.add_zero]
    rw [List.append_assoc, List.drop_left, List.take_append_of_le_length (by omega), List.take_of_length_le (by omega)]; rfl
def ap (B : Nat) (l xs : List α) : Option (List α) := if (l.length + xs.length) * B ≤ 140737488355328 then some (l ++ xs) else none
theorem ap_e {B : Nat} {l xs l' : List α} (g : ap B l xs = some l') : (l.length + xs.length) * B ≤ 140737488355328 ∧ l ++ xs = l' := by
  unfold ap at g
  obtain ⟨h, k⟩ := guard_e g
  exact ⟨h, Option.some.inj k⟩
def sls (l : List α) (lo hi : Int) : Option (List α) := if 0 ≤ lo ∧ lo ≤ hi ∧ hi ≤ (l.length : Int) then some (sl l lo hi) else none
theorem sls_e {lo hi : Int} {l' : List α} (g : sls l lo hi = some l') : 0 ≤ lo ∧ lo ≤ hi ∧ hi ≤ (l.length : Int) ∧ Int.toNat hi - Int.toNat lo = l'.length ∧ l' = Hw.sl l lo hi := by
  unfold sls at g
  obtain ⟨h, k⟩ := guard_e g
  cases k
  exact ⟨h.1, h.2.1, h.2.2, sl_len h.1 h.2.1 h.2.2, rfl⟩
theorem Rd.sls {lo hi : Int} {mx : Nat} {l' : List α} (r : Rd sz E m A l) (g : sls l lo hi = some l') (h4 : hi.toNat ≤ mx) : Rd sz E m (sliceA A (Int.toNat lo) mx sz) l' := by
  obtain ⟨h1, h2, h3, _, rfl⟩ := sls_e g
  exact r.sl h1 h2 h3 h4
theorem OS.sls {lo hi : Int} {mx : Nat} {l' : List α} (o : OS W h0 sz E h m A l c) (g : Hw.sls l lo hi = some l') (h4 : hi.toNat ≤ mx) (h5 : mx ≤ c) : OS W h0 sz E h m (sliceA A (Int.toNat lo) mx sz) l' (mx - Int.toNat lo) := by
  obtain ⟨h1, h2, h3, _, rfl⟩ := sls_e g
  exact o.sl h1 h2 h3 h4 h5
theorem mkCells_flat {zc : Array Value} (hz : zc.size = sz) : ∀ n : Nat, (mkCells zc (n * sz)).toList = (List.replicate n zc.toList).flatten := by
  intro n
  unfold mkCells
  apply List.ext_getElem
  · simp [hz]
  · intro i h1 h2
    simp only [Array.toList_map, Array.toList_range, List.getElem_map, List.getElem_range]
    have hi : i < n * sz := by simpa using h1
    have : ∀ (n i : Nat) (hi : i < n * sz) (h2 : i < (List.replicate n zc.toList).flatten.length), zc[i % zc.size]! = (List.replicate n zc.toList).flatten[i] := by
      intro n
      induction n with
      | zero => intro i hi; simp at hi
      | succ n ih =>
        intro i hi h2
        simp only [List.replicate_succ, List.flatten_cons]
        by_cases hlt : i < zc.toList.length
        · rw [List.getElem_append_left hlt]
          have hlt' : i < zc.size := by simpa using hlt
          rw [Nat.mod_eq_of_lt hlt', getElem!_pos zc i hlt']; simp
        · have hge : sz ≤ i := by simpa [hz] using hlt
          rw [List.getElem_append_right (by rw [Array.length_toList, hz]; exact hge)]
          have e1 : i % zc.size = (i - zc.toList.length) % zc.size := by
            rw [Array.length_toList, hz]; exact (Nat.mod_eq_sub_mod hge)
          rw [e1]
          exact ih (i - zc.toList.length) (by rw [Array.length_toList, hz]; rw [Nat.succ_mul] at hi; omega) _
    exact this n i hi h2
theorem le_mx {hi : Int} (h1 : hi ≤ (l.length : Int)) (h2 : l.length ≤ c) : hi.toNat ≤ c := by omega
theorem sls_cap {lo hi : Int} {l' : List α} (g : Hw.sls l lo hi = some l') (h2 : l.length ≤ c) : l'.length ≤ c - Int.toNat lo := by
  obtain ⟨h1, h3, h4, h5, _⟩ := sls_e g
  omega
theorem OS.newNo {h' : Heap} (o : OS No h sz E h' m' A l c) : ∀ b, fp A c b → h.size ≤ b := fun b hb => (o.wr b hb).elim id (fun h => h.elim)
theorem nn {x : Value} {l : List Value} : x :: l ≠ [] := fun h => by cases h
end
end Go.Hw

end
section
namespace Go.Hw
open Go
section
variable {α : Type} {sz : Nat} {E : Heap → α → List Value → Prop} {m m' h h' h0 m0 : Heap} {A : Option Addr} {l : List α} {c n k : Nat} {x : Int} {W : Nat → Prop}
theorem Rd.void (r : Rd sz E m none l) : l = [] := by
  cases l with
  | nil => rfl
  | cons x l => obtain ⟨a, _, h1, _⟩ := r 0 (by simp); cases h1
def gro (B : Nat) (x : Int) : Bool := decide (0 ≤ x ∧ x * (B : Int) ≤ 140737488355328)
theorem grow_nil {e : TypeId} {bytes : Nat} {z : Array Value} {R : Value → Heap → Prop} (S : St W h0 m0 h m) (hz : z.size = sz) (hb0 : 0 < bytes) (g : gro bytes x = true)
    (hk : ∀ A' c' h', OS W h0 sz E h' m A' ([] : List α) c' → Ext h h' → R (.slice A' 0 c') h') :
    splitB (decide ((IntKind.wrap .i64 (x - (IntKind.wrap .i64 (((0 : Nat) : Int) - ((0 : Nat) : Int))))) > (0 : Int))) (0 ≤ (0 : Int) ∧ (0 : Int) ≤ ((0 : Nat) : Int) ∧ ((0 : Nat) : Int) ≤ ((0 : Nat) : Int) ∧
      (AppZ e sz bytes z (sliceA none (Int.toNat (0 : Int)) 0 sz) (Int.toNat ((0 : Nat) : Int) - Int.toNat (0 : Int)) (0 - Int.toNat (0 : Int)) (Value.int .i64 (IntKind.wrap .i64 (x - (IntKind.wrap .i64 (((0 : Nat) : Int) - ((0 : Nat) : Int)))))) h fun v1 h2 =>
        ∃ A3, ∃ n3, ∃ c3, v1 = (Value.slice A3 n3 c3) ∧ 0 ≤ (0 : Int) ∧ (0 : Int) ≤ ((0 : Nat) : Int) ∧ ((0 : Nat) : Int) ≤ ((c3 : Nat) : Int) ∧ (R (Value.slice (sliceA A3 (Int.toNat (0 : Int)) c3 sz) (Int.toNat ((0 : Nat) : Int) - Int.toNat (0 : Int)) (c3 - Int.toNat (0 : Int))) h2)))
      (R (Value.slice none 0 0) h) := by
  unfold gro at g
  obtain ⟨g1, g2⟩ := of_decide_eq_true g
  obtain ⟨k, rfl⟩ : ∃ k : Nat, x = k := ⟨x.toNat, by omega⟩
  have gN : k * bytes ≤ 140737488355328 := by
    have : ((k * bytes : Nat) : Int) = (k : Int) * (bytes : Int) := by push_cast; rfl
    omega
  have hk1 : k ≤ 140737488355328 := Nat.le_trans (Nat.le_mul_of_pos_right _ hb0) gN
  have hw : (IntKind.wrap .i64 ((k : Int) - (IntKind.wrap .i64 (((0 : Nat) : Int) - ((0 : Nat) : Int))))) = (k : Int) := by
    rw [show (IntKind.wrap .i64 (((0 : Nat) : Int) - ((0 : Nat) : Int))) = 0 from rfl]
    rw [wrap_in (by omega) (by omega)]; omega
  rw [hw]
  have nul : ∀ (A' : Option Addr) (c' : Nat), sliceA A' (Int.toNat (0 : Int)) c' sz = A' := by
    intro A' c'
    unfold sliceA
    split
    · rfl
    · cases A' with
      | none => rfl
      | some a => simp [Addr.add]
  refine split_dec (fun hp => ⟨by decide, by decide, by decide, ?_⟩) (fun _ => hk _ _ _ (.inl ⟨rfl, rfl⟩) (.refl _))
  refine ⟨.i64, k, rfl, gN, by omega, .inr ⟨?_, ?_, hb0, ?_, [], ?_, fun c' hc' => ?_⟩⟩
  · show 0 < 0 + k; omega
  · show (0 + k) * bytes ≤ _; rw [Nat.zero_add]; exact gN
  · show 0 + k ≤ _; omega
  · show oldCells sz (sliceA none (Int.toNat (0 : Int)) 0 sz) 0 h = some []
    rw [nul]; rfl
  · refine ⟨_, _, _, rfl, by decide, by decide, Int.natCast_nonneg _, ?_⟩
    rw [nul]
    have e1 := Ext.push h (Obj.cells (([] : List Value).toArray ++ (if k * sz = 0 then [] else (zcells z k).toList).toArray ++ zcells z (c' - (0 + k))) e)
    refine hk _ c' _ (.inr ⟨h.size, e, [], [], (if k * sz = 0 then [] else (zcells z k).toList) ++ (zcells z (c' - (0 + k))).toList, rfl, ?_, rfl, Nat.zero_le _, ?_, .inl S.size, St.notLive S.s⟩) e1
    · have := Blk.new h (([] : List Value).toArray ++ (if k * sz = 0 then [] else (zcells z k).toList).toArray ++ zcells z (c' - (0 + k))) e
      simpa using this
    · rw [List.length_append, zc_len, hz]
      have hc2 : k ≤ c' := by
        have : (Int.toNat ((0 : Nat) : Int) - Int.toNat (0 : Int)) + k ≤ c' := hc'
        simpa using this
      have e2 : (if k * sz = 0 then ([] : List Value) else (zcells z k).toList).length = k * sz := by
        by_cases hz0 : k * sz = 0
        · rw [if_pos hz0, hz0]; rfl
        · rw [if_neg hz0, zc_len, hz]
      rw [e2, ← Nat.add_mul]
      exact Nat.mul_le_mul_right _ (by simp; omega)
end
section
variable {α : Type} {sz : Nat} {E : Heap → α → List Value → Prop} {m m' mL h h' h0 m0 : Heap} {A : Option Addr} {l : List α} {c b : Nat} {cs : List Value} {t : TypeId} {W W' : Nat → Prop}
theorem St.unlend (T : St W' h mL h' m') (s : Sub m h) (hd : ∀ b, W' b → ¬ Live m b) : St W' h m h' m where
  up := .refl _
  s b o h1 h2 := by
    rw [T.fr b (s.lt ⟨o, h1, h2⟩) (fun hw => hd b hw ⟨o, h1, h2⟩)]; exact s b o h1 h2
  size := T.size
  fr := T.fr
  lv b _ hl := .inl hl
end
section
variable {κ ν : Type} [DecidableEq κ] {h h' m m' h0 m0 : Heap} {b : Nat} {W W' : Nat → Prop} {kv : κ → Value} {es : List (κ × ν)} {vs : List (κ × Value)} {k : κ} {x zv : ν} {v z : Value} {P : Program} {t elem : TypeId} {sz : Nat}
def pget (es : List (κ × ν)) (k : κ) : Option ν := (es.find? fun x => decide (k = x.1)).map (·.2)
def pgd (es : List (κ × ν)) (k : κ) (z : ν) : ν := (pget es k).getD z
def pset : List (κ × ν) → κ → ν → List (κ × ν)
  | [], k, v => [(k, v)]
  | x :: es, k, v => if k = x.1 then (k, v) :: es else x :: pset es k v
theorem pget_cons (p : κ × ν) (es : List (κ × ν)) (k : κ) : pget (p :: es) k = if k = p.1 then some p.2 else pget es k := by
  unfold pget
  by_cases h : k = p.1
  · rw [if_pos h, List.find?_cons_of_pos (by simpa using h)]; rfl
  · rw [if_neg h, List.find?_cons_of_neg (by simpa using h)]
theorem mget_cons (p : κ × Value) (es : List (κ × Value)) (k : κ) : mget (p :: es) k = if k = p.1 then some p.2 else mget es k := pget_cons p es k
def eV0 (E : Heap → ν → List Value → Prop) (m : Heap) (x : ν) (v : Value) : Prop := E m x [v]
def MonoV (EV : Heap → ν → Value → Prop) : Prop := ∀ m h x v, Sub m h → EV m x v → EV h x v
omit [DecidableEq κ] in
theorem monoV0 {E : Heap → ν → List Value → Prop} (T : Tell sz E) : MonoV (eV0 E) := fun _ _ _ _ s h => T.mono _ _ _ _ s h
def MR (EV : ν → Value → Prop) : List (κ × ν) → List (κ × Value) → Prop
  | [], vs => vs = []
  | p :: es, vs => ∃ v vs', vs = (p.1, v) :: vs' ∧ EV p.2 v ∧ MR EV es vs'
variable {EV : Heap → ν → Value → Prop}
omit [DecidableEq κ] in
theorem MR.sub (M : MonoV EV) (s : Sub m h) : ∀ {es : List (κ × ν)} {vs : List (κ × Value)}, MR (EV m) es vs → MR (EV h) es vs := by
  intro es
  induction es with
  | nil => intro vs hh; exact hh
  | cons p es ih => rintro vs ⟨v, vs', rfl, h1, h2⟩; exact ⟨v, vs', rfl, M _ _ _ _ s h1, ih h2⟩
theorem MR.get {EV : ν → Value → Prop} (k : κ) : ∀ {es : List (κ × ν)} {vs : List (κ × Value)}, MR EV es vs → (mget vs k).isSome = (pget es k).isSome ∧ ∀ zv z, EV zv z → EV (pgd es k zv) ((mget vs k).getD z) := by
  intro es
  induction es with
  | nil => intro vs hh; rw [show vs = [] from hh]; exact ⟨rfl, fun _ _ h => h⟩
  | cons p es ih =>
    rintro vs ⟨v, vs', rfl, h1, h2⟩
    unfold pgd
    rw [mget_cons, pget_cons]
    by_cases hk : k = p.1
    · rw [if_pos hk, if_pos hk]; exact ⟨rfl, fun _ _ _ => h1⟩
    · rw [if_neg hk, if_neg hk]; exact ih h2
theorem MR.set {EV : ν → Value → Prop} (k : κ) (hx : EV x v) : ∀ {es : List (κ × ν)} {vs : List (κ × Value)}, MR EV es vs → MR EV (pset es k x) (mset vs k v) := by
  intro es
  induction es with
  | nil => intro vs hh; rw [show vs = [] from hh]; exact ⟨v, [], rfl, hx, rfl⟩
  | cons p es ih =>
    rintro vs ⟨w, vs', rfl, h1, h2⟩
    unfold pset mset
    by_cases hk : k = p.1
    · rw [if_pos hk, if_pos hk]; exact ⟨v, vs', rfl, hx, h2⟩
    · rw [if_neg hk, if_neg hk]; exact ⟨w, _, rfl, h1, ih h2⟩
def OM (W : Nat → Prop) (h0 : Heap) (EV : Heap → ν → Value → Prop) (kv : κ → Value) (h m : Heap) (b : Nat) (es : List (κ × ν)) : Prop :=
  ∃ vs, MapB kv h b vs ∧ MR (EV m) es vs ∧ (h0.size ≤ b ∨ W b) ∧ ¬ Live m b
theorem OM.look {K : Value → Heap → Prop} (o : OM W h0 EV kv h m b es) (ok : KeyOk P t kv elem) (k : κ) (hz : zeroOf P elem = some z) (hE : EV m zv z) (hk : ∀ v, EV m (pgd es k zv) v → K v h) : Gen P (Instr.lookup t (.map (some b)) (kv k) false) h K := by
  obtain ⟨vs, h1, h2, _⟩ := o
  exact gen_lookup ok h1 k hz (hk _ ((h2.get k).2 _ _ hE))
theorem OM.upd {K : Unit → Heap → Prop} (o : OM W h0 EV kv h m b es) (s : Sub m h) (ok : KeyOk P t kv elem) (k : κ) (he : EV m x v) (hk : ∀ h', OM W h0 EV kv h' m b (pset es k x) → St (fb b) h m h' m → K () h') : Hwp P (Instr.mapUpdate t (.map (some b)) (kv k) v) h K := by
  obtain ⟨vs, h1, h2, h3, h4⟩ := o
  exact gen_mapUpdate ok h1 k v fun h' b' o' => hk h' ⟨_, b', h2.set k he, h3, h4⟩ (.only s h4 o')
end
section
variable {H : Type} {enc : TypeId × Value → H} {P : Program} {W : World}
theorem tells_i64 {t : TypeId} (hu : P.underlying t = some (.int .i64)) : Tells enc P W t (eInt .i64) (fun x => -9223372036854775808 ≤ x ∧ x ≤ 9223372036854775807) := tells_map (tells_int hu) fun a _ h q => ⟨a, h, wf_i64 q⟩
theorem tells_strL {t : TypeId} (hu : P.underlying t = some .string) : Tells enc P W t eStr (fun s => s.size ≤ 140737488351232) := tells_map (tells_str hu) fun a _ h q => ⟨a, h, q⟩
theorem tells_sliceL {α : Type} {t e : TypeId} {sz B : Nat} {E : Heap → α → List Value → Prop} {Q : α → Prop} (hu : P.underlying t = some (.slice e)) (hc : P.cellsOf e = sz) (hB : P.bytesOf e = B) (he : Tells enc P W e E Q) :
    Tells enc P W t (eRow sz E) (fun l => l.length * B ≤ 140737488351232 ∧ ∀ a ∈ l, Q a) := tells_map (tells_slice hu hc hB he) fun a _ h q => ⟨a, h, q⟩
end
end Go.Hw

end
section
namespace Go.Hw
open Go
section
variable {α β : Type}
theorem ap_of {B : Nat} {l xs : List α} (h : (l.length + xs.length) * B ≤ 140737488355328) : ap B l xs = some (l ++ xs) := by unfold ap; rw [if_pos h]
theorem ap_nil {B : Nat} {xs : List α} (h : xs.length * B ≤ 140737488355328) : ap B ([] : List α) xs = some xs := by rw [ap_of (by simpa using h)]; rfl
theorem ap_one {B : Nat} {l : List α} {x : α} (h : (l.length + 1) * B ≤ 140737488355328) : ap B l [x] = some (l ++ [x]) := ap_of (by simpa using h)
theorem gi_at {l : List α} {k : Nat} (h : k < l.length) : gi l (k : Int) = some l[k] := by rw [gi_nat]; exact List.getElem?_eq_getElem h
theorem sls_of {l : List α} {lo hi : Int} (h1 : 0 ≤ lo) (h2 : lo ≤ hi) (h3 : hi ≤ (l.length : Int)) : sls l lo hi = some (sl l lo hi) := by unfold sls; rw [if_pos ⟨h1, h2, h3⟩]
theorem sls_take {l : List α} {k : Nat} {x : Int} (hx : x = k) (h : k ≤ l.length) : sls l 0 x = some (l.take k) := by subst hx; rw [sls_of (by omega) (by omega) (by omega), sl_hi]; rfl
theorem sls_drop {l : List α} {k : Nat} {x : Int} (hx : x = k) (h : k ≤ l.length) : sls l x (l.length : Int) = some (l.drop k) := by subst hx; rw [sls_of (by omega) (by omega) (by omega), sl_lo]; rfl
theorem w_succ {k : Nat} (h : k < 9223372036854775807) : IntKind.wrap .i64 ((k : Int) + 1) = ((k + 1 : Nat) : Int) := by rw [wrap_in (by omega) (by omega)]; rfl
theorem find_val {f : List α → (α → Option Bool) → Int → Int → Option Int}
    (hf : ∀ a p n i, f a p n i = if i < n then (Option.bind (gi a i) fun y => Option.bind (p y) fun b => if b = true then some i else f a p n (IntKind.wrap .i64 (i + 1))) else some (-1))
    {l : List α} {p : α → Option Bool} (q : α → Bool) (hp : ∀ x ∈ l, p x = some (q x)) (hl : l.length ≤ 4611686018427387904) : f l p (l.length : Int) 0 = some (idxOf q l) := by
  have key : ∀ (d k : Nat), k + d = l.length → (∀ x ∈ l.take k, q x = false) → f l p (l.length : Int) (k : Int) = some (idxOf q l) := by
    intro d
    induction d with
    | zero =>
      intro k hk hn
      rw [hf, if_neg (by omega)]
      have : l.findIdx? q = none := by
        rw [List.findIdx?_eq_none_iff]
        rw [List.take_of_length_le (by omega)] at hn
        exact hn
      simp [idxOf, this]
    | succ d ih =>
      intro k hk hn
      have hlt : k < l.length := by omega
      rw [hf, if_pos (by omega), gi_at hlt, Option.bind_some, hp _ (List.getElem_mem hlt), Option.bind_some]
      by_cases hq : q l[k] = true
      · rw [if_pos hq]
        have : l.findIdx? q = some k := by
          rw [List.findIdx?_eq_some_iff_getElem]
          refine ⟨hlt, hq, fun j hj => ?_⟩
          have := hn l[j] (by rw [List.mem_take_iff_getElem]; exact ⟨j, by omega, rfl⟩)
          simp [this]
        simp [idxOf, this]
      · rw [if_neg hq, w_succ (by omega)]
        refine ih (k + 1) (by omega) (fun x hx => ?_)
        rw [List.take_succ_eq_append_getElem hlt] at hx
        rcases List.mem_append.1 hx with hx | hx
        · exact hn x hx
        · simp at hx; subst hx; simpa using hq
  exact key l.length 0 (by omega) (fun x hx => by simp at hx)
theorem findB_val {f : List α → (α → Option Bool) → Int → Int → Option Int} {g : List α → (α → Option Bool) → Option Int} {c : List α → (α → Option Bool) → Option Bool}
    (hf : ∀ a p n i, f a p n i = if i < n then (Option.bind (gi a i) fun y => Option.bind (p y) fun b => if b = true then some i else f a p n (IntKind.wrap .i64 (i + 1))) else some (-1))
    (hg : ∀ a p, g a p = f a p (a.length : Int) 0) (hc : ∀ a p, c a p = Option.bind (g a p) fun y => some (decide (y ≥ 0)))
    {l : List α} {p : α → Option Bool} (q : α → Bool) (hp : ∀ x ∈ l, p x = some (q x)) (hl : l.length ≤ 4611686018427387904) : c l p = some (l.any q) := by
  rw [hc, hg, find_val hf q hp hl, Option.bind_some, idxOf_ge]
theorem concat_val {B : Nat} (hB : 0 < B) {f1 : List α → List (List α) → Int → Int → Option (List α)} {f0 : List (List α) → Int → List (List α) → Int → Int → Option (List α)} {gr : Int → Option (List α)} {g : List (List α) → Option (List α)}
    (h1 : ∀ r a n i, f1 r a n i = if i < n then (Option.bind (gi a i) fun y => Option.bind (ap B r y) fun l => f1 l a n (IntKind.wrap .i64 (i + 1))) else some r)
    (h0 : ∀ a s b n i, f0 a s b n i = if i < n then (Option.bind (gi b i) fun y => if IntKind.wrap .i64 (s + ((y.length : Nat) : Int)) < 0 then none else f0 a (IntKind.wrap .i64 (s + ((y.length : Nat) : Int))) b n (IntKind.wrap .i64 (i + 1))) else Option.bind (gr s) fun y => f1 y a (a.length : Int) 0)
    (hgr : ∀ x, gr x = if gro B x = true then some [] else none) (hg : ∀ a, g a = f0 a 0 a (a.length : Int) 0)
    (ls : List (List α)) (hl : ls.length ≤ 4611686018427387904) (hs : ls.flatten.length * B ≤ 140737488355328) : g ls = some ls.flatten := by
  have hs' : ls.flatten.length ≤ 140737488355328 := Nat.le_trans (Nat.le_mul_of_pos_right _ hB) hs
  have pre : ∀ k, (ls.take k).flatten.length ≤ ls.flatten.length := by
    intro k
    conv => rhs; rw [← List.take_append_drop k ls, List.flatten_append, List.length_append]
    omega
  have key1 : ∀ (d k : Nat), k + d = ls.length → f1 (ls.take k).flatten ls (ls.length : Int) (k : Int) = some ls.flatten := by
    intro d
    induction d with
    | zero => intro k hk; rw [h1, if_neg (by omega), List.take_of_length_le (by omega)]
    | succ d ih =>
      intro k hk
      have hlt : k < ls.length := by omega
      have e : (ls.take (k + 1)).flatten = (ls.take k).flatten ++ ls[k] := by rw [List.take_succ_eq_append_getElem hlt, List.flatten_append]; simp
      have hle := pre (k + 1)
      rw [e, List.length_append] at hle
      rw [h1, if_pos (by omega), gi_at hlt, Option.bind_some, ap_of (Nat.le_trans (Nat.mul_le_mul_right _ hle) hs), Option.bind_some, w_succ (by omega), ← e]
      exact ih (k + 1) (by omega)
  have key0 : ∀ (d k : Nat), k + d = ls.length → f0 ls (((ls.take k).flatten.length : Nat) : Int) ls (ls.length : Int) (k : Int) = some ls.flatten := by
    intro d
    induction d with
    | zero =>
      intro k hk
      rw [h0, if_neg (by omega), List.take_of_length_le (by omega), hgr, if_pos, Option.bind_some]
      · exact key1 ls.length 0 (by omega)
      · unfold gro
        rw [decide_eq_true_eq]
        refine ⟨by omega, ?_⟩
        have : ((ls.flatten.length * B : Nat) : Int) = (ls.flatten.length : Int) * (B : Int) := by push_cast; rfl
        omega
    | succ d ih =>
      intro k hk
      have hlt : k < ls.length := by omega
      have e : (ls.take (k + 1)).flatten = (ls.take k).flatten ++ ls[k] := by rw [List.take_succ_eq_append_getElem hlt, List.flatten_append]; simp
      have hle := pre (k + 1)
      have e2 : (ls.take (k + 1)).flatten.length = (ls.take k).flatten.length + ls[k].length := by rw [e, List.length_append]
      have e3 : IntKind.wrap .i64 ((((ls.take k).flatten.length : Nat) : Int) + ((ls[k].length : Nat) : Int)) = (((ls.take (k + 1)).flatten.length : Nat) : Int) := by
        rw [wrap_in (by omega) (by omega), e2]; push_cast; rfl
      rw [h0, if_pos (by omega), gi_at hlt, Option.bind_some, e3, if_neg (by omega), w_succ (by omega)]
      exact ih (k + 1) (by omega)
  rw [hg]
  exact key0 ls.length 0 (by omega)
end
section
theorem forall_get {α : Type} {l : List α} {p : α → Prop} : (∀ i (hi : i < l.length), p l[i]) ↔ ∀ a ∈ l, p a :=
  ⟨fun h a ha => by obtain ⟨i, hi, rfl⟩ := List.getElem_of_mem ha; exact h i hi, fun h i hi => h _ (List.getElem_mem hi)⟩
open Go.RowKit
variable {H : Type} {enc : TypeId × Value → H} {P : Program} {W : World} {N : Nat}
def TellsU (N : Nat) {α : Type} (enc : TypeId × Value → H) (P : Program) (W : World) (t : TypeId) (E : Heap → α → List Value → Prop) (Q : α → Prop) : Prop :=
  ∀ (fuel : Nat), fuel < N → ∀ (cs : List Value) (x : DataW H × List MemPlace), DataW.trod enc P W 0 (fun _ => true) true fuel t cs = some x → (x.1.weights P t).all (· ≤ reachBytes) = true → ∃ a, E W.heap a cs ∧ Q a
theorem Tells.up {α : Type} {t : TypeId} {E : Heap → α → List Value → Prop} {Q : α → Prop} (he : Tells enc P W t E Q) : TellsU N enc P W t E Q := fun fuel _ => he fuel
theorem tells_rec {α : Type} {t : TypeId} {E : Heap → α → List Value → Prop} {Q : α → Prop} (step : ∀ N, TellsU N enc P W t E Q → TellsU (N + 1) enc P W t E Q) : Tells enc P W t E Q := by
  have key : ∀ N, TellsU N enc P W t E Q := by
    intro N
    induction N with
    | zero => intro fuel hf; omega
    | succ N ih => exact step N ih
  exact fun fuel => key (fuel + 1) fuel (Nat.lt_succ_self _)
theorem tellsU_map {α β : Type} {E : Heap → α → List Value → Prop} {F : Heap → β → List Value → Prop} {Q : α → Prop} {Q' : β → Prop} {t : TypeId} (he : TellsU N enc P W t E Q) (hm : ∀ a cs, E W.heap a cs → Q a → ∃ b, F W.heap b cs ∧ Q' b) : TellsU N enc P W t F Q' :=
  fun fuel hf cs x h hw => let ⟨a, ha, qa⟩ := he fuel hf cs x h hw; hm a cs ha qa
theorem tellsU_slice {α : Type} {t e : TypeId} {sz B : Nat} {E : Heap → α → List Value → Prop} {Q : α → Prop} (hu : P.underlying t = some (.slice e)) (hc : P.cellsOf e = sz) (hB : P.bytesOf e = B) (he : TellsU N enc P W e E Q) :
    TellsU N enc P W t (eRow sz E) (fun l => l.length * B ≤ 140737488351232 ∧ ∀ a ∈ l, Q a) := by
  intro fuel hf cs x h hw
  rcases DataW.trod_slice hu h with ⟨h1, h2⟩ | ⟨a, len, cap, elems, rest, n, hfn, h1, h2, _, hl, hm, hlen, hel, _, _⟩
  · exact ⟨[], ⟨none, 0, h1, Nat.le_refl _, Rd.nil⟩, by simp, fun a ha => by cases ha⟩
  · rw [h2] at hw
    simp only [DataW.weights, hu, List.all_cons, List.all_append, Bool.and_eq_true, decide_eq_true_eq] at hw
    obtain ⟨hw1, hw2, _⟩ := hw
    have hall := weightsAll_all _ hw2
    obtain ⟨l, h3, h4⟩ := list_choose (n := len) (p := fun i x => (∃ cs', cellsH W.heap (a.add (i * sz)) 0 sz = some cs' ∧ E W.heap x cs') ∧ Q x) (fun i hi => by
      have h5 := hel i hi
      have hlt : i < elems.length := by omega
      rw [List.getElem?_eq_getElem hlt] at h5
      obtain ⟨cs', h6, h7⟩ := Option.bind_eq_some_iff.1 h5
      obtain ⟨x, h8, h9⟩ := he _ (by omega) _ _ h7 (hall _ (List.mem_map.2 ⟨_, List.getElem_mem hlt, rfl⟩))
      rw [hc] at h6
      exact ⟨x, ⟨cs', cells_of h6, h8⟩, h9⟩)
    refine ⟨l, ⟨some a, cap, by rw [h1, h3], by omega, fun i hi => ?_⟩, ?_, fun x hx => ?_⟩
    · obtain ⟨⟨cs', h5, h6⟩, _⟩ := h4 i hi
      exact ⟨a, cs', rfl, h5, h6⟩
    · rw [hB] at hw1
      have h9 : l.length ≤ (List.map (·.1) elems).length + (List.map (·.1) rest).length := by simp; omega
      exact Nat.le_trans (Nat.mul_le_mul_right _ h9) hw1
    · obtain ⟨i, hi, rfl⟩ := List.getElem_of_mem hx
      exact (h4 i hi).2
def TellsFU (N : Nat) {α : Type} (enc : TypeId × Value → H) (P : Program) (W : World) (T o : Nat) (fs : List (TypeId × Nat)) (F : Heap → α → List Value → Prop) (Q : α → Prop) : Prop :=
  ∀ (n : Nat), n < N → ∀ (cs : List Value) (xs : List (DataW H × List MemPlace)), cs.length = T → xs.length = fs.length → (∀ (i : Nat) (f : TypeId × Nat), fs[i]? = some f → DataW.trod enc P W 0 (fun _ => true) true n f.1 ((cs.drop f.2).take (P.cellsOf f.1)) = xs[i]?) →
    (DataW.weightsEach P (fs.map (·.1)) (xs.map (·.1))).all (· ≤ reachBytes) = true → ∃ b, F W.heap b (cs.drop o) ∧ Q b
theorem tfU_nil {T : Nat} : TellsFU N enc P W T T [] eNil (fun _ => True) := fun n _ cs xs hl _ _ _ => ⟨(), by unfold eNil; rw [List.drop_eq_nil_of_le (by omega)], trivial⟩
theorem tfU_cons {α β : Type} {E : Heap → α → List Value → Prop} {F : Heap → β → List Value → Prop} {Q : α → Prop} {Q' : β → Prop} {T o s : Nat} {f : TypeId} {fs : List (TypeId × Nat)} (hs : P.cellsOf f = s)
    (he : TellsU N enc P W f E Q) (hf : TellsFU N enc P W T (o + s) fs F Q') : TellsFU N enc P W T o ((f, o) :: fs) (eCons E F) (fun x => Q x.1 ∧ Q' x.2) := by
  intro n hn cs xs hl hx hi hw
  cases xs with
  | nil => cases hx
  | cons x xs =>
    have h0 := hi 0 (f, o) rfl
    simp only [hs] at h0
    simp only [List.map_cons, DataW.weightsEach, List.all_append, Bool.and_eq_true] at hw
    obtain ⟨a, ha, qa⟩ := he n hn _ _ h0 hw.1
    obtain ⟨b, hb, qb⟩ := hf n hn cs xs hl (by simpa using hx) (fun i g hg => by simpa using hi (i + 1) g hg) hw.2
    exact ⟨(a, b), ⟨_, _, by rw [← List.drop_drop, List.take_append_drop], ha, hb⟩, qa, qb⟩
theorem tellsU_struct {α : Type} {F : Heap → α → List Value → Prop} {Q : α → Prop} {t : TypeId} {fs : List (TypeId × Nat)} {T : Nat} (hs : shapeOf P t = some fs) (hc : P.cellsOf t = T) (hf : TellsFU N enc P W T 0 fs F Q) : TellsU (N + 1) enc P W t F Q := by
  intro fuel hfl cs x h hw
  unfold shapeOf at hs
  split at hs
  · rename_i fa hu
    cases hs
    obtain ⟨xs, n, hn, rfl, hl, hlen, hi⟩ := DataW.trod_struct hu h
    simp only [DataW.weights, hu] at hw
    obtain ⟨b, hb, qb⟩ := hf n (by omega) cs xs (by rw [hl, hc]) (by simpa using hlen) (fun i f hif => by
      rw [List.getElem?_map, Option.map_eq_some_iff] at hif
      obtain ⟨g, hg, rfl⟩ := hif
      exact hi i g (by simpa using hg)) (by rw [List.map_map]; exact hw)
    exact ⟨b, by simpa using hb, qb⟩
  · cases hs
end
end Go.Hw

end
section
set_option linter.unusedVariables false
namespace Go.Hw
open Go
abbrev Foot := Nat → Prop
def U (F G : Foot) : Foot := fun b => F b ∨ G b
section
variable {F G H F' G' : Foot}
theorem U.no_left : U No F = F := funext fun _ => propext ⟨fun h => h.elim (fun h => h.elim) id, .inr⟩
theorem U.no_right : U F No = F := funext fun _ => propext ⟨fun h => h.elim id (fun h => h.elim), .inl⟩
theorem U.assoc : U (U F G) H = U F (U G H) := funext fun _ => propext or_assoc
theorem U.comm : U F G = U G F := funext fun _ => propext or_comm
theorem U.left_comm : U F (U G H) = U G (U F H) := by rw [← U.assoc, U.comm (F := F), U.assoc]
theorem Dj.u (d : Dj F H) (d' : Dj G H) : Dj (U F G) H := fun b h k => h.elim (fun h => d b h k) (fun h => d' b h k)
theorem Dj.ul (d : Dj (U F G) H) : Dj F H := fun b h k => d b (.inl h) k
theorem Dj.ur (d : Dj (U F G) H) : Dj G H := fun b h k => d b (.inr h) k
theorem Dj.u' (d : Dj H F) (d' : Dj H G) : Dj H (U F G) := fun b k h => h.elim (fun h => d b k h) (fun h => d' b k h)
theorem Dj.ul' (d : Dj H (U F G)) : Dj H F := fun b k h => d b k (.inl h)
theorem Dj.ur' (d : Dj H (U F G)) : Dj H G := fun b k h => d b k (.inr h)
theorem Dj.no' : Dj F No := fun _ _ h => h
theorem Dj.mono (d : Dj F G) (h1 : ∀ b, F' b → F b) (h2 : ∀ b, G' b → G b) : Dj F' G' := fun b k l => d b (h1 b k) (h2 b l)
end
structure Res where
  p : Heap → Heap → Foot → Prop
  z : Heap → Prop
  lt : ∀ {h m F}, p h m F → ∀ b, F b → b < h.size
  nl : ∀ {h m F}, p h m F → ∀ b, F b → ¬ Live m b
  fr : ∀ {h m F h' m'}, p h m F → (∀ b, F b → h'[b]? = h[b]?) → Sub m m' → (∀ b, F b → ¬ Live m' b) → p h' m' F
  fz : ∀ {h m F G}, p h m F → Sub m h → (∀ b, F b → G b) → z (addV m h G)
def Res.vf (R : Res) : Prop := ∀ h m m' F, R.p h m F → Sub m' h → (∀ b, F b → ¬ Live m' b) → R.p h m' F
def rE : Res where
  p _ _ F := F = No
  z _ := True
  lt := by rintro h m F rfl b hb; exact hb.elim
  nl := by rintro h m F rfl b hb; exact hb.elim
  fr := fun h _ _ _ => h
  fz := fun _ _ _ => trivial
def Sep : List Res → Heap → Heap → Foot → Prop
  | [], _, _, F => F = No
  | R :: Rs, h, m, F => ∃ F1 F2, R.p h m F1 ∧ Sep Rs h m F2 ∧ Dj F1 F2 ∧ F = U F1 F2
def ZAll (m : Heap) : List Res → Prop
  | [] => True
  | R :: Rs => R.z m ∧ ZAll m Rs
def takeL : List Res → List Nat → List Res
  | _, [] => []
  | Rs, i :: is => (match Rs[i]? with | some R => R | none => rE) :: takeL (Rs.set i rE) is
def dropL : List Res → List Nat → List Res
  | Rs, [] => Rs
  | Rs, i :: is => dropL (Rs.set i rE) is
section
variable {h h' m m' : Heap} {F F1 F2 G : Foot} {Rs Rs' : List Res} {R R' : Res} {k : Nat}
theorem Sep.lt : ∀ {Rs : List Res} {F : Foot}, Sep Rs h m F → ∀ b, F b → b < h.size
  | [], _, hs, b, hb => by rw [show _ = No from hs] at hb; exact hb.elim
  | _ :: _, _, ⟨_, _, h1, h2, _, rfl⟩, b, hb => hb.elim (Res.lt _ h1 b) (Sep.lt h2 b)
theorem Sep.nl : ∀ {Rs : List Res} {F : Foot}, Sep Rs h m F → ∀ b, F b → ¬ Live m b
  | [], _, hs, b, hb => by rw [show _ = No from hs] at hb; exact hb.elim
  | _ :: _, _, ⟨_, _, h1, h2, _, rfl⟩, b, hb => hb.elim (Res.nl _ h1 b) (Sep.nl h2 b)
theorem Sep.fr : ∀ {Rs : List Res} {F : Foot}, Sep Rs h m F → (∀ b, F b → h'[b]? = h[b]?) → Sub m m' → (∀ b, F b → ¬ Live m' b) → Sep Rs h' m' F
  | [], _, hs, _, _, _ => hs
  | _ :: _, _, ⟨F1, F2, h1, h2, h3, rfl⟩, k1, k2, k3 => ⟨F1, F2, Res.fr _ h1 (fun b hb => k1 b (.inl hb)) k2 (fun b hb => k3 b (.inl hb)), Sep.fr h2 (fun b hb => k1 b (.inr hb)) k2 (fun b hb => k3 b (.inr hb)), h3, rfl⟩
theorem Sep.fz : ∀ {Rs : List Res} {F : Foot}, Sep Rs h m F → Sub m h → (∀ b, F b → G b) → ZAll (addV m h G) Rs
  | [], _, _, _, _ => trivial
  | _ :: _, _, ⟨F1, F2, h1, h2, h3, rfl⟩, k1, k2 => ⟨Res.fz _ h1 k1 (fun b hb => k2 b (.inl hb)), Sep.fz h2 k1 (fun b hb => k2 b (.inr hb))⟩
theorem Sep.vf : ∀ {Rs : List Res} {F : Foot}, Sep Rs h m F → (∀ R ∈ Rs, R.vf) → Sub m' h → (∀ b, F b → ¬ Live m' b) → Sep Rs h m' F
  | [], _, hs, _, _, _ => hs
  | R :: Rs, _, ⟨F1, F2, h1, h2, h3, rfl⟩, v, k1, k2 => ⟨F1, F2, v R (List.mem_cons_self ..) _ _ _ _ h1 k1 (fun b hb => k2 b (.inl hb)), Sep.vf h2 (fun R hR => v R (List.mem_cons_of_mem _ hR)) k1 (fun b hb => k2 b (.inr hb)), h3, rfl⟩
theorem Sep.get : ∀ {Rs : List Res} {F : Foot} {k : Nat}, Sep Rs h m F → Rs[k]? = some R → ∃ F1 F2, R.p h m F1 ∧ Sep (Rs.set k rE) h m F2 ∧ Dj F1 F2 ∧ F = U F1 F2
  | [], _, _, _, hk => by cases hk
  | R' :: Rs, _, 0, ⟨F1, F2, h1, h2, h3, e⟩, hk => by
    cases hk
    exact ⟨F1, F2, h1, ⟨No, F2, rfl, h2, .no, U.no_left.symm⟩, h3, e⟩
  | R' :: Rs, _, k + 1, ⟨F1, F2, h1, h2, h3, e⟩, hk => by
    obtain ⟨G1, G2, k1, k2, k3, rfl⟩ := Sep.get h2 (show Rs[k]? = some R by simpa using hk)
    refine ⟨G1, U F1 G2, k1, ⟨F1, G2, h1, k2, h3.ur', rfl⟩, ?_, ?_⟩
    · exact Dj.u' h3.ul'.symm k3
    · rw [e, U.left_comm]
theorem Sep.put : ∀ {Rs : List Res} {F2 : Foot} {k : Nat}, Sep Rs h m F2 → Rs[k]? = some rE → R'.p h m F1 → Dj F1 F2 → Sep (Rs.set k R') h m (U F1 F2)
  | [], _, _, _, hk, _, _ => by cases hk
  | R :: Rs, _, 0, ⟨G1, G2, h1, h2, h3, e⟩, hk, hp, d => by
    cases hk
    have : G1 = No := h1
    subst this
    rw [U.no_left] at e
    subst e
    exact ⟨F1, _, hp, h2, d, rfl⟩
  | R :: Rs, _, k + 1, ⟨G1, G2, h1, h2, h3, e⟩, hk, hp, d => by
    subst e
    have := Sep.put h2 (show Rs[k]? = some rE by simpa using hk) hp d.ur'
    exact ⟨G1, _, h1, this, Dj.u' d.ul'.symm h3, by rw [U.left_comm]⟩
theorem Sep.app : ∀ {Rs : List Res} {F : Foot}, Sep Rs h m F → Sep Rs' h m G → Dj F G → Sep (Rs ++ Rs') h m (U F G)
  | [], _, hs, hs', _ => by rw [show _ = No from hs, U.no_left]; exact hs'
  | R :: Rs, _, ⟨F1, F2, h1, h2, h3, e⟩, hs', d => by
    subst e
    exact ⟨F1, _, h1, Sep.app h2 hs' d.ur, Dj.u' h3 d.ul, U.assoc⟩
theorem Sep.one (hp : R.p h m F) : Sep [R] h m F := ⟨F, No, hp, rfl, .no', U.no_right.symm⟩
theorem set_rE (hk : Rs[k]? = some R) : (Rs.set k rE)[k]? = some rE := by
  have : k < Rs.length := (List.getElem?_eq_some_iff.1 hk).1
  rw [List.getElem?_set_self this]
theorem Sep.part : ∀ (is : List Nat) {Rs : List Res} {F : Foot}, Sep Rs h m F → ∃ F1 F2, Sep (takeL Rs is) h m F1 ∧ Sep (dropL Rs is) h m F2 ∧ Dj F1 F2 ∧ F = U F1 F2
  | [], Rs, F, hs => ⟨No, F, rfl, hs, .no, U.no_left.symm⟩
  | i :: is, Rs, F, hs => by
    cases hi : Rs[i]? with
    | none =>
      have : Rs.set i rE = Rs := List.set_eq_of_length_le (List.getElem?_eq_none_iff.1 hi)
      obtain ⟨F1, F2, h1, h2, h3, h4⟩ := Sep.part is (Rs := Rs.set i rE) (by rw [this]; exact hs)
      refine ⟨F1, F2, ?_, h2, h3, h4⟩
      simp only [takeL, hi]
      exact ⟨No, F1, rfl, h1, .no, U.no_left.symm⟩
    | some R =>
      obtain ⟨G1, G2, k1, k2, k3, rfl⟩ := Sep.get hs hi
      obtain ⟨F1, F2, h1, h2, h3, rfl⟩ := Sep.part is k2
      refine ⟨U G1 F1, F2, ?_, h2, Dj.u k3.ur' h3, U.assoc.symm⟩
      simp only [takeL, hi]
      exact ⟨G1, F1, k1, h1, k3.ul', rfl⟩
end
structure Hold (W : Foot) (h0 m0 h m : Heap) (Rs : List Res) : Prop where
  S : St W h0 m0 h m
  q : ∃ F, Sep Rs h m F ∧ ∀ b, F b → h0.size ≤ b ∨ W b
section
variable {h0 m0 h h' m m' : Heap} {W F F' G : Foot} {Rs Rs' : List Res} {R R' : Res} {k : Nat}
theorem Hold.s (O : Hold W h0 m0 h m Rs) : Sub m h := O.S.s
theorem Hold.up (O : Hold W h0 m0 h m Rs) : Sub m0 m := O.S.up
theorem Hold.start (s : Sub m h) : Hold W h m h m [] := ⟨.refl s, No, rfl, fun _ h => h.elim⟩
theorem St.frame (T : St F h m h' m') (h2 : Dj F G) (h3 : ∀ b, G b → b < h.size) (h4 : ∀ b, G b → ¬ Live m b) : (∀ b, G b → h'[b]? = h[b]?) ∧ ∀ b, G b → ¬ Live m' b :=
  ⟨fun b hb => T.fr b (h3 b hb) (fun hf => h2 b hf hb), fun b hb hl => (T.lv b (h3 b hb) hl).elim (h4 b hb) (fun hf => h2 b hf hb)⟩
theorem Hold.get (O : Hold W h0 m0 h m Rs) (k : Nat) (hk : Rs[k]? = some R) : ∃ F, R.p h m F ∧ (∀ b, F b → h0.size ≤ b ∨ W b) ∧
    ∀ {h' m' : Heap} {R' : Res} {F' : Foot}, St F h m h' m' → R'.p h' m' F' → (∀ b, F' b → F b ∨ h.size ≤ b) → Hold W h0 m0 h' m' (Rs.set k R') := by
  obtain ⟨S, FF, hs, hw⟩ := O
  obtain ⟨F1, F2, h1, h2, h3, rfl⟩ := hs.get hk
  refine ⟨F1, h1, fun b hb => hw b (.inl hb), fun {h' m' R' F'} T hp hn => ?_⟩
  obtain ⟨f1, f2⟩ := T.frame h3 h2.lt h2.nl
  have s2 := Sep.fr h2 f1 T.up f2
  have d : Dj F' F2 := fun b hb hc => (hn b hb).elim (fun hf => h3 b hf hc) (fun hl => by have := h2.lt b hc; omega)
  have := Sep.put s2 (set_rE hk) hp d
  rw [List.set_set] at this
  refine ⟨S.then T (fun b _ hb => hw b (.inl hb)), _, this, fun b hb => hb.elim (fun hb => (hn b hb).elim (fun hf => hw b (.inl hf)) (fun hl => .inl (Nat.le_trans S.size hl))) (fun hb => hw b (.inr hb))⟩
theorem Hold.add (O : Hold W h0 m0 h m Rs) (T : St No h m h' m') (hp : R.p h' m' F') (hn : ∀ b, F' b → h.size ≤ b) : Hold W h0 m0 h' m' (Rs ++ [R]) := by
  obtain ⟨S, F, hs, hw⟩ := O
  obtain ⟨f1, f2⟩ := T.frame (G := F) .no hs.lt hs.nl
  refine ⟨S.grow T, _, (Sep.fr hs f1 T.up f2).app (.one hp) (fun b hb hc => by have := hs.lt b hb; have := hn b hc; omega), fun b hb => hb.elim (hw b) (fun hb => .inl (Nat.le_trans S.size (hn b hb)))⟩
theorem Hold.grow (O : Hold W h0 m0 h m Rs) (T : St No h m h' m') : Hold W h0 m0 h' m' Rs := by
  obtain ⟨S, F, hs, hw⟩ := O
  obtain ⟨f1, f2⟩ := T.frame (G := F) .no hs.lt hs.nl
  exact ⟨S.grow T, F, Sep.fr hs f1 T.up f2, hw⟩
theorem Hold.ext (O : Hold W h0 m0 h m Rs) (e : Ext h h') : Hold W h0 m0 h' m Rs := O.grow (St.of_ext O.s e)
theorem Hold.adds (O : Hold W h0 m0 h m Rs) (hp : R.p h m No) : Hold W h0 m0 h m (Rs ++ [R]) := O.add (.refl O.s) hp (fun _ h => h.elim)
theorem Hold.conv (O : Hold W h0 m0 h m Rs) (k : Nat) (hk : Rs[k]? = some R) (H : ∀ F, R.p h m F → ∃ F', R'.p h m F' ∧ ∀ b, F' b → F b) : Hold W h0 m0 h m (Rs.set k R') := by
  obtain ⟨F, h1, _, h3⟩ := O.get k hk
  obtain ⟨F', h4, h5⟩ := H F h1
  exact h3 (.refl O.s) h4 (fun b hb => .inl (h5 b hb))
theorem Hold.pick (O : Hold W h0 m0 h m Rs) (is : List Nat) : Hold W h0 m0 h m (takeL Rs is) := by
  obtain ⟨S, F, hs, hw⟩ := O
  obtain ⟨F1, F2, h1, h2, h3, rfl⟩ := hs.part is
  exact ⟨S, F1, h1, fun b hb => hw b (.inl hb)⟩
theorem Hold.call (O : Hold W h0 m0 h m Rs) (is : List Nat) : ∃ W', Hold W' h m h m (takeL Rs is) ∧ ∀ {h' m' : Heap} {Rs' : List Res}, Hold W' h m h' m' Rs' → Hold W h0 m0 h' m' (dropL Rs is ++ Rs') := by
  obtain ⟨S, F, hs, hw⟩ := O
  obtain ⟨F1, F2, h1, h2, h3, rfl⟩ := hs.part is
  refine ⟨F1, ⟨.refl S.s, F1, h1, fun b hb => .inr hb⟩, fun {h' m' Rs'} O' => ?_⟩
  obtain ⟨T, F', hs', hw'⟩ := O'
  obtain ⟨f1, f2⟩ := T.frame h3 h2.lt h2.nl
  refine ⟨S.then T (fun b _ hb => hw b (.inl hb)), _, (Sep.fr h2 f1 T.up f2).app hs' (fun b hb hc => (hw' b hc).elim (fun hl => by have := h2.lt b hb; omega) (fun hf => h3 b hf hb)), fun b hb => hb.elim (fun hb => hw b (.inr hb)) (fun hb => (hw' b hb).elim (fun hl => .inl (Nat.le_trans S.size hl)) (fun hf => hw b (.inl hf)))⟩
theorem Hold.callC (O : Hold W h0 m0 h m Rs) (is : List Nat) : ∃ W', Hold W' h m h m (takeL Rs is) ∧
    (∀ {h' m' : Heap} {Rs' : List Res}, Hold W' h m h' m' Rs' → Hold W h0 m0 h' m' (dropL Rs is ++ Rs')) ∧
    (∀ {h' m' : Heap} {Rs' : List Res}, Hold W' h m h' m' Rs' → (∀ R ∈ Rs', R.vf) → Hold W h0 m0 h' m (dropL Rs is ++ Rs')) := by
  obtain ⟨S, F, hs, hw⟩ := O
  obtain ⟨F1, F2, h1, h2, h3, rfl⟩ := hs.part is
  have key : ∀ {h' m' : Heap} {Rs' : List Res}, Hold F1 h m h' m' Rs' → Hold W h0 m0 h' m' (dropL Rs is ++ Rs') := fun {h' m' Rs'} O' => by
    obtain ⟨T, F', hs', hw'⟩ := O'
    obtain ⟨f1, f2⟩ := T.frame h3 h2.lt h2.nl
    exact ⟨S.then T (fun b _ hb => hw b (.inl hb)), _, (Sep.fr h2 f1 T.up f2).app hs' (fun b hb hc => (hw' b hc).elim (fun hl => by have := h2.lt b hb; omega) (fun hf => h3 b hf hb)), fun b hb => hb.elim (fun hb => hw b (.inr hb)) (fun hb => (hw' b hb).elim (fun hl => .inl (Nat.le_trans S.size hl)) (fun hf => hw b (.inl hf)))⟩
  refine ⟨F1, ⟨.refl S.s, F1, h1, fun b hb => .inr hb⟩, key, fun {h' m' Rs'} O' v => key ?_⟩
  obtain ⟨T, F', hs', hw'⟩ := O'
  have T' : St F1 h m h' m := T.unlend S.s h1.nl
  exact ⟨T', F', hs'.vf v T'.s (fun b hb hv => (hw' b hb).elim (fun hl => by have := S.s.lt hv; omega) (fun hf => h1.nl b hf hv)), hw'⟩
theorem Hold.lend (O : Hold W h0 m0 h m Rs) (is ls : List Nat) : ∃ m1 W', Sub m m1 ∧ Hold W' h m1 h m1 (takeL Rs is) ∧ ZAll m1 (takeL (dropL Rs is) ls) ∧
    (∀ {h' m' : Heap} {Rs' : List Res}, Hold W' h m1 h' m' Rs' → Hold W h0 m0 h' m' (dropL (dropL Rs is) ls ++ Rs')) ∧
    (∀ {h' m' : Heap} {Rs' : List Res}, Hold W' h m1 h' m' Rs' → (∀ R ∈ Rs', R.vf) → Hold W h0 m0 h' m (dropL Rs is ++ Rs')) := by
  obtain ⟨S, F, hs, hw⟩ := O
  obtain ⟨F1, F2, h1, h2, h3, rfl⟩ := hs.part is
  obtain ⟨F3, F4, k1, k2, k3, rfl⟩ := h2.part ls
  have hl : ∀ b, Live (addV m h F3) b → Live m b ∨ F3 b := fun b h => (addV_live h).1
  have n1 : ∀ b, F1 b → ¬ Live (addV m h F3) b := fun b hb hv => (hl b hv).elim (h1.nl b hb) (fun hf => h3 b hb (.inl hf))
  have n4 : ∀ b, F4 b → ¬ Live (addV m h F3) b := fun b hb hv => (hl b hv).elim (k2.nl b hb) (fun hf => k3 b hf hb)
  refine ⟨addV m h F3, F1, addV_up S.s, ⟨.refl addV_sub, F1, Sep.fr h1 (fun _ _ => rfl) (addV_up S.s) n1, fun b hb => .inr hb⟩, k1.fz S.s (fun _ h => h), fun {h' m' Rs'} O' => ?_, fun {h' m' Rs'} O' v => ?_⟩
  · obtain ⟨T, F', hs', hw'⟩ := O'
    have k4 := Sep.fr k2 (fun _ _ => rfl) (addV_up S.s) n4
    obtain ⟨f1, f2⟩ := T.frame h3.ur' k2.lt n4
    refine ⟨(S.then (St.settle S.s F3) (fun b _ hb => hw b (.inr (.inl hb)))).then T (fun b _ hb => hw b (.inl hb)), _, (Sep.fr k4 f1 T.up f2).app hs' (fun b hb hc => (hw' b hc).elim (fun hl => by have := k2.lt b hb; omega) (fun hf => h3 b hf (.inr hb))), fun b hb => hb.elim (fun hb => hw b (.inr (.inr hb))) (fun hb => (hw' b hb).elim (fun hl => .inl (Nat.le_trans S.size hl)) (fun hf => hw b (.inl hf)))⟩
  · obtain ⟨T, F', hs', hw'⟩ := O'
    have T' : St F1 h m h' m := T.unlend S.s h1.nl
    obtain ⟨f1, f2⟩ := T'.frame h3 h2.lt h2.nl
    have n' : ∀ b, F' b → ¬ Live m b := fun b hb hv => (hw' b hb).elim (fun hl => by have := S.s.lt hv; omega) (fun hf => h1.nl b hf hv)
    refine ⟨S.then T' (fun b _ hb => hw b (.inl hb)), _, (Sep.fr h2 f1 T'.up f2).app (hs'.vf v T'.s n') (fun b hb hc => (hw' b hc).elim (fun hl => by have := h2.lt b hb; omega) (fun hf => h3 b hf hb)), fun b hb => hb.elim (fun hb => hw b (.inr hb)) (fun hb => (hw' b hb).elim (fun hl => .inl (Nat.le_trans S.size hl)) (fun hf => hw b (.inl hf)))⟩
theorem Hold.frz (O : Hold W h0 m0 h m Rs) (k : Nat) (hk : Rs[k]? = some R) : ∃ m', Sub m m' ∧ R.z m' ∧ Hold W h0 m0 h m' (Rs.set k rE) := by
  obtain ⟨m1, W', h1, h2, h3, h4, _⟩ := O.lend [] [k]
  refine ⟨m1, h1, ?_, ?_⟩
  · have : takeL (dropL Rs []) [k] = [R] := by simp only [takeL, dropL, hk]
    rw [this] at h3
    exact h3.1
  · have := h4 h2
    simp only [takeL, dropL, List.append_nil] at this
    exact this
end
end Go.Hw

end
section
set_option linter.unusedVariables false
namespace Go.Hw
open Go
structure Asn (α : Type) (sz : Nat) where
  p : Heap → Heap → α → List Value → Foot → Prop
  E : Heap → α → List Value → Prop
  T : Tell sz E
  len : ∀ {h m x cs F}, p h m x cs F → cs.length = sz
  flat : ∀ {h m x cs F}, p h m x cs F → ∀ v ∈ cs, Flat v
  lt : ∀ {h m x cs F}, p h m x cs F → ∀ b, F b → b < h.size
  nl : ∀ {h m x cs F}, p h m x cs F → ∀ b, F b → ¬ Live m b
  fr : ∀ {h m x cs F h' m'}, p h m x cs F → (∀ b, F b → h'[b]? = h[b]?) → Sub m m' → (∀ b, F b → ¬ Live m' b) → p h' m' x cs F
  fz : ∀ {h m x cs F G}, p h m x cs F → Sub m h → (∀ b, F b → G b) → E (addV m h G) x cs
def aE {α : Type} {sz : Nat} {E : Heap → α → List Value → Prop} (T : Tell sz E) : Asn α sz where
  p _ m x cs F := E m x cs ∧ F = No
  E := E
  T := T
  len h := T.len _ _ _ h.1
  flat h := T.flat _ _ _ h.1
  lt := by rintro h m x cs F ⟨_, rfl⟩ b hb; exact hb.elim
  nl := by rintro h m x cs F ⟨_, rfl⟩ b hb; exact hb.elim
  fr := fun h _ s _ => ⟨T.mono _ _ _ _ s h.1, h.2⟩
  fz := fun h s _ => T.mono _ _ _ _ (addV_up s) h.1
theorem Blk.fr {h h' : Heap} {b : Nat} {c : List Value} {t : TypeId} (hb : Blk h b c t) (e : h'[b]? = h[b]?) : Blk h' b c t := by unfold Blk at *; rw [e]; exact hb
def rV (b : Nat) (t : TypeId) (cs : List Value) : Res where
  p h m F := Blk h b cs t ∧ ¬ Live m b ∧ F = fb b
  z m := Blk m b cs t
  lt := by rintro h m F ⟨h1, _, rfl⟩ i hi; unfold fb at hi; subst hi; exact h1.lt
  nl := by rintro h m F ⟨h1, h2, rfl⟩ i hi; unfold fb at hi; subst hi; exact h2
  fr := by rintro h m F h' m' ⟨h1, h2, rfl⟩ k1 _ k3; exact ⟨h1.fr (k1 b rfl), k3 b rfl, rfl⟩
  fz := by rintro h m F G ⟨h1, h2, rfl⟩ _ k2; exact h1.settle (k2 b rfl)
theorem rV_vf {b : Nat} {t : TypeId} {cs : List Value} : (rV b t cs).vf := by rintro h m m' F ⟨h1, _, rfl⟩ _ k2; exact ⟨h1, k2 b rfl, rfl⟩
section
variable {α : Type} {sz : Nat}
def CsA (a : Asn α sz) (h m : Heap) : List α → List Value → Foot → Prop
  | [], cs, F => cs = [] ∧ F = No
  | x :: l, cs, F => ∃ c1 c2 F1 F2, cs = c1 ++ c2 ∧ a.p h m x c1 F1 ∧ CsA a h m l c2 F2 ∧ Dj F1 F2 ∧ F = U F1 F2
variable {a : Asn α sz} {h h' m m' : Heap} {l l' : List α} {cs ds : List Value} {F F' F1 F2 G : Foot} {x y : α}
theorem CsA.len : ∀ {l : List α} {cs : List Value} {F : Foot}, CsA a h m l cs F → cs.length = l.length * sz
  | [], _, _, ⟨e, _⟩ => by rw [e]; simp
  | x :: l, _, _, ⟨c1, c2, F1, F2, e, h1, h2, _, _⟩ => by rw [e, List.length_append, CsA.len h2, a.len h1, List.length_cons, Nat.succ_mul, Nat.add_comm]
theorem CsA.flat : ∀ {l : List α} {cs : List Value} {F : Foot}, CsA a h m l cs F → ∀ v ∈ cs, Flat v
  | [], _, _, ⟨e, _⟩ => by rw [e]; exact Flats.nil
  | x :: l, _, _, ⟨c1, c2, F1, F2, e, h1, h2, _, _⟩ => by
    rw [e]; intro v hv
    rcases List.mem_append.1 hv with hv | hv
    · exact a.flat h1 v hv
    · exact CsA.flat h2 v hv
theorem CsA.lt : ∀ {l : List α} {cs : List Value} {F : Foot}, CsA a h m l cs F → ∀ b, F b → b < h.size
  | [], _, _, ⟨_, e⟩, b, hb => by rw [e] at hb; exact hb.elim
  | x :: l, _, _, ⟨c1, c2, F1, F2, _, h1, h2, _, rfl⟩, b, hb => hb.elim (a.lt h1 b) (CsA.lt h2 b)
theorem CsA.nl : ∀ {l : List α} {cs : List Value} {F : Foot}, CsA a h m l cs F → ∀ b, F b → ¬ Live m b
  | [], _, _, ⟨_, e⟩, b, hb => by rw [e] at hb; exact hb.elim
  | x :: l, _, _, ⟨c1, c2, F1, F2, _, h1, h2, _, rfl⟩, b, hb => hb.elim (a.nl h1 b) (CsA.nl h2 b)
theorem CsA.fr : ∀ {l : List α} {cs : List Value} {F : Foot}, CsA a h m l cs F → (∀ b, F b → h'[b]? = h[b]?) → Sub m m' → (∀ b, F b → ¬ Live m' b) → CsA a h' m' l cs F
  | [], _, _, hs, _, _, _ => hs
  | x :: l, _, _, ⟨c1, c2, F1, F2, e, h1, h2, d, rfl⟩, k1, k2, k3 => ⟨c1, c2, F1, F2, e, a.fr h1 (fun b hb => k1 b (.inl hb)) k2 (fun b hb => k3 b (.inl hb)), CsA.fr h2 (fun b hb => k1 b (.inr hb)) k2 (fun b hb => k3 b (.inr hb)), d, rfl⟩
theorem CsA.fz : ∀ {l : List α} {cs : List Value} {F : Foot}, CsA a h m l cs F → Sub m h → (∀ b, F b → G b) → CsE sz a.E (addV m h G) l cs
  | [], _, _, ⟨e, _⟩, _, _ => e
  | x :: l, _, _, ⟨c1, c2, F1, F2, e, h1, h2, d, rfl⟩, k1, k2 => ⟨c1, c2, e, a.len h1, a.fz h1 k1 (fun b hb => k2 b (.inl hb)), CsA.fz h2 k1 (fun b hb => k2 b (.inr hb))⟩
theorem CsA.append : ∀ {l : List α} {cs : List Value} {F : Foot}, CsA a h m l cs F → CsA a h m l' ds F' → Dj F F' → CsA a h m (l ++ l') (cs ++ ds) (U F F')
  | [], _, _, ⟨e, e'⟩, h', _ => by subst e; subst e'; rw [U.no_left]; exact h'
  | x :: l, _, _, ⟨c1, c2, F1, F2, e, h1, h2, d, e'⟩, h', dd => by
    subst e; subst e'
    rw [List.append_assoc]
    exact ⟨c1, _, F1, _, rfl, h1, CsA.append h2 h' dd.ur, Dj.u' d dd.ul, U.assoc⟩
theorem CsE.csa {E : Heap → α → List Value → Prop} {T : Tell sz E} : ∀ {l : List α} {cs : List Value}, CsE sz E m l cs → CsA (aE T) h m l cs No
  | [], _, e => ⟨e, rfl⟩
  | x :: l, _, ⟨c1, c2, e, h1, h2, h3⟩ => ⟨c1, c2, No, No, e, ⟨h2, rfl⟩, CsE.csa h3, .no, U.no_left.symm⟩
theorem CsA.cse {E : Heap → α → List Value → Prop} {T : Tell sz E} : ∀ {l : List α} {cs : List Value} {F : Foot}, CsA (aE T) h m l cs F → CsE sz E m l cs ∧ F = No
  | [], _, _, ⟨e, e'⟩ => ⟨e, e'⟩
  | x :: l, _, _, ⟨c1, c2, F1, F2, e, ⟨h1, h1'⟩, h2, _, e'⟩ => by
    obtain ⟨h3, h3'⟩ := CsA.cse h2
    subst h1'; subst h3'
    exact ⟨⟨c1, c2, e, T.len _ _ _ h1, h1, h3⟩, by rw [e', U.no_left]⟩
end
section
variable {α : Type} {sz : Nat}
def rowP (a : Asn α sz) (A : Option Addr) (c : Nat) (l : List α) (h m : Heap) (F : Foot) : Prop :=
  (l = [] ∧ c = 0 ∧ F = No) ∨ ∃ b t pre cs rest Fe, c ≠ 0 ∧ A = some ⟨b, pre.length, none⟩ ∧ Blk h b (pre ++ cs ++ rest) t ∧ CsA a h m l cs Fe ∧ l.length ≤ c ∧ (c - l.length) * sz ≤ rest.length ∧ ¬ Live m b ∧ ¬ Fe b ∧ F = U (fb b) Fe
def rR (a : Asn α sz) (A : Option Addr) (c : Nat) (l : List α) : Res where
  p := rowP a A c l
  z m := Rd sz a.E m A l ∧ l.length ≤ c
  lt := by
    rintro h m F (⟨_, _, rfl⟩ | ⟨b, t, pre, cs, rest, Fe, k0, k1, k2, k3, k4, k5, k6, k7, rfl⟩) i hi
    · exact hi.elim
    · rcases hi with hi | hi
      · unfold fb at hi; subst hi; exact k2.lt
      · exact k3.lt i hi
  nl := by
    rintro h m F (⟨_, _, rfl⟩ | ⟨b, t, pre, cs, rest, Fe, k0, k1, k2, k3, k4, k5, k6, k7, rfl⟩) i hi
    · exact hi.elim
    · rcases hi with hi | hi
      · unfold fb at hi; subst hi; exact k6
      · exact k3.nl i hi
  fr := by
    rintro h m F h' m' (⟨e1, e2, rfl⟩ | ⟨b, t, pre, cs, rest, Fe, k0, k1, k2, k3, k4, k5, k6, k7, rfl⟩) f1 f2 f3
    · exact .inl ⟨e1, e2, rfl⟩
    · exact .inr ⟨b, t, pre, cs, rest, Fe, k0, k1, k2.fr (f1 b (.inl rfl)), k3.fr (fun i hi => f1 i (.inr hi)) f2 (fun i hi => f3 i (.inr hi)), k4, k5, f3 b (.inl rfl), k7, rfl⟩
  fz := by
    rintro h m F G (⟨e1, e2, rfl⟩ | ⟨b, t, pre, cs, rest, Fe, k0, k1, k2, k3, k4, k5, k6, k7, rfl⟩) f1 f2
    · subst e1; exact ⟨.nil, Nat.zero_le _⟩
    · subst k1
      exact ⟨CsE.rd (k2.settle (f2 b (.inl rfl))) (k3.fz f1 (fun i hi => f2 i (.inr hi))) (fun _ _ h => h), k4⟩
variable {a : Asn α sz} {h h' h0 m m' m0 : Heap} {A : Option Addr} {c n k : Nat} {l l' : List α} {F F' G W : Foot} {x : Int} {y : α} {v : Value} {cs : List Value} {Rs : List Res} {b : Nat} {t : TypeId} {aa : Addr}
variable {E : Heap → α → List Value → Prop} {T : Tell sz E}
theorem rowP.cap (o : rowP a A c l h m F) : l.length ≤ c := by
  rcases o with ⟨rfl, rfl, _⟩ | ⟨b, t, pre, cs, rest, Fe, k0, k1, k2, k3, k4, _⟩
  · exact Nat.le_refl _
  · exact k4
theorem rowP.os (o : rowP (aE T) A c l h m F) (hw : ∀ b, F b → h0.size ≤ b ∨ W b) : OS W h0 sz E h m A l c ∧ F = fp A c := by
  rcases o with ⟨rfl, rfl, rfl⟩ | ⟨b, t, pre, cs, rest, Fe, k0, k1, k2, k3, k4, k5, k6, k7, rfl⟩
  · exact ⟨.inl ⟨rfl, rfl⟩, funext fun b => propext ⟨fun h => h.elim, fun h => h.1 rfl⟩⟩
  · obtain ⟨k8, rfl⟩ := k3.cse
    refine ⟨.inr ⟨b, t, pre, cs, rest, k1, k2, k8, k4, k5, hw b (.inl rfl), k6⟩, ?_⟩
    rw [U.no_right]
    subst k1
    exact funext fun i => propext ⟨fun hi => ⟨k0, _, rfl, hi.symm⟩, fun ⟨_, a, e, hi⟩ => by cases e; exact hi.symm⟩
theorem OS.rowP (o : OS W h0 sz E h m A l c) : rowP (aE T) A c l h m (fp A c) := by
  by_cases hc : c = 0
  · subst hc
    have := o.cap
    exact .inl ⟨List.length_eq_zero_iff.1 (by omega), rfl, funext fun b => propext ⟨fun h => h.1 rfl, fun h => h.elim⟩⟩
  rcases o with ⟨rfl, rfl⟩ | ⟨b, t, pre, cs, rest, k1, k2, k3, k4, k5, k6, k7⟩
  · exact (hc rfl).elim
  · refine .inr ⟨b, t, pre, cs, rest, No, hc, k1, k2, k3.csa, k4, k5, k7, fun h => h, ?_⟩
    rw [U.no_right]
    subst k1
    exact funext fun i => propext ⟨fun ⟨_, a, e, hi⟩ => by cases e; exact hi.symm, fun hi => ⟨hc, _, rfl, hi.symm⟩⟩
theorem Hold.os (O : Hold W h0 m0 h m Rs) (k : Nat) (hk : Rs[k]? = some (rR (aE T) A c l)) : OS W h0 sz E h m A l c := by
  obtain ⟨F, h1, h2, _⟩ := O.get k hk
  exact (rowP.os h1 h2).1
theorem Hold.ob (O : Hold W h0 m0 h m Rs) (k : Nat) (hk : Rs[k]? = some (rV b t cs)) : OB W h0 h m b cs t := by
  obtain ⟨F, ⟨h1, h3, rfl⟩, h2, _⟩ := O.get k hk
  exact ⟨h1, h2 b rfl, h3⟩
theorem Hold.cap (O : Hold W h0 m0 h m Rs) (k : Nat) (hk : Rs[k]? = some (rR a A c l)) : l.length ≤ c := by
  obtain ⟨F, h1, _⟩ := O.get k hk
  exact rowP.cap h1
theorem Hold.all (O : Hold W h0 m0 h m Rs) (k : Nat) (hk : Rs[k]? = some (rV b t cs)) : cellsH h ⟨b, 0, none⟩ 0 cs.length = some cs := (O.ob k hk).all
theorem Hold.setV (O : Hold W h0 m0 h m Rs) (k : Nat) (hk : Rs[k]? = some (rV b t cs)) {cs' : List Value} (o : OB W h0 h' m b cs' t) (S : St (fb b) h m h' m) : Hold W h0 m0 h' m (Rs.set k (rV b t cs')) := by
  obtain ⟨F, ⟨h1, h3, rfl⟩, h2, h4⟩ := O.get k hk
  exact h4 S ⟨o.1, o.2.2, rfl⟩ (fun _ h => .inl h)
theorem Hold.setR (O : Hold W h0 m0 h m Rs) (k : Nat) (hk : Rs[k]? = some (rR (aE T) A c l)) (o : OS W h0 sz E h' m A l' c) (S : St (fp A c) h m h' m) : Hold W h0 m0 h' m (Rs.set k (rR (aE T) A c l')) := by
  obtain ⟨F, h1, h2, h4⟩ := O.get k hk
  obtain ⟨_, rfl⟩ := rowP.os h1 h2
  exact h4 S o.rowP (fun _ h => .inl h)
variable {K : Heap → Prop}
theorem Hold.new {z : Array Value} (O : Hold W h0 m0 h m Rs) (H : ∀ h', Ext h h' → Hold W h0 m0 h' m (Rs ++ [rV h.size t z.toList]) → K h') : newH h (.cells z t) K :=
  newH_in fun h' hb e hs => H h' e (O.add (St.of_ext O.s e) ⟨hb, St.notLive O.s, rfl⟩ (fun i hi => by unfold fb at hi; omega))
theorem Hold.st (O : Hold W h0 m0 h m Rs) (k : Nat) (hk : Rs[k]? = some (rV b t cs)) (j : Nat) (hj : j < cs.length) (hf : Flat v) (H : ∀ h', Hold W h0 m0 h' m (Rs.set k (rV b t (cs.set j v))) → K h') : ∃ h', st1 h (Addr.add ⟨b, 0, none⟩ j) v = some h' ∧ K h' := by
  obtain ⟨h', h1, h2, h3⟩ := (O.ob k hk).st O.s hj hf
  exact ⟨h', h1, H h' (O.setV k hk h2 h3)⟩
theorem Hold.st0 (O : Hold W h0 m0 h m Rs) (k : Nat) (hk : Rs[k]? = some (rV b t cs)) (hj : 0 < cs.length) (hf : Flat v) (H : ∀ h', Hold W h0 m0 h' m (Rs.set k (rV b t (cs.set 0 v))) → K h') : ∃ h', st1 h ⟨b, 0, none⟩ v = some h' ∧ K h' := O.st k hk 0 hj hf H
theorem Hold.stA (O : Hold W h0 m0 h m Rs) (k : Nat) (hk : Rs[k]? = some (rV b t cs)) {ds : List Value} (hn : ds.length = cs.length) (hf : ∀ v ∈ ds, Flat v) (H : ∀ h', Hold W h0 m0 h' m (Rs.set k (rV b t ds)) → K h') : ∃ h', stH h ⟨b, 0, none⟩ ds 0 = some h' ∧ K h' := by
  obtain ⟨h', h1, h2, h3⟩ := (O.ob k hk).stA O.s ds hn hf
  exact ⟨h', h1, H h' (O.setV k hk h2 h3)⟩
theorem Hold.elstA (O : Hold W h0 m0 h m Rs) (k : Nat) (hk : Rs[k]? = some (rR (aE T) A c l)) (g : gi l x = some y) (ha : A = some aa) (hc : cellsH h (Addr.add aa (Int.toNat x * sz)) 0 sz = some cs) {ds : List Value} {y' : α} (hy : E m y' ds) (hf : ∀ v ∈ ds, Flat v) (e : l.set (Int.toNat x) y' = l')
    (H : ∀ h', Hold W h0 m0 h' m (Rs.set k (rR (aE T) A c l')) → K h') : ∃ h', stH h (Addr.add aa (Int.toNat x * sz)) ds 0 = some h' ∧ K h' := by
  subst e
  obtain ⟨h', h1, h2, h3⟩ := (O.os k hk).stA T O.s g ha hc hy hf
  exact ⟨h', h1, H h' (O.setR k hk h2 h3)⟩
theorem Hold.nil (O : Hold W h0 m0 h m Rs) (a : Asn α sz) (A : Option Addr) : Hold W h0 m0 h m (Rs ++ [rR a A 0 []]) := O.adds (R := rR a A 0 []) (.inl ⟨rfl, rfl, rfl⟩)
theorem Hold.row (O : Hold W h0 m0 h m Rs) (k : Nat) (hk : Rs[k]? = some (rV b t cs)) (a : Asn α sz) (hc : ∃ F, CsA a h m l cs F ∧ F = No) (hn : l.length = c) (h0' : c ≠ 0) : Hold W h0 m0 h m (Rs.set k (rR a (some ⟨b, 0, none⟩) c l)) :=
  O.conv k hk (R' := rR a (some ⟨b, 0, none⟩) c l) fun F hF => by
    obtain ⟨h1, h2, rfl⟩ := hF
    obtain ⟨_, hc, rfl⟩ := hc
    exact ⟨_, .inr ⟨b, t, [], cs, [], No, h0', rfl, by simpa using h1, hc, by omega, by simp [hn], h2, fun h => h, rfl⟩, fun i hi => hi.elim id (fun h => h.elim)⟩
theorem Hold.rowE (O : Hold W h0 m0 h m Rs) (k : Nat) (hk : Rs[k]? = some (rV b t cs)) (T : Tell sz E) (hc : CsE sz E m l cs) (hn : l.length = c) : Hold W h0 m0 h m (Rs.set k (rR (aE T) (some ⟨b, 0, none⟩) c l)) := by
  by_cases h0' : c = 0
  · subst h0'
    refine O.conv k hk (R' := rR (aE T) (some ⟨b, 0, none⟩) 0 l) fun F _ => ⟨No, .inl ⟨List.length_eq_zero_iff.1 hn, rfl, rfl⟩, fun _ h => h.elim⟩
  · exact O.row k hk (aE T) ⟨No, hc.csa, rfl⟩ hn h0'
end
section
variable {α : Type} {sz : Nat} {a : Asn α sz} {h h' h0 m m' m0 : Heap} {A : Option Addr} {c n k : Nat} {l l' xs : List α} {F F' G W : Foot} {x : Int} {y : α} {v X : Value} {cs es : List Value} {Rs : List Res} {b : Nat} {t e : TypeId} {aa : Addr}
variable {E : Heap → α → List Value → Prop} {T : Tell sz E}
theorem rowP.app {bytes : Nat} {z : Array Value} {K : Value → Heap → Prop} {F2 : Foot} (o : rowP a A c l h m F) (s : Sub m h) (hn : n = l.length) (hz : z.size = sz) (h1 : srcCells sz X h = some (xs.length, es)) (h2 : CsA a h m xs es F2) (hd : Dj F F2) (hb0 : 0 < bytes) (g : ap bytes l xs = some l')
    (hk : ∀ A' c' h' F', rowP a A' c' l' h' m F' → St F h m h' m → (∀ b, F' b → F b ∨ F2 b ∨ h.size ≤ b) → K (.slice A' l'.length c') h') : AppW e sz bytes z A n c X h K := by
  subst hn
  obtain ⟨hb, rfl⟩ := ap_e g
  have he := h2.len
  refine ⟨xs.length, es, h1, ?_⟩
  have hpush : ∀ (old : List Value) (Fo : Foot) (hold : oldCells sz A l.length h = some old) (hE : CsA a h m l old Fo) (hFo : ∀ b, Fo b → F b), c < l.length + xs.length →
      ∃ old, oldCells sz A l.length h = some old ∧ ∀ c', l.length + xs.length ≤ c' → K (.slice (some ⟨h.size, 0, none⟩) (l.length + xs.length) c') (h.push (.cells (old.toArray ++ es.toArray ++ zcells z (c' - (l.length + xs.length))) e)) := by
    intro old Fo hold hE hFo hlt
    refine ⟨old, hold, fun c' hc' => ?_⟩
    rw [show (Value.slice (some ⟨h.size, 0, none⟩) (l.length + xs.length) c') = .slice (some ⟨h.size, 0, none⟩) (l ++ xs).length c' by rw [List.length_append]]
    have e1 := Ext.push h (Obj.cells (old.toArray ++ es.toArray ++ zcells z (c' - (l.length + xs.length))) e)
    have S1 := St.of_ext (W := F) s e1
    have hA := hE.append h2 (hd.mono hFo (fun _ h => h))
    have hA' := hA.fr (fun i hi => e1.2 i (hA.lt i hi)) (.refl _) (fun i hi => hA.nl i hi)
    refine hk _ _ _ _ (.inr ⟨h.size, e, [], old ++ es, (zcells z (c' - (l.length + xs.length))).toList, _, by omega, rfl, ?_, hA', by rw [List.length_append]; exact hc', ?_, St.notLive s, fun hf => by have := hA.lt _ hf; omega, rfl⟩) S1 ?_
    · have := Blk.new h (old.toArray ++ es.toArray ++ zcells z (c' - (l.length + xs.length))) e
      simpa using this
    · rw [zc_len, hz, List.length_append]; exact Nat.le_refl _
    · rintro i (hi | hi | hi)
      · unfold fb at hi; exact .inr (.inr (by omega))
      · exact .inl (hFo i hi)
      · exact .inr (.inl hi)
  rcases o with ⟨rfl, rfl, rfl⟩ | ⟨b, t, pre, cs, rest, Fe, k0, rfl, k1, k2, k3, k4, k5, k6, rfl⟩
  · by_cases hx : xs.length = 0
    · have hxs : xs = [] := List.length_eq_zero_iff.1 hx
      subst hxs
      obtain ⟨rfl, rfl⟩ : es = [] ∧ F2 = No := h2
      refine .inl ⟨by simp, ?_⟩
      have fin := hk A 0 h No (.inl ⟨rfl, rfl, rfl⟩) (St.refl s) (fun b hb => .inl hb)
      cases A with
      | none => exact .inl ⟨rfl, fin⟩
      | some a => exact .inr ⟨a, h, rfl, by simp [stH], fin⟩
    · refine .inr ⟨by simp; omega, by simpa using hb, hb0, ?_⟩
      refine hpush [] No ?_ ⟨rfl, rfl⟩ (fun _ h => h) (by simp; omega)
      cases A with
      | none => rfl
      | some a => simp [oldCells, cellsH]
  · have hl := k2.len
    by_cases hle : l.length + xs.length ≤ c
    · refine .inl ⟨hle, .inr ?_⟩
      have hmul : (c - l.length) * sz = xs.length * sz + (c - l.length - xs.length) * sz := by rw [← Nat.add_mul]; congr 1; omega
      have k1' : Blk h b ((pre ++ cs) ++ rest.take (xs.length * sz) ++ rest.drop (xs.length * sz)) t := by rw [List.append_assoc, List.take_append_drop]; exact k1
      obtain ⟨h', s1, b1, o1⟩ := Blk.stH es (a := (⟨b, pre.length, none⟩ : Addr).add (l.length * sz)) (i := 0) k1' (by rw [add_block]) (add_spot _ rfl) (by rw [add_off, List.length_append, hl, Nat.add_zero]) (by rw [List.length_take, he]; omega) (h2.flat)
      refine ⟨_, h', rfl, s1, ?_⟩
      rw [show (Value.slice (some ⟨b, pre.length, none⟩) (l.length + xs.length) c) = .slice (some ⟨b, pre.length, none⟩) (l ++ xs).length c by rw [List.length_append]]
      have S : St (fb b) h m h' m := .only s k5 o1
      have S2 : St (U (fb b) Fe) h m h' m := ⟨S.up, S.s, S.size, fun i hi hn => S.fr i hi (fun h => hn (.inl h)), fun i hi hl => .inl hl⟩
      have hA := k2.append h2 hd.ur
      have nb : ∀ i, U Fe F2 i → i ≠ b := fun i hi e' => by subst e'; exact hi.elim k6 (fun hf => hd i (.inl rfl) hf)
      have hA' := hA.fr (fun i hi => S.fr i (hA.lt i hi) (fun e' => nb i hi e')) (.refl _) (fun i hi => hA.nl i hi)
      refine hk _ _ _ _ (.inr ⟨b, t, pre, cs ++ es, rest.drop (xs.length * sz), _, k0, rfl, by rw [← List.append_assoc pre]; exact b1, hA', by rw [List.length_append]; exact hle, ?_, k5, fun hf => nb b hf rfl, rfl⟩) S2 ?_
      · rw [List.length_drop, List.length_append, show c - (l.length + xs.length) = c - l.length - xs.length by omega]; omega
      · rintro i (hi | hi | hi)
        · exact .inl (.inl hi)
        · exact .inl (.inr hi)
        · exact .inr (.inl hi)
    · refine .inr ⟨by omega, hb, hb0, ?_⟩
      refine hpush cs Fe ?_ k2 (fun _ h => .inr h) (by omega)
      have := k1.cells (a := ⟨b, pre.length, none⟩) rfl rfl (l.length * sz) 0 (by simp [hl])
      simp only [oldCells, this, Nat.add_zero]
      rw [List.append_assoc, List.drop_left, List.take_append_of_le_length (by omega), List.take_of_length_le (by omega)]
variable {K : Value → Heap → Prop} {bytes : Nat} {z : Array Value}
theorem Hold.app (O : Hold W h0 m0 h m Rs) (k : Nat) (hk : Rs[k]? = some (rR (aE T) A c l)) (hn : n = l.length) (hz : z.size = sz) (hs : Src sz E h m X xs) (hb0 : 0 < bytes) (g : ap bytes l xs = some l')
    (H : ∀ A' c' h', Hold W h0 m0 h' m (Rs.set k (rR (aE T) A' c' l')) → K (.slice A' l'.length c') h') : AppW e sz bytes z A n c X h K := by
  obtain ⟨F, h1, h2, h3⟩ := O.get k hk
  obtain ⟨es, s1, s2⟩ := hs
  refine rowP.app h1 O.s hn hz s1 (s2.csa (T := T)) .no' hb0 g fun A' c' h' F' q1 q2 q3 => H A' c' h' (h3 (R' := rR (aE T) A' c' l') q2 q1 fun b hb => ?_)
  rcases q3 b hb with hb | hb | hb
  · exact .inl hb
  · exact hb.elim
  · exact .inr hb
theorem Hold.app0 (O : Hold W h0 m0 h m Rs) (a : Asn α sz) (hn : n = 0) (hz : z.size = sz) (h1 : srcCells sz X h = some (xs.length, es)) (h2 : ∃ F, CsA a h m xs es F ∧ F = No) (hb0 : 0 < bytes) (g : ap bytes ([] : List α) xs = some l')
    (H : ∀ A' c' h', Ext h h' → Hold W h0 m0 h' m (Rs ++ [rR a A' c' l']) → K (.slice A' l'.length c') h') : AppW e sz bytes z A n 0 X h K := by
  obtain ⟨_, h2, rfl⟩ := h2
  refine rowP.app (a := a) (l := []) (F := No) (.inl ⟨rfl, rfl, rfl⟩) O.s hn hz h1 h2 .no' hb0 g fun A' c' h' F' q1 q2 q3 => H A' c' h' q2.ext (O.add q2 q1 fun b hb => ?_)
  rcases q3 b hb with hb | hb | hb
  · exact hb.elim
  · exact hb.elim
  · exact hb
theorem Hold.appE0 (O : Hold W h0 m0 h m Rs) (T : Tell sz E) (hn : n = 0) (hz : z.size = sz) (hs : Src sz E h m X xs) (hb0 : 0 < bytes) (g : ap bytes ([] : List α) xs = some l')
    (H : ∀ A' c' h', Ext h h' → Hold W h0 m0 h' m (Rs ++ [rR (aE T) A' c' l']) → K (.slice A' l'.length c') h') : AppW e sz bytes z A n 0 X h K := by
  obtain ⟨es, s1, s2⟩ := hs
  exact O.app0 (aE T) hn hz s1 ⟨No, s2.csa, rfl⟩ hb0 g H
end
end Go.Hw

end
section
set_option linter.unusedVariables false
namespace Go.Hw
open Go
section
variable {m h : Heap} {a : Addr} {cs ds : List Value} {N n k j : Nat} {v : Value}
theorem ldAn (s : Sub m h) (hc : cellsH m a 0 N = some cs) (hn : N = n) : ldv true n h a = some (.agg cs.toArray) := by subst hn; exact ldA s hc
theorem ldAkn (s : Sub m h) (hc : cellsH m a 0 N = some cs) (k j : Nat) (hk : k + j ≤ N) : ldv true j h (Addr.add a k) = some (.agg ((cs.drop k).take j).toArray) := ldAk s hc hk
theorem lset' {α : Type} {l l' : List α} {i : Nat} {y : α} (g : l.set i y = l') : l.length = l'.length := by rw [← g, List.length_set]
end
section
variable {α : Type} {sz : Nat} {a : Asn α sz} {h h' h0 m m' m0 : Heap} {A Ai : Option Addr} {c ci n k : Nat} {l li : List α} {ll ll' : List (List α)} {W : Foot} {x : Int} {y : α} {v : Value} {cs : List Value} {Rs Rs' : List Res} {b : Nat} {t : TypeId} {aa : Addr} {K : Heap → Prop}
variable {E : Heap → α → List Value → Prop} {T : Tell sz E}
theorem Hold.ret (O : Hold W h0 m0 h m Rs) (Q : Hold No h m h' m' Rs') : Hold W h0 m0 h' m' (Rs ++ Rs') := by
  obtain ⟨W', h1, h2⟩ := O.call []
  simp only [dropL, takeL] at h1 h2
  exact h2 ⟨⟨Q.S.up, Q.S.s, Q.S.size, fun b hb _ => Q.S.fr b hb (fun h => h), fun b hb hl => (Q.S.lv b hb hl).elim .inl (fun h => h.elim)⟩, by
    obtain ⟨F, k1, k2⟩ := Q.q
    exact ⟨F, k1, fun b hb => (k2 b hb).elim .inl (fun h => h.elim)⟩⟩
theorem vfs_nil : ∀ R ∈ ([] : List Res), R.vf := fun _ h => by cases h
theorem vfs_cons {R : Res} (v : R.vf) (w : ∀ R ∈ Rs, R.vf) : ∀ R' ∈ R :: Rs, R'.vf := fun R' h => by
  rcases List.mem_cons.1 h with rfl | h
  · exact v
  · exact w R' h
theorem Hold.retC (O : Hold W h0 m0 h m Rs) (Q : Hold No h m h' m' Rs') (v : ∀ R ∈ Rs', R.vf) : Hold W h0 m0 h' m (Rs ++ Rs') := by
  obtain ⟨m1, W', h1, h2, _, _, h5⟩ := O.lend [] []
  have s1 : Hold No h m h' m Rs' := by
    refine ⟨Q.S.unlend O.s (fun _ h => h.elim), ?_⟩
    obtain ⟨F, k1, k2⟩ := Q.q
    have T := Q.S.unlend O.s (fun _ h => h.elim)
    exact ⟨F, k1.vf v T.s (fun b hb hl => (k2 b hb).elim (fun h => by have := O.s.lt hl; omega) (fun h => h.elim)), k2⟩
  exact O.ret s1
theorem Hold.lend0 (O : Hold W h0 m0 h m Rs) (ls : List Nat) : ∃ m1, Sub m m1 ∧ Sub m1 h ∧ ZAll m1 (takeL Rs ls) ∧
    (∀ {h' m' : Heap} {Rs' : List Res}, Hold No h m1 h' m' Rs' → Hold W h0 m0 h' m' (dropL Rs ls ++ Rs')) ∧
    (∀ {h' m' : Heap} {Rs' : List Res}, Hold No h m1 h' m' Rs' → (∀ R ∈ Rs', R.vf) → Hold W h0 m0 h' m (Rs ++ Rs')) := by
  obtain ⟨m1, W', h1, h2, h3, h4, h5⟩ := O.lend [] ls
  simp only [dropL, takeL] at h2 h3 h4 h5
  have up : ∀ {h' m' : Heap} {Rs' : List Res}, Hold No h m1 h' m' Rs' → Hold W' h m1 h' m' Rs' := fun Q =>
    ⟨⟨Q.S.up, Q.S.s, Q.S.size, fun b hb _ => Q.S.fr b hb (fun h => h), fun b hb hl => (Q.S.lv b hb hl).elim .inl (fun h => h.elim)⟩, by
      obtain ⟨F, k1, k2⟩ := Q.q
      exact ⟨F, k1, fun b hb => (k2 b hb).elim .inl (fun h => h.elim)⟩⟩
  exact ⟨m1, h1, h2.s, h3, fun Q => h4 (up Q), fun Q v => h5 (up Q) v⟩
theorem Hold.stAE {β : Type} {D : Heap → β → List Value → Prop} {z : β} (O : Hold W h0 m0 h m Rs) (k : Nat) (hk : Rs[k]? = some (rV b t cs)) {ds : List Value} (hn : ds.length = cs.length) (hf : ∀ v ∈ ds, Flat v) (e : D m z ds) (H : ∀ h' cs', D m z cs' → Hold W h0 m0 h' m (Rs.set k (rV b t cs')) → K h') : ∃ h', stH h ⟨b, 0, none⟩ ds 0 = some h' ∧ K h' :=
  O.stA k hk hn hf fun h' O' => H h' _ e O'
theorem Hold.recell (O : Hold W h0 m0 h m Rs) (k : Nat) (hk : Rs[k]? = some (rV b t cs)) {cs' : List Value} (e : cs = cs') : Hold W h0 m0 h m (Rs.set k (rV b t cs')) := by
  subst e
  exact O.conv k hk (R' := rV b t cs) fun F hF => ⟨F, hF, fun _ h => h⟩
theorem nn_len {n : Nat} (h : cs.length = n + 1) : cs ≠ [] := fun e => by subst e; cases h
end
section
variable {κ ν : Type} [DecidableEq κ] {h h' m m' h0 m0 : Heap} {b k : Nat} {W : Foot} {kv : κ → Value} {es : List (κ × ν)} {q : κ} {x zv : ν} {v z : Value} {P : Program} {t elem : TypeId} {EV : Heap → ν → Value → Prop} {M : MonoV EV} {Rs : List Res}
def FM (EV : Heap → ν → Value → Prop) (kv : κ → Value) (m : Heap) (b : Nat) (es : List (κ × ν)) : Prop := ∃ vs, MapB kv m b vs ∧ MR (EV m) es vs
def rM (M : MonoV EV) (kv : κ → Value) (b : Nat) (es : List (κ × ν)) : Res where
  p h m F := (∃ vs, MapB kv h b vs ∧ MR (EV m) es vs) ∧ ¬ Live m b ∧ F = fb b
  z m := FM EV kv m b es
  lt := by rintro h m F ⟨⟨vs, h1, _⟩, _, rfl⟩ i hi; unfold fb at hi; subst hi; exact h1.lt
  nl := by rintro h m F ⟨_, h2, rfl⟩ i hi; unfold fb at hi; subst hi; exact h2
  fr := by
    rintro h m F h' m' ⟨⟨vs, ⟨e, c, h1, h1'⟩, h2⟩, h3, rfl⟩ k1 k2 k3
    exact ⟨⟨vs, ⟨e, c, by rw [k1 b rfl]; exact h1, h1'⟩, h2.sub M k2⟩, k3 b rfl, rfl⟩
  fz := by
    rintro h m F G ⟨⟨vs, h1, h2⟩, h3, rfl⟩ k1 k2
    have hlt := h1.lt
    obtain ⟨e, c, h1, h1'⟩ := h1
    exact ⟨vs, ⟨e, c, by rw [addV_get hlt (.inr (k2 b rfl))]; exact h1, h1'⟩, h2.sub M (addV_up k1)⟩
omit [DecidableEq κ] in
theorem Hold.om (O : Hold W h0 m0 h m Rs) (k : Nat) (hk : Rs[k]? = some (rM M kv b es)) : OM W h0 EV kv h m b es := by
  obtain ⟨F, ⟨⟨vs, h1, h2⟩, h3, rfl⟩, h4, _⟩ := O.get k hk
  exact ⟨vs, h1, h2, h4 b rfl, h3⟩
omit [DecidableEq κ] in
theorem Hold.mkMap {K : Value → Heap → Prop} (O : Hold W h0 m0 h m Rs) (M : MonoV EV) (kv : κ → Value) (H : ∀ h', Ext h h' → Hold W h0 m0 h' m (Rs ++ [rM M kv h.size ([] : List (κ × ν))]) → K (.map (some h.size)) h') : Gen P (Instr.makeMap t none) h K :=
  gen_makeMap (kv := kv) fun h' b e _ => H h' e (O.add (R := rM M kv h.size ([] : List (κ × ν))) (St.of_ext O.s e) ⟨⟨[], b, rfl⟩, St.notLive O.s, rfl⟩ (fun i hi => by unfold fb at hi; omega))
theorem Hold.mapUpd {K : Unit → Heap → Prop} {es' : List (κ × ν)} (O : Hold W h0 m0 h m Rs) (k : Nat) (hk : Rs[k]? = some (rM M kv b es)) (ok : KeyOk P t kv elem) (q : κ) (he : EV m x v) (e : pset es q x = es') (H : ∀ h', Hold W h0 m0 h' m (Rs.set k (rM M kv b es')) → K () h') : Hwp P (Instr.mapUpdate t (.map (some b)) (kv q) v) h K := by
  subst e
  refine (O.om k hk).upd O.s ok q he fun h' o S => H h' ?_
  obtain ⟨F, ⟨_, h3, rfl⟩, h4, h5⟩ := O.get k hk
  obtain ⟨vs, k1, k2, _, k4⟩ := o
  exact h5 (R' := rM M kv b _) S ⟨⟨vs, k1, k2⟩, k4, rfl⟩ (fun _ h => .inl h)
end
end Go.Hw
namespace Go.Hw
theorem le_len {α : Type} {l : List α} {n k j : Nat} (h : l.length = n) (hk : k + j ≤ n) : k + j ≤ l.length := by omega
end Go.Hw
namespace Go.Hw
open Go
class SetAt (k : Nat) (L : List Res) (r : Res) (out : outParam (List Res)) : Prop where
  eq : L.set k r = out
instance {a r : Res} {l : List Res} : SetAt 0 (a :: l) r (r :: l) := ⟨rfl⟩
instance {k : Nat} {a r : Res} {l o : List Res} [S : SetAt k l r o] : SetAt (k + 1) (a :: l) r (a :: o) := ⟨by rw [List.set_cons_succ, S.eq]⟩
class GetAt (k : Nat) (L : List Res) (r : outParam Res) : Prop where
  eq : L[k]? = some r
instance {a : Res} {l : List Res} : GetAt 0 (a :: l) a := ⟨rfl⟩
instance {k : Nat} {a r : Res} {l : List Res} [S : GetAt k l r] : GetAt (k + 1) (a :: l) r := ⟨by rw [List.getElem?_cons_succ, S.eq]⟩
class Apd (L M : List Res) (out : outParam (List Res)) : Prop where
  eq : L ++ M = out
instance {M : List Res} : Apd [] M M := ⟨rfl⟩
instance {a : Res} {l M o : List Res} [S : Apd l M o] : Apd (a :: l) M (a :: o) := ⟨by rw [List.cons_append, S.eq]⟩
class PickT (L : List Res) (is : List Nat) (T D : outParam (List Res)) : Prop where
  t : takeL L is = T
  d : dropL L is = D
instance {L : List Res} : PickT L [] [] L := ⟨rfl, rfl⟩
instance {L L2 T D : List Res} {i : Nat} {is : List Nat} {r : Res} [G : GetAt i L r] [S : SetAt i L rE L2] [P : PickT L2 is T D] : PickT L (i :: is) (r :: T) D := ⟨by simp only [takeL, G.eq, S.eq, P.t], by simp only [dropL, S.eq, P.d]⟩
class Nm (L : List Res) (out : outParam (List Res)) : Prop where
  eq : L = out
instance : Nm [] [] := ⟨rfl⟩
instance {a : Res} {l : List Res} : Nm (a :: l) (a :: l) := ⟨rfl⟩
instance {L L' o : List Res} {k : Nat} {r : Res} [N : Nm L L'] [S : SetAt k L' r o] : Nm (L.set k r) o := ⟨by rw [N.eq, S.eq]⟩
instance {L L' M M' o : List Res} [N : Nm L L'] [N' : Nm M M'] [S : Apd L' M' o] : Nm (L ++ M) o := ⟨by rw [N.eq, N'.eq, S.eq]⟩
instance {L L' T D : List Res} {is : List Nat} [N : Nm L L'] [S : PickT L' is T D] : Nm (takeL L is) T := ⟨by rw [N.eq, S.t]⟩
instance {L L' T D : List Res} {is : List Nat} [N : Nm L L'] [S : PickT L' is T D] : Nm (dropL L is) D := ⟨by rw [N.eq, S.d]⟩
theorem Hold.nm {W : Foot} {h0 m0 h m : Heap} {Rs Rs' : List Res} (O : Hold W h0 m0 h m Rs) [N : Nm Rs Rs'] : Hold W h0 m0 h m Rs' := N.eq ▸ O
end Go.Hw

end
section
namespace Go.Hw
open Go Go.RowKit
structure Measure {H : Type} (bk : DataW H → Nat) : Prop where
  pos : ∀ d, 1 ≤ bk d
  str : ∀ b, b.length + 1 ≤ bk (.lit (.string b))
  slice : ∀ e s, (e.map bk).sum + 1 ≤ bk (.slice e s)
  agg : ∀ ps, (ps.map bk).sum + 1 ≤ bk (.agg ps)
section
variable {H : Type} {bk : DataW H → Nat} {enc : TypeId × Value → H} {P : Program} {W : World} {N : Nat}
def KT (N : Nat) {α : Type} (bk : DataW H → Nat) (enc : TypeId × Value → H) (P : Program) (W : World) (t : TypeId) (E : Heap → α → List Value → Prop) (K : α → Nat) : Prop :=
  ∀ (fuel : Nat), fuel < N → ∀ (cs : List Value) (x : DataW H × List MemPlace), DataW.trod enc P W 0 (fun _ => true) true fuel t cs = some x → ∀ a, E W.heap a cs → K a ≤ bk x.1
theorem kt_one (M : Measure bk) {α : Type} {t : TypeId} {E : Heap → α → List Value → Prop} : KT N bk enc P W t E (fun _ => 1) := fun _ _ _ _ _ _ _ => M.pos _
theorem kt_str (M : Measure bk) {t : TypeId} (hu : P.underlying t = some .string) : KT N bk enc P W t eStr (fun s => s.size + 1) := by
  intro fuel _ cs x h a ha
  obtain ⟨s, h1, h2, _⟩ := DataW.trod_string hu h
  rw [h2]
  have e : cs = [.string a] := ha
  rw [e] at h1
  cases h1
  have := M.str a.data.toList
  simpa using this
theorem kt_map {α β : Type} {t : TypeId} {E : Heap → α → List Value → Prop} {F : Heap → β → List Value → Prop} {K : α → Nat} {L : β → Nat} (he : KT N bk enc P W t E K) (hm : ∀ b cs, F W.heap b cs → ∃ a, E W.heap a cs ∧ L b ≤ K a) : KT N bk enc P W t F L :=
  fun fuel hf cs x h b hb => let ⟨a, ha, hl⟩ := hm b cs hb; Nat.le_trans hl (he fuel hf cs x h a ha)
theorem kt_down {α : Type} {t : TypeId} {E : Heap → α → List Value → Prop} {K : α → Nat} (he : KT (N + 1) bk enc P W t E K) : KT N bk enc P W t E K := fun fuel hf => he fuel (by omega)
theorem kt_rec {α : Type} {t : TypeId} {E : Heap → α → List Value → Prop} {K : α → Nat} (step : ∀ N, KT N bk enc P W t E K → KT (N + 1) bk enc P W t E K) : ∀ N, KT N bk enc P W t E K := by
  intro N
  induction N with
  | zero => intro fuel hf; omega
  | succ N ih => exact step N ih
theorem sum_map_le {α β : Type} {f : α → Nat} {g : β → Nat} : ∀ {l : List α} {m : List β}, l.length ≤ m.length → (∀ i (h1 : i < l.length) (h2 : i < m.length), f l[i] ≤ g m[i]) → (l.map f).sum ≤ (m.map g).sum := by
  intro l
  induction l with
  | nil => intro m _ _; simp
  | cons x l ih =>
    intro m hl h
    cases m with
    | nil => simp at hl
    | cons y m =>
      have h0 := h 0 (by simp) (by simp)
      have h1 := ih (m := m) (by simpa using hl) (fun i h1 h2 => h (i + 1) (Nat.succ_lt_succ h1) (Nat.succ_lt_succ h2))
      simp only [List.map_cons, List.sum_cons]
      simp only [List.getElem_cons_zero] at h0
      omega
theorem kt_slice (M : Measure bk) {α : Type} {t e : TypeId} {sz : Nat} {E : Heap → α → List Value → Prop} {K : α → Nat} (hu : P.underlying t = some (.slice e)) (hc : P.cellsOf e = sz) (he : KT N bk enc P W e E K) :
    KT N bk enc P W t (eRow sz E) (fun l => (l.map K).sum + 1) := by
  intro fuel hf cs x h l hl
  obtain ⟨A, c, hcs, hlc, hr⟩ := hl
  rcases DataW.trod_slice hu h with ⟨h1, h2⟩ | ⟨a, len, cap, elems, rest, n, hfn, h1, h2, _, hl', hm, hlen, hel, _, _⟩
  · rw [hcs] at h1
    simp only [List.cons.injEq, Value.slice.injEq, and_true] at h1
    have hl0 : l = [] := List.length_eq_zero_iff.1 h1.2.1
    subst hl0
    have := M.pos x.1
    simpa using this
  · rw [hcs] at h1
    simp only [List.cons.injEq, Value.slice.injEq, and_true] at h1
    obtain ⟨rfl, rfl, rfl⟩ := h1
    rw [h2]
    have hs := M.slice (elems.map (·.1)) (rest.map (·.1))
    have : (l.map K).sum ≤ ((elems.map (·.1)).map bk).sum := by
      refine sum_map_le (by simp [hlen]) (fun i i1 i2 => ?_)
      have h5 := hel i i1
      have hlt : i < elems.length := by omega
      rw [List.getElem?_eq_getElem hlt] at h5
      obtain ⟨cs', h6, h7⟩ := Option.bind_eq_some_iff.1 h5
      obtain ⟨a', ds, e1, e2, e3⟩ := hr i i1
      cases e1
      rw [hc] at h6
      have := cells_of h6
      rw [this] at e2
      cases e2
      have := he _ (by omega) _ _ h7 _ e3
      simpa using this
    exact Nat.le_trans (Nat.succ_le_succ this) hs
def KTF (N : Nat) {α : Type} (bk : DataW H → Nat) (enc : TypeId × Value → H) (P : Program) (W : World) (T o : Nat) (fs : List (TypeId × Nat)) (F : Heap → α → List Value → Prop) (K : α → Nat) : Prop :=
  ∀ (n : Nat), n < N → ∀ (cs : List Value) (xs : List (DataW H × List MemPlace)), cs.length = T → xs.length = fs.length → (∀ (i : Nat) (f : TypeId × Nat), fs[i]? = some f → DataW.trod enc P W 0 (fun _ => true) true n f.1 ((cs.drop f.2).take (P.cellsOf f.1)) = xs[i]?) →
    ∀ b, F W.heap b (cs.drop o) → K b ≤ ((xs.map (·.1)).map bk).sum
theorem ktf_nil {T : Nat} : KTF N bk enc P W T T [] eNil (fun _ => 0) := fun _ _ _ _ _ _ _ _ _ => Nat.zero_le _
theorem ktf_cons {α β : Type} {E : Heap → α → List Value → Prop} {F : Heap → β → List Value → Prop} {K : α → Nat} {L : β → Nat} {T o s : Nat} {f : TypeId} {fs : List (TypeId × Nat)} (hs : P.cellsOf f = s) (ht : Tell s E)
    (he : KT N bk enc P W f E K) (hf : KTF N bk enc P W T (o + s) fs F L) : KTF N bk enc P W T o ((f, o) :: fs) (eCons E F) (fun x => K x.1 + L x.2) := by
  intro n hn cs xs hl hx hi b hb
  cases xs with
  | nil => cases hx
  | cons x xs =>
    have h0 := hi 0 (f, o) rfl
    simp only [hs] at h0
    obtain ⟨c1, c2, e1, e2, e3⟩ := hb
    have hlen := ht.len _ _ _ e2
    have ec1 : (cs.drop o).take s = c1 := by rw [e1, ← hlen, List.take_left]
    have ec2 : cs.drop (o + s) = c2 := by rw [← List.drop_drop, e1, ← hlen, List.drop_left]
    rw [ec1] at h0
    have k1 := he n hn _ _ h0 _ e2
    have k2 := hf n hn cs xs hl (by simpa using hx) (fun i g hg => by simpa using hi (i + 1) g hg) b.2 (by rw [ec2]; exact e3)
    simp only [List.map_cons, List.sum_cons]
    omega
theorem kt_struct (M : Measure bk) {α : Type} {F : Heap → α → List Value → Prop} {K : α → Nat} {t : TypeId} {fs : List (TypeId × Nat)} {T : Nat} (hs : shapeOf P t = some fs) (hc : P.cellsOf t = T) (hf : KTF N bk enc P W T 0 fs F K) : KT (N + 1) bk enc P W t F (fun x => K x + 1) := by
  intro fuel hfl cs x h b hb
  unfold shapeOf at hs
  split at hs
  · rename_i fa hu
    cases hs
    obtain ⟨xs, n, hn, rfl, hl, hlen, hi⟩ := DataW.trod_struct hu h
    have := hf n (by omega) cs xs (by rw [hl, hc]) (by simpa using hlen) (fun i f hif => by
      rw [List.getElem?_map, Option.map_eq_some_iff] at hif
      obtain ⟨g, hg, rfl⟩ := hif
      exact hi i g (by simpa using hg)) b (by simpa using hb)
    have h2 := M.agg (xs.map (·.1))
    exact Nat.le_trans (Nat.succ_le_succ this) h2
  · cases hs
end
end Go.Hw

end
section
namespace Go.Hw
open Go
section
variable {α : Type} {sz : Nat} {E : Heap → α → List Value → Prop} {m m' h h' h0 m0 : Heap} {A : Option Addr} {l : List α} {c n : Nat} {W : Nat → Prop}
theorem OS.app_in {e : TypeId} {bytes : Nat} {z : Array Value} {X : Value} {xs : List α} {K : Value → Heap → Prop} (o : OS W h0 sz E h m A l c) (T : Tell sz E) (S : St W h0 m0 h m) (hn : n = l.length) (hs : Src sz E h m X xs) (hin : l.length + xs.length ≤ c)
    (hk : ∀ h', OS W h0 sz E h' m A (l ++ xs) c → St (fp A c) h m h' m → K (.slice A (l ++ xs).length c) h') : AppW e sz bytes z A n c X h K := by
  subst hn
  obtain ⟨es, h1, h2⟩ := hs
  have he := h2.len
  refine ⟨xs.length, es, h1, .inl ⟨hin, ?_⟩⟩
  rcases o with ⟨rfl, rfl⟩ | ⟨b, t, pre, cs, rest, rfl, k1, k2, k3, k4, k5, k6⟩
  · have hxs : xs = [] := List.length_eq_zero_iff.1 (by rw [List.length_nil] at hin; omega)
    subst hxs
    have : es = [] := h2
    subst this
    have fin := hk h (.inl ⟨rfl, rfl⟩) (St.refl S.s)
    cases A with
    | none => exact .inl ⟨rfl, fin⟩
    | some a => exact .inr ⟨a, h, rfl, by simp [stH], fin⟩
  · have hl := k2.len
    have hmul : (c - l.length) * sz = xs.length * sz + (c - l.length - xs.length) * sz := by rw [← Nat.add_mul]; congr 1; omega
    have k1' : Blk h b ((pre ++ cs) ++ rest.take (xs.length * sz) ++ rest.drop (xs.length * sz)) t := by rw [List.append_assoc, List.take_append_drop]; exact k1
    obtain ⟨h', s1, b1, o1⟩ := Blk.stH es (a := (⟨b, pre.length, none⟩ : Addr).add (l.length * sz)) (i := 0) k1' (by rw [add_block]) (add_spot _ rfl) (by rw [add_off, List.length_append, hl, Nat.add_zero]) (by rw [List.length_take, he]; omega) (h2.flat T)
    refine .inr ⟨_, h', rfl, s1, ?_⟩
    rw [show (Value.slice (some ⟨b, pre.length, none⟩) (l.length + xs.length) c) = .slice (some ⟨b, pre.length, none⟩) (l ++ xs).length c by rw [List.length_append]]
    refine hk _ (.inr ⟨b, t, pre, cs ++ es, rest.drop (xs.length * sz), rfl, by rw [← List.append_assoc pre]; exact b1, k2.append h2, by rw [List.length_append]; exact hin, ?_, k5, k6⟩) ?_
    · rw [List.length_drop, List.length_append, show c - (l.length + xs.length) = c - l.length - xs.length by omega]; omega
    · refine ⟨.refl _, fun i o1' j1 j2 => ?_, by rw [o1.1]; exact Nat.le_refl _, fun i hi hw => ?_, fun i _ hl => .inl hl⟩
      · rw [o1.2 i (fun e => k6 (e ▸ ⟨o1', j1, j2⟩))]; exact S.s i o1' j1 j2
      · by_cases hc : c = 0
        · have hes : es = [] := List.length_eq_zero_iff.1 (by rw [he, show xs.length = 0 by omega, Nat.zero_mul])
          subst hes
          simp only [stH, Option.some.injEq] at s1
          rw [s1]
        · exact o1.2 i fun e => hw ⟨hc, _, rfl, e.symm⟩
theorem OS.spare (o : OS W h0 sz E h m A l c) (s : Sub m h) {ds : List Value} (hd : l.length * sz + ds.length ≤ c * sz) (hf : ∀ v ∈ ds, Flat v) {a : Addr} (ha : A = some a) (hc : c ≠ 0) :
    ∃ h', stH h (a.add (l.length * sz)) ds 0 = some h' ∧ OS W h0 sz E h' m A l c ∧ St (fp A c) h m h' m := by
  rcases o with ⟨rfl, rfl⟩ | ⟨b, t, pre, cs, rest, rfl, k1, k2, k3, k4, k5, k6⟩
  · exact absurd rfl hc
  · cases ha
    have hl := k2.len
    have hmul : (c - l.length) * sz + l.length * sz = c * sz := by rw [← Nat.add_mul, Nat.sub_add_cancel k3]
    have k1' : Blk h b ((pre ++ cs) ++ rest.take ds.length ++ rest.drop ds.length) t := by rw [List.append_assoc, List.take_append_drop]; exact k1
    obtain ⟨h', s1, b1, o1⟩ := Blk.stH ds (a := (⟨b, pre.length, none⟩ : Addr).add (l.length * sz)) (i := 0) k1' (by rw [add_block]) (add_spot _ rfl) (by rw [add_off, List.length_append, hl, Nat.add_zero]) (by rw [List.length_take]; omega) hf
    refine ⟨h', s1, .inr ⟨b, t, pre, cs, ds ++ rest.drop ds.length, rfl, by rw [← List.append_assoc]; exact b1, k2, k3, ?_, k5, k6⟩, ?_⟩
    · rw [List.length_append, List.length_drop]; omega
    · refine ⟨.refl _, fun i o1' j1 j2 => ?_, by rw [o1.1]; exact Nat.le_refl _, fun i hi hw => o1.2 i fun e => hw ⟨hc, _, rfl, e.symm⟩, fun i _ hl => .inl hl⟩
      rw [o1.2 i (fun e => k6 (e ▸ ⟨o1', j1, j2⟩))]; exact s i o1' j1 j2
theorem gen_clear0 {P : Program} {t e : TypeId} {cap : Nat} {K : Value → Heap → Prop} (hu : P.underlying t = some (.slice e)) (hk : K (.tuple #[]) h) : Gen P (Builtin.clear_ #[t] 0 #[.slice A 0 cap]) h K := by
  unfold Gen Builtin.clear_
  refine hwp_bind (hwp_underlying hu ?_)
  cases A <;> exact hwp_bind (hwp_pure (hwp_pure hk))
theorem gen_clear {P : Program} {t e : TypeId} {a : Addr} {k cap : Nat} {z : Value} {h' : Heap} {K : Value → Heap → Prop} (hu : P.underlying t = some (.slice e)) (hz : zeroOf P e = some z) (hs : stH h a (Builtin.zeroCells z.cells (k + 1)).toList 0 = some h') (hk : K (.tuple #[]) h') : Gen P (Builtin.clear_ #[t] 0 #[.slice (some a) (k + 1) cap]) h K := by
  unfold Gen Builtin.clear_
  refine hwp_bind (hwp_underlying hu ?_)
  refine hwp_bind (s := zeroValue e) (hwp_zero hz ?_)
  refine hwp_bind (hwp_storeCells a _ 0 hs ?_)
  exact hwp_pure hk
end
end Go.Hw

end
section
set_option linter.unusedVariables false
namespace Go.Hw
open Go
theorem zcells_mk (z : Array Value) (n : Nat) : zcells z n = mkCells z (n * z.size) := rfl
theorem sliceA_zero {A : Option Addr} {c sz : Nat} : sliceA A (Int.toNat (0 : Int)) c sz = A := by
  unfold sliceA
  split
  · rfl
  · cases A with
    | none => rfl
    | some a => simp [Addr.add]
section
variable {α : Type} {sz : Nat} {E : Heap → α → List Value → Prop} {T : Tell sz E} {m m' h h' h0 m0 : Heap} {A : Option Addr} {l l8 : List α} {c c2 n k : Nat} {W : Foot} {P : Program} {t e : TypeId} {zv : Value} {zp : α} {lo hi : Int} {Rs : List Res}
theorem zc_flat {z : Array Value} (hf : ∀ v ∈ z.toList, Flat v) (n : Nat) : ∀ v ∈ (zcells z n).toList, Flat v := by
  rw [zcells_mk, mkCells_flat rfl]
  intro v hv
  obtain ⟨l, h1, h2⟩ := List.mem_flatten.1 hv
  rw [(List.mem_replicate.1 h1).2] at h2
  exact hf v h2
theorem delete_ok {R : Value → Heap → Prop} {x1 x2 : Int} {bytes : Nat} {z : Array Value} (O : Hold W h0 m0 h m Rs) (k : Nat) (hk : Rs[k]? = some (rR (aE T) A c l)) (hu : P.underlying t = some (.slice e)) (hz : zeroOf P e = some zv) (hE : E m zp zv.cells.toList) (g : 0 ≤ x1 ∧ x1 ≤ x2 ∧ x2 ≤ (l.length : Int))
    (H : ∀ h', Hold W h0 m0 h' m (Rs.set k (rR (aE T) A c (l.take x1.toNat ++ l.drop x2.toNat))) → R (.slice A (l.take x1.toNat ++ l.drop x2.toNat).length c) h') :
    0 ≤ x1 ∧ x1 ≤ x2 ∧ x2 ≤ ((l.length : Nat) : Int) ∧ ((l.length : Nat) : Int) ≤ ((c : Nat) : Int) ∧ (splitB (x1 == x2) (R (Value.slice A l.length c) h) (0 ≤ (0 : Int) ∧ (0 : Int) ≤ x1 ∧ x1 ≤ ((c : Nat) : Int) ∧ (0 ≤ x2 ∧ x2 ≤ ((l.length : Nat) : Int) ∧ ((l.length : Nat) : Int) ≤ ((c : Nat) : Int) ∧ (AppW e sz bytes z (sliceA A (Int.toNat (0 : Int)) c sz) (Int.toNat x1 - Int.toNat (0 : Int)) (c - Int.toNat (0 : Int)) (Value.slice (sliceA A (Int.toNat x2) c sz) (Int.toNat ((l.length : Nat) : Int) - Int.toNat x2) (c - Int.toNat x2)) h fun v1_ h2_ => ∃ A3_, ∃ n3_, ∃ c3_, v1_ = (Value.slice A3_ n3_ c3_) ∧ 0 ≤ ((n3_ : Nat) : Int) ∧ ((n3_ : Nat) : Int) ≤ ((l.length : Nat) : Int) ∧ ((l.length : Nat) : Int) ≤ ((c3_ : Nat) : Int) ∧ (Gen P (Builtin.clear_ #[t] 0 #[(Value.slice (sliceA A3_ (Int.toNat ((n3_ : Nat) : Int)) c3_ sz) (Int.toNat ((l.length : Nat) : Int) - Int.toNat ((n3_ : Nat) : Int)) (c3_ - Int.toNat ((n3_ : Nat) : Int)))]) h2_ fun v4_ h5_ => v4_ = (Value.tuple #[]) ∧ R (Value.slice A3_ n3_ c3_) h5_))))) := by
  obtain ⟨g1, g2, g3⟩ := g
  have hc := O.cap k hk
  have o := O.os k hk
  refine ⟨g1, g2, g3, by omega, ?_⟩
  refine split_eq (fun q => ?_) (fun q => ?_)
  · subst q
    have e1 : l.take x1.toNat ++ l.drop x1.toNat = l := List.take_append_drop _ _
    have := H h (by rw [e1]; exact O.conv k hk (R' := rR (aE T) A c l) fun F hF => ⟨F, hF, fun _ h => h⟩)
    rw [e1] at this
    exact this
  · refine ⟨by decide, g1, by omega, by omega, g3, by omega, ?_⟩
    have w1 : sls l 0 x1 = some (l.take x1.toNat) := by rw [sls_of (by omega) g1 (by omega), sl_hi]
    have w2 : sls l x2 (l.length : Int) = some (l.drop x2.toNat) := by rw [sls_of (by omega) g3 (by omega), sl_lo]
    have o1 := o.sls w1 (mx := c) (by omega) (Nat.le_refl _)
    rw [sliceA_zero] at o1 ⊢
    have o2 := o.sls w2 (mx := c) (by omega) (Nat.le_refl _)
    have e1 : Int.toNat x1 - Int.toNat (0 : Int) = (l.take x1.toNat).length := by rw [List.length_take]; omega
    have e2 : Int.toNat ((l.length : Nat) : Int) - Int.toNat x2 = (l.drop x2.toNat).length := by rw [List.length_drop]; omega
    have hlen : (l.take x1.toNat).length + (l.drop x2.toNat).length ≤ l.length := by rw [List.length_take, List.length_drop]; omega
    refine OS.app_in o1 T O.S e1 (o2.srcE e2) (by rw [show c - Int.toNat (0 : Int) = c by simp]; omega) fun h2 o3 S3 => ?_
    rw [show c - Int.toNat (0 : Int) = c by simp] at o3 S3 ⊢
    refine ⟨_, _, _, rfl, Int.natCast_nonneg _, by rw [List.length_append]; omega, by omega, ?_⟩
    rw [show Int.toNat (((l.take x1.toNat ++ l.drop x2.toNat).length : Nat) : Int) = (l.take x1.toNat ++ l.drop x2.toNat).length from rfl, show Int.toNat ((l.length : Nat) : Int) = l.length from rfl]
    by_cases hd : l.length - (l.take x1.toNat ++ l.drop x2.toNat).length = 0
    · rw [hd]
      exact gen_clear0 hu ⟨rfl, H h2 (O.setR k hk o3 S3)⟩
    · obtain ⟨j, hj⟩ : ∃ j, l.length - (l.take x1.toNat ++ l.drop x2.toNat).length = j + 1 := ⟨l.length - (l.take x1.toNat ++ l.drop x2.toNat).length - 1, by omega⟩
      rw [hj]
      have hzs : zv.cells.size = sz := by have := T.len _ _ _ hE; simpa using this
      have hcne : c ≠ 0 := by omega
      obtain ⟨a, ha⟩ : ∃ a, A = some a := by
        rcases o with ⟨rfl, hc0⟩ | ⟨b, t, pre, cs, rest, rfl, _⟩
        · exact absurd hc0 hcne
        · exact ⟨_, rfl⟩
      obtain ⟨h5, s5, o5, S5⟩ := o3.spare (O.setR k hk o3 S3).s (ds := (zcells zv.cells (j + 1)).toList) (by
        rw [zc_len, hzs, ← Nat.add_mul]; exact Nat.mul_le_mul_right _ (by omega)) (zc_flat (T.flat _ _ _ hE) _) ha hcne
      have e5 : sliceA A (l.take x1.toNat ++ l.drop x2.toNat).length c sz = some (a.add ((l.take x1.toNat ++ l.drop x2.toNat).length * sz)) := by
        unfold sliceA; rw [if_neg (by omega), ha]; rfl
      rw [e5]
      refine gen_clear hu hz (h' := h5) s5 ⟨rfl, H h5 (O.setR k hk o5 (S3.then S5 fun b _ hb => .inr hb))⟩
end
end Go.Hw
namespace Go.Hw
open Go
end Go.Hw
namespace Go.Hw
open Go
end Go.Hw

end
section
set_option linter.unusedVariables false
namespace Go.Hw
open Go
end Go.Hw

end
section
set_option linter.unusedVariables false
namespace Go.Hw
open Go
end Go.Hw

end
section
set_option linter.unusedVariables false
namespace Go.Hw
open Go Go.RowKit
end Go.Hw

end
section
set_option linter.unusedVariables false
namespace Go.Hw
open Go
end Go.Hw
namespace Go.Hw
open Go
end Go.Hw
namespace Go.Hw
open Go
end Go.Hw
namespace Go.Hw
open Go
end Go.Hw
namespace Go.Hw
open Go
end Go.Hw

end
section
set_option linter.unusedVariables false
namespace Go.Hw
open Go
end Go.Hw

end
