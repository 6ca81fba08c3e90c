/- The forward texts of functions of the given program, each with its proof by the kernel. Printed by a program of this session. -/
import Derived.Test.YtilmfjdagnbbaabHwT
namespace Go.Proofs.Ytilmfjdagnbbaab.Fw
open Go Go.Hw Go.Proofs
set_option linter.unusedVariables false

/-! ### roadstead/roadref3.SameWords: function 54 -/
def f54.T : Tab := { sh := tSh, tup := tTup, keep := [], plan := [(6, (.take 0 (.take 1 (.take 2 (.take 4 (.take 5 (.take 6 (.take 3 (.take 7 (.take 8 .done))))))))))] }
def f54.kp : Keep := [([false, false, true, false, true, true], [0, 1, 12, 13])]
theorem f54.good : goodCode Try.prog f54.T (rootOf Try.f54) = true := by kernel_rfl
set_option maxRecDepth 100000 in
theorem f54.ok : calleeOk Try.prog 54 = true := by kernel_rfl
def f54.l0 (R : Value → Heap → Prop) (A0 : Option Addr) (n0 : Nat) (c0 : Nat) (A1 : Option Addr) (n1 : Nat) (c1 : Nat) (x12 : Int) (x13 : Int) (h : Heap) : Prop := Pt Try.prog Try.f54 R [false, false, true, false, true, true] (mkFr [(0, (Value.slice A0 n0 c0)), (1, (Value.slice A1 n1 c1)), (12, (Value.int .i64 x12)), (13, (Value.int .i64 x13))]) h
set_option maxRecDepth 100000 in
def f54.l0T (R : Value → Heap → Prop) (A0 : Option Addr) (n0 : Nat) (c0 : Nat) (A1 : Option Addr) (n1 : Nat) (c1 : Nat) (x12 : Int) (x13 : Int) (h : Heap) : Prop :=
  splitB (decide (x13 < x12)) (ptrOk A0 fun a1_ => 0 ≤ x13 ∧ x13 < ((n0 : Nat) : Int) ∧ (ptrOk A1 fun a2_ => 0 ≤ x13 ∧ x13 < ((n1 : Nat) : Int) ∧ (∃ v3_, ldv false 1 h (Addr.add a1_ (Int.toNat x13 * 1)) = some v3_ ∧ ∃ x4_, v3_ = (Value.int .u64 x4_) ∧ ∃ v5_, ldv false 1 h (Addr.add a2_ (Int.toNat x13 * 1)) = some v5_ ∧ ∃ x6_, v5_ = (Value.int .u64 x6_) ∧ splitB (x4_ != x6_) (R (Value.bool false) h) (f54.l0 R A0 n0 c0 A1 n1 c1 x12 (IntKind.wrap .i64 (x13 + (1 : Int))) h)))) (R (Value.bool true) h)
set_option maxRecDepth 100000 in
theorem f54.l0_in {R : Value → Heap → Prop} {A0 : Option Addr} {n0 : Nat} {c0 : Nat} {A1 : Option Addr} {n1 : Nat} {c1 : Nat} {x12 : Int} {x13 : Int} {h : Heap} (H : f54.l0T R A0 n0 c0 A1 n1 c1 x12 x13 h) : f54.l0 R A0 n0 c0 A1 n1 c1 x12 x13 h :=
  pt_intro mixed f54.good (Eq.mpr (show (Fwd Try.prog f54.T f54.kp Try.f54 R [false, false, true, false, true, true] (mkFr [(0, (Value.slice A0 n0 c0)), (1, (Value.slice A1 n1 c1)), (12, (Value.int .i64 x12)), (13, (Value.int .i64 x13))]) h) = (f54.l0T R A0 n0 c0 A1 n1 c1 x12 x13 h) by kernel_rfl) H)
set_option maxRecDepth 100000 in
def f54.runT (R : Value → Heap → Prop) (A0 : Option Addr) (n0 : Nat) (c0 : Nat) (A1 : Option Addr) (n1 : Nat) (c1 : Nat) (h : Heap) : Prop :=
  splitB (((n0 : Nat) : Int) != ((n1 : Nat) : Int)) (R (Value.bool false) h) (f54.l0 R A0 n0 c0 A1 n1 c1 ((n0 : Nat) : Int) (0 : Int) h)
set_option maxRecDepth 100000 in
theorem f54.run {R : Value → Heap → Prop} {A0 : Option Addr} {n0 : Nat} {c0 : Nat} {A1 : Option Addr} {n1 : Nat} {c1 : Nat} {h : Heap} (H : f54.runT R A0 n0 c0 A1 n1 c1 h) : Run Try.prog 54 #[(Value.slice A0 n0 c0), (Value.slice A1 n1 c1)] h R :=
  run_of mixed Try.func54 (by kernel_rfl) (by kernel_rfl) f54.good (Eq.mpr (show (Fwd Try.prog f54.T f54.kp Try.f54 R [] (mkFr (argL [(Value.slice A0 n0 c0), (Value.slice A1 n1 c1)] 0)) h) = (f54.runT R A0 n0 c0 A1 n1 c1 h) by kernel_rfl) H)

/-! ### roadstead/roadref3.Deep: function 115 -/
def f115.T : Tab := { sh := tSh, tup := tTup, keep := [], plan := [] }
def f115.kp : Keep := [([false, false, true, false, true, true], [4, 5, 11, 12, 13])]
theorem f115.good : goodCode Try.prog f115.T (rootOf Try.f115) = true := by kernel_rfl
set_option maxRecDepth 100000 in
theorem f115.ok : calleeOk Try.prog 115 = true := by kernel_rfl
def f115.l0 (R : Value → Heap → Prop) (x4 : Int) (x5 : Int) (A11 : Option Addr) (n11 : Nat) (c11 : Nat) (x12 : Int) (x13 : Int) (h : Heap) : Prop := Pt Try.prog Try.f115 R [false, false, true, false, true, true] (mkFr [(4, (Value.int .i64 x4)), (5, (Value.int .i64 x5)), (11, (Value.slice A11 n11 c11)), (12, (Value.int .i64 x12)), (13, (Value.int .i64 x13))]) h
set_option maxRecDepth 100000 in
def f115.l0T (R : Value → Heap → Prop) (x4 : Int) (x5 : Int) (A11 : Option Addr) (n11 : Nat) (c11 : Nat) (x12 : Int) (x13 : Int) (h : Heap) : Prop :=
  splitB (decide (x13 < x12)) (ptrOk A11 fun a1_ => 0 ≤ x13 ∧ x13 < ((n11 : Nat) : Int) ∧ (∃ v2_, ldv true 4 h (Addr.add a1_ (Int.toNat x13 * 4)) = some v2_ ∧ newH h (Obj.cells #[(Value.int .i64 (0 : Int)), (Value.int .i64 (0 : Int)), (Value.string (ByteArray.mk #[])), (Value.slice none 0 0)] 137) fun h3_ => ∃ l5_ : List Value, v2_ = Value.agg l5_.toArray ∧ l5_.length = 4 ∧ ∃ h4_, stH h3_ (⟨Array.size h, 0, none⟩) l5_ 0 = some h4_ ∧ ∃ v6_, ldv true 4 h4_ (⟨Array.size h, 0, none⟩) = some v6_ ∧ Run Try.prog 115 #[v6_] h4_ fun v7_ h8_ => ∃ x9_, ∃ x10_, v7_ = (Value.tuple #[(Value.int .i64 x9_), (Value.int .i64 x10_)]) ∧ f115.l0 R (if x9_ > x4 then x9_ else x4) (IntKind.wrap .i64 (x5 + x10_)) A11 n11 c11 x12 (IntKind.wrap .i64 (x13 + (1 : Int))) h8_)) (R (Value.tuple #[(Value.int .i64 (IntKind.wrap .i64 (x4 + (1 : Int)))), (Value.int .i64 x5)]) h)
set_option maxRecDepth 100000 in
theorem f115.l0_in {R : Value → Heap → Prop} {x4 : Int} {x5 : Int} {A11 : Option Addr} {n11 : Nat} {c11 : Nat} {x12 : Int} {x13 : Int} {h : Heap} (H : f115.l0T R x4 x5 A11 n11 c11 x12 x13 h) : f115.l0 R x4 x5 A11 n11 c11 x12 x13 h :=
  pt_intro mixed f115.good (Eq.mpr (show (Fwd Try.prog f115.T f115.kp Try.f115 R [false, false, true, false, true, true] (mkFr [(4, (Value.int .i64 x4)), (5, (Value.int .i64 x5)), (11, (Value.slice A11 n11 c11)), (12, (Value.int .i64 x12)), (13, (Value.int .i64 x13))]) h) = (f115.l0T R x4 x5 A11 n11 c11 x12 x13 h) by kernel_rfl) H)
set_option maxRecDepth 100000 in
def f115.runT (R : Value → Heap → Prop) (v0 : Value) (h : Heap) : Prop :=
  newH h (Obj.cells ((v0).cells) 137) fun h1_ => ∃ v2_, ldv false 1 h1_ (Addr.add (⟨Array.size h, 0, none⟩) 3) = some v2_ ∧ ∃ A3_, ∃ n3_, ∃ c3_, v2_ = (Value.slice A3_ n3_ c3_) ∧ f115.l0 R (0 : Int) (1 : Int) A3_ n3_ c3_ ((n3_ : Nat) : Int) (0 : Int) h1_
set_option maxRecDepth 100000 in
theorem f115.run {R : Value → Heap → Prop} {v0 : Value} {h : Heap} (H : f115.runT R v0 h) : Run Try.prog 115 #[v0] h R :=
  run_of mixed Try.func115 (by kernel_rfl) (by kernel_rfl) f115.good (Eq.mpr (show (Fwd Try.prog f115.T f115.kp Try.f115 R [] (mkFr (argL [v0] 0)) h) = (f115.runT R v0 h) by kernel_rfl) H)

/-! ### roadstead/roadlaw3.flat: function 65 -/
def f65.T : Tab := { sh := tSh, tup := tTup, keep := [], plan := [] }
def f65.kp : Keep := []
theorem f65.good : goodCode Try.prog f65.T (rootOf Try.f65) = true := by kernel_rfl
set_option maxRecDepth 100000 in
theorem f65.ok : calleeOk Try.prog 65 = true := by kernel_rfl
set_option maxRecDepth 100000 in
def f65.runT (R : Value → Heap → Prop) (v0 : Value) (h : Heap) : Prop :=
  newH h (Obj.cells ((v0).cells) 137) fun h1_ => ∃ v2_, ldv true 4 h1_ (⟨Array.size h, 0, none⟩) = some v2_ ∧ Run Try.prog 115 #[v2_] h1_ fun v3_ h4_ => ∃ x5_, ∃ x6_, v3_ = (Value.tuple #[(Value.int .i64 x5_), (Value.int .i64 x6_)]) ∧ splitB (decide (x5_ ≤ (60 : Int))) (R (Value.bool (decide (x6_ ≤ (500 : Int)))) h4_) (R (Value.bool false) h4_)
set_option maxRecDepth 100000 in
theorem f65.run {R : Value → Heap → Prop} {v0 : Value} {h : Heap} (H : f65.runT R v0 h) : Run Try.prog 65 #[v0] h R :=
  run_of mixed Try.func65 (by kernel_rfl) (by kernel_rfl) f65.good (Eq.mpr (show (Fwd Try.prog f65.T f65.kp Try.f65 R [] (mkFr (argL [v0] 0)) h) = (f65.runT R v0 h) by kernel_rfl) H)

/-! ### slices.Clone[roadstead/heap.Heap,uint64]: function 53 -/
def f53.T : Tab := { sh := tSh, tup := tTup, keep := [], plan := [] }
def f53.kp : Keep := []
theorem f53.good : goodCode Try.prog f53.T (rootOf Try.f53) = true := by kernel_rfl
set_option maxRecDepth 100000 in
theorem f53.ok : calleeOk Try.prog 53 = true := by kernel_rfl
set_option maxRecDepth 100000 in
def f53.runT (R : Value → Heap → Prop) (A0 : Option Addr) (n0 : Nat) (c0 : Nat) (h : Heap) : Prop :=
  splitB (Option.isNone A0) (R (Value.slice none 0 0) h) (newH h (Obj.cells #[] 98) fun h1_ => AppW 98 1 8 #[(Value.int .u64 (0 : Int))] (some ⟨Array.size h, 0, none⟩) 0 0 (Value.slice A0 n0 c0) h1_ fun v2_ h3_ => ∃ A4_, ∃ n4_, ∃ c4_, v2_ = (Value.slice A4_ n4_ c4_) ∧ R (Value.slice A4_ n4_ c4_) h3_)
set_option maxRecDepth 100000 in
theorem f53.run {R : Value → Heap → Prop} {A0 : Option Addr} {n0 : Nat} {c0 : Nat} {h : Heap} (H : f53.runT R A0 n0 c0 h) : Run Try.prog 53 #[(Value.slice A0 n0 c0)] h R :=
  run_of mixed Try.func53 (by kernel_rfl) (by kernel_rfl) f53.good (Eq.mpr (show (Fwd Try.prog f53.T f53.kp Try.f53 R [] (mkFr (argL [(Value.slice A0 n0 c0)] 0)) h) = (f53.runT R A0 n0 c0 h) by kernel_rfl) H)

/-! ### roadstead/term.Small: function 153 -/
def f153.T : Tab := { sh := tSh, tup := tTup, keep := [], plan := [] }
def f153.kp : Keep := []
theorem f153.good : goodCode Try.prog f153.T (rootOf Try.f153) = true := by kernel_rfl
set_option maxRecDepth 100000 in
theorem f153.ok : calleeOk Try.prog 153 = true := by kernel_rfl
set_option maxRecDepth 100000 in
def f153.runT (R : Value → Heap → Prop) (x0 : Int) (h : Heap) : Prop :=
  splitB (decide (x0 ≥ (-1152921504606846976 : Int))) (R (Value.bool (decide (x0 < (1152921504606846976 : Int)))) h) (R (Value.bool false) h)
set_option maxRecDepth 100000 in
theorem f153.run {R : Value → Heap → Prop} {x0 : Int} {h : Heap} (H : f153.runT R x0 h) : Run Try.prog 153 #[(Value.int .i64 x0)] h R :=
  run_of mixed Try.func153 (by kernel_rfl) (by kernel_rfl) f153.good (Eq.mpr (show (Fwd Try.prog f153.T f153.kp Try.f153 R [] (mkFr (argL [(Value.int .i64 x0)] 0)) h) = (f153.runT R x0 h) by kernel_rfl) H)

/-! ### roadstead/term.Word: function 118 -/
def f118.T : Tab := { sh := tSh, tup := tTup, keep := [], plan := [] }
def f118.kp : Keep := [([true, false, false, false, true], [0, 1, 6]), ([true, true, true, false, false, false, true], [0, 1, 6]), ([true, true, true, true, true, false, false, false, true], [0, 1, 6]), ([true, false, false, true], [0, 1, 6]), ([true, true, true, false, false, true], [49])]
theorem f118.good : goodCode Try.prog f118.T (rootOf Try.f118) = true := by kernel_rfl
set_option maxRecDepth 100000 in
theorem f118.ok : calleeOk Try.prog 118 = true := by kernel_rfl
def f118.j1 (R : Value → Heap → Prop) (x0 : Int) (x1 : Int) (b6 : Bool) (h : Heap) : Prop := Pt Try.prog Try.f118 R [true, false, false, false, true] (mkFr [(0, (Value.int .i64 x0)), (1, (Value.int .i64 x1)), (6, (Value.bool b6))]) h
def f118.j0 (R : Value → Heap → Prop) (x0 : Int) (x1 : Int) (b6 : Bool) (h : Heap) : Prop := Pt Try.prog Try.f118 R [true, false, false, true] (mkFr [(0, (Value.int .i64 x0)), (1, (Value.int .i64 x1)), (6, (Value.bool b6))]) h
def f118.j3 (R : Value → Heap → Prop) (x0 : Int) (x1 : Int) (b6 : Bool) (h : Heap) : Prop := Pt Try.prog Try.f118 R [true, true, true, false, false, false, true] (mkFr [(0, (Value.int .i64 x0)), (1, (Value.int .i64 x1)), (6, (Value.bool b6))]) h
def f118.j2 (R : Value → Heap → Prop) (b49 : Bool) (h : Heap) : Prop := Pt Try.prog Try.f118 R [true, true, true, false, false, true] (mkFr [(49, (Value.bool b49))]) h
def f118.j4 (R : Value → Heap → Prop) (x0 : Int) (x1 : Int) (b6 : Bool) (h : Heap) : Prop := Pt Try.prog Try.f118 R [true, true, true, true, true, false, false, false, true] (mkFr [(0, (Value.int .i64 x0)), (1, (Value.int .i64 x1)), (6, (Value.bool b6))]) h
set_option maxRecDepth 100000 in
def f118.j1T (R : Value → Heap → Prop) (x0 : Int) (x1 : Int) (b6 : Bool) (h : Heap) : Prop :=
  splitB b6 (f118.j0 R x0 x1 b6 h) (splitB (x0 == (2 : Int)) (splitB (x1 == (0 : Int)) (f118.j3 R x0 x1 true h) (f118.j3 R x0 x1 (x1 == (1 : Int)) h)) (f118.j3 R x0 x1 false h))
set_option maxRecDepth 100000 in
theorem f118.j1_in {R : Value → Heap → Prop} {x0 : Int} {x1 : Int} {b6 : Bool} {h : Heap} (H : f118.j1T R x0 x1 b6 h) : f118.j1 R x0 x1 b6 h :=
  pt_intro mixed f118.good (Eq.mpr (show (Fwd Try.prog f118.T f118.kp Try.f118 R [true, false, false, false, true] (mkFr [(0, (Value.int .i64 x0)), (1, (Value.int .i64 x1)), (6, (Value.bool b6))]) h) = (f118.j1T R x0 x1 b6 h) by kernel_rfl) H)
set_option maxRecDepth 100000 in
def f118.j0T (R : Value → Heap → Prop) (x0 : Int) (x1 : Int) (b6 : Bool) (h : Heap) : Prop :=
  splitB b6 (0 ≤ (3 : Int) ∧ (R (Value.tuple #[(Value.int .u64 (bitsI .or .u64 (shlI .u64 (IntKind.wrap .u64 x1) (3 : Int)) (IntKind.wrap .u64 x0))), (Value.int .i64 (0 : Int))]) h)) (splitB (decide (x0 < (0 : Int))) (f118.j2 R true h) (f118.j2 R (decide (x0 > (4 : Int))) h))
set_option maxRecDepth 100000 in
theorem f118.j0_in {R : Value → Heap → Prop} {x0 : Int} {x1 : Int} {b6 : Bool} {h : Heap} (H : f118.j0T R x0 x1 b6 h) : f118.j0 R x0 x1 b6 h :=
  pt_intro mixed f118.good (Eq.mpr (show (Fwd Try.prog f118.T f118.kp Try.f118 R [true, false, false, true] (mkFr [(0, (Value.int .i64 x0)), (1, (Value.int .i64 x1)), (6, (Value.bool b6))]) h) = (f118.j0T R x0 x1 b6 h) by kernel_rfl) H)
set_option maxRecDepth 100000 in
def f118.j3T (R : Value → Heap → Prop) (x0 : Int) (x1 : Int) (b6 : Bool) (h : Heap) : Prop :=
  splitB b6 (f118.j0 R x0 x1 b6 h) (splitB (x0 == (1 : Int)) (Run Try.prog 153 #[(Value.int .i64 x1)] h fun v1_ h2_ => ∃ b3_, v1_ = (Value.bool b3_) ∧ f118.j4 R x0 x1 b3_ h2_) (f118.j4 R x0 x1 false h))
set_option maxRecDepth 100000 in
theorem f118.j3_in {R : Value → Heap → Prop} {x0 : Int} {x1 : Int} {b6 : Bool} {h : Heap} (H : f118.j3T R x0 x1 b6 h) : f118.j3 R x0 x1 b6 h :=
  pt_intro mixed f118.good (Eq.mpr (show (Fwd Try.prog f118.T f118.kp Try.f118 R [true, true, true, false, false, false, true] (mkFr [(0, (Value.int .i64 x0)), (1, (Value.int .i64 x1)), (6, (Value.bool b6))]) h) = (f118.j3T R x0 x1 b6 h) by kernel_rfl) H)
set_option maxRecDepth 100000 in
def f118.j2T (R : Value → Heap → Prop) (b49 : Bool) (h : Heap) : Prop :=
  splitB b49 (R (Value.tuple #[(Value.int .u64 (0 : Int)), (Value.int .i64 (1 : Int))]) h) (R (Value.tuple #[(Value.int .u64 (0 : Int)), (Value.int .i64 (2 : Int))]) h)
set_option maxRecDepth 100000 in
theorem f118.j2_in {R : Value → Heap → Prop} {b49 : Bool} {h : Heap} (H : f118.j2T R b49 h) : f118.j2 R b49 h :=
  pt_intro mixed f118.good (Eq.mpr (show (Fwd Try.prog f118.T f118.kp Try.f118 R [true, true, true, false, false, true] (mkFr [(49, (Value.bool b49))]) h) = (f118.j2T R b49 h) by kernel_rfl) H)
set_option maxRecDepth 100000 in
def f118.j4T (R : Value → Heap → Prop) (x0 : Int) (x1 : Int) (b6 : Bool) (h : Heap) : Prop :=
  splitB b6 (f118.j0 R x0 x1 b6 h) (splitB (x0 == (3 : Int)) (splitB (decide (x1 ≥ (0 : Int))) (f118.j0 R x0 x1 (decide (x1 < (1152921504606846976 : Int))) h) (f118.j0 R x0 x1 false h)) (splitB (x0 == (4 : Int)) (splitB (decide (x1 ≥ (0 : Int))) (f118.j0 R x0 x1 (decide (x1 < (1152921504606846976 : Int))) h) (f118.j0 R x0 x1 false h)) (f118.j0 R x0 x1 false h)))
set_option maxRecDepth 100000 in
theorem f118.j4_in {R : Value → Heap → Prop} {x0 : Int} {x1 : Int} {b6 : Bool} {h : Heap} (H : f118.j4T R x0 x1 b6 h) : f118.j4 R x0 x1 b6 h :=
  pt_intro mixed f118.good (Eq.mpr (show (Fwd Try.prog f118.T f118.kp Try.f118 R [true, true, true, true, true, false, false, false, true] (mkFr [(0, (Value.int .i64 x0)), (1, (Value.int .i64 x1)), (6, (Value.bool b6))]) h) = (f118.j4T R x0 x1 b6 h) by kernel_rfl) H)
set_option maxRecDepth 100000 in
def f118.runT (R : Value → Heap → Prop) (x0 : Int) (x1 : Int) (h : Heap) : Prop :=
  splitB (x0 == (0 : Int)) (f118.j1 R x0 x1 (x1 == (0 : Int)) h) (f118.j1 R x0 x1 false h)
set_option maxRecDepth 100000 in
theorem f118.run {R : Value → Heap → Prop} {x0 : Int} {x1 : Int} {h : Heap} (H : f118.runT R x0 x1 h) : Run Try.prog 118 #[(Value.int .i64 x0), (Value.int .i64 x1)] h R :=
  run_of mixed Try.func118 (by kernel_rfl) (by kernel_rfl) f118.good (Eq.mpr (show (Fwd Try.prog f118.T f118.kp Try.f118 R [] (mkFr (argL [(Value.int .i64 x0), (Value.int .i64 x1)] 0)) h) = (f118.runT R x0 x1 h) by kernel_rfl) H)

/-! ### roadstead/term.Of: function 116 -/
def f116.T : Tab := { sh := tSh, tup := tTup, keep := [], plan := [] }
def f116.kp : Keep := [([true, true, true], [1, 4]), ([true, false, true, true, true], [1, 4, 29]), ([true, true, true, true], [1, 4])]
theorem f116.good : goodCode Try.prog f116.T (rootOf Try.f116) = true := by kernel_rfl
set_option maxRecDepth 100000 in
theorem f116.ok : calleeOk Try.prog 116 = true := by kernel_rfl
def f116.j0 (R : Value → Heap → Prop) (a1 : Addr) (x4 : Int) (h : Heap) : Prop := Pt Try.prog Try.f116 R [true, true, true] (mkFr [(1, (Value.pointer (some a1))), (4, (Value.int .i64 x4))]) h
def f116.j2 (R : Value → Heap → Prop) (a1 : Addr) (x4 : Int) (b29 : Bool) (h : Heap) : Prop := Pt Try.prog Try.f116 R [true, false, true, true, true] (mkFr [(1, (Value.pointer (some a1))), (4, (Value.int .i64 x4)), (29, (Value.bool b29))]) h
def f116.j1 (R : Value → Heap → Prop) (a1 : Addr) (x4 : Int) (h : Heap) : Prop := Pt Try.prog Try.f116 R [true, true, true, true] (mkFr [(1, (Value.pointer (some a1))), (4, (Value.int .i64 x4))]) h
set_option maxRecDepth 100000 in
def f116.j0T (R : Value → Heap → Prop) (a1 : Addr) (x4 : Int) (h : Heap) : Prop :=
  splitB (decide (x4 < (0 : Int))) (f116.j2 R a1 x4 true h) (∃ v1_, ldv false 1 h (Addr.add a1 2) = some v1_ ∧ ∃ s2_, v1_ = (Value.string s2_) ∧ splitB (!(ByteArray.toList s2_ == ByteArray.toList (ByteArray.mk #[]))) (f116.j2 R a1 x4 true h) (∃ v3_, ldv false 1 h (Addr.add a1 3) = some v3_ ∧ ∃ A4_, ∃ n4_, ∃ c4_, v3_ = (Value.slice A4_ n4_ c4_) ∧ f116.j2 R a1 x4 (decide (((n4_ : Nat) : Int) > (0 : Int))) h))
set_option maxRecDepth 100000 in
theorem f116.j0_in {R : Value → Heap → Prop} {a1 : Addr} {x4 : Int} {h : Heap} (H : f116.j0T R a1 x4 h) : f116.j0 R a1 x4 h :=
  pt_intro mixed f116.good (Eq.mpr (show (Fwd Try.prog f116.T f116.kp Try.f116 R [true, true, true] (mkFr [(1, (Value.pointer (some a1))), (4, (Value.int .i64 x4))]) h) = (f116.j0T R a1 x4 h) by kernel_rfl) H)
set_option maxRecDepth 100000 in
def f116.j2T (R : Value → Heap → Prop) (a1 : Addr) (x4 : Int) (b29 : Bool) (h : Heap) : Prop :=
  splitB b29 (R (Value.tuple #[(Value.int .u64 (0 : Int)), (Value.bool false)]) h) (f116.j1 R a1 x4 h)
set_option maxRecDepth 100000 in
theorem f116.j2_in {R : Value → Heap → Prop} {a1 : Addr} {x4 : Int} {b29 : Bool} {h : Heap} (H : f116.j2T R a1 x4 b29 h) : f116.j2 R a1 x4 b29 h :=
  pt_intro mixed f116.good (Eq.mpr (show (Fwd Try.prog f116.T f116.kp Try.f116 R [true, false, true, true, true] (mkFr [(1, (Value.pointer (some a1))), (4, (Value.int .i64 x4)), (29, (Value.bool b29))]) h) = (f116.j2T R a1 x4 b29 h) by kernel_rfl) H)
set_option maxRecDepth 100000 in
def f116.j1T (R : Value → Heap → Prop) (a1 : Addr) (x4 : Int) (h : Heap) : Prop :=
  ∃ v1_, ldv false 1 h (Addr.add a1 1) = some v1_ ∧ ∃ x2_, v1_ = (Value.int .i64 x2_) ∧ Run Try.prog 118 #[(Value.int .i64 x4), (Value.int .i64 x2_)] h fun v3_ h4_ => ∃ x5_, ∃ x6_, v3_ = (Value.tuple #[(Value.int .u64 x5_), (Value.int .i64 x6_)]) ∧ R (Value.tuple #[(Value.int .u64 x5_), (Value.bool (x6_ == (0 : Int)))]) h4_
set_option maxRecDepth 100000 in
theorem f116.j1_in {R : Value → Heap → Prop} {a1 : Addr} {x4 : Int} {h : Heap} (H : f116.j1T R a1 x4 h) : f116.j1 R a1 x4 h :=
  pt_intro mixed f116.good (Eq.mpr (show (Fwd Try.prog f116.T f116.kp Try.f116 R [true, true, true, true] (mkFr [(1, (Value.pointer (some a1))), (4, (Value.int .i64 x4))]) h) = (f116.j1T R a1 x4 h) by kernel_rfl) H)
set_option maxRecDepth 100000 in
def f116.runT (R : Value → Heap → Prop) (v0 : Value) (h : Heap) : Prop :=
  newH h (Obj.cells ((v0).cells) 137) fun h1_ => ∃ v2_, ldv false 1 h1_ (⟨Array.size h, 0, none⟩) = some v2_ ∧ ∃ x3_, v2_ = (Value.int .i64 x3_) ∧ splitB (x3_ == (1 : Int)) (f116.j0 R (⟨Array.size h, 0, none⟩) (0 : Int) h1_) (splitB (x3_ == (2 : Int)) (f116.j0 R (⟨Array.size h, 0, none⟩) (1 : Int) h1_) (splitB (x3_ == (3 : Int)) (f116.j0 R (⟨Array.size h, 0, none⟩) (2 : Int) h1_) (splitB (x3_ == (6 : Int)) (f116.j0 R (⟨Array.size h, 0, none⟩) (3 : Int) h1_) (f116.j0 R (⟨Array.size h, 0, none⟩) (-1 : Int) h1_))))
set_option maxRecDepth 100000 in
theorem f116.run {R : Value → Heap → Prop} {v0 : Value} {h : Heap} (H : f116.runT R v0 h) : Run Try.prog 116 #[v0] h R :=
  run_of mixed Try.func116 (by kernel_rfl) (by kernel_rfl) f116.good (Eq.mpr (show (Fwd Try.prog f116.T f116.kp Try.f116 R [] (mkFr (argL [v0] 0)) h) = (f116.runT R v0 h) by kernel_rfl) H)

/-! ### roadstead/heap.room: function 142 -/
def f142.T : Tab := { sh := tSh, tup := tTup, keep := [], plan := [] }
def f142.kp : Keep := [([true, false, true, true], [7, 19])]
theorem f142.good : goodCode Try.prog f142.T (rootOf Try.f142) = true := by kernel_rfl
set_option maxRecDepth 100000 in
theorem f142.ok : calleeOk Try.prog 142 = true := by kernel_rfl
def f142.j0 (R : Value → Heap → Prop) (x7 : Int) (b19 : Bool) (h : Heap) : Prop := Pt Try.prog Try.f142 R [true, false, true, true] (mkFr [(7, (Value.int .i64 x7)), (19, (Value.bool b19))]) h
set_option maxRecDepth 100000 in
def f142.j0T (R : Value → Heap → Prop) (x7 : Int) (b19 : Bool) (h : Heap) : Prop :=
  splitB b19 (R (Value.int .i64 (IntKind.wrap .i64 (x7 + (1 : Int)))) h) (R (Value.int .i64 x7) h)
set_option maxRecDepth 100000 in
theorem f142.j0_in {R : Value → Heap → Prop} {x7 : Int} {b19 : Bool} {h : Heap} (H : f142.j0T R x7 b19 h) : f142.j0 R x7 b19 h :=
  pt_intro mixed f142.good (Eq.mpr (show (Fwd Try.prog f142.T f142.kp Try.f142 R [true, false, true, true] (mkFr [(7, (Value.int .i64 x7)), (19, (Value.bool b19))]) h) = (f142.j0T R x7 b19 h) by kernel_rfl) H)
set_option maxRecDepth 100000 in
def f142.runT (R : Value → Heap → Prop) (x0 : Int) (x1 : Int) (x2 : Int) (h : Heap) : Prop :=
  (8 : Int) ≠ 0 ∧ (splitB (x0 == (1 : Int)) (f142.j0 R (IntKind.wrap .i64 ((IntKind.wrap .i64 ((1 : Int) + (IntKind.wrap .i64 (Int.tdiv (IntKind.wrap .i64 (x1 + (7 : Int))) (8 : Int))))) + x2)) true h) (f142.j0 R (IntKind.wrap .i64 ((IntKind.wrap .i64 ((1 : Int) + (IntKind.wrap .i64 (Int.tdiv (IntKind.wrap .i64 (x1 + (7 : Int))) (8 : Int))))) + x2)) (x0 == (4 : Int)) h))
set_option maxRecDepth 100000 in
theorem f142.run {R : Value → Heap → Prop} {x0 : Int} {x1 : Int} {x2 : Int} {h : Heap} (H : f142.runT R x0 x1 x2 h) : Run Try.prog 142 #[(Value.int .i64 x0), (Value.int .i64 x1), (Value.int .i64 x2)] h R :=
  run_of mixed Try.func142 (by kernel_rfl) (by kernel_rfl) f142.good (Eq.mpr (show (Fwd Try.prog f142.T f142.kp Try.f142 R [] (mkFr (argL [(Value.int .i64 x0), (Value.int .i64 x1), (Value.int .i64 x2)] 0)) h) = (f142.runT R x0 x1 x2 h) by kernel_rfl) H)

/-! ### roadstead/heap.right: function 151 -/
def f151.T : Tab := { sh := tSh, tup := tTup, keep := [], plan := [] }
def f151.kp : Keep := [([true, false, false, true], [1, 3]), ([true, false, true, true, false, false, true], [1, 24]), ([true, true, true, false, true, true, false, false, true], [1, 24]), ([true, true], [1])]
theorem f151.good : goodCode Try.prog f151.T (rootOf Try.f151) = true := by kernel_rfl
set_option maxRecDepth 100000 in
theorem f151.ok : calleeOk Try.prog 151 = true := by kernel_rfl
def f151.j1 (R : Value → Heap → Prop) (a1 : Addr) (b3 : Bool) (h : Heap) : Prop := Pt Try.prog Try.f151 R [true, false, false, true] (mkFr [(1, (Value.pointer (some a1))), (3, (Value.bool b3))]) h
def f151.j2 (R : Value → Heap → Prop) (a1 : Addr) (b24 : Bool) (h : Heap) : Prop := Pt Try.prog Try.f151 R [true, false, true, true, false, false, true] (mkFr [(1, (Value.pointer (some a1))), (24, (Value.bool b24))]) h
def f151.j0 (R : Value → Heap → Prop) (a1 : Addr) (h : Heap) : Prop := Pt Try.prog Try.f151 R [true, true] (mkFr [(1, (Value.pointer (some a1)))]) h
def f151.j3 (R : Value → Heap → Prop) (a1 : Addr) (b24 : Bool) (h : Heap) : Prop := Pt Try.prog Try.f151 R [true, true, true, false, true, true, false, false, true] (mkFr [(1, (Value.pointer (some a1))), (24, (Value.bool b24))]) h
set_option maxRecDepth 100000 in
def f151.j1T (R : Value → Heap → Prop) (a1 : Addr) (b3 : Bool) (h : Heap) : Prop :=
  splitB b3 (R (Value.bool false) h) (∃ v1_, ldv false 1 h (Addr.add a1 1) = some v1_ ∧ ∃ x2_, v1_ = (Value.int .i64 x2_) ∧ splitB (x2_ == (1 : Int)) (∃ v3_, ldv false 1 h (Addr.add a1 4) = some v3_ ∧ ∃ A4_, ∃ n4_, ∃ c4_, v3_ = (Value.slice A4_ n4_ c4_) ∧ f151.j2 R a1 (decide (((n4_ : Nat) : Int) > (0 : Int))) h) (∃ v5_, ldv false 1 h (Addr.add a1 1) = some v5_ ∧ ∃ x6_, v5_ = (Value.int .i64 x6_) ∧ splitB (x6_ == (2 : Int)) (∃ v7_, ldv false 1 h (Addr.add a1 4) = some v7_ ∧ ∃ A8_, ∃ n8_, ∃ c8_, v7_ = (Value.slice A8_ n8_ c8_) ∧ f151.j2 R a1 (decide (((n8_ : Nat) : Int) > (0 : Int))) h) (f151.j2 R a1 false h)))
set_option maxRecDepth 100000 in
theorem f151.j1_in {R : Value → Heap → Prop} {a1 : Addr} {b3 : Bool} {h : Heap} (H : f151.j1T R a1 b3 h) : f151.j1 R a1 b3 h :=
  pt_intro mixed f151.good (Eq.mpr (show (Fwd Try.prog f151.T f151.kp Try.f151 R [true, false, false, true] (mkFr [(1, (Value.pointer (some a1))), (3, (Value.bool b3))]) h) = (f151.j1T R a1 b3 h) by kernel_rfl) H)
set_option maxRecDepth 100000 in
def f151.j2T (R : Value → Heap → Prop) (a1 : Addr) (b24 : Bool) (h : Heap) : Prop :=
  splitB b24 (splitB b24 (R (Value.bool false) h) (f151.j0 R a1 h)) (∃ v1_, ldv false 1 h (Addr.add a1 1) = some v1_ ∧ ∃ x2_, v1_ = (Value.int .i64 x2_) ∧ splitB (x2_ != (2 : Int)) (∃ v3_, ldv false 1 h (Addr.add a1 1) = some v3_ ∧ ∃ x4_, v3_ = (Value.int .i64 x4_) ∧ splitB (x4_ != (3 : Int)) (∃ v5_, ldv false 1 h (Addr.add a1 3) = some v5_ ∧ ∃ s6_, v5_ = (Value.string s6_) ∧ f151.j3 R a1 (!(ByteArray.toList s6_ == ByteArray.toList (ByteArray.mk #[]))) h) (f151.j3 R a1 false h)) (f151.j3 R a1 false h))
set_option maxRecDepth 100000 in
theorem f151.j2_in {R : Value → Heap → Prop} {a1 : Addr} {b24 : Bool} {h : Heap} (H : f151.j2T R a1 b24 h) : f151.j2 R a1 b24 h :=
  pt_intro mixed f151.good (Eq.mpr (show (Fwd Try.prog f151.T f151.kp Try.f151 R [true, false, true, true, false, false, true] (mkFr [(1, (Value.pointer (some a1))), (24, (Value.bool b24))]) h) = (f151.j2T R a1 b24 h) by kernel_rfl) H)
set_option maxRecDepth 100000 in
def f151.j0T (R : Value → Heap → Prop) (a1 : Addr) (h : Heap) : Prop :=
  ∃ v1_, ldv false 1 h (Addr.add a1 1) = some v1_ ∧ ∃ x2_, v1_ = (Value.int .i64 x2_) ∧ splitB (x2_ != (5 : Int)) (R (Value.bool true) h) (∃ v3_, ldv false 1 h (Addr.add a1 4) = some v3_ ∧ ∃ A4_, ∃ n4_, ∃ c4_, v3_ = (Value.slice A4_ n4_ c4_) ∧ R (Value.bool (decide (((n4_ : Nat) : Int) ≤ (1 : Int)))) h)
set_option maxRecDepth 100000 in
theorem f151.j0_in {R : Value → Heap → Prop} {a1 : Addr} {h : Heap} (H : f151.j0T R a1 h) : f151.j0 R a1 h :=
  pt_intro mixed f151.good (Eq.mpr (show (Fwd Try.prog f151.T f151.kp Try.f151 R [true, true] (mkFr [(1, (Value.pointer (some a1)))]) h) = (f151.j0T R a1 h) by kernel_rfl) H)
set_option maxRecDepth 100000 in
def f151.j3T (R : Value → Heap → Prop) (a1 : Addr) (b24 : Bool) (h : Heap) : Prop :=
  splitB b24 (splitB b24 (R (Value.bool false) h) (f151.j0 R a1 h)) (∃ v1_, ldv false 1 h (Addr.add a1 1) = some v1_ ∧ ∃ x2_, v1_ = (Value.int .i64 x2_) ∧ splitB (x2_ != (1 : Int)) (∃ v3_, ldv false 1 h (Addr.add a1 1) = some v3_ ∧ ∃ x4_, v3_ = (Value.int .i64 x4_) ∧ splitB (x4_ != (4 : Int)) (∃ v5_, ldv false 1 h (Addr.add a1 2) = some v5_ ∧ ∃ x6_, v5_ = (Value.int .i64 x6_) ∧ splitB (x6_ != (0 : Int)) (R (Value.bool false) h) (f151.j0 R a1 h)) (f151.j0 R a1 h)) (f151.j0 R a1 h))
set_option maxRecDepth 100000 in
theorem f151.j3_in {R : Value → Heap → Prop} {a1 : Addr} {b24 : Bool} {h : Heap} (H : f151.j3T R a1 b24 h) : f151.j3 R a1 b24 h :=
  pt_intro mixed f151.good (Eq.mpr (show (Fwd Try.prog f151.T f151.kp Try.f151 R [true, true, true, false, true, true, false, false, true] (mkFr [(1, (Value.pointer (some a1))), (24, (Value.bool b24))]) h) = (f151.j3T R a1 b24 h) by kernel_rfl) H)
set_option maxRecDepth 100000 in
def f151.runT (R : Value → Heap → Prop) (v0 : Value) (h : Heap) : Prop :=
  newH h (Obj.cells ((v0).cells) 202) fun h1_ => ∃ v2_, ldv false 1 h1_ (Addr.add (⟨Array.size h, 0, none⟩) 3) = some v2_ ∧ ∃ s3_, v2_ = (Value.string s3_) ∧ splitB (decide (((ByteArray.size s3_ : Nat) : Int) > (64 : Int))) (f151.j1 R (⟨Array.size h, 0, none⟩) true h1_) (∃ v4_, ldv false 1 h1_ (Addr.add (⟨Array.size h, 0, none⟩) 4) = some v4_ ∧ ∃ A5_, ∃ n5_, ∃ c5_, v4_ = (Value.slice A5_ n5_ c5_) ∧ splitB (decide (((n5_ : Nat) : Int) > (400 : Int))) (f151.j1 R (⟨Array.size h, 0, none⟩) true h1_) (∃ v6_, ldv false 1 h1_ (Addr.add (⟨Array.size h, 0, none⟩) 1) = some v6_ ∧ ∃ x7_, v6_ = (Value.int .i64 x7_) ∧ splitB (decide (x7_ < (1 : Int))) (f151.j1 R (⟨Array.size h, 0, none⟩) true h1_) (∃ v8_, ldv false 1 h1_ (Addr.add (⟨Array.size h, 0, none⟩) 1) = some v8_ ∧ ∃ x9_, v8_ = (Value.int .i64 x9_) ∧ f151.j1 R (⟨Array.size h, 0, none⟩) (decide (x9_ > (5 : Int))) h1_)))
set_option maxRecDepth 100000 in
theorem f151.run {R : Value → Heap → Prop} {v0 : Value} {h : Heap} (H : f151.runT R v0 h) : Run Try.prog 151 #[v0] h R :=
  run_of mixed Try.func151 (by kernel_rfl) (by kernel_rfl) f151.good (Eq.mpr (show (Fwd Try.prog f151.T f151.kp Try.f151 R [] (mkFr (argL [v0] 0)) h) = (f151.runT R v0 h) by kernel_rfl) H)

/-! ### roadstead/heap.head: function 152 -/
def f152.T : Tab := { sh := tSh, tup := tTup, keep := [], plan := [] }
def f152.kp : Keep := []
theorem f152.good : goodCode Try.prog f152.T (rootOf Try.f152) = true := by kernel_rfl
set_option maxRecDepth 100000 in
theorem f152.ok : calleeOk Try.prog 152 = true := by kernel_rfl
set_option maxRecDepth 100000 in
def f152.runT (R : Value → Heap → Prop) (v0 : Value) (h : Heap) : Prop :=
  newH h (Obj.cells ((v0).cells) 202) fun h1_ => ∃ v2_, ldv false 1 h1_ (Addr.add (⟨Array.size h, 0, none⟩) 1) = some v2_ ∧ ∃ x3_, v2_ = (Value.int .i64 x3_) ∧ ∃ v4_, ldv false 1 h1_ (Addr.add (⟨Array.size h, 0, none⟩) 3) = some v4_ ∧ ∃ s5_, v4_ = (Value.string s5_) ∧ 0 ≤ (8 : Int) ∧ (∃ v6_, ldv false 1 h1_ (Addr.add (⟨Array.size h, 0, none⟩) 4) = some v6_ ∧ ∃ A7_, ∃ n7_, ∃ c7_, v6_ = (Value.slice A7_ n7_ c7_) ∧ 0 ≤ (20 : Int) ∧ (R (Value.int .u64 (bitsI .or .u64 (bitsI .or .u64 (IntKind.wrap .u64 x3_) (shlI .u64 (IntKind.wrap .u64 ((ByteArray.size s5_ : Nat) : Int)) (8 : Int))) (shlI .u64 (IntKind.wrap .u64 ((n7_ : Nat) : Int)) (20 : Int)))) h1_))
set_option maxRecDepth 100000 in
theorem f152.run {R : Value → Heap → Prop} {v0 : Value} {h : Heap} (H : f152.runT R v0 h) : Run Try.prog 152 #[v0] h R :=
  run_of mixed Try.func152 (by kernel_rfl) (by kernel_rfl) f152.good (Eq.mpr (show (Fwd Try.prog f152.T f152.kp Try.f152 R [] (mkFr (argL [v0] 0)) h) = (f152.runT R v0 h) by kernel_rfl) H)

/-! ### roadstead/heap.Put: function 117 -/
def f117.T : Tab := { sh := tSh, tup := tTup, keep := [], plan := [(5, (.take 0 (.take 2 (.eff true 1 (.eff false 3 (.eff false 4 (.eff false 5 (.take 6 .done))))))))] }
def f117.kp : Keep := [([true, false, true, true, true], [0, 3, 7, 42]), ([true, true, true, true], [0, 3, 7]), ([false, false, true, false, true, true, true, true], [0, 3, 7, 8]), ([false, false, true, false, true, false, false, true, false, false, true, false, true, true, true, true], [0, 3, 7, 8, 9, 56])]
theorem f117.good : goodCode Try.prog f117.T (rootOf Try.f117) = true := by kernel_rfl
set_option maxRecDepth 100000 in
theorem f117.ok : calleeOk Try.prog 117 = true := by kernel_rfl
def f117.j1 (R : Value → Heap → Prop) (A0 : Option Addr) (n0 : Nat) (c0 : Nat) (a3 : Addr) (A7 : Option Addr) (n7 : Nat) (c7 : Nat) (b42 : Bool) (h : Heap) : Prop := Pt Try.prog Try.f117 R [true, false, true, true, true] (mkFr [(0, (Value.slice A0 n0 c0)), (3, (Value.pointer (some a3))), (7, (Value.slice A7 n7 c7)), (42, (Value.bool b42))]) h
def f117.j0 (R : Value → Heap → Prop) (A0 : Option Addr) (n0 : Nat) (c0 : Nat) (a3 : Addr) (A7 : Option Addr) (n7 : Nat) (c7 : Nat) (h : Heap) : Prop := Pt Try.prog Try.f117 R [true, true, true, true] (mkFr [(0, (Value.slice A0 n0 c0)), (3, (Value.pointer (some a3))), (7, (Value.slice A7 n7 c7))]) h
def f117.l0 (R : Value → Heap → Prop) (A0 : Option Addr) (n0 : Nat) (c0 : Nat) (a3 : Addr) (A7 : Option Addr) (n7 : Nat) (c7 : Nat) (x8 : Int) (h : Heap) : Prop := Pt Try.prog Try.f117 R [false, false, true, false, true, true, true, true] (mkFr [(0, (Value.slice A0 n0 c0)), (3, (Value.pointer (some a3))), (7, (Value.slice A7 n7 c7)), (8, (Value.int .i64 x8))]) h
def f117.l1 (R : Value → Heap → Prop) (A0 : Option Addr) (n0 : Nat) (c0 : Nat) (a3 : Addr) (A7 : Option Addr) (n7 : Nat) (c7 : Nat) (x8 : Int) (x9 : Int) (x56 : Int) (h : Heap) : Prop := Pt Try.prog Try.f117 R [false, false, true, false, true, false, false, true, false, false, true, false, true, true, true, true] (mkFr [(0, (Value.slice A0 n0 c0)), (3, (Value.pointer (some a3))), (7, (Value.slice A7 n7 c7)), (8, (Value.int .i64 x8)), (9, (Value.int .u64 x9)), (56, (Value.int .i64 x56))]) h
set_option maxRecDepth 100000 in
def f117.j1T (R : Value → Heap → Prop) (A0 : Option Addr) (n0 : Nat) (c0 : Nat) (a3 : Addr) (A7 : Option Addr) (n7 : Nat) (c7 : Nat) (b42 : Bool) (h : Heap) : Prop :=
  splitB b42 (∃ v1_, ldv false 1 h (Addr.add a3 2) = some v1_ ∧ ∃ x2_, v1_ = (Value.int .i64 x2_) ∧ newH h (Obj.cells #[(Value.int .u64 (IntKind.wrap .u64 x2_))] 98) fun h3_ => AppW 98 1 8 #[(Value.int .u64 (0 : Int))] A7 n7 c7 (Value.slice (some ⟨Array.size h, 0, none⟩) 1 1) h3_ fun v4_ h5_ => ∃ A6_, ∃ n6_, ∃ c6_, v4_ = (Value.slice A6_ n6_ c6_) ∧ f117.j0 R A0 n0 c0 a3 A6_ n6_ c6_ h5_) (f117.j0 R A0 n0 c0 a3 A7 n7 c7 h)
set_option maxRecDepth 100000 in
theorem f117.j1_in {R : Value → Heap → Prop} {A0 : Option Addr} {n0 : Nat} {c0 : Nat} {a3 : Addr} {A7 : Option Addr} {n7 : Nat} {c7 : Nat} {b42 : Bool} {h : Heap} (H : f117.j1T R A0 n0 c0 a3 A7 n7 c7 b42 h) : f117.j1 R A0 n0 c0 a3 A7 n7 c7 b42 h :=
  pt_intro mixed f117.good (Eq.mpr (show (Fwd Try.prog f117.T f117.kp Try.f117 R [true, false, true, true, true] (mkFr [(0, (Value.slice A0 n0 c0)), (3, (Value.pointer (some a3))), (7, (Value.slice A7 n7 c7)), (42, (Value.bool b42))]) h) = (f117.j1T R A0 n0 c0 a3 A7 n7 c7 b42 h) by kernel_rfl) H)
set_option maxRecDepth 100000 in
def f117.j0T (R : Value → Heap → Prop) (A0 : Option Addr) (n0 : Nat) (c0 : Nat) (a3 : Addr) (A7 : Option Addr) (n7 : Nat) (c7 : Nat) (h : Heap) : Prop :=
  f117.l0 R A0 n0 c0 a3 A7 n7 c7 (0 : Int) h
set_option maxRecDepth 100000 in
theorem f117.j0_in {R : Value → Heap → Prop} {A0 : Option Addr} {n0 : Nat} {c0 : Nat} {a3 : Addr} {A7 : Option Addr} {n7 : Nat} {c7 : Nat} {h : Heap} (H : f117.j0T R A0 n0 c0 a3 A7 n7 c7 h) : f117.j0 R A0 n0 c0 a3 A7 n7 c7 h :=
  pt_intro mixed f117.good (Eq.mpr (show (Fwd Try.prog f117.T f117.kp Try.f117 R [true, true, true, true] (mkFr [(0, (Value.slice A0 n0 c0)), (3, (Value.pointer (some a3))), (7, (Value.slice A7 n7 c7))]) h) = (f117.j0T R A0 n0 c0 a3 A7 n7 c7 h) by kernel_rfl) H)
set_option maxRecDepth 100000 in
def f117.l0T (R : Value → Heap → Prop) (A0 : Option Addr) (n0 : Nat) (c0 : Nat) (a3 : Addr) (A7 : Option Addr) (n7 : Nat) (c7 : Nat) (x8 : Int) (h : Heap) : Prop :=
  ∃ v1_, ldv false 1 h (Addr.add a3 3) = some v1_ ∧ ∃ s2_, v1_ = (Value.string s2_) ∧ splitB (decide (x8 < ((ByteArray.size s2_ : Nat) : Int))) (f117.l1 R A0 n0 c0 a3 A7 n7 c7 x8 (0 : Int) (0 : Int) h) (∃ v3_, ldv false 1 h (Addr.add a3 4) = some v3_ ∧ ∃ A4_, ∃ n4_, ∃ c4_, v3_ = (Value.slice A4_ n4_ c4_) ∧ AppW 98 1 8 #[(Value.int .u64 (0 : Int))] A7 n7 c7 (Value.slice A4_ n4_ c4_) h fun v5_ h6_ => ∃ A7_, ∃ n7_, ∃ c7_, v5_ = (Value.slice A7_ n7_ c7_) ∧ R (Value.tuple #[(Value.slice A7_ n7_ c7_), (Value.int .i64 ((n0 : Nat) : Int)), (Value.int .i64 (0 : Int))]) h6_)
set_option maxRecDepth 100000 in
theorem f117.l0_in {R : Value → Heap → Prop} {A0 : Option Addr} {n0 : Nat} {c0 : Nat} {a3 : Addr} {A7 : Option Addr} {n7 : Nat} {c7 : Nat} {x8 : Int} {h : Heap} (H : f117.l0T R A0 n0 c0 a3 A7 n7 c7 x8 h) : f117.l0 R A0 n0 c0 a3 A7 n7 c7 x8 h :=
  pt_intro mixed f117.good (Eq.mpr (show (Fwd Try.prog f117.T f117.kp Try.f117 R [false, false, true, false, true, true, true, true] (mkFr [(0, (Value.slice A0 n0 c0)), (3, (Value.pointer (some a3))), (7, (Value.slice A7 n7 c7)), (8, (Value.int .i64 x8))]) h) = (f117.l0T R A0 n0 c0 a3 A7 n7 c7 x8 h) by kernel_rfl) H)
set_option maxRecDepth 100000 in
def f117.l1T (R : Value → Heap → Prop) (A0 : Option Addr) (n0 : Nat) (c0 : Nat) (a3 : Addr) (A7 : Option Addr) (n7 : Nat) (c7 : Nat) (x8 : Int) (x9 : Int) (x56 : Int) (h : Heap) : Prop :=
  splitB (decide (x56 < (8 : Int))) (∃ v1_, ldv false 1 h (Addr.add a3 3) = some v1_ ∧ ∃ s2_, v1_ = (Value.string s2_) ∧ splitB (decide ((IntKind.wrap .i64 (x8 + x56)) < ((ByteArray.size s2_ : Nat) : Int))) (∃ v3_, ldv false 1 h (Addr.add a3 3) = some v3_ ∧ ∃ s4_, v3_ = (Value.string s4_) ∧ 0 ≤ (IntKind.wrap .i64 (x8 + x56)) ∧ ∃ y5_, s4_[Int.toNat (IntKind.wrap .i64 (x8 + x56))]? = some y5_ ∧ (0 ≤ (IntKind.wrap .i64 ((8 : Int) * x56)) ∧ (f117.l1 R A0 n0 c0 a3 A7 n7 c7 x8 (bitsI .or .u64 x9 (shlI .u64 (IntKind.wrap .u64 ((UInt8.toNat y5_ : Nat) : Int)) (IntKind.wrap .i64 ((8 : Int) * x56)))) (IntKind.wrap .i64 (x56 + (1 : Int))) h))) (f117.l1 R A0 n0 c0 a3 A7 n7 c7 x8 x9 (IntKind.wrap .i64 (x56 + (1 : Int))) h)) (newH h (Obj.cells #[(Value.int .u64 x9)] 98) fun h6_ => AppW 98 1 8 #[(Value.int .u64 (0 : Int))] A7 n7 c7 (Value.slice (some ⟨Array.size h, 0, none⟩) 1 1) h6_ fun v7_ h8_ => ∃ A9_, ∃ n9_, ∃ c9_, v7_ = (Value.slice A9_ n9_ c9_) ∧ f117.l0 R A0 n0 c0 a3 A9_ n9_ c9_ (IntKind.wrap .i64 (x8 + (8 : Int))) h8_)
set_option maxRecDepth 100000 in
theorem f117.l1_in {R : Value → Heap → Prop} {A0 : Option Addr} {n0 : Nat} {c0 : Nat} {a3 : Addr} {A7 : Option Addr} {n7 : Nat} {c7 : Nat} {x8 : Int} {x9 : Int} {x56 : Int} {h : Heap} (H : f117.l1T R A0 n0 c0 a3 A7 n7 c7 x8 x9 x56 h) : f117.l1 R A0 n0 c0 a3 A7 n7 c7 x8 x9 x56 h :=
  pt_intro mixed f117.good (Eq.mpr (show (Fwd Try.prog f117.T f117.kp Try.f117 R [false, false, true, false, true, false, false, true, false, false, true, false, true, true, true, true] (mkFr [(0, (Value.slice A0 n0 c0)), (3, (Value.pointer (some a3))), (7, (Value.slice A7 n7 c7)), (8, (Value.int .i64 x8)), (9, (Value.int .u64 x9)), (56, (Value.int .i64 x56))]) h) = (f117.l1T R A0 n0 c0 a3 A7 n7 c7 x8 x9 x56 h) by kernel_rfl) H)
set_option maxRecDepth 100000 in
def f117.runT (R : Value → Heap → Prop) (A0 : Option Addr) (n0 : Nat) (c0 : Nat) (v1 : Value) (h : Heap) : Prop :=
  newH h (Obj.cells ((v1).cells) 202) fun h1_ => ∃ v2_, ldv true 5 h1_ (⟨Array.size h, 0, none⟩) = some v2_ ∧ Run Try.prog 151 #[v2_] h1_ fun v3_ h4_ => ∃ b5_, v3_ = (Value.bool b5_) ∧ splitB (!b5_) (R (Value.tuple #[(Value.slice none 0 0), (Value.int .i64 (0 : Int)), (Value.int .i64 (1 : Int))]) h4_) (∃ v6_, ldv false 1 h4_ (Addr.add (⟨Array.size h, 0, none⟩) 1) = some v6_ ∧ ∃ x7_, v6_ = (Value.int .i64 x7_) ∧ ∃ v8_, ldv false 1 h4_ (Addr.add (⟨Array.size h, 0, none⟩) 3) = some v8_ ∧ ∃ s9_, v8_ = (Value.string s9_) ∧ ∃ v10_, ldv false 1 h4_ (Addr.add (⟨Array.size h, 0, none⟩) 4) = some v10_ ∧ ∃ A11_, ∃ n11_, ∃ c11_, v10_ = (Value.slice A11_ n11_ c11_) ∧ Run Try.prog 142 #[(Value.int .i64 x7_), (Value.int .i64 ((ByteArray.size s9_ : Nat) : Int)), (Value.int .i64 ((n11_ : Nat) : Int))] h4_ fun v12_ h13_ => ∃ x14_, v12_ = (Value.int .i64 x14_) ∧ splitB (decide (((n0 : Nat) : Int) > (IntKind.wrap .i64 ((4000 : Int) - x14_)))) (R (Value.tuple #[(Value.slice none 0 0), (Value.int .i64 (0 : Int)), (Value.int .i64 (6 : Int))]) h13_) (∃ v15_, ldv true 5 h13_ (⟨Array.size h, 0, none⟩) = some v15_ ∧ Run Try.prog 53 #[(Value.slice A0 n0 c0)] h13_ fun v16_ h17_ => ∃ A18_, ∃ n18_, ∃ c18_, v16_ = (Value.slice A18_ n18_ c18_) ∧ Ext h13_ h17_ ∧ (Run Try.prog 152 #[v15_] h17_ fun v19_ h20_ => ∃ x21_, v19_ = (Value.int .u64 x21_) ∧ newH h20_ (Obj.cells #[(Value.int .u64 x21_)] 98) fun h22_ => AppW 98 1 8 #[(Value.int .u64 (0 : Int))] A18_ n18_ c18_ (Value.slice (some ⟨Array.size h20_, 0, none⟩) 1 1) h22_ fun v23_ h24_ => ∃ A25_, ∃ n25_, ∃ c25_, v23_ = (Value.slice A25_ n25_ c25_) ∧ ∃ v26_, ldv false 1 h24_ (Addr.add (⟨Array.size h, 0, none⟩) 1) = some v26_ ∧ ∃ x27_, v26_ = (Value.int .i64 x27_) ∧ splitB (x27_ == (1 : Int)) (f117.j1 R A0 n0 c0 (⟨Array.size h, 0, none⟩) A25_ n25_ c25_ true h24_) (∃ v28_, ldv false 1 h24_ (Addr.add (⟨Array.size h, 0, none⟩) 1) = some v28_ ∧ ∃ x29_, v28_ = (Value.int .i64 x29_) ∧ f117.j1 R A0 n0 c0 (⟨Array.size h, 0, none⟩) A25_ n25_ c25_ (x29_ == (4 : Int)) h24_))))
set_option maxRecDepth 100000 in
theorem f117.run {R : Value → Heap → Prop} {A0 : Option Addr} {n0 : Nat} {c0 : Nat} {v1 : Value} {h : Heap} (H : f117.runT R A0 n0 c0 v1 h) : Run Try.prog 117 #[(Value.slice A0 n0 c0), v1] h R :=
  run_of mixed Try.func117 (by kernel_rfl) (by kernel_rfl) f117.good (Eq.mpr (show (Fwd Try.prog f117.T f117.kp Try.f117 R [] (mkFr (argL [(Value.slice A0 n0 c0), v1] 0)) h) = (f117.runT R A0 n0 c0 v1 h) by kernel_rfl) H)

/-! ### roadstead/heap.Build: function 66 -/
def f66.T : Tab := { sh := tSh, tup := tTup, keep := [], plan := [(8, (.take 0 (.take 2 (.alt false 1 (.eff false 3 (.take 4 (.eff false 5 .done))) (.eff false 3 (.eff false 1 (.take 4 (.eff false 5 .done)))))))), (14, (.take 0 (.take 2 (.alt false 1 (.eff false 3 (.take 4 (.eff false 5 .done))) (.eff false 3 (.eff false 1 (.take 4 (.eff false 5 .done))))))))] }
def f66.kp : Keep := [([true, true, true, true], [0, 3, 9]), ([true, false, true, true, true, true], [0, 3, 9, 61]), ([true, true, true, true, true], [0, 3, 9]), ([false, false, true, false, true, true, true, true, true], [0, 9, 63, 64, 65])]
theorem f66.good : goodCode Try.prog f66.T (rootOf Try.f66) = true := by kernel_rfl
set_option maxRecDepth 100000 in
theorem f66.ok : calleeOk Try.prog 66 = true := by kernel_rfl
def f66.j0 (R : Value → Heap → Prop) (A0 : Option Addr) (n0 : Nat) (c0 : Nat) (a3 : Addr) (a9 : Addr) (h : Heap) : Prop := Pt Try.prog Try.f66 R [true, true, true, true] (mkFr [(0, (Value.slice A0 n0 c0)), (3, (Value.pointer (some a3))), (9, (Value.pointer (some a9)))]) h
def f66.j2 (R : Value → Heap → Prop) (A0 : Option Addr) (n0 : Nat) (c0 : Nat) (a3 : Addr) (a9 : Addr) (b61 : Bool) (h : Heap) : Prop := Pt Try.prog Try.f66 R [true, false, true, true, true, true] (mkFr [(0, (Value.slice A0 n0 c0)), (3, (Value.pointer (some a3))), (9, (Value.pointer (some a9))), (61, (Value.bool b61))]) h
def f66.j1 (R : Value → Heap → Prop) (A0 : Option Addr) (n0 : Nat) (c0 : Nat) (a3 : Addr) (a9 : Addr) (h : Heap) : Prop := Pt Try.prog Try.f66 R [true, true, true, true, true] (mkFr [(0, (Value.slice A0 n0 c0)), (3, (Value.pointer (some a3))), (9, (Value.pointer (some a9)))]) h
def f66.l0 (R : Value → Heap → Prop) (A0 : Option Addr) (n0 : Nat) (c0 : Nat) (a9 : Addr) (A63 : Option Addr) (n63 : Nat) (c63 : Nat) (x64 : Int) (x65 : Int) (h : Heap) : Prop := Pt Try.prog Try.f66 R [false, false, true, false, true, true, true, true, true] (mkFr [(0, (Value.slice A0 n0 c0)), (9, (Value.pointer (some a9))), (63, (Value.slice A63 n63 c63)), (64, (Value.int .i64 x64)), (65, (Value.int .i64 x65))]) h
set_option maxRecDepth 100000 in
def f66.j0T (R : Value → Heap → Prop) (A0 : Option Addr) (n0 : Nat) (c0 : Nat) (a3 : Addr) (a9 : Addr) (h : Heap) : Prop :=
  ∃ v1_, ldv false 1 h (Addr.add a3 1) = some v1_ ∧ ∃ x2_, v1_ = (Value.int .i64 x2_) ∧ splitB (x2_ != (0 : Int)) (∃ v3_, ldv false 1 h (Addr.add a9 2) = some v3_ ∧ ∃ x4_, v3_ = (Value.int .i64 x4_) ∧ f66.j2 R A0 n0 c0 a3 a9 (x4_ == (0 : Int)) h) (f66.j2 R A0 n0 c0 a3 a9 false h)
set_option maxRecDepth 100000 in
theorem f66.j0_in {R : Value → Heap → Prop} {A0 : Option Addr} {n0 : Nat} {c0 : Nat} {a3 : Addr} {a9 : Addr} {h : Heap} (H : f66.j0T R A0 n0 c0 a3 a9 h) : f66.j0 R A0 n0 c0 a3 a9 h :=
  pt_intro mixed f66.good (Eq.mpr (show (Fwd Try.prog f66.T f66.kp Try.f66 R [true, true, true, true] (mkFr [(0, (Value.slice A0 n0 c0)), (3, (Value.pointer (some a3))), (9, (Value.pointer (some a9)))]) h) = (f66.j0T R A0 n0 c0 a3 a9 h) by kernel_rfl) H)
set_option maxRecDepth 100000 in
def f66.j2T (R : Value → Heap → Prop) (A0 : Option Addr) (n0 : Nat) (c0 : Nat) (a3 : Addr) (a9 : Addr) (b61 : Bool) (h : Heap) : Prop :=
  splitB b61 (R (Value.tuple #[(Value.slice none 0 0), (Value.int .u64 (0 : Int)), (Value.int .i64 (1 : Int))]) h) (f66.j1 R A0 n0 c0 a3 a9 h)
set_option maxRecDepth 100000 in
theorem f66.j2_in {R : Value → Heap → Prop} {A0 : Option Addr} {n0 : Nat} {c0 : Nat} {a3 : Addr} {a9 : Addr} {b61 : Bool} {h : Heap} (H : f66.j2T R A0 n0 c0 a3 a9 b61 h) : f66.j2 R A0 n0 c0 a3 a9 b61 h :=
  pt_intro mixed f66.good (Eq.mpr (show (Fwd Try.prog f66.T f66.kp Try.f66 R [true, false, true, true, true, true] (mkFr [(0, (Value.slice A0 n0 c0)), (3, (Value.pointer (some a3))), (9, (Value.pointer (some a9))), (61, (Value.bool b61))]) h) = (f66.j2T R A0 n0 c0 a3 a9 b61 h) by kernel_rfl) H)
set_option maxRecDepth 100000 in
def f66.j1T (R : Value → Heap → Prop) (A0 : Option Addr) (n0 : Nat) (c0 : Nat) (a3 : Addr) (a9 : Addr) (h : Heap) : Prop :=
  ∃ v1_, ldv false 1 h (Addr.add a3 3) = some v1_ ∧ ∃ A2_, ∃ n2_, ∃ c2_, v1_ = (Value.slice A2_ n2_ c2_) ∧ f66.l0 R A0 n0 c0 a9 A2_ n2_ c2_ ((n2_ : Nat) : Int) (0 : Int) h
set_option maxRecDepth 100000 in
theorem f66.j1_in {R : Value → Heap → Prop} {A0 : Option Addr} {n0 : Nat} {c0 : Nat} {a3 : Addr} {a9 : Addr} {h : Heap} (H : f66.j1T R A0 n0 c0 a3 a9 h) : f66.j1 R A0 n0 c0 a3 a9 h :=
  pt_intro mixed f66.good (Eq.mpr (show (Fwd Try.prog f66.T f66.kp Try.f66 R [true, true, true, true, true] (mkFr [(0, (Value.slice A0 n0 c0)), (3, (Value.pointer (some a3))), (9, (Value.pointer (some a9)))]) h) = (f66.j1T R A0 n0 c0 a3 a9 h) by kernel_rfl) H)
set_option maxRecDepth 100000 in
def f66.l0T (R : Value → Heap → Prop) (A0 : Option Addr) (n0 : Nat) (c0 : Nat) (a9 : Addr) (A63 : Option Addr) (n63 : Nat) (c63 : Nat) (x64 : Int) (x65 : Int) (h : Heap) : Prop :=
  splitB (decide (x65 < x64)) (ptrOk A63 fun a1_ => 0 ≤ x65 ∧ x65 < ((n63 : Nat) : Int) ∧ (∃ v2_, ldv true 4 h (Addr.add a1_ (Int.toNat x65 * 4)) = some v2_ ∧ newH h (Obj.cells #[(Value.int .i64 (0 : Int)), (Value.int .i64 (0 : Int)), (Value.string (ByteArray.mk #[])), (Value.slice none 0 0)] 137) fun h3_ => ∃ l5_ : List Value, v2_ = Value.agg l5_.toArray ∧ l5_.length = 4 ∧ ∃ h4_, stH h3_ (⟨Array.size h, 0, none⟩) l5_ 0 = some h4_ ∧ ∃ v6_, ldv true 4 h4_ (⟨Array.size h, 0, none⟩) = some v6_ ∧ Run Try.prog 66 #[(Value.slice A0 n0 c0), v6_] h4_ fun v7_ h8_ => ∃ A9_, ∃ n9_, ∃ c9_, ∃ x10_, ∃ x11_, v7_ = (Value.tuple #[(Value.slice A9_ n9_ c9_), (Value.int .u64 x10_), (Value.int .i64 x11_)]) ∧ splitB (x11_ != (0 : Int)) (R (Value.tuple #[(Value.slice none 0 0), (Value.int .u64 (0 : Int)), (Value.int .i64 x11_)]) h8_) (∃ v12_, ldv false 1 h8_ (Addr.add a9 4) = some v12_ ∧ ∃ A13_, ∃ n13_, ∃ c13_, v12_ = (Value.slice A13_ n13_ c13_) ∧ newH h8_ (Obj.cells #[(Value.int .u64 x10_)] 98) fun h14_ => AppW 98 1 8 #[(Value.int .u64 (0 : Int))] A13_ n13_ c13_ (Value.slice (some ⟨Array.size h8_, 0, none⟩) 1 1) h14_ fun v15_ h16_ => ∃ A17_, ∃ n17_, ∃ c17_, v15_ = (Value.slice A17_ n17_ c17_) ∧ ∃ h18_, st1 h16_ (Addr.add a9 4) (Value.slice A17_ n17_ c17_) = some h18_ ∧ f66.l0 R A9_ n9_ c9_ a9 A63 n63 c63 x64 (IntKind.wrap .i64 (x65 + (1 : Int))) h18_))) (∃ v19_, ldv true 5 h a9 = some v19_ ∧ Run Try.prog 117 #[(Value.slice A0 n0 c0), v19_] h fun v20_ h21_ => ∃ A22_, ∃ n22_, ∃ c22_, ∃ x23_, ∃ x24_, v20_ = (Value.tuple #[(Value.slice A22_ n22_ c22_), (Value.int .i64 x23_), (Value.int .i64 x24_)]) ∧ splitB (x24_ != (0 : Int)) (R (Value.tuple #[(Value.slice none 0 0), (Value.int .u64 (0 : Int)), (Value.int .i64 x24_)]) h21_) (Run Try.prog 118 #[(Value.int .i64 (4 : Int)), (Value.int .i64 x23_)] h21_ fun v25_ h26_ => ∃ x27_, ∃ x28_, v25_ = (Value.tuple #[(Value.int .u64 x27_), (Value.int .i64 x28_)]) ∧ R (Value.tuple #[(Value.slice A22_ n22_ c22_), (Value.int .u64 x27_), (Value.int .i64 x28_)]) h26_))
set_option maxRecDepth 100000 in
theorem f66.l0_in {R : Value → Heap → Prop} {A0 : Option Addr} {n0 : Nat} {c0 : Nat} {a9 : Addr} {A63 : Option Addr} {n63 : Nat} {c63 : Nat} {x64 : Int} {x65 : Int} {h : Heap} (H : f66.l0T R A0 n0 c0 a9 A63 n63 c63 x64 x65 h) : f66.l0 R A0 n0 c0 a9 A63 n63 c63 x64 x65 h :=
  pt_intro mixed f66.good (Eq.mpr (show (Fwd Try.prog f66.T f66.kp Try.f66 R [false, false, true, false, true, true, true, true, true] (mkFr [(0, (Value.slice A0 n0 c0)), (9, (Value.pointer (some a9))), (63, (Value.slice A63 n63 c63)), (64, (Value.int .i64 x64)), (65, (Value.int .i64 x65))]) h) = (f66.l0T R A0 n0 c0 a9 A63 n63 c63 x64 x65 h) by kernel_rfl) H)
set_option maxRecDepth 100000 in
def f66.runT (R : Value → Heap → Prop) (A0 : Option Addr) (n0 : Nat) (c0 : Nat) (v1 : Value) (h : Heap) : Prop :=
  newH h (Obj.cells ((v1).cells) 137) fun h1_ => ∃ v2_, ldv true 4 h1_ (⟨Array.size h, 0, none⟩) = some v2_ ∧ Run Try.prog 116 #[v2_] h1_ fun v3_ h4_ => ∃ x5_, ∃ b6_, v3_ = (Value.tuple #[(Value.int .u64 x5_), (Value.bool b6_)]) ∧ splitB b6_ (Run Try.prog 53 #[(Value.slice A0 n0 c0)] h4_ fun v7_ h8_ => ∃ A9_, ∃ n9_, ∃ c9_, v7_ = (Value.slice A9_ n9_ c9_) ∧ R (Value.tuple #[(Value.slice A9_ n9_ c9_), (Value.int .u64 x5_), (Value.int .i64 (0 : Int))]) h8_) (∃ v10_, ldv false 1 h4_ (Addr.add (⟨Array.size h, 0, none⟩) 2) = some v10_ ∧ ∃ s11_, v10_ = (Value.string s11_) ∧ newH h4_ (Obj.cells #[(Value.int .i64 (0 : Int)), (Value.int .i64 (0 : Int)), (Value.int .i64 (0 : Int)), (Value.string (ByteArray.mk #[])), (Value.slice none 0 0)] 202) fun h12_ => ∃ l14_ : List Value, (Value.agg #[(Value.int .i64 (0 : Int)), (Value.int .i64 (0 : Int)), (Value.int .i64 (0 : Int)), (Value.string s11_), (Value.slice none 0 0)]) = Value.agg l14_.toArray ∧ l14_.length = 5 ∧ ∃ h13_, stH h12_ (⟨Array.size h4_, 0, none⟩) l14_ 0 = some h13_ ∧ ∃ v15_, ldv false 1 h13_ (⟨Array.size h, 0, none⟩) = some v15_ ∧ ∃ x16_, v15_ = (Value.int .i64 x16_) ∧ splitB (x16_ == (2 : Int)) ((∃ v17_, ldv false 1 h13_ (Addr.add (⟨Array.size h, 0, none⟩) 1) = some v17_ ∧ ∃ x18_, v17_ = (Value.int .i64 x18_) ∧ ∃ h19_, st1 h13_ (Addr.add (⟨Array.size h4_, 0, none⟩) 1) (Value.int .i64 (1 : Int)) = some h19_ ∧ ∃ h20_, st1 h19_ (Addr.add (⟨Array.size h4_, 0, none⟩) 2) (Value.int .i64 x18_) = some h20_ ∧ f66.j0 R A0 n0 c0 (⟨Array.size h, 0, none⟩) (⟨Array.size h4_, 0, none⟩) h20_) ∧ (∃ h21_, st1 h13_ (Addr.add (⟨Array.size h4_, 0, none⟩) 1) (Value.int .i64 (1 : Int)) = some h21_ ∧ ∃ v22_, ldv false 1 h21_ (Addr.add (⟨Array.size h, 0, none⟩) 1) = some v22_ ∧ ∃ x23_, v22_ = (Value.int .i64 x23_) ∧ ∃ h24_, st1 h21_ (Addr.add (⟨Array.size h4_, 0, none⟩) 2) (Value.int .i64 x23_) = some h24_ ∧ f66.j0 R A0 n0 c0 (⟨Array.size h, 0, none⟩) (⟨Array.size h4_, 0, none⟩) h24_)) (splitB (x16_ == (4 : Int)) (∃ h25_, st1 h13_ (Addr.add (⟨Array.size h4_, 0, none⟩) 1) (Value.int .i64 (2 : Int)) = some h25_ ∧ f66.j0 R A0 n0 c0 (⟨Array.size h, 0, none⟩) (⟨Array.size h4_, 0, none⟩) h25_) (splitB (x16_ == (5 : Int)) (∃ h26_, st1 h13_ (Addr.add (⟨Array.size h4_, 0, none⟩) 1) (Value.int .i64 (3 : Int)) = some h26_ ∧ f66.j0 R A0 n0 c0 (⟨Array.size h, 0, none⟩) (⟨Array.size h4_, 0, none⟩) h26_) (splitB (x16_ == (7 : Int)) ((∃ v27_, ldv false 1 h13_ (Addr.add (⟨Array.size h, 0, none⟩) 1) = some v27_ ∧ ∃ x28_, v27_ = (Value.int .i64 x28_) ∧ ∃ h29_, st1 h13_ (Addr.add (⟨Array.size h4_, 0, none⟩) 1) (Value.int .i64 (4 : Int)) = some h29_ ∧ ∃ h30_, st1 h29_ (Addr.add (⟨Array.size h4_, 0, none⟩) 2) (Value.int .i64 x28_) = some h30_ ∧ f66.j0 R A0 n0 c0 (⟨Array.size h, 0, none⟩) (⟨Array.size h4_, 0, none⟩) h30_) ∧ (∃ h31_, st1 h13_ (Addr.add (⟨Array.size h4_, 0, none⟩) 1) (Value.int .i64 (4 : Int)) = some h31_ ∧ ∃ v32_, ldv false 1 h31_ (Addr.add (⟨Array.size h, 0, none⟩) 1) = some v32_ ∧ ∃ x33_, v32_ = (Value.int .i64 x33_) ∧ ∃ h34_, st1 h31_ (Addr.add (⟨Array.size h4_, 0, none⟩) 2) (Value.int .i64 x33_) = some h34_ ∧ f66.j0 R A0 n0 c0 (⟨Array.size h, 0, none⟩) (⟨Array.size h4_, 0, none⟩) h34_)) (splitB (x16_ == (8 : Int)) (∃ h35_, st1 h13_ (Addr.add (⟨Array.size h4_, 0, none⟩) 1) (Value.int .i64 (5 : Int)) = some h35_ ∧ f66.j0 R A0 n0 c0 (⟨Array.size h, 0, none⟩) (⟨Array.size h4_, 0, none⟩) h35_) (R (Value.tuple #[(Value.slice none 0 0), (Value.int .u64 (0 : Int)), (Value.int .i64 (1 : Int))]) h13_))))))
set_option maxRecDepth 100000 in
theorem f66.run {R : Value → Heap → Prop} {A0 : Option Addr} {n0 : Nat} {c0 : Nat} {v1 : Value} {h : Heap} (H : f66.runT R A0 n0 c0 v1 h) : Run Try.prog 66 #[(Value.slice A0 n0 c0), v1] h R :=
  run_of mixed Try.func66 (by kernel_rfl) (by kernel_rfl) f66.good (Eq.mpr (show (Fwd Try.prog f66.T f66.kp Try.f66 R [] (mkFr (argL [(Value.slice A0 n0 c0), v1] 0)) h) = (f66.runT R A0 n0 c0 v1 h) by kernel_rfl) H)

/-! ### slices.Equal[roadstead/heap.Heap,uint64]: function 161 -/
def f161.T : Tab := { sh := tSh, tup := tTup, keep := [], plan := [(6, (.take 0 (.take 1 (.take 2 (.take 4 (.take 5 (.take 6 (.take 3 (.take 7 (.take 8 .done))))))))))] }
def f161.kp : Keep := [([false, false, true, false, true, true], [0, 1, 12, 13])]
theorem f161.good : goodCode Try.prog f161.T (rootOf Try.f161) = true := by kernel_rfl
set_option maxRecDepth 100000 in
theorem f161.ok : calleeOk Try.prog 161 = true := by kernel_rfl
def f161.l0 (R : Value → Heap → Prop) (A0 : Option Addr) (n0 : Nat) (c0 : Nat) (A1 : Option Addr) (n1 : Nat) (c1 : Nat) (x12 : Int) (x13 : Int) (h : Heap) : Prop := Pt Try.prog Try.f161 R [false, false, true, false, true, true] (mkFr [(0, (Value.slice A0 n0 c0)), (1, (Value.slice A1 n1 c1)), (12, (Value.int .i64 x12)), (13, (Value.int .i64 x13))]) h
set_option maxRecDepth 100000 in
def f161.l0T (R : Value → Heap → Prop) (A0 : Option Addr) (n0 : Nat) (c0 : Nat) (A1 : Option Addr) (n1 : Nat) (c1 : Nat) (x12 : Int) (x13 : Int) (h : Heap) : Prop :=
  splitB (decide (x13 < x12)) (ptrOk A0 fun a1_ => 0 ≤ x13 ∧ x13 < ((n0 : Nat) : Int) ∧ (ptrOk A1 fun a2_ => 0 ≤ x13 ∧ x13 < ((n1 : Nat) : Int) ∧ (∃ v3_, ldv false 1 h (Addr.add a1_ (Int.toNat x13 * 1)) = some v3_ ∧ ∃ x4_, v3_ = (Value.int .u64 x4_) ∧ ∃ v5_, ldv false 1 h (Addr.add a2_ (Int.toNat x13 * 1)) = some v5_ ∧ ∃ x6_, v5_ = (Value.int .u64 x6_) ∧ splitB (x4_ != x6_) (R (Value.bool false) h) (f161.l0 R A0 n0 c0 A1 n1 c1 x12 (IntKind.wrap .i64 (x13 + (1 : Int))) h)))) (R (Value.bool true) h)
set_option maxRecDepth 100000 in
theorem f161.l0_in {R : Value → Heap → Prop} {A0 : Option Addr} {n0 : Nat} {c0 : Nat} {A1 : Option Addr} {n1 : Nat} {c1 : Nat} {x12 : Int} {x13 : Int} {h : Heap} (H : f161.l0T R A0 n0 c0 A1 n1 c1 x12 x13 h) : f161.l0 R A0 n0 c0 A1 n1 c1 x12 x13 h :=
  pt_intro mixed f161.good (Eq.mpr (show (Fwd Try.prog f161.T f161.kp Try.f161 R [false, false, true, false, true, true] (mkFr [(0, (Value.slice A0 n0 c0)), (1, (Value.slice A1 n1 c1)), (12, (Value.int .i64 x12)), (13, (Value.int .i64 x13))]) h) = (f161.l0T R A0 n0 c0 A1 n1 c1 x12 x13 h) by kernel_rfl) H)
set_option maxRecDepth 100000 in
def f161.runT (R : Value → Heap → Prop) (A0 : Option Addr) (n0 : Nat) (c0 : Nat) (A1 : Option Addr) (n1 : Nat) (c1 : Nat) (h : Heap) : Prop :=
  splitB (((n0 : Nat) : Int) != ((n1 : Nat) : Int)) (R (Value.bool false) h) (f161.l0 R A0 n0 c0 A1 n1 c1 ((n0 : Nat) : Int) (0 : Int) h)
set_option maxRecDepth 100000 in
theorem f161.run {R : Value → Heap → Prop} {A0 : Option Addr} {n0 : Nat} {c0 : Nat} {A1 : Option Addr} {n1 : Nat} {c1 : Nat} {h : Heap} (H : f161.runT R A0 n0 c0 A1 n1 c1 h) : Run Try.prog 161 #[(Value.slice A0 n0 c0), (Value.slice A1 n1 c1)] h R :=
  run_of mixed Try.func161 (by kernel_rfl) (by kernel_rfl) f161.good (Eq.mpr (show (Fwd Try.prog f161.T f161.kp Try.f161 R [] (mkFr (argL [(Value.slice A0 n0 c0), (Value.slice A1 n1 c1)] 0)) h) = (f161.runT R A0 n0 c0 A1 n1 c1 h) by kernel_rfl) H)

/-! ### roadstead/heap.At: function 141 -/
def f141.T : Tab := { sh := tSh, tup := tTup, keep := [], plan := [(19, (.take 0 (.take 2 (.take 3 (.take 4 (.take 5 (.take 6 (.take 7 (.take 1 (.eff false 8 (.take 9 (.eff false 10 .done))))))))))))] }
def f141.kp : Keep := [([true, false, true], [0, 1, 4, 23]), ([true, true], [0, 1, 4]), ([true, false, true, true, true, true], [0, 1, 4, 7, 8, 9, 53]), ([true, true, true, true, true], [0, 1, 4, 7, 8, 9]), ([true, false, true, true, true, true, true, true, true], [0, 1, 4, 8, 9, 10, 65]), ([true, true, true, true, true, true, true, true], [0, 1, 4, 8, 9, 10]), ([false, false, true, false, true, true, true, true, true, true, true, true, true], [0, 1, 4, 8, 9, 10, 11, 74, 75]), ([true, true, false, true, true, true, true, true, true, true, true, true, true, true, true], [4, 10, 131]), ([true, true, true, true, true, true, true, true, true, true, true, true, true], [4, 10])]
theorem f141.good : goodCode Try.prog f141.T (rootOf Try.f141) = true := by kernel_rfl
set_option maxRecDepth 100000 in
theorem f141.ok : calleeOk Try.prog 141 = true := by kernel_rfl
def f141.j1 (R : Value → Heap → Prop) (A0 : Option Addr) (n0 : Nat) (c0 : Nat) (x1 : Int) (a4 : Addr) (b23 : Bool) (h : Heap) : Prop := Pt Try.prog Try.f141 R [true, false, true] (mkFr [(0, (Value.slice A0 n0 c0)), (1, (Value.int .i64 x1)), (4, (Value.pointer (some a4))), (23, (Value.bool b23))]) h
def f141.j0 (R : Value → Heap → Prop) (A0 : Option Addr) (n0 : Nat) (c0 : Nat) (x1 : Int) (a4 : Addr) (h : Heap) : Prop := Pt Try.prog Try.f141 R [true, true] (mkFr [(0, (Value.slice A0 n0 c0)), (1, (Value.int .i64 x1)), (4, (Value.pointer (some a4)))]) h
def f141.j3 (R : Value → Heap → Prop) (A0 : Option Addr) (n0 : Nat) (c0 : Nat) (x1 : Int) (a4 : Addr) (x7 : Int) (x8 : Int) (x9 : Int) (b53 : Bool) (h : Heap) : Prop := Pt Try.prog Try.f141 R [true, false, true, true, true, true] (mkFr [(0, (Value.slice A0 n0 c0)), (1, (Value.int .i64 x1)), (4, (Value.pointer (some a4))), (7, (Value.int .i64 x7)), (8, (Value.int .i64 x8)), (9, (Value.int .i64 x9)), (53, (Value.bool b53))]) h
def f141.j2 (R : Value → Heap → Prop) (A0 : Option Addr) (n0 : Nat) (c0 : Nat) (x1 : Int) (a4 : Addr) (x7 : Int) (x8 : Int) (x9 : Int) (h : Heap) : Prop := Pt Try.prog Try.f141 R [true, true, true, true, true] (mkFr [(0, (Value.slice A0 n0 c0)), (1, (Value.int .i64 x1)), (4, (Value.pointer (some a4))), (7, (Value.int .i64 x7)), (8, (Value.int .i64 x8)), (9, (Value.int .i64 x9))]) h
def f141.j5 (R : Value → Heap → Prop) (A0 : Option Addr) (n0 : Nat) (c0 : Nat) (x1 : Int) (a4 : Addr) (x8 : Int) (x9 : Int) (a10 : Addr) (b65 : Bool) (h : Heap) : Prop := Pt Try.prog Try.f141 R [true, false, true, true, true, true, true, true, true] (mkFr [(0, (Value.slice A0 n0 c0)), (1, (Value.int .i64 x1)), (4, (Value.pointer (some a4))), (8, (Value.int .i64 x8)), (9, (Value.int .i64 x9)), (10, (Value.pointer (some a10))), (65, (Value.bool b65))]) h
def f141.j4 (R : Value → Heap → Prop) (A0 : Option Addr) (n0 : Nat) (c0 : Nat) (x1 : Int) (a4 : Addr) (x8 : Int) (x9 : Int) (a10 : Addr) (h : Heap) : Prop := Pt Try.prog Try.f141 R [true, true, true, true, true, true, true, true] (mkFr [(0, (Value.slice A0 n0 c0)), (1, (Value.int .i64 x1)), (4, (Value.pointer (some a4))), (8, (Value.int .i64 x8)), (9, (Value.int .i64 x9)), (10, (Value.pointer (some a10)))]) h
def f141.l0 (R : Value → Heap → Prop) (A0 : Option Addr) (n0 : Nat) (c0 : Nat) (x1 : Int) (a4 : Addr) (x8 : Int) (x9 : Int) (a10 : Addr) (A11 : Option Addr) (n11 : Nat) (c11 : Nat) (x74 : Int) (x75 : Int) (h : Heap) : Prop := Pt Try.prog Try.f141 R [false, false, true, false, true, true, true, true, true, true, true, true, true] (mkFr [(0, (Value.slice A0 n0 c0)), (1, (Value.int .i64 x1)), (4, (Value.pointer (some a4))), (8, (Value.int .i64 x8)), (9, (Value.int .i64 x9)), (10, (Value.pointer (some a10))), (11, (Value.slice A11 n11 c11)), (74, (Value.int .i64 x74)), (75, (Value.int .i64 x75))]) h
def f141.j7 (R : Value → Heap → Prop) (a4 : Addr) (a10 : Addr) (b131 : Bool) (h : Heap) : Prop := Pt Try.prog Try.f141 R [true, true, false, true, true, true, true, true, true, true, true, true, true, true, true] (mkFr [(4, (Value.pointer (some a4))), (10, (Value.pointer (some a10))), (131, (Value.bool b131))]) h
def f141.j6 (R : Value → Heap → Prop) (a4 : Addr) (a10 : Addr) (h : Heap) : Prop := Pt Try.prog Try.f141 R [true, true, true, true, true, true, true, true, true, true, true, true, true] (mkFr [(4, (Value.pointer (some a4))), (10, (Value.pointer (some a10)))]) h
set_option maxRecDepth 100000 in
def f141.j1T (R : Value → Heap → Prop) (A0 : Option Addr) (n0 : Nat) (c0 : Nat) (x1 : Int) (a4 : Addr) (b23 : Bool) (h : Heap) : Prop :=
  splitB b23 (∃ l2_ : List Value, (Value.agg #[(Value.int .i64 (0 : Int)), (Value.int .i64 (0 : Int)), (Value.int .i64 (0 : Int)), (Value.string (ByteArray.mk #[])), (Value.slice none 0 0)]) = Value.agg l2_.toArray ∧ l2_.length = 5 ∧ ∃ h1_, stH h a4 l2_ 0 = some h1_ ∧ ∃ v3_, ldv true 5 h1_ a4 = some v3_ ∧ R (Value.tuple #[v3_, (Value.int .i64 (4 : Int))]) h1_) (f141.j0 R A0 n0 c0 x1 a4 h)
set_option maxRecDepth 100000 in
theorem f141.j1_in {R : Value → Heap → Prop} {A0 : Option Addr} {n0 : Nat} {c0 : Nat} {x1 : Int} {a4 : Addr} {b23 : Bool} {h : Heap} (H : f141.j1T R A0 n0 c0 x1 a4 b23 h) : f141.j1 R A0 n0 c0 x1 a4 b23 h :=
  pt_intro mixed f141.good (Eq.mpr (show (Fwd Try.prog f141.T f141.kp Try.f141 R [true, false, true] (mkFr [(0, (Value.slice A0 n0 c0)), (1, (Value.int .i64 x1)), (4, (Value.pointer (some a4))), (23, (Value.bool b23))]) h) = (f141.j1T R A0 n0 c0 x1 a4 b23 h) by kernel_rfl) H)
set_option maxRecDepth 100000 in
def f141.j0T (R : Value → Heap → Prop) (A0 : Option Addr) (n0 : Nat) (c0 : Nat) (x1 : Int) (a4 : Addr) (h : Heap) : Prop :=
  ptrOk A0 fun a1_ => 0 ≤ x1 ∧ x1 < ((n0 : Nat) : Int) ∧ (∃ v2_, ldv false 1 h (Addr.add a1_ (Int.toNat x1 * 1)) = some v2_ ∧ ∃ x3_, v2_ = (Value.int .u64 x3_) ∧ 0 ≤ (8 : Int) ∧ (0 ≤ (20 : Int) ∧ (0 ≤ (32 : Int) ∧ (splitB ((shrI .u64 x3_ (32 : Int)) != (0 : Int)) (f141.j3 R A0 n0 c0 x1 a4 (IntKind.wrap .i64 (bitsI .and .u64 x3_ (255 : Int))) (IntKind.wrap .i64 (bitsI .and .u64 (shrI .u64 x3_ (8 : Int)) (4095 : Int))) (IntKind.wrap .i64 (bitsI .and .u64 (shrI .u64 x3_ (20 : Int)) (4095 : Int))) true h) (Run Try.prog 142 #[(Value.int .i64 (IntKind.wrap .i64 (bitsI .and .u64 x3_ (255 : Int)))), (Value.int .i64 (IntKind.wrap .i64 (bitsI .and .u64 (shrI .u64 x3_ (8 : Int)) (4095 : Int)))), (Value.int .i64 (IntKind.wrap .i64 (bitsI .and .u64 (shrI .u64 x3_ (20 : Int)) (4095 : Int))))] h fun v4_ h5_ => ∃ x6_, v4_ = (Value.int .i64 x6_) ∧ f141.j3 R A0 n0 c0 x1 a4 (IntKind.wrap .i64 (bitsI .and .u64 x3_ (255 : Int))) (IntKind.wrap .i64 (bitsI .and .u64 (shrI .u64 x3_ (8 : Int)) (4095 : Int))) (IntKind.wrap .i64 (bitsI .and .u64 (shrI .u64 x3_ (20 : Int)) (4095 : Int))) (decide (x6_ > (IntKind.wrap .i64 (((n0 : Nat) : Int) - x1)))) h5_)))))
set_option maxRecDepth 100000 in
theorem f141.j0_in {R : Value → Heap → Prop} {A0 : Option Addr} {n0 : Nat} {c0 : Nat} {x1 : Int} {a4 : Addr} {h : Heap} (H : f141.j0T R A0 n0 c0 x1 a4 h) : f141.j0 R A0 n0 c0 x1 a4 h :=
  pt_intro mixed f141.good (Eq.mpr (show (Fwd Try.prog f141.T f141.kp Try.f141 R [true, true] (mkFr [(0, (Value.slice A0 n0 c0)), (1, (Value.int .i64 x1)), (4, (Value.pointer (some a4)))]) h) = (f141.j0T R A0 n0 c0 x1 a4 h) by kernel_rfl) H)
set_option maxRecDepth 100000 in
def f141.j3T (R : Value → Heap → Prop) (A0 : Option Addr) (n0 : Nat) (c0 : Nat) (x1 : Int) (a4 : Addr) (x7 : Int) (x8 : Int) (x9 : Int) (b53 : Bool) (h : Heap) : Prop :=
  splitB b53 (∃ l2_ : List Value, (Value.agg #[(Value.int .i64 (0 : Int)), (Value.int .i64 (0 : Int)), (Value.int .i64 (0 : Int)), (Value.string (ByteArray.mk #[])), (Value.slice none 0 0)]) = Value.agg l2_.toArray ∧ l2_.length = 5 ∧ ∃ h1_, stH h a4 l2_ 0 = some h1_ ∧ ∃ v3_, ldv true 5 h1_ a4 = some v3_ ∧ R (Value.tuple #[v3_, (Value.int .i64 (3 : Int))]) h1_) (f141.j2 R A0 n0 c0 x1 a4 x7 x8 x9 h)
set_option maxRecDepth 100000 in
theorem f141.j3_in {R : Value → Heap → Prop} {A0 : Option Addr} {n0 : Nat} {c0 : Nat} {x1 : Int} {a4 : Addr} {x7 : Int} {x8 : Int} {x9 : Int} {b53 : Bool} {h : Heap} (H : f141.j3T R A0 n0 c0 x1 a4 x7 x8 x9 b53 h) : f141.j3 R A0 n0 c0 x1 a4 x7 x8 x9 b53 h :=
  pt_intro mixed f141.good (Eq.mpr (show (Fwd Try.prog f141.T f141.kp Try.f141 R [true, false, true, true, true, true] (mkFr [(0, (Value.slice A0 n0 c0)), (1, (Value.int .i64 x1)), (4, (Value.pointer (some a4))), (7, (Value.int .i64 x7)), (8, (Value.int .i64 x8)), (9, (Value.int .i64 x9)), (53, (Value.bool b53))]) h) = (f141.j3T R A0 n0 c0 x1 a4 x7 x8 x9 b53 h) by kernel_rfl) H)
set_option maxRecDepth 100000 in
def f141.j2T (R : Value → Heap → Prop) (A0 : Option Addr) (n0 : Nat) (c0 : Nat) (x1 : Int) (a4 : Addr) (x7 : Int) (x8 : Int) (x9 : Int) (h : Heap) : Prop :=
  newH h (Obj.cells #[(Value.int .i64 (0 : Int)), (Value.int .i64 (0 : Int)), (Value.int .i64 (0 : Int)), (Value.string (ByteArray.mk #[])), (Value.slice none 0 0)] 202) fun h1_ => ∃ l3_ : List Value, (Value.agg #[(Value.int .i64 x1), (Value.int .i64 x7), (Value.int .i64 (0 : Int)), (Value.string (ByteArray.mk #[])), (Value.slice none 0 0)]) = Value.agg l3_.toArray ∧ l3_.length = 5 ∧ ∃ h2_, stH h1_ (⟨Array.size h, 0, none⟩) l3_ 0 = some h2_ ∧ splitB (x7 == (1 : Int)) (f141.j5 R A0 n0 c0 (IntKind.wrap .i64 (x1 + (1 : Int))) a4 x8 x9 (⟨Array.size h, 0, none⟩) true h2_) (f141.j5 R A0 n0 c0 (IntKind.wrap .i64 (x1 + (1 : Int))) a4 x8 x9 (⟨Array.size h, 0, none⟩) (x7 == (4 : Int)) h2_)
set_option maxRecDepth 100000 in
theorem f141.j2_in {R : Value → Heap → Prop} {A0 : Option Addr} {n0 : Nat} {c0 : Nat} {x1 : Int} {a4 : Addr} {x7 : Int} {x8 : Int} {x9 : Int} {h : Heap} (H : f141.j2T R A0 n0 c0 x1 a4 x7 x8 x9 h) : f141.j2 R A0 n0 c0 x1 a4 x7 x8 x9 h :=
  pt_intro mixed f141.good (Eq.mpr (show (Fwd Try.prog f141.T f141.kp Try.f141 R [true, true, true, true, true] (mkFr [(0, (Value.slice A0 n0 c0)), (1, (Value.int .i64 x1)), (4, (Value.pointer (some a4))), (7, (Value.int .i64 x7)), (8, (Value.int .i64 x8)), (9, (Value.int .i64 x9))]) h) = (f141.j2T R A0 n0 c0 x1 a4 x7 x8 x9 h) by kernel_rfl) H)
set_option maxRecDepth 100000 in
def f141.j5T (R : Value → Heap → Prop) (A0 : Option Addr) (n0 : Nat) (c0 : Nat) (x1 : Int) (a4 : Addr) (x8 : Int) (x9 : Int) (a10 : Addr) (b65 : Bool) (h : Heap) : Prop :=
  splitB b65 (ptrOk A0 fun a1_ => 0 ≤ x1 ∧ x1 < ((n0 : Nat) : Int) ∧ (∃ v2_, ldv false 1 h (Addr.add a1_ (Int.toNat x1 * 1)) = some v2_ ∧ ∃ x3_, v2_ = (Value.int .u64 x3_) ∧ ∃ h4_, st1 h (Addr.add a10 2) (Value.int .i64 (IntKind.wrap .i64 x3_)) = some h4_ ∧ f141.j4 R A0 n0 c0 (IntKind.wrap .i64 (x1 + (1 : Int))) a4 x8 x9 a10 h4_)) (f141.j4 R A0 n0 c0 x1 a4 x8 x9 a10 h)
set_option maxRecDepth 100000 in
theorem f141.j5_in {R : Value → Heap → Prop} {A0 : Option Addr} {n0 : Nat} {c0 : Nat} {x1 : Int} {a4 : Addr} {x8 : Int} {x9 : Int} {a10 : Addr} {b65 : Bool} {h : Heap} (H : f141.j5T R A0 n0 c0 x1 a4 x8 x9 a10 b65 h) : f141.j5 R A0 n0 c0 x1 a4 x8 x9 a10 b65 h :=
  pt_intro mixed f141.good (Eq.mpr (show (Fwd Try.prog f141.T f141.kp Try.f141 R [true, false, true, true, true, true, true, true, true] (mkFr [(0, (Value.slice A0 n0 c0)), (1, (Value.int .i64 x1)), (4, (Value.pointer (some a4))), (8, (Value.int .i64 x8)), (9, (Value.int .i64 x9)), (10, (Value.pointer (some a10))), (65, (Value.bool b65))]) h) = (f141.j5T R A0 n0 c0 x1 a4 x8 x9 a10 b65 h) by kernel_rfl) H)
set_option maxRecDepth 100000 in
def f141.j4T (R : Value → Heap → Prop) (A0 : Option Addr) (n0 : Nat) (c0 : Nat) (x1 : Int) (a4 : Addr) (x8 : Int) (x9 : Int) (a10 : Addr) (h : Heap) : Prop :=
  f141.l0 R A0 n0 c0 x1 a4 x8 x9 a10 none 0 0 x8 (0 : Int) h
set_option maxRecDepth 100000 in
theorem f141.j4_in {R : Value → Heap → Prop} {A0 : Option Addr} {n0 : Nat} {c0 : Nat} {x1 : Int} {a4 : Addr} {x8 : Int} {x9 : Int} {a10 : Addr} {h : Heap} (H : f141.j4T R A0 n0 c0 x1 a4 x8 x9 a10 h) : f141.j4 R A0 n0 c0 x1 a4 x8 x9 a10 h :=
  pt_intro mixed f141.good (Eq.mpr (show (Fwd Try.prog f141.T f141.kp Try.f141 R [true, true, true, true, true, true, true, true] (mkFr [(0, (Value.slice A0 n0 c0)), (1, (Value.int .i64 x1)), (4, (Value.pointer (some a4))), (8, (Value.int .i64 x8)), (9, (Value.int .i64 x9)), (10, (Value.pointer (some a10)))]) h) = (f141.j4T R A0 n0 c0 x1 a4 x8 x9 a10 h) by kernel_rfl) H)
set_option maxRecDepth 100000 in
def f141.l0T (R : Value → Heap → Prop) (A0 : Option Addr) (n0 : Nat) (c0 : Nat) (x1 : Int) (a4 : Addr) (x8 : Int) (x9 : Int) (a10 : Addr) (A11 : Option Addr) (n11 : Nat) (c11 : Nat) (x74 : Int) (x75 : Int) (h : Heap) : Prop :=
  splitB (decide (x75 < x74)) ((8 : Int) ≠ 0 ∧ (ptrOk A0 fun a1_ => 0 ≤ (IntKind.wrap .i64 (x1 + (IntKind.wrap .i64 (Int.tdiv x75 (8 : Int))))) ∧ (IntKind.wrap .i64 (x1 + (IntKind.wrap .i64 (Int.tdiv x75 (8 : Int))))) < ((n0 : Nat) : Int) ∧ (∃ v2_, ldv false 1 h (Addr.add a1_ (Int.toNat (IntKind.wrap .i64 (x1 + (IntKind.wrap .i64 (Int.tdiv x75 (8 : Int))))) * 1)) = some v2_ ∧ ∃ x3_, v2_ = (Value.int .u64 x3_) ∧ (8 : Int) ≠ 0 ∧ (0 ≤ (IntKind.wrap .i64 ((8 : Int) * (Int.tmod x75 (8 : Int)))) ∧ (newH h (Obj.cells #[(Value.int .u8 (IntKind.wrap .u8 (shrI .u64 x3_ (IntKind.wrap .i64 ((8 : Int) * (Int.tmod x75 (8 : Int)))))))] 5) fun h4_ => AppW 5 1 1 #[(Value.int .u8 (0 : Int))] A11 n11 c11 (Value.slice (some ⟨Array.size h, 0, none⟩) 1 1) h4_ fun v5_ h6_ => ∃ A7_, ∃ n7_, ∃ c7_, v5_ = (Value.slice A7_ n7_ c7_) ∧ f141.l0 R A0 n0 c0 x1 a4 x8 x9 a10 A7_ n7_ c7_ x74 (IntKind.wrap .i64 (x75 + (1 : Int))) h6_))))) (Gen Try.prog (convert 260 9 (Value.slice A11 n11 c11)) h fun v8_ h9_ => ∃ s10_, v8_ = (Value.string s10_) ∧ (8 : Int) ≠ 0 ∧ (∃ h11_, st1 h9_ (Addr.add a10 3) (Value.string s10_) = some h11_ ∧ 0 ≤ (IntKind.wrap .i64 (x1 + (IntKind.wrap .i64 (Int.tdiv (IntKind.wrap .i64 (x8 + (7 : Int))) (8 : Int))))) ∧ (IntKind.wrap .i64 (x1 + (IntKind.wrap .i64 (Int.tdiv (IntKind.wrap .i64 (x8 + (7 : Int))) (8 : Int))))) ≤ (IntKind.wrap .i64 ((IntKind.wrap .i64 (x1 + (IntKind.wrap .i64 (Int.tdiv (IntKind.wrap .i64 (x8 + (7 : Int))) (8 : Int))))) + x9)) ∧ (IntKind.wrap .i64 ((IntKind.wrap .i64 (x1 + (IntKind.wrap .i64 (Int.tdiv (IntKind.wrap .i64 (x8 + (7 : Int))) (8 : Int))))) + x9)) ≤ ((c0 : Nat) : Int) ∧ (∃ v12_, ldv false 1 h11_ (Addr.add a10 4) = some v12_ ∧ ∃ A13_, ∃ n13_, ∃ c13_, v12_ = (Value.slice A13_ n13_ c13_) ∧ AppW 98 1 8 #[(Value.int .u64 (0 : Int))] A13_ n13_ c13_ (Value.slice (sliceA A0 (Int.toNat (IntKind.wrap .i64 (x1 + (IntKind.wrap .i64 (Int.tdiv (IntKind.wrap .i64 (x8 + (7 : Int))) (8 : Int)))))) c0 1) (Int.toNat (IntKind.wrap .i64 ((IntKind.wrap .i64 (x1 + (IntKind.wrap .i64 (Int.tdiv (IntKind.wrap .i64 (x8 + (7 : Int))) (8 : Int))))) + x9)) - Int.toNat (IntKind.wrap .i64 (x1 + (IntKind.wrap .i64 (Int.tdiv (IntKind.wrap .i64 (x8 + (7 : Int))) (8 : Int)))))) (c0 - Int.toNat (IntKind.wrap .i64 (x1 + (IntKind.wrap .i64 (Int.tdiv (IntKind.wrap .i64 (x8 + (7 : Int))) (8 : Int))))))) h11_ fun v14_ h15_ => ∃ A16_, ∃ n16_, ∃ c16_, v14_ = (Value.slice A16_ n16_ c16_) ∧ ∃ h17_, st1 h15_ (Addr.add a10 4) (Value.slice A16_ n16_ c16_) = some h17_ ∧ ∃ v18_, ldv true 5 h17_ a10 = some v18_ ∧ Run Try.prog 117 #[(Value.slice none 0 0), v18_] h17_ fun v19_ h20_ => ∃ A21_, ∃ n21_, ∃ c21_, ∃ x22_, ∃ x23_, v19_ = (Value.tuple #[(Value.slice A21_ n21_ c21_), (Value.int .i64 x22_), (Value.int .i64 x23_)]) ∧ splitB (x23_ != (0 : Int)) (f141.j7 R a4 a10 true h20_) (∃ v24_, ldv false 1 h20_ a10 = some v24_ ∧ ∃ x25_, v24_ = (Value.int .i64 x25_) ∧ 0 ≤ x25_ ∧ x25_ ≤ (IntKind.wrap .i64 ((IntKind.wrap .i64 (x1 + (IntKind.wrap .i64 (Int.tdiv (IntKind.wrap .i64 (x8 + (7 : Int))) (8 : Int))))) + x9)) ∧ (IntKind.wrap .i64 ((IntKind.wrap .i64 (x1 + (IntKind.wrap .i64 (Int.tdiv (IntKind.wrap .i64 (x8 + (7 : Int))) (8 : Int))))) + x9)) ≤ ((c0 : Nat) : Int) ∧ (Run Try.prog 161 #[(Value.slice A21_ n21_ c21_), (Value.slice (sliceA A0 (Int.toNat x25_) c0 1) (Int.toNat (IntKind.wrap .i64 ((IntKind.wrap .i64 (x1 + (IntKind.wrap .i64 (Int.tdiv (IntKind.wrap .i64 (x8 + (7 : Int))) (8 : Int))))) + x9)) - Int.toNat x25_) (c0 - Int.toNat x25_))] h20_ fun v26_ h27_ => ∃ b28_, v26_ = (Value.bool b28_) ∧ f141.j7 R a4 a10 (!b28_) h27_)))))
set_option maxRecDepth 100000 in
theorem f141.l0_in {R : Value → Heap → Prop} {A0 : Option Addr} {n0 : Nat} {c0 : Nat} {x1 : Int} {a4 : Addr} {x8 : Int} {x9 : Int} {a10 : Addr} {A11 : Option Addr} {n11 : Nat} {c11 : Nat} {x74 : Int} {x75 : Int} {h : Heap} (H : f141.l0T R A0 n0 c0 x1 a4 x8 x9 a10 A11 n11 c11 x74 x75 h) : f141.l0 R A0 n0 c0 x1 a4 x8 x9 a10 A11 n11 c11 x74 x75 h :=
  pt_intro mixed f141.good (Eq.mpr (show (Fwd Try.prog f141.T f141.kp Try.f141 R [false, false, true, false, true, true, true, true, true, true, true, true, true] (mkFr [(0, (Value.slice A0 n0 c0)), (1, (Value.int .i64 x1)), (4, (Value.pointer (some a4))), (8, (Value.int .i64 x8)), (9, (Value.int .i64 x9)), (10, (Value.pointer (some a10))), (11, (Value.slice A11 n11 c11)), (74, (Value.int .i64 x74)), (75, (Value.int .i64 x75))]) h) = (f141.l0T R A0 n0 c0 x1 a4 x8 x9 a10 A11 n11 c11 x74 x75 h) by kernel_rfl) H)
set_option maxRecDepth 100000 in
def f141.j7T (R : Value → Heap → Prop) (a4 : Addr) (a10 : Addr) (b131 : Bool) (h : Heap) : Prop :=
  splitB b131 (∃ l2_ : List Value, (Value.agg #[(Value.int .i64 (0 : Int)), (Value.int .i64 (0 : Int)), (Value.int .i64 (0 : Int)), (Value.string (ByteArray.mk #[])), (Value.slice none 0 0)]) = Value.agg l2_.toArray ∧ l2_.length = 5 ∧ ∃ h1_, stH h a4 l2_ 0 = some h1_ ∧ ∃ v3_, ldv true 5 h1_ a4 = some v3_ ∧ R (Value.tuple #[v3_, (Value.int .i64 (3 : Int))]) h1_) (f141.j6 R a4 a10 h)
set_option maxRecDepth 100000 in
theorem f141.j7_in {R : Value → Heap → Prop} {a4 : Addr} {a10 : Addr} {b131 : Bool} {h : Heap} (H : f141.j7T R a4 a10 b131 h) : f141.j7 R a4 a10 b131 h :=
  pt_intro mixed f141.good (Eq.mpr (show (Fwd Try.prog f141.T f141.kp Try.f141 R [true, true, false, true, true, true, true, true, true, true, true, true, true, true, true] (mkFr [(4, (Value.pointer (some a4))), (10, (Value.pointer (some a10))), (131, (Value.bool b131))]) h) = (f141.j7T R a4 a10 b131 h) by kernel_rfl) H)
set_option maxRecDepth 100000 in
def f141.j6T (R : Value → Heap → Prop) (a4 : Addr) (a10 : Addr) (h : Heap) : Prop :=
  ∃ v1_, ldv true 5 h a10 = some v1_ ∧ ∃ l3_ : List Value, v1_ = Value.agg l3_.toArray ∧ l3_.length = 5 ∧ ∃ h2_, stH h a4 l3_ 0 = some h2_ ∧ ∃ v4_, ldv true 5 h2_ a4 = some v4_ ∧ R (Value.tuple #[v4_, (Value.int .i64 (0 : Int))]) h2_
set_option maxRecDepth 100000 in
theorem f141.j6_in {R : Value → Heap → Prop} {a4 : Addr} {a10 : Addr} {h : Heap} (H : f141.j6T R a4 a10 h) : f141.j6 R a4 a10 h :=
  pt_intro mixed f141.good (Eq.mpr (show (Fwd Try.prog f141.T f141.kp Try.f141 R [true, true, true, true, true, true, true, true, true, true, true, true, true] (mkFr [(4, (Value.pointer (some a4))), (10, (Value.pointer (some a10)))]) h) = (f141.j6T R a4 a10 h) by kernel_rfl) H)
set_option maxRecDepth 100000 in
def f141.runT (R : Value → Heap → Prop) (A0 : Option Addr) (n0 : Nat) (c0 : Nat) (x1 : Int) (h : Heap) : Prop :=
  newH h (Obj.cells #[(Value.int .i64 (0 : Int)), (Value.int .i64 (0 : Int)), (Value.int .i64 (0 : Int)), (Value.string (ByteArray.mk #[])), (Value.slice none 0 0)] 202) fun h1_ => splitB (decide (x1 < (0 : Int))) (f141.j1 R A0 n0 c0 x1 (⟨Array.size h, 0, none⟩) true h1_) (f141.j1 R A0 n0 c0 x1 (⟨Array.size h, 0, none⟩) (decide (x1 ≥ ((n0 : Nat) : Int))) h1_)
set_option maxRecDepth 100000 in
theorem f141.run {R : Value → Heap → Prop} {A0 : Option Addr} {n0 : Nat} {c0 : Nat} {x1 : Int} {h : Heap} (H : f141.runT R A0 n0 c0 x1 h) : Run Try.prog 141 #[(Value.slice A0 n0 c0), (Value.int .i64 x1)] h R :=
  run_of mixed Try.func141 (by kernel_rfl) (by kernel_rfl) f141.good (Eq.mpr (show (Fwd Try.prog f141.T f141.kp Try.f141 R [] (mkFr (argL [(Value.slice A0 n0 c0), (Value.int .i64 x1)] 0)) h) = (f141.runT R A0 n0 c0 x1 h) by kernel_rfl) H)

/-! ### roadstead/term.Read: function 143 -/
def f143.T : Tab := { sh := tSh, tup := tTup, keep := [], plan := [] }
def f143.kp : Keep := [([true, true, true], [0, 5, 6]), ([true, true, false, true, true, true], [5, 6, 32]), ([true, true, true, true], [5, 6])]
theorem f143.good : goodCode Try.prog f143.T (rootOf Try.f143) = true := by kernel_rfl
set_option maxRecDepth 100000 in
theorem f143.ok : calleeOk Try.prog 143 = true := by kernel_rfl
def f143.j0 (R : Value → Heap → Prop) (x0 : Int) (x5 : Int) (x6 : Int) (h : Heap) : Prop := Pt Try.prog Try.f143 R [true, true, true] (mkFr [(0, (Value.int .u64 x0)), (5, (Value.int .i64 x5)), (6, (Value.int .i64 x6))]) h
def f143.j2 (R : Value → Heap → Prop) (x5 : Int) (x6 : Int) (b32 : Bool) (h : Heap) : Prop := Pt Try.prog Try.f143 R [true, true, false, true, true, true] (mkFr [(5, (Value.int .i64 x5)), (6, (Value.int .i64 x6)), (32, (Value.bool b32))]) h
def f143.j1 (R : Value → Heap → Prop) (x5 : Int) (x6 : Int) (h : Heap) : Prop := Pt Try.prog Try.f143 R [true, true, true, true] (mkFr [(5, (Value.int .i64 x5)), (6, (Value.int .i64 x6))]) h
set_option maxRecDepth 100000 in
def f143.j0T (R : Value → Heap → Prop) (x0 : Int) (x5 : Int) (x6 : Int) (h : Heap) : Prop :=
  Run Try.prog 118 #[(Value.int .i64 x5), (Value.int .i64 x6)] h fun v1_ h2_ => ∃ x3_, ∃ x4_, v1_ = (Value.tuple #[(Value.int .u64 x3_), (Value.int .i64 x4_)]) ∧ splitB (x4_ != (0 : Int)) (f143.j2 R x5 x6 true h2_) (f143.j2 R x5 x6 (x3_ != x0) h2_)
set_option maxRecDepth 100000 in
theorem f143.j0_in {R : Value → Heap → Prop} {x0 : Int} {x5 : Int} {x6 : Int} {h : Heap} (H : f143.j0T R x0 x5 x6 h) : f143.j0 R x0 x5 x6 h :=
  pt_intro mixed f143.good (Eq.mpr (show (Fwd Try.prog f143.T f143.kp Try.f143 R [true, true, true] (mkFr [(0, (Value.int .u64 x0)), (5, (Value.int .i64 x5)), (6, (Value.int .i64 x6))]) h) = (f143.j0T R x0 x5 x6 h) by kernel_rfl) H)
set_option maxRecDepth 100000 in
def f143.j2T (R : Value → Heap → Prop) (x5 : Int) (x6 : Int) (b32 : Bool) (h : Heap) : Prop :=
  splitB b32 (R (Value.tuple #[(Value.int .i64 (0 : Int)), (Value.int .i64 (0 : Int)), (Value.int .i64 (3 : Int))]) h) (f143.j1 R x5 x6 h)
set_option maxRecDepth 100000 in
theorem f143.j2_in {R : Value → Heap → Prop} {x5 : Int} {x6 : Int} {b32 : Bool} {h : Heap} (H : f143.j2T R x5 x6 b32 h) : f143.j2 R x5 x6 b32 h :=
  pt_intro mixed f143.good (Eq.mpr (show (Fwd Try.prog f143.T f143.kp Try.f143 R [true, true, false, true, true, true] (mkFr [(5, (Value.int .i64 x5)), (6, (Value.int .i64 x6)), (32, (Value.bool b32))]) h) = (f143.j2T R x5 x6 b32 h) by kernel_rfl) H)
set_option maxRecDepth 100000 in
def f143.j1T (R : Value → Heap → Prop) (x5 : Int) (x6 : Int) (h : Heap) : Prop :=
  R (Value.tuple #[(Value.int .i64 x5), (Value.int .i64 x6), (Value.int .i64 (0 : Int))]) h
set_option maxRecDepth 100000 in
theorem f143.j1_in {R : Value → Heap → Prop} {x5 : Int} {x6 : Int} {h : Heap} (H : f143.j1T R x5 x6 h) : f143.j1 R x5 x6 h :=
  pt_intro mixed f143.good (Eq.mpr (show (Fwd Try.prog f143.T f143.kp Try.f143 R [true, true, true, true] (mkFr [(5, (Value.int .i64 x5)), (6, (Value.int .i64 x6))]) h) = (f143.j1T R x5 x6 h) by kernel_rfl) H)
set_option maxRecDepth 100000 in
def f143.runT (R : Value → Heap → Prop) (x0 : Int) (h : Heap) : Prop :=
  (8 : Int) ≠ 0 ∧ (0 ≤ (3 : Int) ∧ (splitB ((IntKind.wrap .i64 (Int.tmod x0 (8 : Int))) == (1 : Int)) (0 ≤ (3 : Int) ∧ (f143.j0 R x0 (IntKind.wrap .i64 (Int.tmod x0 (8 : Int))) (shrI .i64 (IntKind.wrap .i64 x0) (3 : Int)) h)) (f143.j0 R x0 (IntKind.wrap .i64 (Int.tmod x0 (8 : Int))) (IntKind.wrap .i64 (shrI .u64 x0 (3 : Int))) h)))
set_option maxRecDepth 100000 in
theorem f143.run {R : Value → Heap → Prop} {x0 : Int} {h : Heap} (H : f143.runT R x0 h) : Run Try.prog 143 #[(Value.int .u64 x0)] h R :=
  run_of mixed Try.func143 (by kernel_rfl) (by kernel_rfl) f143.good (Eq.mpr (show (Fwd Try.prog f143.T f143.kp Try.f143 R [] (mkFr (argL [(Value.int .u64 x0)] 0)) h) = (f143.runT R x0 h) by kernel_rfl) H)

/-! ### roadstead/term.Value: function 154 -/
def f154.T : Tab := { sh := tSh, tup := tTup, keep := [], plan := [] }
def f154.kp : Keep := [([true, false, true, true], [2, 4, 5, 18]), ([true, true, true], [2, 4, 5])]
theorem f154.good : goodCode Try.prog f154.T (rootOf Try.f154) = true := by kernel_rfl
set_option maxRecDepth 100000 in
theorem f154.ok : calleeOk Try.prog 154 = true := by kernel_rfl
def f154.j1 (R : Value → Heap → Prop) (a2 : Addr) (x4 : Int) (x5 : Int) (b18 : Bool) (h : Heap) : Prop := Pt Try.prog Try.f154 R [true, false, true, true] (mkFr [(2, (Value.pointer (some a2))), (4, (Value.int .i64 x4)), (5, (Value.int .i64 x5)), (18, (Value.bool b18))]) h
def f154.j0 (R : Value → Heap → Prop) (a2 : Addr) (x4 : Int) (x5 : Int) (h : Heap) : Prop := Pt Try.prog Try.f154 R [true, true, true] (mkFr [(2, (Value.pointer (some a2))), (4, (Value.int .i64 x4)), (5, (Value.int .i64 x5))]) h
set_option maxRecDepth 100000 in
def f154.j1T (R : Value → Heap → Prop) (a2 : Addr) (x4 : Int) (x5 : Int) (b18 : Bool) (h : Heap) : Prop :=
  splitB b18 (∃ l2_ : List Value, (Value.agg #[(Value.int .i64 (0 : Int)), (Value.int .i64 (0 : Int)), (Value.string (ByteArray.mk #[])), (Value.slice none 0 0)]) = Value.agg l2_.toArray ∧ l2_.length = 4 ∧ ∃ h1_, stH h a2 l2_ 0 = some h1_ ∧ ∃ v3_, ldv true 4 h1_ a2 = some v3_ ∧ R (Value.tuple #[v3_, (Value.bool false)]) h1_) (f154.j0 R a2 x4 x5 h)
set_option maxRecDepth 100000 in
theorem f154.j1_in {R : Value → Heap → Prop} {a2 : Addr} {x4 : Int} {x5 : Int} {b18 : Bool} {h : Heap} (H : f154.j1T R a2 x4 x5 b18 h) : f154.j1 R a2 x4 x5 b18 h :=
  pt_intro mixed f154.good (Eq.mpr (show (Fwd Try.prog f154.T f154.kp Try.f154 R [true, false, true, true] (mkFr [(2, (Value.pointer (some a2))), (4, (Value.int .i64 x4)), (5, (Value.int .i64 x5)), (18, (Value.bool b18))]) h) = (f154.j1T R a2 x4 x5 b18 h) by kernel_rfl) H)
set_option maxRecDepth 100000 in
def f154.j0T (R : Value → Heap → Prop) (a2 : Addr) (x4 : Int) (x5 : Int) (h : Heap) : Prop :=
  0 ≤ x4 ∧ x4 < ((4 : Nat) : Int) ∧ ∃ v1_, fldv false 1 (Int.toNat x4 * 1) (Value.agg #[(Value.int .i64 (1 : Int)), (Value.int .i64 (2 : Int)), (Value.int .i64 (3 : Int)), (Value.int .i64 (6 : Int))]) = some v1_ ∧ (∃ x2_, v1_ = (Value.int .i64 x2_) ∧ ∃ l4_ : List Value, (Value.agg #[(Value.int .i64 x2_), (Value.int .i64 x5), (Value.string (ByteArray.mk #[])), (Value.slice none 0 0)]) = Value.agg l4_.toArray ∧ l4_.length = 4 ∧ ∃ h3_, stH h a2 l4_ 0 = some h3_ ∧ ∃ v5_, ldv true 4 h3_ a2 = some v5_ ∧ R (Value.tuple #[v5_, (Value.bool true)]) h3_)
set_option maxRecDepth 100000 in
theorem f154.j0_in {R : Value → Heap → Prop} {a2 : Addr} {x4 : Int} {x5 : Int} {h : Heap} (H : f154.j0T R a2 x4 x5 h) : f154.j0 R a2 x4 x5 h :=
  pt_intro mixed f154.good (Eq.mpr (show (Fwd Try.prog f154.T f154.kp Try.f154 R [true, true, true] (mkFr [(2, (Value.pointer (some a2))), (4, (Value.int .i64 x4)), (5, (Value.int .i64 x5))]) h) = (f154.j0T R a2 x4 x5 h) by kernel_rfl) H)
set_option maxRecDepth 100000 in
def f154.runT (R : Value → Heap → Prop) (x0 : Int) (h : Heap) : Prop :=
  newH h (Obj.cells #[(Value.int .i64 (0 : Int)), (Value.int .i64 (0 : Int)), (Value.string (ByteArray.mk #[])), (Value.slice none 0 0)] 137) fun h1_ => Run Try.prog 143 #[(Value.int .u64 x0)] h1_ fun v2_ h3_ => ∃ x4_, ∃ x5_, ∃ x6_, v2_ = (Value.tuple #[(Value.int .i64 x4_), (Value.int .i64 x5_), (Value.int .i64 x6_)]) ∧ splitB (x6_ != (0 : Int)) (f154.j1 R (⟨Array.size h, 0, none⟩) x4_ x5_ true h3_) (f154.j1 R (⟨Array.size h, 0, none⟩) x4_ x5_ (x4_ == (4 : Int)) h3_)
set_option maxRecDepth 100000 in
theorem f154.run {R : Value → Heap → Prop} {x0 : Int} {h : Heap} (H : f154.runT R x0 h) : Run Try.prog 154 #[(Value.int .u64 x0)] h R :=
  run_of mixed Try.func154 (by kernel_rfl) (by kernel_rfl) f154.good (Eq.mpr (show (Fwd Try.prog f154.T f154.kp Try.f154 R [] (mkFr (argL [(Value.int .u64 x0)] 0)) h) = (f154.runT R x0 h) by kernel_rfl) H)

/-! ### roadstead/heap.kinds: function 155 -/
def f155.T : Tab := { sh := tSh, tup := tTup, keep := [], plan := [] }
def f155.kp : Keep := []
theorem f155.good : goodCode Try.prog f155.T (rootOf Try.f155) = true := by kernel_rfl
set_option maxRecDepth 100000 in
theorem f155.ok : calleeOk Try.prog 155 = true := by kernel_rfl
set_option maxRecDepth 100000 in
def f155.runT (R : Value → Heap → Prop) (x0 : Int) (h : Heap) : Prop :=
  0 ≤ x0 ∧ x0 < ((6 : Nat) : Int) ∧ ∃ v1_, fldv false 1 (Int.toNat x0 * 1) (Value.agg #[(Value.int .i64 (0 : Int)), (Value.int .i64 (2 : Int)), (Value.int .i64 (4 : Int)), (Value.int .i64 (5 : Int)), (Value.int .i64 (7 : Int)), (Value.int .i64 (8 : Int))]) = some v1_ ∧ (∃ x2_, v1_ = (Value.int .i64 x2_) ∧ R (Value.int .i64 x2_) h)
set_option maxRecDepth 100000 in
theorem f155.run {R : Value → Heap → Prop} {x0 : Int} {h : Heap} (H : f155.runT R x0 h) : Run Try.prog 155 #[(Value.int .i64 x0)] h R :=
  run_of mixed Try.func155 (by kernel_rfl) (by kernel_rfl) f155.good (Eq.mpr (show (Fwd Try.prog f155.T f155.kp Try.f155 R [] (mkFr (argL [(Value.int .i64 x0)] 0)) h) = (f155.runT R x0 h) by kernel_rfl) H)

/-! ### roadstead/heap.read: function 119 -/
def f119.T : Tab := { sh := tSh, tup := tTup, keep := [], plan := [(13, (.take 0 (.take 3 (.take 5 (.take 1 (.take 4 (.take 6 (.alt true 2 (.alt false 7 (.eff true 8 (.eff false 9 .done)) (.eff true 8 (.eff false 7 (.eff false 9 .done)))) (.eff true 8 (.eff true 2 (.eff false 7 (.eff false 9 .done))))))))))))] }
def f119.kp : Keep := [([true, true, false, true], [0, 1, 2, 3, 8, 33]), ([true, true], [0, 1, 2, 3, 8]), ([false, false, true, false, true, true, true, true, true, true, true, true], [0, 2, 3, 8, 16, 71, 72, 73])]
theorem f119.good : goodCode Try.prog f119.T (rootOf Try.f119) = true := by kernel_rfl
set_option maxRecDepth 100000 in
theorem f119.ok : calleeOk Try.prog 119 = true := by kernel_rfl
def f119.j1 (R : Value → Heap → Prop) (A0 : Option Addr) (n0 : Nat) (c0 : Nat) (x1 : Int) (x2 : Int) (a3 : Addr) (a8 : Addr) (b33 : Bool) (h : Heap) : Prop := Pt Try.prog Try.f119 R [true, true, false, true] (mkFr [(0, (Value.slice A0 n0 c0)), (1, (Value.int .u64 x1)), (2, (Value.int .i64 x2)), (3, (Value.pointer (some a3))), (8, (Value.pointer (some a8))), (33, (Value.bool b33))]) h
def f119.j0 (R : Value → Heap → Prop) (A0 : Option Addr) (n0 : Nat) (c0 : Nat) (x1 : Int) (x2 : Int) (a3 : Addr) (a8 : Addr) (h : Heap) : Prop := Pt Try.prog Try.f119 R [true, true] (mkFr [(0, (Value.slice A0 n0 c0)), (1, (Value.int .u64 x1)), (2, (Value.int .i64 x2)), (3, (Value.pointer (some a3))), (8, (Value.pointer (some a8)))]) h
def f119.l0 (R : Value → Heap → Prop) (A0 : Option Addr) (n0 : Nat) (c0 : Nat) (x2 : Int) (a3 : Addr) (a8 : Addr) (a16 : Addr) (A71 : Option Addr) (n71 : Nat) (c71 : Nat) (x72 : Int) (x73 : Int) (h : Heap) : Prop := Pt Try.prog Try.f119 R [false, false, true, false, true, true, true, true, true, true, true, true] (mkFr [(0, (Value.slice A0 n0 c0)), (2, (Value.int .i64 x2)), (3, (Value.pointer (some a3))), (8, (Value.pointer (some a8))), (16, (Value.pointer (some a16))), (71, (Value.slice A71 n71 c71)), (72, (Value.int .i64 x72)), (73, (Value.int .i64 x73))]) h
set_option maxRecDepth 100000 in
def f119.j1T (R : Value → Heap → Prop) (A0 : Option Addr) (n0 : Nat) (c0 : Nat) (x1 : Int) (x2 : Int) (a3 : Addr) (a8 : Addr) (b33 : Bool) (h : Heap) : Prop :=
  splitB b33 (∃ l2_ : List Value, (Value.agg #[(Value.int .i64 (0 : Int)), (Value.int .i64 (0 : Int)), (Value.string (ByteArray.mk #[])), (Value.slice none 0 0)]) = Value.agg l2_.toArray ∧ l2_.length = 4 ∧ ∃ h1_, stH h a8 l2_ 0 = some h1_ ∧ ∃ v3_, ldv true 4 h1_ a8 = some v3_ ∧ R (Value.tuple #[v3_, (Value.int .i64 (2 : Int))]) h1_) (f119.j0 R A0 n0 c0 x1 x2 a3 a8 h)
set_option maxRecDepth 100000 in
theorem f119.j1_in {R : Value → Heap → Prop} {A0 : Option Addr} {n0 : Nat} {c0 : Nat} {x1 : Int} {x2 : Int} {a3 : Addr} {a8 : Addr} {b33 : Bool} {h : Heap} (H : f119.j1T R A0 n0 c0 x1 x2 a3 a8 b33 h) : f119.j1 R A0 n0 c0 x1 x2 a3 a8 b33 h :=
  pt_intro mixed f119.good (Eq.mpr (show (Fwd Try.prog f119.T f119.kp Try.f119 R [true, true, false, true] (mkFr [(0, (Value.slice A0 n0 c0)), (1, (Value.int .u64 x1)), (2, (Value.int .i64 x2)), (3, (Value.pointer (some a3))), (8, (Value.pointer (some a8))), (33, (Value.bool b33))]) h) = (f119.j1T R A0 n0 c0 x1 x2 a3 a8 b33 h) by kernel_rfl) H)
set_option maxRecDepth 100000 in
def f119.j0T (R : Value → Heap → Prop) (A0 : Option Addr) (n0 : Nat) (c0 : Nat) (x1 : Int) (x2 : Int) (a3 : Addr) (a8 : Addr) (h : Heap) : Prop :=
  Run Try.prog 154 #[(Value.int .u64 x1)] h fun v1_ h2_ => ∃ v3_, ∃ b4_, v1_ = (Value.tuple #[v3_, (Value.bool b4_)]) ∧ newH h2_ (Obj.cells #[(Value.int .i64 (0 : Int)), (Value.int .i64 (0 : Int)), (Value.string (ByteArray.mk #[])), (Value.slice none 0 0)] 137) fun h5_ => ∃ l7_ : List Value, v3_ = Value.agg l7_.toArray ∧ l7_.length = 4 ∧ ∃ h6_, stH h5_ (⟨Array.size h2_, 0, none⟩) l7_ 0 = some h6_ ∧ splitB b4_ (∃ v8_, ldv true 4 h6_ (⟨Array.size h2_, 0, none⟩) = some v8_ ∧ ∃ l10_ : List Value, v8_ = Value.agg l10_.toArray ∧ l10_.length = 4 ∧ ∃ h9_, stH h6_ a8 l10_ 0 = some h9_ ∧ ∃ v11_, ldv true 4 h9_ a8 = some v11_ ∧ R (Value.tuple #[v11_, (Value.int .i64 (0 : Int))]) h9_) (Run Try.prog 143 #[(Value.int .u64 x1)] h6_ fun v12_ h13_ => ∃ x14_, ∃ x15_, ∃ x16_, v12_ = (Value.tuple #[(Value.int .i64 x14_), (Value.int .i64 x15_), (Value.int .i64 x16_)]) ∧ splitB (x16_ != (0 : Int)) (∃ l18_ : List Value, (Value.agg #[(Value.int .i64 (0 : Int)), (Value.int .i64 (0 : Int)), (Value.string (ByteArray.mk #[])), (Value.slice none 0 0)]) = Value.agg l18_.toArray ∧ l18_.length = 4 ∧ ∃ h17_, stH h13_ a8 l18_ 0 = some h17_ ∧ ∃ v19_, ldv true 4 h17_ a8 = some v19_ ∧ R (Value.tuple #[v19_, (Value.int .i64 x16_)]) h17_) (Run Try.prog 141 #[(Value.slice A0 n0 c0), (Value.int .i64 x15_)] h13_ fun v20_ h21_ => ∃ v22_, ∃ x23_, v20_ = (Value.tuple #[v22_, (Value.int .i64 x23_)]) ∧ newH h21_ (Obj.cells #[(Value.int .i64 (0 : Int)), (Value.int .i64 (0 : Int)), (Value.int .i64 (0 : Int)), (Value.string (ByteArray.mk #[])), (Value.slice none 0 0)] 202) fun h24_ => ∃ l26_ : List Value, v22_ = Value.agg l26_.toArray ∧ l26_.length = 5 ∧ ∃ h25_, stH h24_ (⟨Array.size h21_, 0, none⟩) l26_ 0 = some h25_ ∧ splitB (x23_ != (0 : Int)) (∃ l28_ : List Value, (Value.agg #[(Value.int .i64 (0 : Int)), (Value.int .i64 (0 : Int)), (Value.string (ByteArray.mk #[])), (Value.slice none 0 0)]) = Value.agg l28_.toArray ∧ l28_.length = 4 ∧ ∃ h27_, stH h25_ a8 l28_ 0 = some h27_ ∧ ∃ v29_, ldv true 4 h27_ a8 = some v29_ ∧ R (Value.tuple #[v29_, (Value.int .i64 x23_)]) h27_) (∃ v30_, ldv false 1 h25_ (Addr.add (⟨Array.size h21_, 0, none⟩) 1) = some v30_ ∧ ∃ x31_, v30_ = (Value.int .i64 x31_) ∧ ∃ v32_, ldv false 1 h25_ (Addr.add (⟨Array.size h21_, 0, none⟩) 2) = some v32_ ∧ ∃ x33_, v32_ = (Value.int .i64 x33_) ∧ ∃ v34_, ldv false 1 h25_ (Addr.add (⟨Array.size h21_, 0, none⟩) 3) = some v34_ ∧ ∃ s35_, v34_ = (Value.string s35_) ∧ (Run Try.prog 155 #[(Value.int .i64 x31_)] h25_ fun v36_ h37_ => ∃ x38_, v36_ = (Value.int .i64 x38_) ∧ Ext h25_ h37_ ∧ ((newH h37_ (Obj.cells #[(Value.int .i64 (0 : Int)), (Value.int .i64 (0 : Int)), (Value.string (ByteArray.mk #[])), (Value.slice none 0 0)] 137) fun h39_ => Ext h37_ h39_ ∧ (∃ l41_ : List Value, (Value.agg #[(Value.int .i64 x38_), (Value.int .i64 x33_), (Value.string s35_), (Value.slice none 0 0)]) = Value.agg l41_.toArray ∧ l41_.length = 4 ∧ ∃ h40_, stH h39_ (⟨Array.size h37_, 0, none⟩) l41_ 0 = some h40_ ∧ ∃ v42_, ldv false 1 h40_ (Addr.add (⟨Array.size h21_, 0, none⟩) 4) = some v42_ ∧ ∃ A43_, ∃ n43_, ∃ c43_, v42_ = (Value.slice A43_ n43_ c43_) ∧ f119.l0 R A0 n0 c0 x2 a3 a8 (⟨Array.size h37_, 0, none⟩) A43_ n43_ c43_ ((n43_ : Nat) : Int) (0 : Int) h40_)) ∧ (newH h37_ (Obj.cells #[(Value.int .i64 (0 : Int)), (Value.int .i64 (0 : Int)), (Value.string (ByteArray.mk #[])), (Value.slice none 0 0)] 137) fun h44_ => Ext h37_ h44_ ∧ (∃ l46_ : List Value, (Value.agg #[(Value.int .i64 x38_), (Value.int .i64 x33_), (Value.string s35_), (Value.slice none 0 0)]) = Value.agg l46_.toArray ∧ l46_.length = 4 ∧ ∃ h45_, stH h44_ (⟨Array.size h37_, 0, none⟩) l46_ 0 = some h45_ ∧ ∃ v47_, ldv false 1 h45_ (Addr.add (⟨Array.size h21_, 0, none⟩) 4) = some v47_ ∧ ∃ A48_, ∃ n48_, ∃ c48_, v47_ = (Value.slice A48_ n48_ c48_) ∧ f119.l0 R A0 n0 c0 x2 a3 a8 (⟨Array.size h37_, 0, none⟩) A48_ n48_ c48_ ((n48_ : Nat) : Int) (0 : Int) h45_)))) ∧ (newH h25_ (Obj.cells #[(Value.int .i64 (0 : Int)), (Value.int .i64 (0 : Int)), (Value.string (ByteArray.mk #[])), (Value.slice none 0 0)] 137) fun h49_ => Ext h25_ h49_ ∧ (Run Try.prog 155 #[(Value.int .i64 x31_)] h49_ fun v50_ h51_ => ∃ x52_, v50_ = (Value.int .i64 x52_) ∧ Ext h49_ h51_ ∧ (∃ l54_ : List Value, (Value.agg #[(Value.int .i64 x52_), (Value.int .i64 x33_), (Value.string s35_), (Value.slice none 0 0)]) = Value.agg l54_.toArray ∧ l54_.length = 4 ∧ ∃ h53_, stH h51_ (⟨Array.size h25_, 0, none⟩) l54_ 0 = some h53_ ∧ ∃ v55_, ldv false 1 h53_ (Addr.add (⟨Array.size h21_, 0, none⟩) 4) = some v55_ ∧ ∃ A56_, ∃ n56_, ∃ c56_, v55_ = (Value.slice A56_ n56_ c56_) ∧ f119.l0 R A0 n0 c0 x2 a3 a8 (⟨Array.size h25_, 0, none⟩) A56_ n56_ c56_ ((n56_ : Nat) : Int) (0 : Int) h53_))))))
set_option maxRecDepth 100000 in
theorem f119.j0_in {R : Value → Heap → Prop} {A0 : Option Addr} {n0 : Nat} {c0 : Nat} {x1 : Int} {x2 : Int} {a3 : Addr} {a8 : Addr} {h : Heap} (H : f119.j0T R A0 n0 c0 x1 x2 a3 a8 h) : f119.j0 R A0 n0 c0 x1 x2 a3 a8 h :=
  pt_intro mixed f119.good (Eq.mpr (show (Fwd Try.prog f119.T f119.kp Try.f119 R [true, true] (mkFr [(0, (Value.slice A0 n0 c0)), (1, (Value.int .u64 x1)), (2, (Value.int .i64 x2)), (3, (Value.pointer (some a3))), (8, (Value.pointer (some a8)))]) h) = (f119.j0T R A0 n0 c0 x1 x2 a3 a8 h) by kernel_rfl) H)
set_option maxRecDepth 100000 in
def f119.l0T (R : Value → Heap → Prop) (A0 : Option Addr) (n0 : Nat) (c0 : Nat) (x2 : Int) (a3 : Addr) (a8 : Addr) (a16 : Addr) (A71 : Option Addr) (n71 : Nat) (c71 : Nat) (x72 : Int) (x73 : Int) (h : Heap) : Prop :=
  splitB (decide (x73 < x72)) (ptrOk A71 fun a1_ => 0 ≤ x73 ∧ x73 < ((n71 : Nat) : Int) ∧ (∃ v2_, ldv false 1 h (Addr.add a1_ (Int.toNat x73 * 1)) = some v2_ ∧ ∃ x3_, v2_ = (Value.int .u64 x3_) ∧ Run Try.prog 119 #[(Value.slice A0 n0 c0), (Value.int .u64 x3_), (Value.int .i64 (IntKind.wrap .i64 (x2 - (1 : Int)))), (Value.pointer (some a3))] h fun v4_ h5_ => ∃ v6_, ∃ x7_, v4_ = (Value.tuple #[v6_, (Value.int .i64 x7_)]) ∧ newH h5_ (Obj.cells #[(Value.int .i64 (0 : Int)), (Value.int .i64 (0 : Int)), (Value.string (ByteArray.mk #[])), (Value.slice none 0 0)] 137) fun h8_ => ∃ l10_ : List Value, v6_ = Value.agg l10_.toArray ∧ l10_.length = 4 ∧ ∃ h9_, stH h8_ (⟨Array.size h5_, 0, none⟩) l10_ 0 = some h9_ ∧ splitB (x7_ != (0 : Int)) (∃ l12_ : List Value, (Value.agg #[(Value.int .i64 (0 : Int)), (Value.int .i64 (0 : Int)), (Value.string (ByteArray.mk #[])), (Value.slice none 0 0)]) = Value.agg l12_.toArray ∧ l12_.length = 4 ∧ ∃ h11_, stH h9_ a8 l12_ 0 = some h11_ ∧ ∃ v13_, ldv true 4 h11_ a8 = some v13_ ∧ R (Value.tuple #[v13_, (Value.int .i64 x7_)]) h11_) (∃ v14_, ldv false 1 h9_ (Addr.add a16 3) = some v14_ ∧ ∃ A15_, ∃ n15_, ∃ c15_, v14_ = (Value.slice A15_ n15_ c15_) ∧ ∃ v16_, ldv true 4 h9_ (⟨Array.size h5_, 0, none⟩) = some v16_ ∧ ∃ l17_ : List Value, v16_ = Value.agg l17_.toArray ∧ l17_.length = 4 ∧ (newH h9_ (Obj.cells ((List.take 0 ([(Value.int .i64 (0 : Int)), (Value.int .i64 (0 : Int)), (Value.string (ByteArray.mk #[])), (Value.slice none 0 0)]) ++ l17_ ++ List.drop 4 ([(Value.int .i64 (0 : Int)), (Value.int .i64 (0 : Int)), (Value.string (ByteArray.mk #[])), (Value.slice none 0 0)])).toArray) 137) fun h18_ => AppW 137 4 56 #[(Value.int .i64 (0 : Int)), (Value.int .i64 (0 : Int)), (Value.string (ByteArray.mk #[])), (Value.slice none 0 0)] A15_ n15_ c15_ (Value.slice (some ⟨Array.size h9_, 0, none⟩) 1 1) h18_ fun v19_ h20_ => ∃ A21_, ∃ n21_, ∃ c21_, v19_ = (Value.slice A21_ n21_ c21_) ∧ ∃ h22_, st1 h20_ (Addr.add a16 3) (Value.slice A21_ n21_ c21_) = some h22_ ∧ f119.l0 R A0 n0 c0 x2 a3 a8 a16 A71 n71 c71 x72 (IntKind.wrap .i64 (x73 + (1 : Int))) h22_)))) (∃ v23_, ldv true 4 h a16 = some v23_ ∧ ∃ l25_ : List Value, v23_ = Value.agg l25_.toArray ∧ l25_.length = 4 ∧ ∃ h24_, stH h a8 l25_ 0 = some h24_ ∧ ∃ v26_, ldv true 4 h24_ a8 = some v26_ ∧ R (Value.tuple #[v26_, (Value.int .i64 (0 : Int))]) h24_)
set_option maxRecDepth 100000 in
theorem f119.l0_in {R : Value → Heap → Prop} {A0 : Option Addr} {n0 : Nat} {c0 : Nat} {x2 : Int} {a3 : Addr} {a8 : Addr} {a16 : Addr} {A71 : Option Addr} {n71 : Nat} {c71 : Nat} {x72 : Int} {x73 : Int} {h : Heap} (H : f119.l0T R A0 n0 c0 x2 a3 a8 a16 A71 n71 c71 x72 x73 h) : f119.l0 R A0 n0 c0 x2 a3 a8 a16 A71 n71 c71 x72 x73 h :=
  pt_intro mixed f119.good (Eq.mpr (show (Fwd Try.prog f119.T f119.kp Try.f119 R [false, false, true, false, true, true, true, true, true, true, true, true] (mkFr [(0, (Value.slice A0 n0 c0)), (2, (Value.int .i64 x2)), (3, (Value.pointer (some a3))), (8, (Value.pointer (some a8))), (16, (Value.pointer (some a16))), (71, (Value.slice A71 n71 c71)), (72, (Value.int .i64 x72)), (73, (Value.int .i64 x73))]) h) = (f119.l0T R A0 n0 c0 x2 a3 a8 a16 A71 n71 c71 x72 x73 h) by kernel_rfl) H)
set_option maxRecDepth 100000 in
def f119.runT (R : Value → Heap → Prop) (A0 : Option Addr) (n0 : Nat) (c0 : Nat) (x1 : Int) (x2 : Int) (a3 : Addr) (h : Heap) : Prop :=
  newH h (Obj.cells #[(Value.int .i64 (0 : Int)), (Value.int .i64 (0 : Int)), (Value.string (ByteArray.mk #[])), (Value.slice none 0 0)] 137) fun h1_ => ∃ v2_, ldv false 1 h1_ a3 = some v2_ ∧ ∃ x3_, v2_ = (Value.int .i64 x3_) ∧ ∃ h4_, st1 h1_ a3 (Value.int .i64 (IntKind.wrap .i64 (x3_ - (1 : Int)))) = some h4_ ∧ ∃ v5_, ldv false 1 h4_ a3 = some v5_ ∧ ∃ x6_, v5_ = (Value.int .i64 x6_) ∧ splitB (decide (x6_ < (0 : Int))) (f119.j1 R A0 n0 c0 x1 x2 a3 (⟨Array.size h, 0, none⟩) true h4_) (f119.j1 R A0 n0 c0 x1 x2 a3 (⟨Array.size h, 0, none⟩) (decide (x2 < (1 : Int))) h4_)
set_option maxRecDepth 100000 in
theorem f119.run {R : Value → Heap → Prop} {A0 : Option Addr} {n0 : Nat} {c0 : Nat} {x1 : Int} {x2 : Int} {a3 : Addr} {h : Heap} (H : f119.runT R A0 n0 c0 x1 x2 a3 h) : Run Try.prog 119 #[(Value.slice A0 n0 c0), (Value.int .u64 x1), (Value.int .i64 x2), (Value.pointer (some a3))] h R :=
  run_of mixed Try.func119 (by kernel_rfl) (by kernel_rfl) f119.good (Eq.mpr (show (Fwd Try.prog f119.T f119.kp Try.f119 R [] (mkFr (argL [(Value.slice A0 n0 c0), (Value.int .u64 x1), (Value.int .i64 x2), (Value.pointer (some a3))] 0)) h) = (f119.runT R A0 n0 c0 x1 x2 a3 h) by kernel_rfl) H)

/-! ### roadstead/heap.Read: function 67 -/
def f67.T : Tab := { sh := tSh, tup := tTup, keep := [], plan := [] }
def f67.kp : Keep := []
theorem f67.good : goodCode Try.prog f67.T (rootOf Try.f67) = true := by kernel_rfl
set_option maxRecDepth 100000 in
theorem f67.ok : calleeOk Try.prog 67 = true := by kernel_rfl
set_option maxRecDepth 100000 in
def f67.runT (R : Value → Heap → Prop) (A0 : Option Addr) (n0 : Nat) (c0 : Nat) (x1 : Int) (h : Heap) : Prop :=
  newH h (Obj.cells #[(Value.int .i64 (0 : Int)), (Value.int .i64 (0 : Int)), (Value.string (ByteArray.mk #[])), (Value.slice none 0 0)] 137) fun h1_ => newH h1_ (Obj.cells #[(Value.int .i64 (0 : Int))] 3) fun h2_ => ∃ h3_, st1 h2_ (⟨Array.size h1_, 0, none⟩) (Value.int .i64 (400 : Int)) = some h3_ ∧ Run Try.prog 119 #[(Value.slice A0 n0 c0), (Value.int .u64 x1), (Value.int .i64 (40 : Int)), (Value.pointer (some ⟨Array.size h1_, 0, none⟩))] h3_ fun v4_ h5_ => ∃ v6_, ∃ x7_, v4_ = (Value.tuple #[v6_, (Value.int .i64 x7_)]) ∧ ∃ l9_ : List Value, v6_ = Value.agg l9_.toArray ∧ l9_.length = 4 ∧ ∃ h8_, stH h5_ (⟨Array.size h, 0, none⟩) l9_ 0 = some h8_ ∧ ∃ v10_, ldv true 4 h8_ (⟨Array.size h, 0, none⟩) = some v10_ ∧ R (Value.tuple #[v10_, (Value.int .i64 x7_)]) h8_
set_option maxRecDepth 100000 in
theorem f67.run {R : Value → Heap → Prop} {A0 : Option Addr} {n0 : Nat} {c0 : Nat} {x1 : Int} {h : Heap} (H : f67.runT R A0 n0 c0 x1 h) : Run Try.prog 67 #[(Value.slice A0 n0 c0), (Value.int .u64 x1)] h R :=
  run_of mixed Try.func67 (by kernel_rfl) (by kernel_rfl) f67.good (Eq.mpr (show (Fwd Try.prog f67.T f67.kp Try.f67 R [] (mkFr (argL [(Value.slice A0 n0 c0), (Value.int .u64 x1)] 0)) h) = (f67.runT R A0 n0 c0 x1 h) by kernel_rfl) H)

/-! ### roadstead/roadref3.In: function 16 -/
def f16.T : Tab := { sh := tSh, tup := tTup, keep := [], plan := [] }
def f16.kp : Keep := []
theorem f16.good : goodCode Try.prog f16.T (rootOf Try.f16) = true := by kernel_rfl
set_option maxRecDepth 100000 in
theorem f16.ok : calleeOk Try.prog 16 = true := by kernel_rfl
set_option maxRecDepth 100000 in
def f16.runT (R : Value → Heap → Prop) (x0 : Int) (x1 : Int) (x2 : Int) (h : Heap) : Prop :=
  splitB (decide (x0 ≥ x1)) (R (Value.bool (decide (x0 ≤ x2))) h) (R (Value.bool false) h)
set_option maxRecDepth 100000 in
theorem f16.run {R : Value → Heap → Prop} {x0 : Int} {x1 : Int} {x2 : Int} {h : Heap} (H : f16.runT R x0 x1 x2 h) : Run Try.prog 16 #[(Value.int .i64 x0), (Value.int .i64 x1), (Value.int .i64 x2)] h R :=
  run_of mixed Try.func16 (by kernel_rfl) (by kernel_rfl) f16.good (Eq.mpr (show (Fwd Try.prog f16.T f16.kp Try.f16 R [] (mkFr (argL [(Value.int .i64 x0), (Value.int .i64 x1), (Value.int .i64 x2)] 0)) h) = (f16.runT R x0 x1 x2 h) by kernel_rfl) H)

/-! ### roadstead/roadref3.ObjectWords: function 104 -/
def f104.T : Tab := { sh := tSh, tup := tTup, keep := [], plan := [(12, (.take 0 (.take 1 (.take 4 (.take 5 (.take 6 (.eff false 2 (.eff false 3 (.take 7 (.take 8 .done))))))))))] }
def f104.kp : Keep := [([true, false, true, true], [1, 3, 31]), ([true, true, true], [1, 3]), ([false, false, true, false, true, true, true], [1, 3, 4]), ([false, false, true, false, true, true, false, true, false, false, true, false, true, true, true], [1, 3, 4, 5, 6, 7])]
theorem f104.good : goodCode Try.prog f104.T (rootOf Try.f104) = true := by kernel_rfl
set_option maxRecDepth 100000 in
theorem f104.ok : calleeOk Try.prog 104 = true := by kernel_rfl
def f104.j1 (R : Value → Heap → Prop) (a1 : Addr) (A3 : Option Addr) (n3 : Nat) (c3 : Nat) (b31 : Bool) (h : Heap) : Prop := Pt Try.prog Try.f104 R [true, false, true, true] (mkFr [(1, (Value.pointer (some a1))), (3, (Value.slice A3 n3 c3)), (31, (Value.bool b31))]) h
def f104.j0 (R : Value → Heap → Prop) (a1 : Addr) (A3 : Option Addr) (n3 : Nat) (c3 : Nat) (h : Heap) : Prop := Pt Try.prog Try.f104 R [true, true, true] (mkFr [(1, (Value.pointer (some a1))), (3, (Value.slice A3 n3 c3))]) h
def f104.l0 (R : Value → Heap → Prop) (a1 : Addr) (A3 : Option Addr) (n3 : Nat) (c3 : Nat) (s4 : ByteArray) (h : Heap) : Prop := Pt Try.prog Try.f104 R [false, false, true, false, true, true, true] (mkFr [(1, (Value.pointer (some a1))), (3, (Value.slice A3 n3 c3)), (4, (Value.string s4))]) h
def f104.l1 (R : Value → Heap → Prop) (a1 : Addr) (A3 : Option Addr) (n3 : Nat) (c3 : Nat) (s4 : ByteArray) (x5 : Int) (x6 : Int) (x7 : Int) (h : Heap) : Prop := Pt Try.prog Try.f104 R [false, false, true, false, true, true, false, true, false, false, true, false, true, true, true] (mkFr [(1, (Value.pointer (some a1))), (3, (Value.slice A3 n3 c3)), (4, (Value.string s4)), (5, (Value.int .i64 x5)), (6, (Value.int .u64 x6)), (7, (Value.int .i64 x7))]) h
set_option maxRecDepth 100000 in
def f104.j1T (R : Value → Heap → Prop) (a1 : Addr) (A3 : Option Addr) (n3 : Nat) (c3 : Nat) (b31 : Bool) (h : Heap) : Prop :=
  splitB b31 (∃ v1_, ldv false 1 h (Addr.add a1 2) = some v1_ ∧ ∃ x2_, v1_ = (Value.int .i64 x2_) ∧ newH h (Obj.cells #[(Value.int .u64 (IntKind.wrap .u64 x2_))] 98) fun h3_ => AppW 98 1 8 #[(Value.int .u64 (0 : Int))] A3 n3 c3 (Value.slice (some ⟨Array.size h, 0, none⟩) 1 1) h3_ fun v4_ h5_ => ∃ A6_, ∃ n6_, ∃ c6_, v4_ = (Value.slice A6_ n6_ c6_) ∧ f104.j0 R a1 A6_ n6_ c6_ h5_) (f104.j0 R a1 A3 n3 c3 h)
set_option maxRecDepth 100000 in
theorem f104.j1_in {R : Value → Heap → Prop} {a1 : Addr} {A3 : Option Addr} {n3 : Nat} {c3 : Nat} {b31 : Bool} {h : Heap} (H : f104.j1T R a1 A3 n3 c3 b31 h) : f104.j1 R a1 A3 n3 c3 b31 h :=
  pt_intro mixed f104.good (Eq.mpr (show (Fwd Try.prog f104.T f104.kp Try.f104 R [true, false, true, true] (mkFr [(1, (Value.pointer (some a1))), (3, (Value.slice A3 n3 c3)), (31, (Value.bool b31))]) h) = (f104.j1T R a1 A3 n3 c3 b31 h) by kernel_rfl) H)
set_option maxRecDepth 100000 in
def f104.j0T (R : Value → Heap → Prop) (a1 : Addr) (A3 : Option Addr) (n3 : Nat) (c3 : Nat) (h : Heap) : Prop :=
  ∃ v1_, ldv false 1 h (Addr.add a1 3) = some v1_ ∧ ∃ s2_, v1_ = (Value.string s2_) ∧ f104.l0 R a1 A3 n3 c3 s2_ h
set_option maxRecDepth 100000 in
theorem f104.j0_in {R : Value → Heap → Prop} {a1 : Addr} {A3 : Option Addr} {n3 : Nat} {c3 : Nat} {h : Heap} (H : f104.j0T R a1 A3 n3 c3 h) : f104.j0 R a1 A3 n3 c3 h :=
  pt_intro mixed f104.good (Eq.mpr (show (Fwd Try.prog f104.T f104.kp Try.f104 R [true, true, true] (mkFr [(1, (Value.pointer (some a1))), (3, (Value.slice A3 n3 c3))]) h) = (f104.j0T R a1 A3 n3 c3 h) by kernel_rfl) H)
set_option maxRecDepth 100000 in
def f104.l0T (R : Value → Heap → Prop) (a1 : Addr) (A3 : Option Addr) (n3 : Nat) (c3 : Nat) (s4 : ByteArray) (h : Heap) : Prop :=
  splitB (!(ByteArray.toList s4 == ByteArray.toList (ByteArray.mk #[]))) (f104.l1 R a1 A3 n3 c3 s4 (if ((ByteArray.size s4 : Nat) : Int) < (8 : Int) then ((ByteArray.size s4 : Nat) : Int) else (8 : Int)) (0 : Int) (IntKind.wrap .i64 ((if ((ByteArray.size s4 : Nat) : Int) < (8 : Int) then ((ByteArray.size s4 : Nat) : Int) else (8 : Int)) - (1 : Int))) h) (∃ v1_, ldv false 1 h (Addr.add a1 4) = some v1_ ∧ ∃ A2_, ∃ n2_, ∃ c2_, v1_ = (Value.slice A2_ n2_ c2_) ∧ AppW 98 1 8 #[(Value.int .u64 (0 : Int))] A3 n3 c3 (Value.slice A2_ n2_ c2_) h fun v3_ h4_ => ∃ A5_, ∃ n5_, ∃ c5_, v3_ = (Value.slice A5_ n5_ c5_) ∧ R (Value.slice A5_ n5_ c5_) h4_)
set_option maxRecDepth 100000 in
theorem f104.l0_in {R : Value → Heap → Prop} {a1 : Addr} {A3 : Option Addr} {n3 : Nat} {c3 : Nat} {s4 : ByteArray} {h : Heap} (H : f104.l0T R a1 A3 n3 c3 s4 h) : f104.l0 R a1 A3 n3 c3 s4 h :=
  pt_intro mixed f104.good (Eq.mpr (show (Fwd Try.prog f104.T f104.kp Try.f104 R [false, false, true, false, true, true, true] (mkFr [(1, (Value.pointer (some a1))), (3, (Value.slice A3 n3 c3)), (4, (Value.string s4))]) h) = (f104.l0T R a1 A3 n3 c3 s4 h) by kernel_rfl) H)
set_option maxRecDepth 100000 in
def f104.l1T (R : Value → Heap → Prop) (a1 : Addr) (A3 : Option Addr) (n3 : Nat) (c3 : Nat) (s4 : ByteArray) (x5 : Int) (x6 : Int) (x7 : Int) (h : Heap) : Prop :=
  splitB (decide (x7 ≥ (0 : Int))) (0 ≤ x7 ∧ ∃ y1_, s4[Int.toNat x7]? = some y1_ ∧ (f104.l1 R a1 A3 n3 c3 s4 x5 (IntKind.wrap .u64 ((IntKind.wrap .u64 ((256 : Int) * x6)) + (IntKind.wrap .u64 ((UInt8.toNat y1_ : Nat) : Int)))) (IntKind.wrap .i64 (x7 - (1 : Int))) h)) (0 ≤ x5 ∧ x5 ≤ ((ByteArray.size s4 : Nat) : Int) ∧ ((ByteArray.size s4 : Nat) : Int) ≤ ((ByteArray.size s4 : Nat) : Int) ∧ (newH h (Obj.cells #[(Value.int .u64 x6)] 98) fun h2_ => AppW 98 1 8 #[(Value.int .u64 (0 : Int))] A3 n3 c3 (Value.slice (some ⟨Array.size h, 0, none⟩) 1 1) h2_ fun v3_ h4_ => ∃ A5_, ∃ n5_, ∃ c5_, v3_ = (Value.slice A5_ n5_ c5_) ∧ f104.l0 R a1 A5_ n5_ c5_ (ByteArray.extract s4 (Int.toNat x5) (Int.toNat ((ByteArray.size s4 : Nat) : Int))) h4_))
set_option maxRecDepth 100000 in
theorem f104.l1_in {R : Value → Heap → Prop} {a1 : Addr} {A3 : Option Addr} {n3 : Nat} {c3 : Nat} {s4 : ByteArray} {x5 : Int} {x6 : Int} {x7 : Int} {h : Heap} (H : f104.l1T R a1 A3 n3 c3 s4 x5 x6 x7 h) : f104.l1 R a1 A3 n3 c3 s4 x5 x6 x7 h :=
  pt_intro mixed f104.good (Eq.mpr (show (Fwd Try.prog f104.T f104.kp Try.f104 R [false, false, true, false, true, true, false, true, false, false, true, false, true, true, true] (mkFr [(1, (Value.pointer (some a1))), (3, (Value.slice A3 n3 c3)), (4, (Value.string s4)), (5, (Value.int .i64 x5)), (6, (Value.int .u64 x6)), (7, (Value.int .i64 x7))]) h) = (f104.l1T R a1 A3 n3 c3 s4 x5 x6 x7 h) by kernel_rfl) H)
set_option maxRecDepth 100000 in
def f104.runT (R : Value → Heap → Prop) (v0 : Value) (h : Heap) : Prop :=
  newH h (Obj.cells ((v0).cells) 202) fun h1_ => ∃ v2_, ldv false 1 h1_ (Addr.add (⟨Array.size h, 0, none⟩) 1) = some v2_ ∧ ∃ x3_, v2_ = (Value.int .i64 x3_) ∧ ∃ v4_, ldv false 1 h1_ (Addr.add (⟨Array.size h, 0, none⟩) 3) = some v4_ ∧ ∃ s5_, v4_ = (Value.string s5_) ∧ ∃ v6_, ldv false 1 h1_ (Addr.add (⟨Array.size h, 0, none⟩) 4) = some v6_ ∧ ∃ A7_, ∃ n7_, ∃ c7_, v6_ = (Value.slice A7_ n7_ c7_) ∧ newH h1_ (Obj.cells #[(Value.int .u64 (IntKind.wrap .u64 ((IntKind.wrap .u64 ((IntKind.wrap .u64 x3_) + (IntKind.wrap .u64 ((256 : Int) * (IntKind.wrap .u64 ((ByteArray.size s5_ : Nat) : Int)))))) + (IntKind.wrap .u64 ((1048576 : Int) * (IntKind.wrap .u64 ((n7_ : Nat) : Int)))))))] 98) fun h8_ => ∃ v9_, ldv false 1 h8_ (Addr.add (⟨Array.size h, 0, none⟩) 1) = some v9_ ∧ ∃ x10_, v9_ = (Value.int .i64 x10_) ∧ splitB (x10_ == (1 : Int)) (f104.j1 R (⟨Array.size h, 0, none⟩) (some ⟨Array.size h1_, 0, none⟩) 1 1 true h8_) (∃ v11_, ldv false 1 h8_ (Addr.add (⟨Array.size h, 0, none⟩) 1) = some v11_ ∧ ∃ x12_, v11_ = (Value.int .i64 x12_) ∧ f104.j1 R (⟨Array.size h, 0, none⟩) (some ⟨Array.size h1_, 0, none⟩) 1 1 (x12_ == (4 : Int)) h8_)
set_option maxRecDepth 100000 in
theorem f104.run {R : Value → Heap → Prop} {v0 : Value} {h : Heap} (H : f104.runT R v0 h) : Run Try.prog 104 #[v0] h R :=
  run_of mixed Try.func104 (by kernel_rfl) (by kernel_rfl) f104.good (Eq.mpr (show (Fwd Try.prog f104.T f104.kp Try.f104 R [] (mkFr (argL [v0] 0)) h) = (f104.runT R v0 h) by kernel_rfl) H)

/-! ### roadstead/roadref3.ObjectIs: function 122 -/
def f122.T : Tab := { sh := tSh, tup := tTup, keep := [], plan := [(1, (.take 0 (.take 8 (.take 16 (.take 1 (.take 2 (.take 3 (.split 3 (.take 4 (.take 5 (.take 6 (.take 7 (.take 9 (.take 10 (.take 11 (.split 11 (.take 12 (.take 19 (.take 13 (.take 14 (.take 15 (.take 20 (.take 17 (.take 18 (.take 21 .done)))))))))))))))))))))))))] }
def f122.kp : Keep := [([true, true], [1, 3, 4, 5]), ([true, true, true], [1, 3, 4, 5])]
theorem f122.good : goodCode Try.prog f122.T (rootOf Try.f122) = true := by kernel_rfl
set_option maxRecDepth 100000 in
theorem f122.ok : calleeOk Try.prog 122 = true := by kernel_rfl
def f122.j0 (R : Value → Heap → Prop) (a1 : Addr) (b3 : Bool) (b4 : Bool) (b5 : Bool) (h : Heap) : Prop := Pt Try.prog Try.f122 R [true, true] (mkFr [(1, (Value.pointer (some a1))), (3, (Value.bool b3)), (4, (Value.bool b4)), (5, (Value.bool b5))]) h
def f122.j1 (R : Value → Heap → Prop) (a1 : Addr) (b3 : Bool) (b4 : Bool) (b5 : Bool) (h : Heap) : Prop := Pt Try.prog Try.f122 R [true, true, true] (mkFr [(1, (Value.pointer (some a1))), (3, (Value.bool b3)), (4, (Value.bool b4)), (5, (Value.bool b5))]) h
set_option maxRecDepth 100000 in
def f122.j0T (R : Value → Heap → Prop) (a1 : Addr) (b3 : Bool) (b4 : Bool) (b5 : Bool) (h : Heap) : Prop :=
  ∃ v1_, ldv false 1 h (Addr.add a1 1) = some v1_ ∧ ∃ x2_, v1_ = (Value.int .i64 x2_) ∧ Run Try.prog 16 #[(Value.int .i64 x2_), (Value.int .i64 (1 : Int)), (Value.int .i64 (5 : Int))] h fun v3_ h4_ => ∃ b5_, v3_ = (Value.bool b5_) ∧ splitB (!b5_) (R (Value.bool false) h4_) (∃ v6_, ldv false 1 h4_ (Addr.add a1 3) = some v6_ ∧ ∃ s7_, v6_ = (Value.string s7_) ∧ splitB (decide (((ByteArray.size s7_ : Nat) : Int) > (64 : Int))) (R (Value.bool false) h4_) (∃ v8_, ldv false 1 h4_ (Addr.add a1 4) = some v8_ ∧ ∃ A9_, ∃ n9_, ∃ c9_, v8_ = (Value.slice A9_ n9_ c9_) ∧ splitB (decide (((n9_ : Nat) : Int) > (400 : Int))) (R (Value.bool false) h4_) (∃ v10_, ldv false 1 h4_ (Addr.add a1 1) = some v10_ ∧ ∃ x11_, v10_ = (Value.int .i64 x11_) ∧ splitB (x11_ == (5 : Int)) (∃ v12_, ldv false 1 h4_ (Addr.add a1 4) = some v12_ ∧ ∃ A13_, ∃ n13_, ∃ c13_, v12_ = (Value.slice A13_ n13_ c13_) ∧ splitB (decide (((n13_ : Nat) : Int) > (1 : Int))) (R (Value.bool false) h4_) (f122.j1 R a1 b3 b4 b5 h4_)) (f122.j1 R a1 b3 b4 b5 h4_))))
set_option maxRecDepth 100000 in
theorem f122.j0_in {R : Value → Heap → Prop} {a1 : Addr} {b3 : Bool} {b4 : Bool} {b5 : Bool} {h : Heap} (H : f122.j0T R a1 b3 b4 b5 h) : f122.j0 R a1 b3 b4 b5 h :=
  pt_intro mixed f122.good (Eq.mpr (show (Fwd Try.prog f122.T f122.kp Try.f122 R [true, true] (mkFr [(1, (Value.pointer (some a1))), (3, (Value.bool b3)), (4, (Value.bool b4)), (5, (Value.bool b5))]) h) = (f122.j0T R a1 b3 b4 b5 h) by kernel_rfl) H)
set_option maxRecDepth 100000 in
def f122.j1T (R : Value → Heap → Prop) (a1 : Addr) (b3 : Bool) (b4 : Bool) (b5 : Bool) (h : Heap) : Prop :=
  splitB b3 (splitB b4 (splitB b5 (R (Value.bool true) h) (∃ v1_, ldv false 1 h (Addr.add a1 4) = some v1_ ∧ ∃ A2_, ∃ n2_, ∃ c2_, v1_ = (Value.slice A2_ n2_ c2_) ∧ R (Value.bool (((n2_ : Nat) : Int) == (0 : Int))) h)) (∃ v3_, ldv false 1 h (Addr.add a1 2) = some v3_ ∧ ∃ x4_, v3_ = (Value.int .i64 x4_) ∧ splitB (x4_ == (0 : Int)) (splitB b5 (R (Value.bool true) h) (∃ v5_, ldv false 1 h (Addr.add a1 4) = some v5_ ∧ ∃ A6_, ∃ n6_, ∃ c6_, v5_ = (Value.slice A6_ n6_ c6_) ∧ R (Value.bool (((n6_ : Nat) : Int) == (0 : Int))) h)) (R (Value.bool false) h))) (∃ v7_, ldv false 1 h (Addr.add a1 3) = some v7_ ∧ ∃ s8_, v7_ = (Value.string s8_) ∧ splitB (ByteArray.toList s8_ == ByteArray.toList (ByteArray.mk #[])) (splitB b4 (splitB b5 (R (Value.bool true) h) (∃ v9_, ldv false 1 h (Addr.add a1 4) = some v9_ ∧ ∃ A10_, ∃ n10_, ∃ c10_, v9_ = (Value.slice A10_ n10_ c10_) ∧ R (Value.bool (((n10_ : Nat) : Int) == (0 : Int))) h)) (∃ v11_, ldv false 1 h (Addr.add a1 2) = some v11_ ∧ ∃ x12_, v11_ = (Value.int .i64 x12_) ∧ splitB (x12_ == (0 : Int)) (splitB b5 (R (Value.bool true) h) (∃ v13_, ldv false 1 h (Addr.add a1 4) = some v13_ ∧ ∃ A14_, ∃ n14_, ∃ c14_, v13_ = (Value.slice A14_ n14_ c14_) ∧ R (Value.bool (((n14_ : Nat) : Int) == (0 : Int))) h)) (R (Value.bool false) h))) (R (Value.bool false) h))
set_option maxRecDepth 100000 in
theorem f122.j1_in {R : Value → Heap → Prop} {a1 : Addr} {b3 : Bool} {b4 : Bool} {b5 : Bool} {h : Heap} (H : f122.j1T R a1 b3 b4 b5 h) : f122.j1 R a1 b3 b4 b5 h :=
  pt_intro mixed f122.good (Eq.mpr (show (Fwd Try.prog f122.T f122.kp Try.f122 R [true, true, true] (mkFr [(1, (Value.pointer (some a1))), (3, (Value.bool b3)), (4, (Value.bool b4)), (5, (Value.bool b5))]) h) = (f122.j1T R a1 b3 b4 b5 h) by kernel_rfl) H)
set_option maxRecDepth 100000 in
def f122.runT (R : Value → Heap → Prop) (v0 : Value) (h : Heap) : Prop :=
  newH h (Obj.cells ((v0).cells) 202) fun h1_ => ∃ v2_, ldv false 1 h1_ (Addr.add (⟨Array.size h, 0, none⟩) 1) = some v2_ ∧ ∃ x3_, v2_ = (Value.int .i64 x3_) ∧ splitB (x3_ == (2 : Int)) (∃ v4_, ldv false 1 h1_ (Addr.add (⟨Array.size h, 0, none⟩) 1) = some v4_ ∧ ∃ x5_, v4_ = (Value.int .i64 x5_) ∧ splitB (x5_ == (1 : Int)) (∃ v6_, ldv false 1 h1_ (Addr.add (⟨Array.size h, 0, none⟩) 1) = some v6_ ∧ ∃ x7_, v6_ = (Value.int .i64 x7_) ∧ f122.j0 R (⟨Array.size h, 0, none⟩) true true (decide (x7_ > (2 : Int))) h1_) (∃ v8_, ldv false 1 h1_ (Addr.add (⟨Array.size h, 0, none⟩) 1) = some v8_ ∧ ∃ x9_, v8_ = (Value.int .i64 x9_) ∧ ∃ v10_, ldv false 1 h1_ (Addr.add (⟨Array.size h, 0, none⟩) 1) = some v10_ ∧ ∃ x11_, v10_ = (Value.int .i64 x11_) ∧ f122.j0 R (⟨Array.size h, 0, none⟩) true (x9_ == (4 : Int)) (decide (x11_ > (2 : Int))) h1_)) (∃ v12_, ldv false 1 h1_ (Addr.add (⟨Array.size h, 0, none⟩) 1) = some v12_ ∧ ∃ x13_, v12_ = (Value.int .i64 x13_) ∧ ∃ v14_, ldv false 1 h1_ (Addr.add (⟨Array.size h, 0, none⟩) 1) = some v14_ ∧ ∃ x15_, v14_ = (Value.int .i64 x15_) ∧ splitB (x15_ == (1 : Int)) (∃ v16_, ldv false 1 h1_ (Addr.add (⟨Array.size h, 0, none⟩) 1) = some v16_ ∧ ∃ x17_, v16_ = (Value.int .i64 x17_) ∧ f122.j0 R (⟨Array.size h, 0, none⟩) (x13_ == (3 : Int)) true (decide (x17_ > (2 : Int))) h1_) (∃ v18_, ldv false 1 h1_ (Addr.add (⟨Array.size h, 0, none⟩) 1) = some v18_ ∧ ∃ x19_, v18_ = (Value.int .i64 x19_) ∧ ∃ v20_, ldv false 1 h1_ (Addr.add (⟨Array.size h, 0, none⟩) 1) = some v20_ ∧ ∃ x21_, v20_ = (Value.int .i64 x21_) ∧ f122.j0 R (⟨Array.size h, 0, none⟩) (x13_ == (3 : Int)) (x19_ == (4 : Int)) (decide (x21_ > (2 : Int))) h1_))
set_option maxRecDepth 100000 in
theorem f122.run {R : Value → Heap → Prop} {v0 : Value} {h : Heap} (H : f122.runT R v0 h) : Run Try.prog 122 #[v0] h R :=
  run_of mixed Try.func122 (by kernel_rfl) (by kernel_rfl) f122.good (Eq.mpr (show (Fwd Try.prog f122.T f122.kp Try.f122 R [] (mkFr (argL [v0] 0)) h) = (f122.runT R v0 h) by kernel_rfl) H)

/-! ### roadstead/roadref3.ObjectAt: function 103 -/
def f103.T : Tab := { sh := tSh, tup := tTup, keep := [], plan := [(4, (.take 0 (.take 1 (.take 2 (.take 7 (.take 8 (.take 9 (.take 3 (.take 4 (.take 5 (.take 6 (.take 13 (.take 10 (.take 11 (.take 12 (.take 14 .done)))))))))))))))), (9, (.take 0 (.take 1 (.take 4 (.take 5 (.take 2 (.take 3 (.take 6 (.eff false 7 (.take 8 .done)))))))))), (23, (.take 0 (.take 2 (.take 3 (.take 4 (.take 5 (.take 6 (.take 7 (.take 1 (.eff false 8 (.take 9 (.eff false 10 .done))))))))))))] }
def f103.kp : Keep := [([true, false, true], [0, 1, 4, 28]), ([true, true], [0, 1, 4]), ([true, false, true, true, true, true, true], [0, 1, 4, 6, 7, 8, 9, 62]), ([true, true, true, true, true, true], [0, 1, 4, 6, 7, 8, 9]), ([false, false, true, false, true, true, true, true, true, true, true, true], [0, 1, 4, 6, 8, 9, 10, 84, 85]), ([false, false, true, false, true, true, false, false, true, true, false, false, true, false, true, true, true, true, true, true, true, true], [0, 1, 4, 6, 8, 9, 10, 12, 84, 85, 94, 95]), ([false, false, true, false, true, true, true, true, true, true, true, true, true, true, true], [0, 1, 4, 6, 125, 126, 127])]
theorem f103.good : goodCode Try.prog f103.T (rootOf Try.f103) = true := by kernel_rfl
set_option maxRecDepth 100000 in
theorem f103.ok : calleeOk Try.prog 103 = true := by kernel_rfl
def f103.j1 (R : Value → Heap → Prop) (A0 : Option Addr) (n0 : Nat) (c0 : Nat) (x1 : Int) (a4 : Addr) (b28 : Bool) (h : Heap) : Prop := Pt Try.prog Try.f103 R [true, false, true] (mkFr [(0, (Value.slice A0 n0 c0)), (1, (Value.int .i64 x1)), (4, (Value.pointer (some a4))), (28, (Value.bool b28))]) h
def f103.j0 (R : Value → Heap → Prop) (A0 : Option Addr) (n0 : Nat) (c0 : Nat) (x1 : Int) (a4 : Addr) (h : Heap) : Prop := Pt Try.prog Try.f103 R [true, true] (mkFr [(0, (Value.slice A0 n0 c0)), (1, (Value.int .i64 x1)), (4, (Value.pointer (some a4)))]) h
def f103.j3 (R : Value → Heap → Prop) (A0 : Option Addr) (n0 : Nat) (c0 : Nat) (x1 : Int) (a4 : Addr) (a6 : Addr) (x7 : Int) (x8 : Int) (A9 : Option Addr) (n9 : Nat) (c9 : Nat) (b62 : Bool) (h : Heap) : Prop := Pt Try.prog Try.f103 R [true, false, true, true, true, true, true] (mkFr [(0, (Value.slice A0 n0 c0)), (1, (Value.int .i64 x1)), (4, (Value.pointer (some a4))), (6, (Value.pointer (some a6))), (7, (Value.int .i64 x7)), (8, (Value.int .i64 x8)), (9, (Value.slice A9 n9 c9)), (62, (Value.bool b62))]) h
def f103.j2 (R : Value → Heap → Prop) (A0 : Option Addr) (n0 : Nat) (c0 : Nat) (x1 : Int) (a4 : Addr) (a6 : Addr) (x7 : Int) (x8 : Int) (A9 : Option Addr) (n9 : Nat) (c9 : Nat) (h : Heap) : Prop := Pt Try.prog Try.f103 R [true, true, true, true, true, true] (mkFr [(0, (Value.slice A0 n0 c0)), (1, (Value.int .i64 x1)), (4, (Value.pointer (some a4))), (6, (Value.pointer (some a6))), (7, (Value.int .i64 x7)), (8, (Value.int .i64 x8)), (9, (Value.slice A9 n9 c9))]) h
def f103.l0 (R : Value → Heap → Prop) (A0 : Option Addr) (n0 : Nat) (c0 : Nat) (x1 : Int) (a4 : Addr) (a6 : Addr) (x8 : Int) (A9 : Option Addr) (n9 : Nat) (c9 : Nat) (x10 : Int) (x84 : Int) (x85 : Int) (h : Heap) : Prop := Pt Try.prog Try.f103 R [false, false, true, false, true, true, true, true, true, true, true, true] (mkFr [(0, (Value.slice A0 n0 c0)), (1, (Value.int .i64 x1)), (4, (Value.pointer (some a4))), (6, (Value.pointer (some a6))), (8, (Value.int .i64 x8)), (9, (Value.slice A9 n9 c9)), (10, (Value.int .i64 x10)), (84, (Value.int .i64 x84)), (85, (Value.int .i64 x85))]) h
def f103.l2 (R : Value → Heap → Prop) (A0 : Option Addr) (n0 : Nat) (c0 : Nat) (x1 : Int) (a4 : Addr) (a6 : Addr) (x8 : Int) (A9 : Option Addr) (n9 : Nat) (c9 : Nat) (x10 : Int) (x12 : Int) (x84 : Int) (x85 : Int) (x94 : Int) (x95 : Int) (h : Heap) : Prop := Pt Try.prog Try.f103 R [false, false, true, false, true, true, false, false, true, true, false, false, true, false, true, true, true, true, true, true, true, true] (mkFr [(0, (Value.slice A0 n0 c0)), (1, (Value.int .i64 x1)), (4, (Value.pointer (some a4))), (6, (Value.pointer (some a6))), (8, (Value.int .i64 x8)), (9, (Value.slice A9 n9 c9)), (10, (Value.int .i64 x10)), (12, (Value.int .u64 x12)), (84, (Value.int .i64 x84)), (85, (Value.int .i64 x85)), (94, (Value.int .i64 x94)), (95, (Value.int .i64 x95))]) h
def f103.l1 (R : Value → Heap → Prop) (A0 : Option Addr) (n0 : Nat) (c0 : Nat) (x1 : Int) (a4 : Addr) (a6 : Addr) (A125 : Option Addr) (n125 : Nat) (c125 : Nat) (x126 : Int) (x127 : Int) (h : Heap) : Prop := Pt Try.prog Try.f103 R [false, false, true, false, true, true, true, true, true, true, true, true, true, true, true] (mkFr [(0, (Value.slice A0 n0 c0)), (1, (Value.int .i64 x1)), (4, (Value.pointer (some a4))), (6, (Value.pointer (some a6))), (125, (Value.slice A125 n125 c125)), (126, (Value.int .i64 x126)), (127, (Value.int .i64 x127))]) h
set_option maxRecDepth 100000 in
def f103.j1T (R : Value → Heap → Prop) (A0 : Option Addr) (n0 : Nat) (c0 : Nat) (x1 : Int) (a4 : Addr) (b28 : Bool) (h : Heap) : Prop :=
  splitB b28 (∃ l2_ : List Value, (Value.agg #[(Value.int .i64 (0 : Int)), (Value.int .i64 (0 : Int)), (Value.int .i64 (0 : Int)), (Value.string (ByteArray.mk #[])), (Value.slice none 0 0)]) = Value.agg l2_.toArray ∧ l2_.length = 5 ∧ ∃ h1_, stH h a4 l2_ 0 = some h1_ ∧ ∃ v3_, ldv true 5 h1_ a4 = some v3_ ∧ R (Value.tuple #[v3_, (Value.bool false)]) h1_) (f103.j0 R A0 n0 c0 x1 a4 h)
set_option maxRecDepth 100000 in
theorem f103.j1_in {R : Value → Heap → Prop} {A0 : Option Addr} {n0 : Nat} {c0 : Nat} {x1 : Int} {a4 : Addr} {b28 : Bool} {h : Heap} (H : f103.j1T R A0 n0 c0 x1 a4 b28 h) : f103.j1 R A0 n0 c0 x1 a4 b28 h :=
  pt_intro mixed f103.good (Eq.mpr (show (Fwd Try.prog f103.T f103.kp Try.f103 R [true, false, true] (mkFr [(0, (Value.slice A0 n0 c0)), (1, (Value.int .i64 x1)), (4, (Value.pointer (some a4))), (28, (Value.bool b28))]) h) = (f103.j1T R A0 n0 c0 x1 a4 b28 h) by kernel_rfl) H)
set_option maxRecDepth 100000 in
def f103.j0T (R : Value → Heap → Prop) (A0 : Option Addr) (n0 : Nat) (c0 : Nat) (x1 : Int) (a4 : Addr) (h : Heap) : Prop :=
  ptrOk A0 fun a1_ => 0 ≤ x1 ∧ x1 < ((n0 : Nat) : Int) ∧ (∃ v2_, ldv false 1 h (Addr.add a1_ (Int.toNat x1 * 1)) = some v2_ ∧ ∃ x3_, v2_ = (Value.int .u64 x3_) ∧ (256 : Int) ≠ 0 ∧ (newH h (Obj.cells #[(Value.int .i64 (0 : Int)), (Value.int .i64 (0 : Int)), (Value.int .i64 (0 : Int)), (Value.string (ByteArray.mk #[])), (Value.slice none 0 0)] 202) fun h4_ => ∃ l6_ : List Value, (Value.agg #[(Value.int .i64 x1), (Value.int .i64 (IntKind.wrap .i64 (Int.tmod x3_ (256 : Int)))), (Value.int .i64 (0 : Int)), (Value.string (ByteArray.mk #[])), (Value.slice none 0 0)]) = Value.agg l6_.toArray ∧ l6_.length = 5 ∧ ∃ h5_, stH h4_ (⟨Array.size h, 0, none⟩) l6_ 0 = some h5_ ∧ ptrOk A0 fun a7_ => 0 ≤ x1 ∧ x1 < ((n0 : Nat) : Int) ∧ (ptrOk A0 fun a8_ => 0 ≤ x1 ∧ x1 < ((n0 : Nat) : Int) ∧ (∃ v9_, ldv false 1 h5_ (Addr.add a7_ (Int.toNat x1 * 1)) = some v9_ ∧ ∃ x10_, v9_ = (Value.int .u64 x10_) ∧ (256 : Int) ≠ 0 ∧ ((4096 : Int) ≠ 0 ∧ (∃ v11_, ldv false 1 h5_ (Addr.add a8_ (Int.toNat x1 * 1)) = some v11_ ∧ ∃ x12_, v11_ = (Value.int .u64 x12_) ∧ (1048576 : Int) ≠ 0 ∧ (0 ≤ (IntKind.wrap .i64 (x1 + (1 : Int))) ∧ (IntKind.wrap .i64 (x1 + (1 : Int))) ≤ ((n0 : Nat) : Int) ∧ ((n0 : Nat) : Int) ≤ ((c0 : Nat) : Int) ∧ (∃ v13_, ldv false 1 h5_ (Addr.add (⟨Array.size h, 0, none⟩) 1) = some v13_ ∧ ∃ x14_, v13_ = (Value.int .i64 x14_) ∧ splitB (x14_ == (1 : Int)) (f103.j3 R A0 n0 c0 x1 a4 (⟨Array.size h, 0, none⟩) (IntKind.wrap .i64 (Int.tmod (IntKind.wrap .u64 (Int.tdiv x10_ (256 : Int))) (4096 : Int))) (IntKind.wrap .i64 (IntKind.wrap .u64 (Int.tdiv x12_ (1048576 : Int)))) (sliceA A0 (Int.toNat (IntKind.wrap .i64 (x1 + (1 : Int)))) c0 1) (Int.toNat ((n0 : Nat) : Int) - Int.toNat (IntKind.wrap .i64 (x1 + (1 : Int)))) (c0 - Int.toNat (IntKind.wrap .i64 (x1 + (1 : Int)))) true h5_) (∃ v15_, ldv false 1 h5_ (Addr.add (⟨Array.size h, 0, none⟩) 1) = some v15_ ∧ ∃ x16_, v15_ = (Value.int .i64 x16_) ∧ f103.j3 R A0 n0 c0 x1 a4 (⟨Array.size h, 0, none⟩) (IntKind.wrap .i64 (Int.tmod (IntKind.wrap .u64 (Int.tdiv x10_ (256 : Int))) (4096 : Int))) (IntKind.wrap .i64 (IntKind.wrap .u64 (Int.tdiv x12_ (1048576 : Int)))) (sliceA A0 (Int.toNat (IntKind.wrap .i64 (x1 + (1 : Int)))) c0 1) (Int.toNat ((n0 : Nat) : Int) - Int.toNat (IntKind.wrap .i64 (x1 + (1 : Int)))) (c0 - Int.toNat (IntKind.wrap .i64 (x1 + (1 : Int)))) (x16_ == (4 : Int)) h5_)))))))))
set_option maxRecDepth 100000 in
theorem f103.j0_in {R : Value → Heap → Prop} {A0 : Option Addr} {n0 : Nat} {c0 : Nat} {x1 : Int} {a4 : Addr} {h : Heap} (H : f103.j0T R A0 n0 c0 x1 a4 h) : f103.j0 R A0 n0 c0 x1 a4 h :=
  pt_intro mixed f103.good (Eq.mpr (show (Fwd Try.prog f103.T f103.kp Try.f103 R [true, true] (mkFr [(0, (Value.slice A0 n0 c0)), (1, (Value.int .i64 x1)), (4, (Value.pointer (some a4)))]) h) = (f103.j0T R A0 n0 c0 x1 a4 h) by kernel_rfl) H)
set_option maxRecDepth 100000 in
def f103.j3T (R : Value → Heap → Prop) (A0 : Option Addr) (n0 : Nat) (c0 : Nat) (x1 : Int) (a4 : Addr) (a6 : Addr) (x7 : Int) (x8 : Int) (A9 : Option Addr) (n9 : Nat) (c9 : Nat) (b62 : Bool) (h : Heap) : Prop :=
  splitB b62 (splitB (((n9 : Nat) : Int) == (0 : Int)) (∃ l2_ : List Value, (Value.agg #[(Value.int .i64 (0 : Int)), (Value.int .i64 (0 : Int)), (Value.int .i64 (0 : Int)), (Value.string (ByteArray.mk #[])), (Value.slice none 0 0)]) = Value.agg l2_.toArray ∧ l2_.length = 5 ∧ ∃ h1_, stH h a4 l2_ 0 = some h1_ ∧ ∃ v3_, ldv true 5 h1_ a4 = some v3_ ∧ R (Value.tuple #[v3_, (Value.bool false)]) h1_) (ptrOk A9 fun a4_ => 0 ≤ (0 : Int) ∧ (0 : Int) < ((n9 : Nat) : Int) ∧ (0 ≤ (1 : Int) ∧ (1 : Int) ≤ ((n9 : Nat) : Int) ∧ ((n9 : Nat) : Int) ≤ ((c9 : Nat) : Int) ∧ (∃ v5_, ldv false 1 h (Addr.add a4_ (Int.toNat (0 : Int) * 1)) = some v5_ ∧ ∃ x6_, v5_ = (Value.int .u64 x6_) ∧ ∃ h7_, st1 h (Addr.add a6 2) (Value.int .i64 (IntKind.wrap .i64 x6_)) = some h7_ ∧ f103.j2 R A0 n0 c0 x1 a4 a6 x7 x8 (sliceA A9 (Int.toNat (1 : Int)) c9 1) (Int.toNat ((n9 : Nat) : Int) - Int.toNat (1 : Int)) (c9 - Int.toNat (1 : Int)) h7_)))) (f103.j2 R A0 n0 c0 x1 a4 a6 x7 x8 A9 n9 c9 h)
set_option maxRecDepth 100000 in
theorem f103.j3_in {R : Value → Heap → Prop} {A0 : Option Addr} {n0 : Nat} {c0 : Nat} {x1 : Int} {a4 : Addr} {a6 : Addr} {x7 : Int} {x8 : Int} {A9 : Option Addr} {n9 : Nat} {c9 : Nat} {b62 : Bool} {h : Heap} (H : f103.j3T R A0 n0 c0 x1 a4 a6 x7 x8 A9 n9 c9 b62 h) : f103.j3 R A0 n0 c0 x1 a4 a6 x7 x8 A9 n9 c9 b62 h :=
  pt_intro mixed f103.good (Eq.mpr (show (Fwd Try.prog f103.T f103.kp Try.f103 R [true, false, true, true, true, true, true] (mkFr [(0, (Value.slice A0 n0 c0)), (1, (Value.int .i64 x1)), (4, (Value.pointer (some a4))), (6, (Value.pointer (some a6))), (7, (Value.int .i64 x7)), (8, (Value.int .i64 x8)), (9, (Value.slice A9 n9 c9)), (62, (Value.bool b62))]) h) = (f103.j3T R A0 n0 c0 x1 a4 a6 x7 x8 A9 n9 c9 b62 h) by kernel_rfl) H)
set_option maxRecDepth 100000 in
def f103.j2T (R : Value → Heap → Prop) (A0 : Option Addr) (n0 : Nat) (c0 : Nat) (x1 : Int) (a4 : Addr) (a6 : Addr) (x7 : Int) (x8 : Int) (A9 : Option Addr) (n9 : Nat) (c9 : Nat) (h : Heap) : Prop :=
  (8 : Int) ≠ 0 ∧ (splitB (decide (((n9 : Nat) : Int) < (IntKind.wrap .i64 ((IntKind.wrap .i64 (Int.tdiv (IntKind.wrap .i64 (x7 + (7 : Int))) (8 : Int))) + x8)))) (∃ l2_ : List Value, (Value.agg #[(Value.int .i64 (0 : Int)), (Value.int .i64 (0 : Int)), (Value.int .i64 (0 : Int)), (Value.string (ByteArray.mk #[])), (Value.slice none 0 0)]) = Value.agg l2_.toArray ∧ l2_.length = 5 ∧ ∃ h1_, stH h a4 l2_ 0 = some h1_ ∧ ∃ v3_, ldv true 5 h1_ a4 = some v3_ ∧ R (Value.tuple #[v3_, (Value.bool false)]) h1_) (f103.l0 R A0 n0 c0 x1 a4 a6 x8 A9 n9 c9 (IntKind.wrap .i64 (Int.tdiv (IntKind.wrap .i64 (x7 + (7 : Int))) (8 : Int))) x7 (0 : Int) h))
set_option maxRecDepth 100000 in
theorem f103.j2_in {R : Value → Heap → Prop} {A0 : Option Addr} {n0 : Nat} {c0 : Nat} {x1 : Int} {a4 : Addr} {a6 : Addr} {x7 : Int} {x8 : Int} {A9 : Option Addr} {n9 : Nat} {c9 : Nat} {h : Heap} (H : f103.j2T R A0 n0 c0 x1 a4 a6 x7 x8 A9 n9 c9 h) : f103.j2 R A0 n0 c0 x1 a4 a6 x7 x8 A9 n9 c9 h :=
  pt_intro mixed f103.good (Eq.mpr (show (Fwd Try.prog f103.T f103.kp Try.f103 R [true, true, true, true, true, true] (mkFr [(0, (Value.slice A0 n0 c0)), (1, (Value.int .i64 x1)), (4, (Value.pointer (some a4))), (6, (Value.pointer (some a6))), (7, (Value.int .i64 x7)), (8, (Value.int .i64 x8)), (9, (Value.slice A9 n9 c9))]) h) = (f103.j2T R A0 n0 c0 x1 a4 a6 x7 x8 A9 n9 c9 h) by kernel_rfl) H)
set_option maxRecDepth 100000 in
def f103.l0T (R : Value → Heap → Prop) (A0 : Option Addr) (n0 : Nat) (c0 : Nat) (x1 : Int) (a4 : Addr) (a6 : Addr) (x8 : Int) (A9 : Option Addr) (n9 : Nat) (c9 : Nat) (x10 : Int) (x84 : Int) (x85 : Int) (h : Heap) : Prop :=
  splitB (decide (x85 < x84)) ((8 : Int) ≠ 0 ∧ (ptrOk A9 fun a1_ => 0 ≤ (IntKind.wrap .i64 (Int.tdiv x85 (8 : Int))) ∧ (IntKind.wrap .i64 (Int.tdiv x85 (8 : Int))) < ((n9 : Nat) : Int) ∧ (∃ v2_, ldv false 1 h (Addr.add a1_ (Int.toNat (IntKind.wrap .i64 (Int.tdiv x85 (8 : Int))) * 1)) = some v2_ ∧ ∃ x3_, v2_ = (Value.int .u64 x3_) ∧ (8 : Int) ≠ 0 ∧ (f103.l2 R A0 n0 c0 x1 a4 a6 x8 A9 n9 c9 x10 x3_ x84 x85 (Int.tmod x85 (8 : Int)) (0 : Int) h)))) (0 ≤ x10 ∧ x10 ≤ (IntKind.wrap .i64 (x10 + x8)) ∧ (IntKind.wrap .i64 (x10 + x8)) ≤ ((c9 : Nat) : Int) ∧ (∃ v4_, ldv false 1 h (Addr.add a6 4) = some v4_ ∧ ∃ A5_, ∃ n5_, ∃ c5_, v4_ = (Value.slice A5_ n5_ c5_) ∧ AppW 98 1 8 #[(Value.int .u64 (0 : Int))] A5_ n5_ c5_ (Value.slice (sliceA A9 (Int.toNat x10) c9 1) (Int.toNat (IntKind.wrap .i64 (x10 + x8)) - Int.toNat x10) (c9 - Int.toNat x10)) h fun v6_ h7_ => ∃ A8_, ∃ n8_, ∃ c8_, v6_ = (Value.slice A8_ n8_ c8_) ∧ ∃ h9_, st1 h7_ (Addr.add a6 4) (Value.slice A8_ n8_ c8_) = some h9_ ∧ ∃ v10_, ldv true 5 h9_ a6 = some v10_ ∧ Run Try.prog 122 #[v10_] h9_ fun v11_ h12_ => ∃ b13_, v11_ = (Value.bool b13_) ∧ splitB (!b13_) (∃ l15_ : List Value, (Value.agg #[(Value.int .i64 (0 : Int)), (Value.int .i64 (0 : Int)), (Value.int .i64 (0 : Int)), (Value.string (ByteArray.mk #[])), (Value.slice none 0 0)]) = Value.agg l15_.toArray ∧ l15_.length = 5 ∧ ∃ h14_, stH h12_ a4 l15_ 0 = some h14_ ∧ ∃ v16_, ldv true 5 h14_ a4 = some v16_ ∧ R (Value.tuple #[v16_, (Value.bool false)]) h14_) (∃ v17_, ldv true 5 h12_ a6 = some v17_ ∧ Run Try.prog 104 #[v17_] h12_ fun v18_ h19_ => ∃ A20_, ∃ n20_, ∃ c20_, v18_ = (Value.slice A20_ n20_ c20_) ∧ f103.l1 R A0 n0 c0 x1 a4 a6 A20_ n20_ c20_ ((n20_ : Nat) : Int) (0 : Int) h19_)))
set_option maxRecDepth 100000 in
theorem f103.l0_in {R : Value → Heap → Prop} {A0 : Option Addr} {n0 : Nat} {c0 : Nat} {x1 : Int} {a4 : Addr} {a6 : Addr} {x8 : Int} {A9 : Option Addr} {n9 : Nat} {c9 : Nat} {x10 : Int} {x84 : Int} {x85 : Int} {h : Heap} (H : f103.l0T R A0 n0 c0 x1 a4 a6 x8 A9 n9 c9 x10 x84 x85 h) : f103.l0 R A0 n0 c0 x1 a4 a6 x8 A9 n9 c9 x10 x84 x85 h :=
  pt_intro mixed f103.good (Eq.mpr (show (Fwd Try.prog f103.T f103.kp Try.f103 R [false, false, true, false, true, true, true, true, true, true, true, true] (mkFr [(0, (Value.slice A0 n0 c0)), (1, (Value.int .i64 x1)), (4, (Value.pointer (some a4))), (6, (Value.pointer (some a6))), (8, (Value.int .i64 x8)), (9, (Value.slice A9 n9 c9)), (10, (Value.int .i64 x10)), (84, (Value.int .i64 x84)), (85, (Value.int .i64 x85))]) h) = (f103.l0T R A0 n0 c0 x1 a4 a6 x8 A9 n9 c9 x10 x84 x85 h) by kernel_rfl) H)
set_option maxRecDepth 100000 in
def f103.l2T (R : Value → Heap → Prop) (A0 : Option Addr) (n0 : Nat) (c0 : Nat) (x1 : Int) (a4 : Addr) (a6 : Addr) (x8 : Int) (A9 : Option Addr) (n9 : Nat) (c9 : Nat) (x10 : Int) (x12 : Int) (x84 : Int) (x85 : Int) (x94 : Int) (x95 : Int) (h : Heap) : Prop :=
  splitB (decide (x95 < x94)) ((256 : Int) ≠ 0 ∧ (f103.l2 R A0 n0 c0 x1 a4 a6 x8 A9 n9 c9 x10 (IntKind.wrap .u64 (Int.tdiv x12 (256 : Int))) x84 x85 x94 (IntKind.wrap .i64 (x95 + (1 : Int))) h)) (∃ v1_, ldv false 1 h (Addr.add a6 3) = some v1_ ∧ ∃ s2_, v1_ = (Value.string s2_) ∧ (256 : Int) ≠ 0 ∧ (newH h (Obj.cells #[(Value.int .u8 (IntKind.wrap .u8 (Int.tmod x12 (256 : Int))))] 5) fun h3_ => Gen Try.prog (convert 260 9 (Value.slice (some ⟨Array.size h, 0, none⟩) 1 1)) h3_ fun v4_ h5_ => ∃ s6_, v4_ = (Value.string s6_) ∧ ByteArray.size s2_ + ByteArray.size s6_ ≤ 9223372036854775807 ∧ (∃ h7_, st1 h5_ (Addr.add a6 3) (Value.string (s2_ ++ s6_)) = some h7_ ∧ f103.l0 R A0 n0 c0 x1 a4 a6 x8 A9 n9 c9 x10 x84 (IntKind.wrap .i64 (x85 + (1 : Int))) h7_)))
set_option maxRecDepth 100000 in
theorem f103.l2_in {R : Value → Heap → Prop} {A0 : Option Addr} {n0 : Nat} {c0 : Nat} {x1 : Int} {a4 : Addr} {a6 : Addr} {x8 : Int} {A9 : Option Addr} {n9 : Nat} {c9 : Nat} {x10 : Int} {x12 : Int} {x84 : Int} {x85 : Int} {x94 : Int} {x95 : Int} {h : Heap} (H : f103.l2T R A0 n0 c0 x1 a4 a6 x8 A9 n9 c9 x10 x12 x84 x85 x94 x95 h) : f103.l2 R A0 n0 c0 x1 a4 a6 x8 A9 n9 c9 x10 x12 x84 x85 x94 x95 h :=
  pt_intro mixed f103.good (Eq.mpr (show (Fwd Try.prog f103.T f103.kp Try.f103 R [false, false, true, false, true, true, false, false, true, true, false, false, true, false, true, true, true, true, true, true, true, true] (mkFr [(0, (Value.slice A0 n0 c0)), (1, (Value.int .i64 x1)), (4, (Value.pointer (some a4))), (6, (Value.pointer (some a6))), (8, (Value.int .i64 x8)), (9, (Value.slice A9 n9 c9)), (10, (Value.int .i64 x10)), (12, (Value.int .u64 x12)), (84, (Value.int .i64 x84)), (85, (Value.int .i64 x85)), (94, (Value.int .i64 x94)), (95, (Value.int .i64 x95))]) h) = (f103.l2T R A0 n0 c0 x1 a4 a6 x8 A9 n9 c9 x10 x12 x84 x85 x94 x95 h) by kernel_rfl) H)
set_option maxRecDepth 100000 in
def f103.l1T (R : Value → Heap → Prop) (A0 : Option Addr) (n0 : Nat) (c0 : Nat) (x1 : Int) (a4 : Addr) (a6 : Addr) (A125 : Option Addr) (n125 : Nat) (c125 : Nat) (x126 : Int) (x127 : Int) (h : Heap) : Prop :=
  splitB (decide (x127 < x126)) (ptrOk A125 fun a1_ => 0 ≤ x127 ∧ x127 < ((n125 : Nat) : Int) ∧ (∃ v2_, ldv false 1 h (Addr.add a1_ (Int.toNat x127 * 1)) = some v2_ ∧ ∃ x3_, v2_ = (Value.int .u64 x3_) ∧ ptrOk A0 fun a4_ => 0 ≤ (IntKind.wrap .i64 (x1 + x127)) ∧ (IntKind.wrap .i64 (x1 + x127)) < ((n0 : Nat) : Int) ∧ (∃ v5_, ldv false 1 h (Addr.add a4_ (Int.toNat (IntKind.wrap .i64 (x1 + x127)) * 1)) = some v5_ ∧ ∃ x6_, v5_ = (Value.int .u64 x6_) ∧ splitB (x6_ != x3_) (∃ l8_ : List Value, (Value.agg #[(Value.int .i64 (0 : Int)), (Value.int .i64 (0 : Int)), (Value.int .i64 (0 : Int)), (Value.string (ByteArray.mk #[])), (Value.slice none 0 0)]) = Value.agg l8_.toArray ∧ l8_.length = 5 ∧ ∃ h7_, stH h a4 l8_ 0 = some h7_ ∧ ∃ v9_, ldv true 5 h7_ a4 = some v9_ ∧ R (Value.tuple #[v9_, (Value.bool false)]) h7_) (f103.l1 R A0 n0 c0 x1 a4 a6 A125 n125 c125 x126 (IntKind.wrap .i64 (x127 + (1 : Int))) h)))) (∃ v10_, ldv true 5 h a6 = some v10_ ∧ ∃ l12_ : List Value, v10_ = Value.agg l12_.toArray ∧ l12_.length = 5 ∧ ∃ h11_, stH h a4 l12_ 0 = some h11_ ∧ ∃ v13_, ldv true 5 h11_ a4 = some v13_ ∧ R (Value.tuple #[v13_, (Value.bool true)]) h11_)
set_option maxRecDepth 100000 in
theorem f103.l1_in {R : Value → Heap → Prop} {A0 : Option Addr} {n0 : Nat} {c0 : Nat} {x1 : Int} {a4 : Addr} {a6 : Addr} {A125 : Option Addr} {n125 : Nat} {c125 : Nat} {x126 : Int} {x127 : Int} {h : Heap} (H : f103.l1T R A0 n0 c0 x1 a4 a6 A125 n125 c125 x126 x127 h) : f103.l1 R A0 n0 c0 x1 a4 a6 A125 n125 c125 x126 x127 h :=
  pt_intro mixed f103.good (Eq.mpr (show (Fwd Try.prog f103.T f103.kp Try.f103 R [false, false, true, false, true, true, true, true, true, true, true, true, true, true, true] (mkFr [(0, (Value.slice A0 n0 c0)), (1, (Value.int .i64 x1)), (4, (Value.pointer (some a4))), (6, (Value.pointer (some a6))), (125, (Value.slice A125 n125 c125)), (126, (Value.int .i64 x126)), (127, (Value.int .i64 x127))]) h) = (f103.l1T R A0 n0 c0 x1 a4 a6 A125 n125 c125 x126 x127 h) by kernel_rfl) H)
set_option maxRecDepth 100000 in
def f103.runT (R : Value → Heap → Prop) (A0 : Option Addr) (n0 : Nat) (c0 : Nat) (x1 : Int) (h : Heap) : Prop :=
  newH h (Obj.cells #[(Value.int .i64 (0 : Int)), (Value.int .i64 (0 : Int)), (Value.int .i64 (0 : Int)), (Value.string (ByteArray.mk #[])), (Value.slice none 0 0)] 202) fun h1_ => Run Try.prog 16 #[(Value.int .i64 x1), (Value.int .i64 (0 : Int)), (Value.int .i64 (IntKind.wrap .i64 (((n0 : Nat) : Int) - (1 : Int))))] h1_ fun v2_ h3_ => ∃ b4_, v2_ = (Value.bool b4_) ∧ splitB (!b4_) (f103.j1 R A0 n0 c0 x1 (⟨Array.size h, 0, none⟩) true h3_) (ptrOk A0 fun a5_ => 0 ≤ x1 ∧ x1 < ((n0 : Nat) : Int) ∧ (∃ v6_, ldv false 1 h3_ (Addr.add a5_ (Int.toNat x1 * 1)) = some v6_ ∧ ∃ x7_, v6_ = (Value.int .u64 x7_) ∧ (4294967296 : Int) ≠ 0 ∧ (f103.j1 R A0 n0 c0 x1 (⟨Array.size h, 0, none⟩) (decide ((IntKind.wrap .u64 (Int.tdiv x7_ (4294967296 : Int))) > (0 : Int))) h3_)))
set_option maxRecDepth 100000 in
theorem f103.run {R : Value → Heap → Prop} {A0 : Option Addr} {n0 : Nat} {c0 : Nat} {x1 : Int} {h : Heap} (H : f103.runT R A0 n0 c0 x1 h) : Run Try.prog 103 #[(Value.slice A0 n0 c0), (Value.int .i64 x1)] h R :=
  run_of mixed Try.func103 (by kernel_rfl) (by kernel_rfl) f103.good (Eq.mpr (show (Fwd Try.prog f103.T f103.kp Try.f103 R [] (mkFr (argL [(Value.slice A0 n0 c0), (Value.int .i64 x1)] 0)) h) = (f103.runT R A0 n0 c0 x1 h) by kernel_rfl) H)

/-! ### roadstead/roadref3.TagWord: function 106 -/
def f106.T : Tab := { sh := tSh, tup := tTup, keep := [], plan := [] }
def f106.kp : Keep := []
theorem f106.good : goodCode Try.prog f106.T (rootOf Try.f106) = true := by kernel_rfl
set_option maxRecDepth 100000 in
theorem f106.ok : calleeOk Try.prog 106 = true := by kernel_rfl
set_option maxRecDepth 100000 in
def f106.runT (R : Value → Heap → Prop) (x0 : Int) (x1 : Int) (h : Heap) : Prop :=
  R (Value.int .u64 (IntKind.wrap .u64 ((IntKind.wrap .u64 ((8 : Int) * (IntKind.wrap .u64 x1))) + (IntKind.wrap .u64 x0)))) h
set_option maxRecDepth 100000 in
theorem f106.run {R : Value → Heap → Prop} {x0 : Int} {x1 : Int} {h : Heap} (H : f106.runT R x0 x1 h) : Run Try.prog 106 #[(Value.int .i64 x0), (Value.int .i64 x1)] h R :=
  run_of mixed Try.func106 (by kernel_rfl) (by kernel_rfl) f106.good (Eq.mpr (show (Fwd Try.prog f106.T f106.kp Try.f106 R [] (mkFr (argL [(Value.int .i64 x0), (Value.int .i64 x1)] 0)) h) = (f106.runT R x0 x1 h) by kernel_rfl) H)

/-! ### roadstead/roadref3.TagFits: function 145 -/
def f145.T : Tab := { sh := tSh, tup := tTup, keep := [], plan := [] }
def f145.kp : Keep := [([true, true, true], [0, 1, 5, 6])]
theorem f145.good : goodCode Try.prog f145.T (rootOf Try.f145) = true := by kernel_rfl
set_option maxRecDepth 100000 in
theorem f145.ok : calleeOk Try.prog 145 = true := by kernel_rfl
def f145.j0 (R : Value → Heap → Prop) (x0 : Int) (x1 : Int) (x5 : Int) (x6 : Int) (h : Heap) : Prop := Pt Try.prog Try.f145 R [true, true, true] (mkFr [(0, (Value.int .i64 x0)), (1, (Value.int .i64 x1)), (5, (Value.int .i64 x5)), (6, (Value.int .i64 x6))]) h
set_option maxRecDepth 100000 in
def f145.j0T (R : Value → Heap → Prop) (x0 : Int) (x1 : Int) (x5 : Int) (x6 : Int) (h : Heap) : Prop :=
  Run Try.prog 16 #[(Value.int .i64 x0), (Value.int .i64 (0 : Int)), (Value.int .i64 (4 : Int))] h fun v1_ h2_ => ∃ b3_, v1_ = (Value.bool b3_) ∧ splitB b3_ (Run Try.prog 16 #[(Value.int .i64 x1), (Value.int .i64 x5), (Value.int .i64 x6)] h2_ fun v4_ h5_ => ∃ b6_, v4_ = (Value.bool b6_) ∧ R (Value.bool b6_) h5_) (R (Value.bool false) h2_)
set_option maxRecDepth 100000 in
theorem f145.j0_in {R : Value → Heap → Prop} {x0 : Int} {x1 : Int} {x5 : Int} {x6 : Int} {h : Heap} (H : f145.j0T R x0 x1 x5 x6 h) : f145.j0 R x0 x1 x5 x6 h :=
  pt_intro mixed f145.good (Eq.mpr (show (Fwd Try.prog f145.T f145.kp Try.f145 R [true, true, true] (mkFr [(0, (Value.int .i64 x0)), (1, (Value.int .i64 x1)), (5, (Value.int .i64 x5)), (6, (Value.int .i64 x6))]) h) = (f145.j0T R x0 x1 x5 x6 h) by kernel_rfl) H)
set_option maxRecDepth 100000 in
def f145.runT (R : Value → Heap → Prop) (x0 : Int) (x1 : Int) (h : Heap) : Prop :=
  splitB (x0 == (0 : Int)) (f145.j0 R x0 x1 (0 : Int) (0 : Int) h) (splitB (x0 == (1 : Int)) (f145.j0 R x0 x1 (-1152921504606846976 : Int) (1152921504606846975 : Int) h) (splitB (x0 == (2 : Int)) (f145.j0 R x0 x1 (0 : Int) (1 : Int) h) (f145.j0 R x0 x1 (0 : Int) (1152921504606846975 : Int) h)))
set_option maxRecDepth 100000 in
theorem f145.run {R : Value → Heap → Prop} {x0 : Int} {x1 : Int} {h : Heap} (H : f145.runT R x0 x1 h) : Run Try.prog 145 #[(Value.int .i64 x0), (Value.int .i64 x1)] h R :=
  run_of mixed Try.func145 (by kernel_rfl) (by kernel_rfl) f145.good (Eq.mpr (show (Fwd Try.prog f145.T f145.kp Try.f145 R [] (mkFr (argL [(Value.int .i64 x0), (Value.int .i64 x1)] 0)) h) = (f145.runT R x0 x1 h) by kernel_rfl) H)

/-! ### roadstead/roadref3.TagRead: function 105 -/
def f105.T : Tab := { sh := tSh, tup := tTup, keep := [], plan := [] }
def f105.kp : Keep := [([true, false, true, true, true], [0, 5, 6, 18]), ([true, true, true, true], [0, 5, 6]), ([true, false, true, true, true, true], [5, 6, 31]), ([true, true, true, true, true], [5, 6])]
theorem f105.good : goodCode Try.prog f105.T (rootOf Try.f105) = true := by kernel_rfl
set_option maxRecDepth 100000 in
theorem f105.ok : calleeOk Try.prog 105 = true := by kernel_rfl
def f105.j1 (R : Value → Heap → Prop) (x0 : Int) (x5 : Int) (x6 : Int) (b18 : Bool) (h : Heap) : Prop := Pt Try.prog Try.f105 R [true, false, true, true, true] (mkFr [(0, (Value.int .u64 x0)), (5, (Value.int .i64 x5)), (6, (Value.int .i64 x6)), (18, (Value.bool b18))]) h
def f105.j0 (R : Value → Heap → Prop) (x0 : Int) (x5 : Int) (x6 : Int) (h : Heap) : Prop := Pt Try.prog Try.f105 R [true, true, true, true] (mkFr [(0, (Value.int .u64 x0)), (5, (Value.int .i64 x5)), (6, (Value.int .i64 x6))]) h
def f105.j3 (R : Value → Heap → Prop) (x5 : Int) (x6 : Int) (b31 : Bool) (h : Heap) : Prop := Pt Try.prog Try.f105 R [true, false, true, true, true, true] (mkFr [(5, (Value.int .i64 x5)), (6, (Value.int .i64 x6)), (31, (Value.bool b31))]) h
def f105.j2 (R : Value → Heap → Prop) (x5 : Int) (x6 : Int) (h : Heap) : Prop := Pt Try.prog Try.f105 R [true, true, true, true, true] (mkFr [(5, (Value.int .i64 x5)), (6, (Value.int .i64 x6))]) h
set_option maxRecDepth 100000 in
def f105.j1T (R : Value → Heap → Prop) (x0 : Int) (x5 : Int) (x6 : Int) (b18 : Bool) (h : Heap) : Prop :=
  splitB b18 (f105.j0 R x0 x5 (IntKind.wrap .i64 (x6 - (2305843009213693952 : Int))) h) (f105.j0 R x0 x5 x6 h)
set_option maxRecDepth 100000 in
theorem f105.j1_in {R : Value → Heap → Prop} {x0 : Int} {x5 : Int} {x6 : Int} {b18 : Bool} {h : Heap} (H : f105.j1T R x0 x5 x6 b18 h) : f105.j1 R x0 x5 x6 b18 h :=
  pt_intro mixed f105.good (Eq.mpr (show (Fwd Try.prog f105.T f105.kp Try.f105 R [true, false, true, true, true] (mkFr [(0, (Value.int .u64 x0)), (5, (Value.int .i64 x5)), (6, (Value.int .i64 x6)), (18, (Value.bool b18))]) h) = (f105.j1T R x0 x5 x6 b18 h) by kernel_rfl) H)
set_option maxRecDepth 100000 in
def f105.j0T (R : Value → Heap → Prop) (x0 : Int) (x5 : Int) (x6 : Int) (h : Heap) : Prop :=
  Run Try.prog 145 #[(Value.int .i64 x5), (Value.int .i64 x6)] h fun v1_ h2_ => ∃ b3_, v1_ = (Value.bool b3_) ∧ splitB (!b3_) (f105.j3 R x5 x6 true h2_) (Run Try.prog 106 #[(Value.int .i64 x5), (Value.int .i64 x6)] h2_ fun v4_ h5_ => ∃ x6_, v4_ = (Value.int .u64 x6_) ∧ f105.j3 R x5 x6 (x6_ != x0) h5_)
set_option maxRecDepth 100000 in
theorem f105.j0_in {R : Value → Heap → Prop} {x0 : Int} {x5 : Int} {x6 : Int} {h : Heap} (H : f105.j0T R x0 x5 x6 h) : f105.j0 R x0 x5 x6 h :=
  pt_intro mixed f105.good (Eq.mpr (show (Fwd Try.prog f105.T f105.kp Try.f105 R [true, true, true, true] (mkFr [(0, (Value.int .u64 x0)), (5, (Value.int .i64 x5)), (6, (Value.int .i64 x6))]) h) = (f105.j0T R x0 x5 x6 h) by kernel_rfl) H)
set_option maxRecDepth 100000 in
def f105.j3T (R : Value → Heap → Prop) (x5 : Int) (x6 : Int) (b31 : Bool) (h : Heap) : Prop :=
  splitB b31 (R (Value.tuple #[(Value.int .i64 (0 : Int)), (Value.int .i64 (0 : Int)), (Value.bool false)]) h) (f105.j2 R x5 x6 h)
set_option maxRecDepth 100000 in
theorem f105.j3_in {R : Value → Heap → Prop} {x5 : Int} {x6 : Int} {b31 : Bool} {h : Heap} (H : f105.j3T R x5 x6 b31 h) : f105.j3 R x5 x6 b31 h :=
  pt_intro mixed f105.good (Eq.mpr (show (Fwd Try.prog f105.T f105.kp Try.f105 R [true, false, true, true, true, true] (mkFr [(5, (Value.int .i64 x5)), (6, (Value.int .i64 x6)), (31, (Value.bool b31))]) h) = (f105.j3T R x5 x6 b31 h) by kernel_rfl) H)
set_option maxRecDepth 100000 in
def f105.j2T (R : Value → Heap → Prop) (x5 : Int) (x6 : Int) (h : Heap) : Prop :=
  R (Value.tuple #[(Value.int .i64 x5), (Value.int .i64 x6), (Value.bool true)]) h
set_option maxRecDepth 100000 in
theorem f105.j2_in {R : Value → Heap → Prop} {x5 : Int} {x6 : Int} {h : Heap} (H : f105.j2T R x5 x6 h) : f105.j2 R x5 x6 h :=
  pt_intro mixed f105.good (Eq.mpr (show (Fwd Try.prog f105.T f105.kp Try.f105 R [true, true, true, true, true] (mkFr [(5, (Value.int .i64 x5)), (6, (Value.int .i64 x6))]) h) = (f105.j2T R x5 x6 h) by kernel_rfl) H)
set_option maxRecDepth 100000 in
def f105.runT (R : Value → Heap → Prop) (x0 : Int) (h : Heap) : Prop :=
  (8 : Int) ≠ 0 ∧ ((8 : Int) ≠ 0 ∧ (splitB ((IntKind.wrap .i64 (Int.tmod x0 (8 : Int))) == (1 : Int)) (f105.j1 R x0 (IntKind.wrap .i64 (Int.tmod x0 (8 : Int))) (IntKind.wrap .i64 (IntKind.wrap .u64 (Int.tdiv x0 (8 : Int)))) (decide ((IntKind.wrap .i64 (IntKind.wrap .u64 (Int.tdiv x0 (8 : Int)))) ≥ (1152921504606846976 : Int))) h) (f105.j1 R x0 (IntKind.wrap .i64 (Int.tmod x0 (8 : Int))) (IntKind.wrap .i64 (IntKind.wrap .u64 (Int.tdiv x0 (8 : Int)))) false h)))
set_option maxRecDepth 100000 in
theorem f105.run {R : Value → Heap → Prop} {x0 : Int} {h : Heap} (H : f105.runT R x0 h) : Run Try.prog 105 #[(Value.int .u64 x0)] h R :=
  run_of mixed Try.func105 (by kernel_rfl) (by kernel_rfl) f105.good (Eq.mpr (show (Fwd Try.prog f105.T f105.kp Try.f105 R [] (mkFr (argL [(Value.int .u64 x0)] 0)) h) = (f105.runT R x0 h) by kernel_rfl) H)

/-! ### roadstead/roadref3.valueKinds: function 156 -/
def f156.T : Tab := { sh := tSh, tup := tTup, keep := [], plan := [] }
def f156.kp : Keep := []
theorem f156.good : goodCode Try.prog f156.T (rootOf Try.f156) = true := by kernel_rfl
set_option maxRecDepth 100000 in
theorem f156.ok : calleeOk Try.prog 156 = true := by kernel_rfl
set_option maxRecDepth 100000 in
def f156.runT (R : Value → Heap → Prop)  (h : Heap) : Prop :=
  newH h (Obj.cells #[(Value.int .i64 (0 : Int)), (Value.int .i64 (0 : Int)), (Value.int .i64 (0 : Int)), (Value.int .i64 (0 : Int))] 266) fun h1_ => ∃ l3_ : List Value, (Value.agg #[(Value.int .i64 (1 : Int)), (Value.int .i64 (2 : Int)), (Value.int .i64 (3 : Int)), (Value.int .i64 (6 : Int))]) = Value.agg l3_.toArray ∧ l3_.length = 4 ∧ ∃ h2_, stH h1_ (⟨Array.size h, 0, none⟩) l3_ 0 = some h2_ ∧ ∃ v4_, ldv true 4 h2_ (⟨Array.size h, 0, none⟩) = some v4_ ∧ R v4_ h2_
set_option maxRecDepth 100000 in
theorem f156.run {R : Value → Heap → Prop}  {h : Heap} (H : f156.runT R  h) : Run Try.prog 156 #[] h R :=
  run_of mixed Try.func156 (by kernel_rfl) (by kernel_rfl) f156.good (Eq.mpr (show (Fwd Try.prog f156.T f156.kp Try.f156 R [] (mkFr (argL [] 0)) h) = (f156.runT R  h) by kernel_rfl) H)

/-! ### roadstead/roadref3.ValueOf: function 120 -/
def f120.T : Tab := { sh := tSh, tup := tTup, keep := [], plan := [] }
def f120.kp : Keep := [([true, false, true, true], [2, 4, 5, 18]), ([true, true, true], [2, 4, 5])]
theorem f120.good : goodCode Try.prog f120.T (rootOf Try.f120) = true := by kernel_rfl
set_option maxRecDepth 100000 in
theorem f120.ok : calleeOk Try.prog 120 = true := by kernel_rfl
def f120.j1 (R : Value → Heap → Prop) (a2 : Addr) (x4 : Int) (x5 : Int) (b18 : Bool) (h : Heap) : Prop := Pt Try.prog Try.f120 R [true, false, true, true] (mkFr [(2, (Value.pointer (some a2))), (4, (Value.int .i64 x4)), (5, (Value.int .i64 x5)), (18, (Value.bool b18))]) h
def f120.j0 (R : Value → Heap → Prop) (a2 : Addr) (x4 : Int) (x5 : Int) (h : Heap) : Prop := Pt Try.prog Try.f120 R [true, true, true] (mkFr [(2, (Value.pointer (some a2))), (4, (Value.int .i64 x4)), (5, (Value.int .i64 x5))]) h
set_option maxRecDepth 100000 in
def f120.j1T (R : Value → Heap → Prop) (a2 : Addr) (x4 : Int) (x5 : Int) (b18 : Bool) (h : Heap) : Prop :=
  splitB b18 (∃ l2_ : List Value, (Value.agg #[(Value.int .i64 (0 : Int)), (Value.int .i64 (0 : Int)), (Value.string (ByteArray.mk #[])), (Value.slice none 0 0)]) = Value.agg l2_.toArray ∧ l2_.length = 4 ∧ ∃ h1_, stH h a2 l2_ 0 = some h1_ ∧ ∃ v3_, ldv true 4 h1_ a2 = some v3_ ∧ R (Value.tuple #[v3_, (Value.bool false)]) h1_) (f120.j0 R a2 x4 x5 h)
set_option maxRecDepth 100000 in
theorem f120.j1_in {R : Value → Heap → Prop} {a2 : Addr} {x4 : Int} {x5 : Int} {b18 : Bool} {h : Heap} (H : f120.j1T R a2 x4 x5 b18 h) : f120.j1 R a2 x4 x5 b18 h :=
  pt_intro mixed f120.good (Eq.mpr (show (Fwd Try.prog f120.T f120.kp Try.f120 R [true, false, true, true] (mkFr [(2, (Value.pointer (some a2))), (4, (Value.int .i64 x4)), (5, (Value.int .i64 x5)), (18, (Value.bool b18))]) h) = (f120.j1T R a2 x4 x5 b18 h) by kernel_rfl) H)
set_option maxRecDepth 100000 in
def f120.j0T (R : Value → Heap → Prop) (a2 : Addr) (x4 : Int) (x5 : Int) (h : Heap) : Prop :=
  Run Try.prog 156 #[] h fun v1_ h2_ => 0 ≤ x4 ∧ x4 < ((4 : Nat) : Int) ∧ ∃ v3_, fldv false 1 (Int.toNat x4 * 1) v1_ = some v3_ ∧ (∃ x4_, v3_ = (Value.int .i64 x4_) ∧ ∃ l6_ : List Value, (Value.agg #[(Value.int .i64 x4_), (Value.int .i64 x5), (Value.string (ByteArray.mk #[])), (Value.slice none 0 0)]) = Value.agg l6_.toArray ∧ l6_.length = 4 ∧ ∃ h5_, stH h2_ a2 l6_ 0 = some h5_ ∧ ∃ v7_, ldv true 4 h5_ a2 = some v7_ ∧ R (Value.tuple #[v7_, (Value.bool true)]) h5_)
set_option maxRecDepth 100000 in
theorem f120.j0_in {R : Value → Heap → Prop} {a2 : Addr} {x4 : Int} {x5 : Int} {h : Heap} (H : f120.j0T R a2 x4 x5 h) : f120.j0 R a2 x4 x5 h :=
  pt_intro mixed f120.good (Eq.mpr (show (Fwd Try.prog f120.T f120.kp Try.f120 R [true, true, true] (mkFr [(2, (Value.pointer (some a2))), (4, (Value.int .i64 x4)), (5, (Value.int .i64 x5))]) h) = (f120.j0T R a2 x4 x5 h) by kernel_rfl) H)
set_option maxRecDepth 100000 in
def f120.runT (R : Value → Heap → Prop) (x0 : Int) (h : Heap) : Prop :=
  newH h (Obj.cells #[(Value.int .i64 (0 : Int)), (Value.int .i64 (0 : Int)), (Value.string (ByteArray.mk #[])), (Value.slice none 0 0)] 137) fun h1_ => Run Try.prog 105 #[(Value.int .u64 x0)] h1_ fun v2_ h3_ => ∃ x4_, ∃ x5_, ∃ b6_, v2_ = (Value.tuple #[(Value.int .i64 x4_), (Value.int .i64 x5_), (Value.bool b6_)]) ∧ splitB (!b6_) (f120.j1 R (⟨Array.size h, 0, none⟩) x4_ x5_ true h3_) (f120.j1 R (⟨Array.size h, 0, none⟩) x4_ x5_ (x4_ == (4 : Int)) h3_)
set_option maxRecDepth 100000 in
theorem f120.run {R : Value → Heap → Prop} {x0 : Int} {h : Heap} (H : f120.runT R x0 h) : Run Try.prog 120 #[(Value.int .u64 x0)] h R :=
  run_of mixed Try.func120 (by kernel_rfl) (by kernel_rfl) f120.good (Eq.mpr (show (Fwd Try.prog f120.T f120.kp Try.f120 R [] (mkFr (argL [(Value.int .u64 x0)] 0)) h) = (f120.runT R x0 h) by kernel_rfl) H)

/-! ### roadstead/roadref3.ReadOf: function 68 -/
def f68.T : Tab := { sh := tSh, tup := tTup, keep := [], plan := [] }
def f68.kp : Keep := [([true, false, true, true], [0, 1, 2, 3, 8, 33]), ([true, true, true], [0, 1, 2, 3, 8]), ([false, false, true, false, true, true, true, true, true, true, true, true, true, true], [0, 2, 3, 8, 16, 77, 78, 79])]
theorem f68.good : goodCode Try.prog f68.T (rootOf Try.f68) = true := by kernel_rfl
set_option maxRecDepth 100000 in
theorem f68.ok : calleeOk Try.prog 68 = true := by kernel_rfl
def f68.j1 (R : Value → Heap → Prop) (A0 : Option Addr) (n0 : Nat) (c0 : Nat) (x1 : Int) (x2 : Int) (a3 : Addr) (a8 : Addr) (b33 : Bool) (h : Heap) : Prop := Pt Try.prog Try.f68 R [true, false, true, true] (mkFr [(0, (Value.slice A0 n0 c0)), (1, (Value.int .u64 x1)), (2, (Value.int .i64 x2)), (3, (Value.pointer (some a3))), (8, (Value.pointer (some a8))), (33, (Value.bool b33))]) h
def f68.j0 (R : Value → Heap → Prop) (A0 : Option Addr) (n0 : Nat) (c0 : Nat) (x1 : Int) (x2 : Int) (a3 : Addr) (a8 : Addr) (h : Heap) : Prop := Pt Try.prog Try.f68 R [true, true, true] (mkFr [(0, (Value.slice A0 n0 c0)), (1, (Value.int .u64 x1)), (2, (Value.int .i64 x2)), (3, (Value.pointer (some a3))), (8, (Value.pointer (some a8)))]) h
def f68.l0 (R : Value → Heap → Prop) (A0 : Option Addr) (n0 : Nat) (c0 : Nat) (x2 : Int) (a3 : Addr) (a8 : Addr) (a16 : Addr) (A77 : Option Addr) (n77 : Nat) (c77 : Nat) (x78 : Int) (x79 : Int) (h : Heap) : Prop := Pt Try.prog Try.f68 R [false, false, true, false, true, true, true, true, true, true, true, true, true, true] (mkFr [(0, (Value.slice A0 n0 c0)), (2, (Value.int .i64 x2)), (3, (Value.pointer (some a3))), (8, (Value.pointer (some a8))), (16, (Value.pointer (some a16))), (77, (Value.slice A77 n77 c77)), (78, (Value.int .i64 x78)), (79, (Value.int .i64 x79))]) h
set_option maxRecDepth 100000 in
def f68.j1T (R : Value → Heap → Prop) (A0 : Option Addr) (n0 : Nat) (c0 : Nat) (x1 : Int) (x2 : Int) (a3 : Addr) (a8 : Addr) (b33 : Bool) (h : Heap) : Prop :=
  splitB b33 (∃ l2_ : List Value, (Value.agg #[(Value.int .i64 (0 : Int)), (Value.int .i64 (0 : Int)), (Value.string (ByteArray.mk #[])), (Value.slice none 0 0)]) = Value.agg l2_.toArray ∧ l2_.length = 4 ∧ ∃ h1_, stH h a8 l2_ 0 = some h1_ ∧ ∃ v3_, ldv true 4 h1_ a8 = some v3_ ∧ R (Value.tuple #[v3_, (Value.int .i64 (2 : Int))]) h1_) (f68.j0 R A0 n0 c0 x1 x2 a3 a8 h)
set_option maxRecDepth 100000 in
theorem f68.j1_in {R : Value → Heap → Prop} {A0 : Option Addr} {n0 : Nat} {c0 : Nat} {x1 : Int} {x2 : Int} {a3 : Addr} {a8 : Addr} {b33 : Bool} {h : Heap} (H : f68.j1T R A0 n0 c0 x1 x2 a3 a8 b33 h) : f68.j1 R A0 n0 c0 x1 x2 a3 a8 b33 h :=
  pt_intro mixed f68.good (Eq.mpr (show (Fwd Try.prog f68.T f68.kp Try.f68 R [true, false, true, true] (mkFr [(0, (Value.slice A0 n0 c0)), (1, (Value.int .u64 x1)), (2, (Value.int .i64 x2)), (3, (Value.pointer (some a3))), (8, (Value.pointer (some a8))), (33, (Value.bool b33))]) h) = (f68.j1T R A0 n0 c0 x1 x2 a3 a8 b33 h) by kernel_rfl) H)
set_option maxRecDepth 100000 in
def f68.j0T (R : Value → Heap → Prop) (A0 : Option Addr) (n0 : Nat) (c0 : Nat) (x1 : Int) (x2 : Int) (a3 : Addr) (a8 : Addr) (h : Heap) : Prop :=
  Run Try.prog 105 #[(Value.int .u64 x1)] h fun v1_ h2_ => ∃ x3_, ∃ x4_, ∃ b5_, v1_ = (Value.tuple #[(Value.int .i64 x3_), (Value.int .i64 x4_), (Value.bool b5_)]) ∧ splitB (!b5_) (∃ l7_ : List Value, (Value.agg #[(Value.int .i64 (0 : Int)), (Value.int .i64 (0 : Int)), (Value.string (ByteArray.mk #[])), (Value.slice none 0 0)]) = Value.agg l7_.toArray ∧ l7_.length = 4 ∧ ∃ h6_, stH h2_ a8 l7_ 0 = some h6_ ∧ ∃ v8_, ldv true 4 h6_ a8 = some v8_ ∧ R (Value.tuple #[v8_, (Value.int .i64 (3 : Int))]) h6_) (splitB (x3_ != (4 : Int)) (Run Try.prog 120 #[(Value.int .u64 x1)] h2_ fun v9_ h10_ => ∃ v11_, ∃ b12_, v9_ = (Value.tuple #[v11_, (Value.bool b12_)]) ∧ newH h10_ (Obj.cells #[(Value.int .i64 (0 : Int)), (Value.int .i64 (0 : Int)), (Value.string (ByteArray.mk #[])), (Value.slice none 0 0)] 137) fun h13_ => ∃ l15_ : List Value, v11_ = Value.agg l15_.toArray ∧ l15_.length = 4 ∧ ∃ h14_, stH h13_ (⟨Array.size h10_, 0, none⟩) l15_ 0 = some h14_ ∧ ∃ v16_, ldv true 4 h14_ (⟨Array.size h10_, 0, none⟩) = some v16_ ∧ ∃ l18_ : List Value, v16_ = Value.agg l18_.toArray ∧ l18_.length = 4 ∧ ∃ h17_, stH h14_ a8 l18_ 0 = some h17_ ∧ ∃ v19_, ldv true 4 h17_ a8 = some v19_ ∧ R (Value.tuple #[v19_, (Value.int .i64 (0 : Int))]) h17_) (splitB (decide (x4_ ≥ ((n0 : Nat) : Int))) (∃ l21_ : List Value, (Value.agg #[(Value.int .i64 (0 : Int)), (Value.int .i64 (0 : Int)), (Value.string (ByteArray.mk #[])), (Value.slice none 0 0)]) = Value.agg l21_.toArray ∧ l21_.length = 4 ∧ ∃ h20_, stH h2_ a8 l21_ 0 = some h20_ ∧ ∃ v22_, ldv true 4 h20_ a8 = some v22_ ∧ R (Value.tuple #[v22_, (Value.int .i64 (4 : Int))]) h20_) (Run Try.prog 103 #[(Value.slice A0 n0 c0), (Value.int .i64 x4_)] h2_ fun v23_ h24_ => ∃ v25_, ∃ b26_, v23_ = (Value.tuple #[v25_, (Value.bool b26_)]) ∧ newH h24_ (Obj.cells #[(Value.int .i64 (0 : Int)), (Value.int .i64 (0 : Int)), (Value.int .i64 (0 : Int)), (Value.string (ByteArray.mk #[])), (Value.slice none 0 0)] 202) fun h27_ => ∃ l29_ : List Value, v25_ = Value.agg l29_.toArray ∧ l29_.length = 5 ∧ ∃ h28_, stH h27_ (⟨Array.size h24_, 0, none⟩) l29_ 0 = some h28_ ∧ splitB (!b26_) (∃ l31_ : List Value, (Value.agg #[(Value.int .i64 (0 : Int)), (Value.int .i64 (0 : Int)), (Value.string (ByteArray.mk #[])), (Value.slice none 0 0)]) = Value.agg l31_.toArray ∧ l31_.length = 4 ∧ ∃ h30_, stH h28_ a8 l31_ 0 = some h30_ ∧ ∃ v32_, ldv true 4 h30_ a8 = some v32_ ∧ R (Value.tuple #[v32_, (Value.int .i64 (3 : Int))]) h30_) (Gen Try.prog (Instr.makeMap 187 none) h28_ fun v33_ h34_ => Hwp Try.prog (Instr.mapUpdate 187 v33_ (Value.int .i64 (1 : Int)) (Value.int .i64 (2 : Int))) h34_ fun _ h35_ => Hwp Try.prog (Instr.mapUpdate 187 v33_ (Value.int .i64 (2 : Int)) (Value.int .i64 (4 : Int))) h35_ fun _ h36_ => Hwp Try.prog (Instr.mapUpdate 187 v33_ (Value.int .i64 (3 : Int)) (Value.int .i64 (5 : Int))) h36_ fun _ h37_ => Hwp Try.prog (Instr.mapUpdate 187 v33_ (Value.int .i64 (4 : Int)) (Value.int .i64 (7 : Int))) h37_ fun _ h38_ => Hwp Try.prog (Instr.mapUpdate 187 v33_ (Value.int .i64 (5 : Int)) (Value.int .i64 (8 : Int))) h38_ fun _ h39_ => ∃ v40_, ldv false 1 h39_ (Addr.add (⟨Array.size h24_, 0, none⟩) 1) = some v40_ ∧ ∃ x41_, v40_ = (Value.int .i64 x41_) ∧ Gen Try.prog (Instr.lookup 187 v33_ (Value.int .i64 x41_) false) h39_ fun v42_ h43_ => ∃ x44_, v42_ = (Value.int .i64 x44_) ∧ ∃ v45_, ldv false 1 h43_ (Addr.add (⟨Array.size h24_, 0, none⟩) 2) = some v45_ ∧ ∃ x46_, v45_ = (Value.int .i64 x46_) ∧ ∃ v47_, ldv false 1 h43_ (Addr.add (⟨Array.size h24_, 0, none⟩) 3) = some v47_ ∧ ∃ s48_, v47_ = (Value.string s48_) ∧ newH h43_ (Obj.cells #[(Value.int .i64 (0 : Int)), (Value.int .i64 (0 : Int)), (Value.string (ByteArray.mk #[])), (Value.slice none 0 0)] 137) fun h49_ => ∃ l51_ : List Value, (Value.agg #[(Value.int .i64 x44_), (Value.int .i64 x46_), (Value.string s48_), (Value.slice none 0 0)]) = Value.agg l51_.toArray ∧ l51_.length = 4 ∧ ∃ h50_, stH h49_ (⟨Array.size h43_, 0, none⟩) l51_ 0 = some h50_ ∧ ∃ v52_, ldv false 1 h50_ (Addr.add (⟨Array.size h24_, 0, none⟩) 4) = some v52_ ∧ ∃ A53_, ∃ n53_, ∃ c53_, v52_ = (Value.slice A53_ n53_ c53_) ∧ f68.l0 R A0 n0 c0 x2 a3 a8 (⟨Array.size h43_, 0, none⟩) A53_ n53_ c53_ ((n53_ : Nat) : Int) (0 : Int) h50_))))
set_option maxRecDepth 100000 in
theorem f68.j0_in {R : Value → Heap → Prop} {A0 : Option Addr} {n0 : Nat} {c0 : Nat} {x1 : Int} {x2 : Int} {a3 : Addr} {a8 : Addr} {h : Heap} (H : f68.j0T R A0 n0 c0 x1 x2 a3 a8 h) : f68.j0 R A0 n0 c0 x1 x2 a3 a8 h :=
  pt_intro mixed f68.good (Eq.mpr (show (Fwd Try.prog f68.T f68.kp Try.f68 R [true, true, true] (mkFr [(0, (Value.slice A0 n0 c0)), (1, (Value.int .u64 x1)), (2, (Value.int .i64 x2)), (3, (Value.pointer (some a3))), (8, (Value.pointer (some a8)))]) h) = (f68.j0T R A0 n0 c0 x1 x2 a3 a8 h) by kernel_rfl) H)
set_option maxRecDepth 100000 in
def f68.l0T (R : Value → Heap → Prop) (A0 : Option Addr) (n0 : Nat) (c0 : Nat) (x2 : Int) (a3 : Addr) (a8 : Addr) (a16 : Addr) (A77 : Option Addr) (n77 : Nat) (c77 : Nat) (x78 : Int) (x79 : Int) (h : Heap) : Prop :=
  splitB (decide (x79 < x78)) (ptrOk A77 fun a1_ => 0 ≤ x79 ∧ x79 < ((n77 : Nat) : Int) ∧ (∃ v2_, ldv false 1 h (Addr.add a1_ (Int.toNat x79 * 1)) = some v2_ ∧ ∃ x3_, v2_ = (Value.int .u64 x3_) ∧ Run Try.prog 68 #[(Value.slice A0 n0 c0), (Value.int .u64 x3_), (Value.int .i64 (IntKind.wrap .i64 (x2 + (1 : Int)))), (Value.pointer (some a3))] h fun v4_ h5_ => ∃ v6_, ∃ x7_, v4_ = (Value.tuple #[v6_, (Value.int .i64 x7_)]) ∧ newH h5_ (Obj.cells #[(Value.int .i64 (0 : Int)), (Value.int .i64 (0 : Int)), (Value.string (ByteArray.mk #[])), (Value.slice none 0 0)] 137) fun h8_ => ∃ l10_ : List Value, v6_ = Value.agg l10_.toArray ∧ l10_.length = 4 ∧ ∃ h9_, stH h8_ (⟨Array.size h5_, 0, none⟩) l10_ 0 = some h9_ ∧ splitB (x7_ != (0 : Int)) (∃ l12_ : List Value, (Value.agg #[(Value.int .i64 (0 : Int)), (Value.int .i64 (0 : Int)), (Value.string (ByteArray.mk #[])), (Value.slice none 0 0)]) = Value.agg l12_.toArray ∧ l12_.length = 4 ∧ ∃ h11_, stH h9_ a8 l12_ 0 = some h11_ ∧ ∃ v13_, ldv true 4 h11_ a8 = some v13_ ∧ R (Value.tuple #[v13_, (Value.int .i64 x7_)]) h11_) (∃ v14_, ldv false 1 h9_ (Addr.add a16 3) = some v14_ ∧ ∃ A15_, ∃ n15_, ∃ c15_, v14_ = (Value.slice A15_ n15_ c15_) ∧ ∃ v16_, ldv true 4 h9_ (⟨Array.size h5_, 0, none⟩) = some v16_ ∧ ∃ l17_ : List Value, v16_ = Value.agg l17_.toArray ∧ l17_.length = 4 ∧ (newH h9_ (Obj.cells ((List.take 0 ([(Value.int .i64 (0 : Int)), (Value.int .i64 (0 : Int)), (Value.string (ByteArray.mk #[])), (Value.slice none 0 0)]) ++ l17_ ++ List.drop 4 ([(Value.int .i64 (0 : Int)), (Value.int .i64 (0 : Int)), (Value.string (ByteArray.mk #[])), (Value.slice none 0 0)])).toArray) 137) fun h18_ => AppW 137 4 56 #[(Value.int .i64 (0 : Int)), (Value.int .i64 (0 : Int)), (Value.string (ByteArray.mk #[])), (Value.slice none 0 0)] A15_ n15_ c15_ (Value.slice (some ⟨Array.size h9_, 0, none⟩) 1 1) h18_ fun v19_ h20_ => ∃ A21_, ∃ n21_, ∃ c21_, v19_ = (Value.slice A21_ n21_ c21_) ∧ ∃ h22_, st1 h20_ (Addr.add a16 3) (Value.slice A21_ n21_ c21_) = some h22_ ∧ f68.l0 R A0 n0 c0 x2 a3 a8 a16 A77 n77 c77 x78 (IntKind.wrap .i64 (x79 + (1 : Int))) h22_)))) (∃ v23_, ldv true 4 h a16 = some v23_ ∧ ∃ l25_ : List Value, v23_ = Value.agg l25_.toArray ∧ l25_.length = 4 ∧ ∃ h24_, stH h a8 l25_ 0 = some h24_ ∧ ∃ v26_, ldv true 4 h24_ a8 = some v26_ ∧ R (Value.tuple #[v26_, (Value.int .i64 (0 : Int))]) h24_)
set_option maxRecDepth 100000 in
theorem f68.l0_in {R : Value → Heap → Prop} {A0 : Option Addr} {n0 : Nat} {c0 : Nat} {x2 : Int} {a3 : Addr} {a8 : Addr} {a16 : Addr} {A77 : Option Addr} {n77 : Nat} {c77 : Nat} {x78 : Int} {x79 : Int} {h : Heap} (H : f68.l0T R A0 n0 c0 x2 a3 a8 a16 A77 n77 c77 x78 x79 h) : f68.l0 R A0 n0 c0 x2 a3 a8 a16 A77 n77 c77 x78 x79 h :=
  pt_intro mixed f68.good (Eq.mpr (show (Fwd Try.prog f68.T f68.kp Try.f68 R [false, false, true, false, true, true, true, true, true, true, true, true, true, true] (mkFr [(0, (Value.slice A0 n0 c0)), (2, (Value.int .i64 x2)), (3, (Value.pointer (some a3))), (8, (Value.pointer (some a8))), (16, (Value.pointer (some a16))), (77, (Value.slice A77 n77 c77)), (78, (Value.int .i64 x78)), (79, (Value.int .i64 x79))]) h) = (f68.l0T R A0 n0 c0 x2 a3 a8 a16 A77 n77 c77 x78 x79 h) by kernel_rfl) H)
set_option maxRecDepth 100000 in
def f68.runT (R : Value → Heap → Prop) (A0 : Option Addr) (n0 : Nat) (c0 : Nat) (x1 : Int) (x2 : Int) (a3 : Addr) (h : Heap) : Prop :=
  newH h (Obj.cells #[(Value.int .i64 (0 : Int)), (Value.int .i64 (0 : Int)), (Value.string (ByteArray.mk #[])), (Value.slice none 0 0)] 137) fun h1_ => ∃ v2_, ldv false 1 h1_ a3 = some v2_ ∧ ∃ x3_, v2_ = (Value.int .i64 x3_) ∧ ∃ h4_, st1 h1_ a3 (Value.int .i64 (IntKind.wrap .i64 (x3_ - (1 : Int)))) = some h4_ ∧ ∃ v5_, ldv false 1 h4_ a3 = some v5_ ∧ ∃ x6_, v5_ = (Value.int .i64 x6_) ∧ splitB (decide (x6_ < (0 : Int))) (f68.j1 R A0 n0 c0 x1 x2 a3 (⟨Array.size h, 0, none⟩) true h4_) (f68.j1 R A0 n0 c0 x1 x2 a3 (⟨Array.size h, 0, none⟩) (decide (x2 > (40 : Int))) h4_)
set_option maxRecDepth 100000 in
theorem f68.run {R : Value → Heap → Prop} {A0 : Option Addr} {n0 : Nat} {c0 : Nat} {x1 : Int} {x2 : Int} {a3 : Addr} {h : Heap} (H : f68.runT R A0 n0 c0 x1 x2 a3 h) : Run Try.prog 68 #[(Value.slice A0 n0 c0), (Value.int .u64 x1), (Value.int .i64 x2), (Value.pointer (some a3))] h R :=
  run_of mixed Try.func68 (by kernel_rfl) (by kernel_rfl) f68.good (Eq.mpr (show (Fwd Try.prog f68.T f68.kp Try.f68 R [] (mkFr (argL [(Value.slice A0 n0 c0), (Value.int .u64 x1), (Value.int .i64 x2), (Value.pointer (some a3))] 0)) h) = (f68.runT R A0 n0 c0 x1 x2 a3 h) by kernel_rfl) H)

/-! ### roadstead/roadref3.SameValue: function 69 -/
def f69.T : Tab := { sh := tSh, tup := tTup, keep := [], plan := [(6, (.take 0 (.take 2 (.take 5 (.take 7 (.take 1 (.take 3 (.take 4 (.take 6 (.take 8 (.take 9 (.eff false 10 (.take 11 .done)))))))))))))] }
def f69.kp : Keep := [([true, true], [2, 3]), ([false, false, true, false, true, true], [2, 3, 36, 37])]
theorem f69.good : goodCode Try.prog f69.T (rootOf Try.f69) = true := by kernel_rfl
set_option maxRecDepth 100000 in
theorem f69.ok : calleeOk Try.prog 69 = true := by kernel_rfl
def f69.j0 (R : Value → Heap → Prop) (a2 : Addr) (a3 : Addr) (h : Heap) : Prop := Pt Try.prog Try.f69 R [true, true] (mkFr [(2, (Value.pointer (some a2))), (3, (Value.pointer (some a3)))]) h
def f69.l0 (R : Value → Heap → Prop) (a2 : Addr) (a3 : Addr) (x36 : Int) (x37 : Int) (h : Heap) : Prop := Pt Try.prog Try.f69 R [false, false, true, false, true, true] (mkFr [(2, (Value.pointer (some a2))), (3, (Value.pointer (some a3))), (36, (Value.int .i64 x36)), (37, (Value.int .i64 x37))]) h
set_option maxRecDepth 100000 in
def f69.j0T (R : Value → Heap → Prop) (a2 : Addr) (a3 : Addr) (h : Heap) : Prop :=
  ∃ v1_, ldv false 1 h (Addr.add a2 3) = some v1_ ∧ ∃ A2_, ∃ n2_, ∃ c2_, v1_ = (Value.slice A2_ n2_ c2_) ∧ f69.l0 R a2 a3 ((n2_ : Nat) : Int) (0 : Int) h
set_option maxRecDepth 100000 in
theorem f69.j0_in {R : Value → Heap → Prop} {a2 : Addr} {a3 : Addr} {h : Heap} (H : f69.j0T R a2 a3 h) : f69.j0 R a2 a3 h :=
  pt_intro mixed f69.good (Eq.mpr (show (Fwd Try.prog f69.T f69.kp Try.f69 R [true, true] (mkFr [(2, (Value.pointer (some a2))), (3, (Value.pointer (some a3)))]) h) = (f69.j0T R a2 a3 h) by kernel_rfl) H)
set_option maxRecDepth 100000 in
def f69.l0T (R : Value → Heap → Prop) (a2 : Addr) (a3 : Addr) (x36 : Int) (x37 : Int) (h : Heap) : Prop :=
  splitB (decide (x37 < x36)) (∃ v1_, ldv false 1 h (Addr.add a2 3) = some v1_ ∧ ∃ A2_, ∃ n2_, ∃ c2_, v1_ = (Value.slice A2_ n2_ c2_) ∧ ptrOk A2_ fun a3_ => 0 ≤ x37 ∧ x37 < ((n2_ : Nat) : Int) ∧ (∃ v4_, ldv true 4 h (Addr.add a3_ (Int.toNat x37 * 4)) = some v4_ ∧ ∃ v5_, ldv false 1 h (Addr.add a3 3) = some v5_ ∧ ∃ A6_, ∃ n6_, ∃ c6_, v5_ = (Value.slice A6_ n6_ c6_) ∧ ptrOk A6_ fun a7_ => 0 ≤ x37 ∧ x37 < ((n6_ : Nat) : Int) ∧ (∃ v8_, ldv true 4 h (Addr.add a7_ (Int.toNat x37 * 4)) = some v8_ ∧ Run Try.prog 69 #[v4_, v8_] h fun v9_ h10_ => ∃ b11_, v9_ = (Value.bool b11_) ∧ splitB (!b11_) (R (Value.bool false) h10_) (f69.l0 R a2 a3 x36 (IntKind.wrap .i64 (x37 + (1 : Int))) h10_)))) (R (Value.bool true) h)
set_option maxRecDepth 100000 in
theorem f69.l0_in {R : Value → Heap → Prop} {a2 : Addr} {a3 : Addr} {x36 : Int} {x37 : Int} {h : Heap} (H : f69.l0T R a2 a3 x36 x37 h) : f69.l0 R a2 a3 x36 x37 h :=
  pt_intro mixed f69.good (Eq.mpr (show (Fwd Try.prog f69.T f69.kp Try.f69 R [false, false, true, false, true, true] (mkFr [(2, (Value.pointer (some a2))), (3, (Value.pointer (some a3))), (36, (Value.int .i64 x36)), (37, (Value.int .i64 x37))]) h) = (f69.l0T R a2 a3 x36 x37 h) by kernel_rfl) H)
set_option maxRecDepth 100000 in
def f69.runT (R : Value → Heap → Prop) (v0 : Value) (v1 : Value) (h : Heap) : Prop :=
  newH h (Obj.cells ((v0).cells) 137) fun h1_ => newH h1_ (Obj.cells ((v1).cells) 137) fun h2_ => ∃ v3_, ldv false 1 h2_ (⟨Array.size h, 0, none⟩) = some v3_ ∧ ∃ x4_, v3_ = (Value.int .i64 x4_) ∧ ∃ v5_, ldv false 1 h2_ (⟨Array.size h1_, 0, none⟩) = some v5_ ∧ ∃ x6_, v5_ = (Value.int .i64 x6_) ∧ splitB (x4_ != x6_) (R (Value.bool false) h2_) (∃ v7_, ldv false 1 h2_ (Addr.add (⟨Array.size h, 0, none⟩) 1) = some v7_ ∧ ∃ x8_, v7_ = (Value.int .i64 x8_) ∧ ∃ v9_, ldv false 1 h2_ (Addr.add (⟨Array.size h1_, 0, none⟩) 1) = some v9_ ∧ ∃ x10_, v9_ = (Value.int .i64 x10_) ∧ splitB (x8_ != x10_) (R (Value.bool false) h2_) (∃ v11_, ldv false 1 h2_ (Addr.add (⟨Array.size h, 0, none⟩) 2) = some v11_ ∧ ∃ s12_, v11_ = (Value.string s12_) ∧ ∃ v13_, ldv false 1 h2_ (Addr.add (⟨Array.size h1_, 0, none⟩) 2) = some v13_ ∧ ∃ s14_, v13_ = (Value.string s14_) ∧ splitB (!(ByteArray.toList s12_ == ByteArray.toList s14_)) (R (Value.bool false) h2_) (∃ v15_, ldv false 1 h2_ (Addr.add (⟨Array.size h, 0, none⟩) 3) = some v15_ ∧ ∃ A16_, ∃ n16_, ∃ c16_, v15_ = (Value.slice A16_ n16_ c16_) ∧ ∃ v17_, ldv false 1 h2_ (Addr.add (⟨Array.size h1_, 0, none⟩) 3) = some v17_ ∧ ∃ A18_, ∃ n18_, ∃ c18_, v17_ = (Value.slice A18_ n18_ c18_) ∧ splitB (((n16_ : Nat) : Int) != ((n18_ : Nat) : Int)) (R (Value.bool false) h2_) (f69.j0 R (⟨Array.size h, 0, none⟩) (⟨Array.size h1_, 0, none⟩) h2_))))
set_option maxRecDepth 100000 in
theorem f69.run {R : Value → Heap → Prop} {v0 : Value} {v1 : Value} {h : Heap} (H : f69.runT R v0 v1 h) : Run Try.prog 69 #[v0, v1] h R :=
  run_of mixed Try.func69 (by kernel_rfl) (by kernel_rfl) f69.good (Eq.mpr (show (Fwd Try.prog f69.T f69.kp Try.f69 R [] (mkFr (argL [v0, v1] 0)) h) = (f69.runT R v0 v1 h) by kernel_rfl) H)

/-! ### roadstead/roadref3.WordOf: function 121 -/
def f121.T : Tab := { sh := tSh, tup := tTup, keep := [], plan := [] }
def f121.kp : Keep := [([false, false, true, false, true], [1, 6, 7]), ([true, true, false, false, true, true, false, false, true, false, true], [1, 4, 6, 7, 31])]
theorem f121.good : goodCode Try.prog f121.T (rootOf Try.f121) = true := by kernel_rfl
set_option maxRecDepth 100000 in
theorem f121.ok : calleeOk Try.prog 121 = true := by kernel_rfl
def f121.l0 (R : Value → Heap → Prop) (a1 : Addr) (v6 : Value) (x7 : Int) (h : Heap) : Prop := Pt Try.prog Try.f121 R [false, false, true, false, true] (mkFr [(1, (Value.pointer (some a1))), (6, v6), (7, (Value.int .i64 x7))]) h
def f121.j0 (R : Value → Heap → Prop) (a1 : Addr) (x4 : Int) (v6 : Value) (x7 : Int) (b31 : Bool) (h : Heap) : Prop := Pt Try.prog Try.f121 R [true, true, false, false, true, true, false, false, true, false, true] (mkFr [(1, (Value.pointer (some a1))), (4, (Value.int .i64 x4)), (6, v6), (7, (Value.int .i64 x7)), (31, (Value.bool b31))]) h
set_option maxRecDepth 100000 in
def f121.l0T (R : Value → Heap → Prop) (a1 : Addr) (v6 : Value) (x7 : Int) (h : Heap) : Prop :=
  splitB (decide (x7 < (4 : Int))) (0 ≤ x7 ∧ x7 < ((4 : Nat) : Int) ∧ ∃ v1_, fldv false 1 (Int.toNat x7 * 1) v6 = some v1_ ∧ (∃ x2_, v1_ = (Value.int .i64 x2_) ∧ ∃ v3_, ldv false 1 h a1 = some v3_ ∧ ∃ x4_, v3_ = (Value.int .i64 x4_) ∧ splitB (x4_ == x2_) (∃ v5_, ldv false 1 h (Addr.add a1 2) = some v5_ ∧ ∃ s6_, v5_ = (Value.string s6_) ∧ splitB (ByteArray.toList s6_ == ByteArray.toList (ByteArray.mk #[])) (∃ v7_, ldv false 1 h (Addr.add a1 3) = some v7_ ∧ ∃ A8_, ∃ n8_, ∃ c8_, v7_ = (Value.slice A8_ n8_ c8_) ∧ splitB (((n8_ : Nat) : Int) == (0 : Int)) (∃ v9_, ldv false 1 h (Addr.add a1 1) = some v9_ ∧ ∃ x10_, v9_ = (Value.int .i64 x10_) ∧ Run Try.prog 145 #[(Value.int .i64 x7), (Value.int .i64 x10_)] h fun v11_ h12_ => ∃ b13_, v11_ = (Value.bool b13_) ∧ f121.j0 R a1 x7 v6 x7 b13_ h12_) (f121.j0 R a1 x7 v6 x7 false h)) (f121.j0 R a1 x7 v6 x7 false h)) (f121.j0 R a1 x7 v6 x7 false h))) (R (Value.tuple #[(Value.int .u64 (0 : Int)), (Value.bool false)]) h)
set_option maxRecDepth 100000 in
theorem f121.l0_in {R : Value → Heap → Prop} {a1 : Addr} {v6 : Value} {x7 : Int} {h : Heap} (H : f121.l0T R a1 v6 x7 h) : f121.l0 R a1 v6 x7 h :=
  pt_intro mixed f121.good (Eq.mpr (show (Fwd Try.prog f121.T f121.kp Try.f121 R [false, false, true, false, true] (mkFr [(1, (Value.pointer (some a1))), (6, v6), (7, (Value.int .i64 x7))]) h) = (f121.l0T R a1 v6 x7 h) by kernel_rfl) H)
set_option maxRecDepth 100000 in
def f121.j0T (R : Value → Heap → Prop) (a1 : Addr) (x4 : Int) (v6 : Value) (x7 : Int) (b31 : Bool) (h : Heap) : Prop :=
  splitB b31 (∃ v1_, ldv false 1 h (Addr.add a1 1) = some v1_ ∧ ∃ x2_, v1_ = (Value.int .i64 x2_) ∧ Run Try.prog 106 #[(Value.int .i64 x4), (Value.int .i64 x2_)] h fun v3_ h4_ => ∃ x5_, v3_ = (Value.int .u64 x5_) ∧ R (Value.tuple #[(Value.int .u64 x5_), (Value.bool true)]) h4_) (f121.l0 R a1 v6 (IntKind.wrap .i64 (x7 + (1 : Int))) h)
set_option maxRecDepth 100000 in
theorem f121.j0_in {R : Value → Heap → Prop} {a1 : Addr} {x4 : Int} {v6 : Value} {x7 : Int} {b31 : Bool} {h : Heap} (H : f121.j0T R a1 x4 v6 x7 b31 h) : f121.j0 R a1 x4 v6 x7 b31 h :=
  pt_intro mixed f121.good (Eq.mpr (show (Fwd Try.prog f121.T f121.kp Try.f121 R [true, true, false, false, true, true, false, false, true, false, true] (mkFr [(1, (Value.pointer (some a1))), (4, (Value.int .i64 x4)), (6, v6), (7, (Value.int .i64 x7)), (31, (Value.bool b31))]) h) = (f121.j0T R a1 x4 v6 x7 b31 h) by kernel_rfl) H)
set_option maxRecDepth 100000 in
def f121.runT (R : Value → Heap → Prop) (v0 : Value) (h : Heap) : Prop :=
  newH h (Obj.cells ((v0).cells) 137) fun h1_ => Run Try.prog 156 #[] h1_ fun v2_ h3_ => f121.l0 R (⟨Array.size h, 0, none⟩) v2_ (0 : Int) h3_
set_option maxRecDepth 100000 in
theorem f121.run {R : Value → Heap → Prop} {v0 : Value} {h : Heap} (H : f121.runT R v0 h) : Run Try.prog 121 #[v0] h R :=
  run_of mixed Try.func121 (by kernel_rfl) (by kernel_rfl) f121.good (Eq.mpr (show (Fwd Try.prog f121.T f121.kp Try.f121 R [] (mkFr (argL [v0] 0)) h) = (f121.runT R v0 h) by kernel_rfl) H)

/-! ### roadstead/roadref3.Built: function 70 -/
def f70.T : Tab := { sh := tSh, tup := tTup, keep := [], plan := [] }
def f70.kp : Keep := [([true, false, true, true, true], [0, 3, 9, 44]), ([true, true, true, true], [0, 3, 9]), ([false, false, true, false, true, true, true, true, true], [0, 10, 52, 53, 54])]
theorem f70.good : goodCode Try.prog f70.T (rootOf Try.f70) = true := by kernel_rfl
set_option maxRecDepth 100000 in
theorem f70.ok : calleeOk Try.prog 70 = true := by kernel_rfl
def f70.j1 (R : Value → Heap → Prop) (A0 : Option Addr) (n0 : Nat) (c0 : Nat) (a3 : Addr) (x9 : Int) (b44 : Bool) (h : Heap) : Prop := Pt Try.prog Try.f70 R [true, false, true, true, true] (mkFr [(0, (Value.slice A0 n0 c0)), (3, (Value.pointer (some a3))), (9, (Value.int .i64 x9)), (44, (Value.bool b44))]) h
def f70.j0 (R : Value → Heap → Prop) (A0 : Option Addr) (n0 : Nat) (c0 : Nat) (a3 : Addr) (x9 : Int) (h : Heap) : Prop := Pt Try.prog Try.f70 R [true, true, true, true] (mkFr [(0, (Value.slice A0 n0 c0)), (3, (Value.pointer (some a3))), (9, (Value.int .i64 x9))]) h
def f70.l0 (R : Value → Heap → Prop) (A0 : Option Addr) (n0 : Nat) (c0 : Nat) (a10 : Addr) (A52 : Option Addr) (n52 : Nat) (c52 : Nat) (x53 : Int) (x54 : Int) (h : Heap) : Prop := Pt Try.prog Try.f70 R [false, false, true, false, true, true, true, true, true] (mkFr [(0, (Value.slice A0 n0 c0)), (10, (Value.pointer (some a10))), (52, (Value.slice A52 n52 c52)), (53, (Value.int .i64 x53)), (54, (Value.int .i64 x54))]) h
set_option maxRecDepth 100000 in
def f70.j1T (R : Value → Heap → Prop) (A0 : Option Addr) (n0 : Nat) (c0 : Nat) (a3 : Addr) (x9 : Int) (b44 : Bool) (h : Heap) : Prop :=
  splitB b44 (R (Value.tuple #[(Value.slice none 0 0), (Value.int .u64 (0 : Int)), (Value.int .i64 (1 : Int))]) h) (f70.j0 R A0 n0 c0 a3 x9 h)
set_option maxRecDepth 100000 in
theorem f70.j1_in {R : Value → Heap → Prop} {A0 : Option Addr} {n0 : Nat} {c0 : Nat} {a3 : Addr} {x9 : Int} {b44 : Bool} {h : Heap} (H : f70.j1T R A0 n0 c0 a3 x9 b44 h) : f70.j1 R A0 n0 c0 a3 x9 b44 h :=
  pt_intro mixed f70.good (Eq.mpr (show (Fwd Try.prog f70.T f70.kp Try.f70 R [true, false, true, true, true] (mkFr [(0, (Value.slice A0 n0 c0)), (3, (Value.pointer (some a3))), (9, (Value.int .i64 x9)), (44, (Value.bool b44))]) h) = (f70.j1T R A0 n0 c0 a3 x9 b44 h) by kernel_rfl) H)
set_option maxRecDepth 100000 in
def f70.j0T (R : Value → Heap → Prop) (A0 : Option Addr) (n0 : Nat) (c0 : Nat) (a3 : Addr) (x9 : Int) (h : Heap) : Prop :=
  ∃ v1_, ldv false 1 h (Addr.add a3 1) = some v1_ ∧ ∃ x2_, v1_ = (Value.int .i64 x2_) ∧ ∃ v3_, ldv false 1 h (Addr.add a3 2) = some v3_ ∧ ∃ s4_, v3_ = (Value.string s4_) ∧ newH h (Obj.cells #[(Value.int .i64 (0 : Int)), (Value.int .i64 (0 : Int)), (Value.int .i64 (0 : Int)), (Value.string (ByteArray.mk #[])), (Value.slice none 0 0)] 202) fun h5_ => ∃ l7_ : List Value, (Value.agg #[(Value.int .i64 (0 : Int)), (Value.int .i64 x9), (Value.int .i64 x2_), (Value.string s4_), (Value.slice none 0 0)]) = Value.agg l7_.toArray ∧ l7_.length = 5 ∧ ∃ h6_, stH h5_ (⟨Array.size h, 0, none⟩) l7_ 0 = some h6_ ∧ ∃ v8_, ldv false 1 h6_ (Addr.add a3 3) = some v8_ ∧ ∃ A9_, ∃ n9_, ∃ c9_, v8_ = (Value.slice A9_ n9_ c9_) ∧ f70.l0 R A0 n0 c0 (⟨Array.size h, 0, none⟩) A9_ n9_ c9_ ((n9_ : Nat) : Int) (0 : Int) h6_
set_option maxRecDepth 100000 in
theorem f70.j0_in {R : Value → Heap → Prop} {A0 : Option Addr} {n0 : Nat} {c0 : Nat} {a3 : Addr} {x9 : Int} {h : Heap} (H : f70.j0T R A0 n0 c0 a3 x9 h) : f70.j0 R A0 n0 c0 a3 x9 h :=
  pt_intro mixed f70.good (Eq.mpr (show (Fwd Try.prog f70.T f70.kp Try.f70 R [true, true, true, true] (mkFr [(0, (Value.slice A0 n0 c0)), (3, (Value.pointer (some a3))), (9, (Value.int .i64 x9))]) h) = (f70.j0T R A0 n0 c0 a3 x9 h) by kernel_rfl) H)
set_option maxRecDepth 100000 in
def f70.l0T (R : Value → Heap → Prop) (A0 : Option Addr) (n0 : Nat) (c0 : Nat) (a10 : Addr) (A52 : Option Addr) (n52 : Nat) (c52 : Nat) (x53 : Int) (x54 : Int) (h : Heap) : Prop :=
  splitB (decide (x54 < x53)) (ptrOk A52 fun a1_ => 0 ≤ x54 ∧ x54 < ((n52 : Nat) : Int) ∧ (∃ v2_, ldv true 4 h (Addr.add a1_ (Int.toNat x54 * 4)) = some v2_ ∧ newH h (Obj.cells #[(Value.int .i64 (0 : Int)), (Value.int .i64 (0 : Int)), (Value.string (ByteArray.mk #[])), (Value.slice none 0 0)] 137) fun h3_ => ∃ l5_ : List Value, v2_ = Value.agg l5_.toArray ∧ l5_.length = 4 ∧ ∃ h4_, stH h3_ (⟨Array.size h, 0, none⟩) l5_ 0 = some h4_ ∧ ∃ v6_, ldv true 4 h4_ (⟨Array.size h, 0, none⟩) = some v6_ ∧ Run Try.prog 70 #[(Value.slice A0 n0 c0), v6_] h4_ fun v7_ h8_ => ∃ A9_, ∃ n9_, ∃ c9_, ∃ x10_, ∃ x11_, v7_ = (Value.tuple #[(Value.slice A9_ n9_ c9_), (Value.int .u64 x10_), (Value.int .i64 x11_)]) ∧ splitB (x11_ != (0 : Int)) (R (Value.tuple #[(Value.slice none 0 0), (Value.int .u64 (0 : Int)), (Value.int .i64 x11_)]) h8_) (∃ v12_, ldv false 1 h8_ (Addr.add a10 4) = some v12_ ∧ ∃ A13_, ∃ n13_, ∃ c13_, v12_ = (Value.slice A13_ n13_ c13_) ∧ newH h8_ (Obj.cells #[(Value.int .u64 x10_)] 98) fun h14_ => AppW 98 1 8 #[(Value.int .u64 (0 : Int))] A13_ n13_ c13_ (Value.slice (some ⟨Array.size h8_, 0, none⟩) 1 1) h14_ fun v15_ h16_ => ∃ A17_, ∃ n17_, ∃ c17_, v15_ = (Value.slice A17_ n17_ c17_) ∧ ∃ h18_, st1 h16_ (Addr.add a10 4) (Value.slice A17_ n17_ c17_) = some h18_ ∧ f70.l0 R A9_ n9_ c9_ a10 A52 n52 c52 x53 (IntKind.wrap .i64 (x54 + (1 : Int))) h18_))) (∃ v19_, ldv true 5 h a10 = some v19_ ∧ Run Try.prog 122 #[v19_] h fun v20_ h21_ => ∃ b22_, v20_ = (Value.bool b22_) ∧ splitB (!b22_) (R (Value.tuple #[(Value.slice none 0 0), (Value.int .u64 (0 : Int)), (Value.int .i64 (1 : Int))]) h21_) (∃ v23_, ldv true 5 h21_ a10 = some v23_ ∧ Run Try.prog 104 #[v23_] h21_ fun v24_ h25_ => ∃ A26_, ∃ n26_, ∃ c26_, v24_ = (Value.slice A26_ n26_ c26_) ∧ splitB (decide ((IntKind.wrap .i64 (((n0 : Nat) : Int) + ((n26_ : Nat) : Int))) > (4000 : Int))) (R (Value.tuple #[(Value.slice none 0 0), (Value.int .u64 (0 : Int)), (Value.int .i64 (6 : Int))]) h25_) (AppW 98 1 8 #[(Value.int .u64 (0 : Int))] none 0 0 (Value.slice A0 n0 c0) h25_ fun v27_ h28_ => ∃ A29_, ∃ n29_, ∃ c29_, v27_ = (Value.slice A29_ n29_ c29_) ∧ AppW 98 1 8 #[(Value.int .u64 (0 : Int))] A29_ n29_ c29_ (Value.slice A26_ n26_ c26_) h28_ fun v30_ h31_ => ∃ A32_, ∃ n32_, ∃ c32_, v30_ = (Value.slice A32_ n32_ c32_) ∧ Run Try.prog 106 #[(Value.int .i64 (4 : Int)), (Value.int .i64 ((n0 : Nat) : Int))] h31_ fun v33_ h34_ => ∃ x35_, v33_ = (Value.int .u64 x35_) ∧ R (Value.tuple #[(Value.slice A32_ n32_ c32_), (Value.int .u64 x35_), (Value.int .i64 (0 : Int))]) h34_)))
set_option maxRecDepth 100000 in
theorem f70.l0_in {R : Value → Heap → Prop} {A0 : Option Addr} {n0 : Nat} {c0 : Nat} {a10 : Addr} {A52 : Option Addr} {n52 : Nat} {c52 : Nat} {x53 : Int} {x54 : Int} {h : Heap} (H : f70.l0T R A0 n0 c0 a10 A52 n52 c52 x53 x54 h) : f70.l0 R A0 n0 c0 a10 A52 n52 c52 x53 x54 h :=
  pt_intro mixed f70.good (Eq.mpr (show (Fwd Try.prog f70.T f70.kp Try.f70 R [false, false, true, false, true, true, true, true, true] (mkFr [(0, (Value.slice A0 n0 c0)), (10, (Value.pointer (some a10))), (52, (Value.slice A52 n52 c52)), (53, (Value.int .i64 x53)), (54, (Value.int .i64 x54))]) h) = (f70.l0T R A0 n0 c0 a10 A52 n52 c52 x53 x54 h) by kernel_rfl) H)
set_option maxRecDepth 100000 in
def f70.runT (R : Value → Heap → Prop) (A0 : Option Addr) (n0 : Nat) (c0 : Nat) (v1 : Value) (h : Heap) : Prop :=
  newH h (Obj.cells ((v1).cells) 137) fun h1_ => ∃ v2_, ldv true 4 h1_ (⟨Array.size h, 0, none⟩) = some v2_ ∧ Run Try.prog 121 #[v2_] h1_ fun v3_ h4_ => ∃ x5_, ∃ b6_, v3_ = (Value.tuple #[(Value.int .u64 x5_), (Value.bool b6_)]) ∧ splitB b6_ (R (Value.tuple #[(Value.slice A0 n0 c0), (Value.int .u64 x5_), (Value.int .i64 (0 : Int))]) h4_) (Gen Try.prog (Instr.makeMap 187 none) h4_ fun v7_ h8_ => Hwp Try.prog (Instr.mapUpdate 187 v7_ (Value.int .i64 (2 : Int)) (Value.int .i64 (1 : Int))) h8_ fun _ h9_ => Hwp Try.prog (Instr.mapUpdate 187 v7_ (Value.int .i64 (4 : Int)) (Value.int .i64 (2 : Int))) h9_ fun _ h10_ => Hwp Try.prog (Instr.mapUpdate 187 v7_ (Value.int .i64 (5 : Int)) (Value.int .i64 (3 : Int))) h10_ fun _ h11_ => Hwp Try.prog (Instr.mapUpdate 187 v7_ (Value.int .i64 (7 : Int)) (Value.int .i64 (4 : Int))) h11_ fun _ h12_ => Hwp Try.prog (Instr.mapUpdate 187 v7_ (Value.int .i64 (8 : Int)) (Value.int .i64 (5 : Int))) h12_ fun _ h13_ => ∃ v14_, ldv false 1 h13_ (⟨Array.size h, 0, none⟩) = some v14_ ∧ ∃ x15_, v14_ = (Value.int .i64 x15_) ∧ Gen Try.prog (Instr.lookup 187 v7_ (Value.int .i64 x15_) false) h13_ fun v16_ h17_ => ∃ x18_, v16_ = (Value.int .i64 x18_) ∧ splitB (x18_ == (0 : Int)) (f70.j1 R A0 n0 c0 (⟨Array.size h, 0, none⟩) x18_ true h17_) (∃ v19_, ldv false 1 h17_ (Addr.add (⟨Array.size h, 0, none⟩) 1) = some v19_ ∧ ∃ x20_, v19_ = (Value.int .i64 x20_) ∧ splitB (x20_ != (0 : Int)) (splitB (x18_ != (1 : Int)) (f70.j1 R A0 n0 c0 (⟨Array.size h, 0, none⟩) x18_ (x18_ != (4 : Int)) h17_) (f70.j1 R A0 n0 c0 (⟨Array.size h, 0, none⟩) x18_ false h17_)) (f70.j1 R A0 n0 c0 (⟨Array.size h, 0, none⟩) x18_ false h17_)))
set_option maxRecDepth 100000 in
theorem f70.run {R : Value → Heap → Prop} {A0 : Option Addr} {n0 : Nat} {c0 : Nat} {v1 : Value} {h : Heap} (H : f70.runT R A0 n0 c0 v1 h) : Run Try.prog 70 #[(Value.slice A0 n0 c0), v1] h R :=
  run_of mixed Try.func70 (by kernel_rfl) (by kernel_rfl) f70.good (Eq.mpr (show (Fwd Try.prog f70.T f70.kp Try.f70 R [] (mkFr (argL [(Value.slice A0 n0 c0), v1] 0)) h) = (f70.runT R A0 n0 c0 v1 h) by kernel_rfl) H)

/-! ### roadstead/roadlaw3.HeapBuilds: function 8 -/
def f8.T : Tab := { sh := tSh, tup := tTup, keep := [], plan := [] }
def f8.kp : Keep := [([true, true], [0, 2, 4]), ([true, true, true, true, true, true, true], [0, 4, 7, 8, 9])]
theorem f8.good : goodCode Try.prog f8.T (rootOf Try.f8) = true := by kernel_rfl
set_option maxRecDepth 100000 in
theorem f8.ok : calleeOk Try.prog 8 = true := by kernel_rfl
def f8.j0 (R : Value → Heap → Prop) (A0 : Option Addr) (n0 : Nat) (c0 : Nat) (x2 : Int) (a4 : Addr) (h : Heap) : Prop := Pt Try.prog Try.f8 R [true, true] (mkFr [(0, (Value.slice A0 n0 c0)), (2, (Value.int .u64 x2)), (4, (Value.pointer (some a4)))]) h
def f8.j1 (R : Value → Heap → Prop) (A0 : Option Addr) (n0 : Nat) (c0 : Nat) (a4 : Addr) (A7 : Option Addr) (n7 : Nat) (c7 : Nat) (x8 : Int) (x9 : Int) (h : Heap) : Prop := Pt Try.prog Try.f8 R [true, true, true, true, true, true, true] (mkFr [(0, (Value.slice A0 n0 c0)), (4, (Value.pointer (some a4))), (7, (Value.slice A7 n7 c7)), (8, (Value.int .u64 x8)), (9, (Value.int .i64 x9))]) h
set_option maxRecDepth 100000 in
def f8.j0T (R : Value → Heap → Prop) (A0 : Option Addr) (n0 : Nat) (c0 : Nat) (x2 : Int) (a4 : Addr) (h : Heap) : Prop :=
  ∃ v1_, ldv true 4 h a4 = some v1_ ∧ Run Try.prog 66 #[(Value.slice A0 n0 c0), v1_] h fun v2_ h3_ => ∃ A4_, ∃ n4_, ∃ c4_, ∃ x5_, ∃ x6_, v2_ = (Value.tuple #[(Value.slice A4_ n4_ c4_), (Value.int .u64 x5_), (Value.int .i64 x6_)]) ∧ Run Try.prog 67 #[(Value.slice A0 n0 c0), (Value.int .u64 x2)] h3_ fun v7_ h8_ => ∃ v9_, ∃ x10_, v7_ = (Value.tuple #[v9_, (Value.int .i64 x10_)]) ∧ newH h8_ (Obj.cells #[(Value.int .i64 (0 : Int)), (Value.int .i64 (0 : Int)), (Value.string (ByteArray.mk #[])), (Value.slice none 0 0)] 137) fun h11_ => ∃ l13_ : List Value, v9_ = Value.agg l13_.toArray ∧ l13_.length = 4 ∧ ∃ h12_, stH h11_ (⟨Array.size h8_, 0, none⟩) l13_ 0 = some h12_ ∧ newH h12_ (Obj.cells #[(Value.int .i64 (0 : Int))] 3) fun h14_ => ∃ h15_, st1 h14_ (⟨Array.size h12_, 0, none⟩) (Value.int .i64 (400 : Int)) = some h15_ ∧ Run Try.prog 68 #[(Value.slice A0 n0 c0), (Value.int .u64 x2), (Value.int .i64 (1 : Int)), (Value.pointer (some ⟨Array.size h12_, 0, none⟩))] h15_ fun v16_ h17_ => ∃ v18_, ∃ x19_, v16_ = (Value.tuple #[v18_, (Value.int .i64 x19_)]) ∧ newH h17_ (Obj.cells #[(Value.int .i64 (0 : Int)), (Value.int .i64 (0 : Int)), (Value.string (ByteArray.mk #[])), (Value.slice none 0 0)] 137) fun h20_ => ∃ l22_ : List Value, v18_ = Value.agg l22_.toArray ∧ l22_.length = 4 ∧ ∃ h21_, stH h20_ (⟨Array.size h17_, 0, none⟩) l22_ 0 = some h21_ ∧ ∃ v23_, ldv true 4 h21_ (⟨Array.size h8_, 0, none⟩) = some v23_ ∧ ∃ v24_, ldv true 4 h21_ (⟨Array.size h17_, 0, none⟩) = some v24_ ∧ Run Try.prog 69 #[v23_, v24_] h21_ fun v25_ h26_ => ∃ b27_, v25_ = (Value.bool b27_) ∧ splitB (!b27_) (R (Value.bool false) h26_) (splitB (x10_ != x19_) (R (Value.bool false) h26_) (f8.j1 R A0 n0 c0 a4 A4_ n4_ c4_ x5_ x6_ h26_))
set_option maxRecDepth 100000 in
theorem f8.j0_in {R : Value → Heap → Prop} {A0 : Option Addr} {n0 : Nat} {c0 : Nat} {x2 : Int} {a4 : Addr} {h : Heap} (H : f8.j0T R A0 n0 c0 x2 a4 h) : f8.j0 R A0 n0 c0 x2 a4 h :=
  pt_intro mixed f8.good (Eq.mpr (show (Fwd Try.prog f8.T f8.kp Try.f8 R [true, true] (mkFr [(0, (Value.slice A0 n0 c0)), (2, (Value.int .u64 x2)), (4, (Value.pointer (some a4)))]) h) = (f8.j0T R A0 n0 c0 x2 a4 h) by kernel_rfl) H)
set_option maxRecDepth 100000 in
def f8.j1T (R : Value → Heap → Prop) (A0 : Option Addr) (n0 : Nat) (c0 : Nat) (a4 : Addr) (A7 : Option Addr) (n7 : Nat) (c7 : Nat) (x8 : Int) (x9 : Int) (h : Heap) : Prop :=
  ∃ v1_, ldv true 4 h a4 = some v1_ ∧ Run Try.prog 70 #[(Value.slice A0 n0 c0), v1_] h fun v2_ h3_ => ∃ A4_, ∃ n4_, ∃ c4_, ∃ x5_, ∃ x6_, v2_ = (Value.tuple #[(Value.slice A4_ n4_ c4_), (Value.int .u64 x5_), (Value.int .i64 x6_)]) ∧ splitB (x6_ != (0 : Int)) (splitB (((n7 : Nat) : Int) == (0 : Int)) (splitB (x8 == (0 : Int)) (R (Value.bool (x9 == x6_)) h3_) (R (Value.bool false) h3_)) (R (Value.bool false) h3_)) (Run Try.prog 54 #[(Value.slice A7 n7 c7), (Value.slice A4_ n4_ c4_)] h3_ fun v7_ h8_ => ∃ b9_, v7_ = (Value.bool b9_) ∧ splitB b9_ (splitB (x8 == x5_) (R (Value.bool (x9 == (0 : Int))) h8_) (R (Value.bool false) h8_)) (R (Value.bool false) h8_))
set_option maxRecDepth 100000 in
theorem f8.j1_in {R : Value → Heap → Prop} {A0 : Option Addr} {n0 : Nat} {c0 : Nat} {a4 : Addr} {A7 : Option Addr} {n7 : Nat} {c7 : Nat} {x8 : Int} {x9 : Int} {h : Heap} (H : f8.j1T R A0 n0 c0 a4 A7 n7 c7 x8 x9 h) : f8.j1 R A0 n0 c0 a4 A7 n7 c7 x8 x9 h :=
  pt_intro mixed f8.good (Eq.mpr (show (Fwd Try.prog f8.T f8.kp Try.f8 R [true, true, true, true, true, true, true] (mkFr [(0, (Value.slice A0 n0 c0)), (4, (Value.pointer (some a4))), (7, (Value.slice A7 n7 c7)), (8, (Value.int .u64 x8)), (9, (Value.int .i64 x9))]) h) = (f8.j1T R A0 n0 c0 a4 A7 n7 c7 x8 x9 h) by kernel_rfl) H)
set_option maxRecDepth 100000 in
def f8.runT (R : Value → Heap → Prop) (A0 : Option Addr) (n0 : Nat) (c0 : Nat) (v1 : Value) (x2 : Int) (h : Heap) : Prop :=
  newH h (Obj.cells ((v1).cells) 137) fun h1_ => ∃ v2_, ldv true 4 h1_ (⟨Array.size h, 0, none⟩) = some v2_ ∧ Run Try.prog 65 #[v2_] h1_ fun v3_ h4_ => ∃ b5_, v3_ = (Value.bool b5_) ∧ splitB (!b5_) (R (Value.bool true) h4_) (splitB (decide (((n0 : Nat) : Int) > (4000 : Int))) (R (Value.bool true) h4_) (f8.j0 R A0 n0 c0 x2 (⟨Array.size h, 0, none⟩) h4_))
set_option maxRecDepth 100000 in
theorem f8.run {R : Value → Heap → Prop} {A0 : Option Addr} {n0 : Nat} {c0 : Nat} {v1 : Value} {x2 : Int} {h : Heap} (H : f8.runT R A0 n0 c0 v1 x2 h) : Run Try.prog 8 #[(Value.slice A0 n0 c0), v1, (Value.int .u64 x2)] h R :=
  run_of mixed Try.func8 (by kernel_rfl) (by kernel_rfl) f8.good (Eq.mpr (show (Fwd Try.prog f8.T f8.kp Try.f8 R [] (mkFr (argL [(Value.slice A0 n0 c0), v1, (Value.int .u64 x2)] 0)) h) = (f8.runT R A0 n0 c0 v1 x2 h) by kernel_rfl) H)

end Go.Proofs.Ytilmfjdagnbbaab.Fw
