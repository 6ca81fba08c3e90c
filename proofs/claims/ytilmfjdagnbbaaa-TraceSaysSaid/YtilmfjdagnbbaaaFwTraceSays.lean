/- The forward texts of functions of the given program, each with its proof by the kernel. Printed by a program of this session. -/
import Derived.Test.YtilmfjdagnbbaaaHwT
namespace Go.Proofs.Ytilmfjdagnbbaaa.Fw
open Go Go.Hw Go.Proofs
set_option linter.unusedVariables false

/-! ### roadstead/roadlaw4.two: function 22 -/
def f22.T : Tab := { sh := tSh, tup := tTup, keep := [], plan := [] }
def f22.kp : Keep := []
theorem f22.good : goodCode Try.prog f22.T (rootOf Try.f22) = true := by kernel_rfl
set_option maxRecDepth 100000 in
theorem f22.ok : calleeOk Try.prog 22 = true := by kernel_rfl
set_option maxRecDepth 100000 in
def f22.runT (R : Value → Heap → Prop)  (h : Heap) : Prop :=
  ∃ l1_ : List Value, (Value.agg #[(Value.int .i64 (0 : Int)), (Value.int .i64 (2 : Int)), (Value.int .i64 (5 : Int))]) = Value.agg l1_.toArray ∧ l1_.length = 3 ∧ (∃ l2_ : List Value, (Value.agg #[(Value.int .i64 (1 : Int)), (Value.int .i64 (3 : Int)), (Value.int .i64 (5 : Int))]) = Value.agg l2_.toArray ∧ l2_.length = 3 ∧ (newH h (Obj.cells ((List.take 3 (List.take 0 ([(Value.int .i64 (0 : Int)), (Value.int .i64 (0 : Int)), (Value.int .i64 (0 : Int)), (Value.int .i64 (0 : Int)), (Value.int .i64 (0 : Int)), (Value.int .i64 (0 : Int))]) ++ l1_ ++ List.drop 3 ([(Value.int .i64 (0 : Int)), (Value.int .i64 (0 : Int)), (Value.int .i64 (0 : Int)), (Value.int .i64 (0 : Int)), (Value.int .i64 (0 : Int)), (Value.int .i64 (0 : Int))])) ++ l2_ ++ List.drop 6 (List.take 0 ([(Value.int .i64 (0 : Int)), (Value.int .i64 (0 : Int)), (Value.int .i64 (0 : Int)), (Value.int .i64 (0 : Int)), (Value.int .i64 (0 : Int)), (Value.int .i64 (0 : Int))]) ++ l1_ ++ List.drop 3 ([(Value.int .i64 (0 : Int)), (Value.int .i64 (0 : Int)), (Value.int .i64 (0 : Int)), (Value.int .i64 (0 : Int)), (Value.int .i64 (0 : Int)), (Value.int .i64 (0 : Int))]))).toArray) 83) fun h3_ => R (Value.slice (some ⟨Array.size h, 0, none⟩) 2 2) h3_))
set_option maxRecDepth 100000 in
theorem f22.run {R : Value → Heap → Prop}  {h : Heap} (H : f22.runT R  h) : Run Try.prog 22 #[] h R :=
  run_of mixed Try.func22 (by kernel_rfl) (by kernel_rfl) f22.good (Eq.mpr (show (Fwd Try.prog f22.T f22.kp Try.f22 R [] (mkFr (argL [] 0)) h) = (f22.runT R  h) by kernel_rfl) H)

/-! ### slices.IndexFunc[[]roadstead/api.Event,roadstead/api.Event]: function 138 -/
def f138.T : Tab := { sh := tSh, tup := tTup, keep := [], plan := [] }
def f138.kp : Keep := [([false, false, true, false, true], [0, 1, 7, 8])]
theorem f138.good : goodCode Try.prog f138.T (rootOf Try.f138) = true := by kernel_rfl
set_option maxRecDepth 100000 in
theorem f138.ok : calleeOk Try.prog 138 = true := by kernel_rfl
def f138.l0 (R : Value → Heap → Prop) (A0 : Option Addr) (n0 : Nat) (c0 : Nat) (v1 : Value) (x7 : Int) (x8 : Int) (h : Heap) : Prop := Pt Try.prog Try.f138 R [false, false, true, false, true] (mkFr [(0, (Value.slice A0 n0 c0)), (1, v1), (7, (Value.int .i64 x7)), (8, (Value.int .i64 x8))]) h
set_option maxRecDepth 100000 in
def f138.l0T (R : Value → Heap → Prop) (A0 : Option Addr) (n0 : Nat) (c0 : Nat) (v1 : Value) (x7 : Int) (x8 : Int) (h : Heap) : Prop :=
  splitB (decide (x8 < x7)) (ptrOk A0 fun a1_ => 0 ≤ x8 ∧ x8 < ((n0 : Nat) : Int) ∧ (∃ v2_, ldv true 3 h (Addr.add a1_ (Int.toNat x8 * 3)) = some v2_ ∧ CallF Try.prog v1 [v2_] h fun v3_ h4_ => ∃ b5_, v3_ = (Value.bool b5_) ∧ splitB b5_ (R (Value.int .i64 x8) h4_) (f138.l0 R A0 n0 c0 v1 x7 (IntKind.wrap .i64 (x8 + (1 : Int))) h4_))) (R (Value.int .i64 (-1 : Int)) h)
set_option maxRecDepth 100000 in
theorem f138.l0_in {R : Value → Heap → Prop} {A0 : Option Addr} {n0 : Nat} {c0 : Nat} {v1 : Value} {x7 : Int} {x8 : Int} {h : Heap} (H : f138.l0T R A0 n0 c0 v1 x7 x8 h) : f138.l0 R A0 n0 c0 v1 x7 x8 h :=
  pt_intro mixed f138.good (Eq.mpr (show (Fwd Try.prog f138.T f138.kp Try.f138 R [false, false, true, false, true] (mkFr [(0, (Value.slice A0 n0 c0)), (1, v1), (7, (Value.int .i64 x7)), (8, (Value.int .i64 x8))]) h) = (f138.l0T R A0 n0 c0 v1 x7 x8 h) by kernel_rfl) H)
set_option maxRecDepth 100000 in
def f138.runT (R : Value → Heap → Prop) (A0 : Option Addr) (n0 : Nat) (c0 : Nat) (v1 : Value) (h : Heap) : Prop :=
  f138.l0 R A0 n0 c0 v1 ((n0 : Nat) : Int) (0 : Int) h
set_option maxRecDepth 100000 in
theorem f138.run {R : Value → Heap → Prop} {A0 : Option Addr} {n0 : Nat} {c0 : Nat} {v1 : Value} {h : Heap} (H : f138.runT R A0 n0 c0 v1 h) : Run Try.prog 138 #[(Value.slice A0 n0 c0), v1] h R :=
  run_of mixed Try.func138 (by kernel_rfl) (by kernel_rfl) f138.good (Eq.mpr (show (Fwd Try.prog f138.T f138.kp Try.f138 R [] (mkFr (argL [(Value.slice A0 n0 c0), v1] 0)) h) = (f138.runT R A0 n0 c0 v1 h) by kernel_rfl) H)

/-! ### slices.ContainsFunc[[]roadstead/api.Event,roadstead/api.Event]: function 97 -/
def f97.T : Tab := { sh := tSh, tup := tTup, keep := [], plan := [] }
def f97.kp : Keep := []
theorem f97.good : goodCode Try.prog f97.T (rootOf Try.f97) = true := by kernel_rfl
set_option maxRecDepth 100000 in
theorem f97.ok : calleeOk Try.prog 97 = true := by kernel_rfl
set_option maxRecDepth 100000 in
def f97.runT (R : Value → Heap → Prop) (A0 : Option Addr) (n0 : Nat) (c0 : Nat) (v1 : Value) (h : Heap) : Prop :=
  Run Try.prog 138 #[(Value.slice A0 n0 c0), v1] h fun v1_ h2_ => ∃ x3_, v1_ = (Value.int .i64 x3_) ∧ R (Value.bool (decide (x3_ ≥ (0 : Int)))) h2_
set_option maxRecDepth 100000 in
theorem f97.run {R : Value → Heap → Prop} {A0 : Option Addr} {n0 : Nat} {c0 : Nat} {v1 : Value} {h : Heap} (H : f97.runT R A0 n0 c0 v1 h) : Run Try.prog 97 #[(Value.slice A0 n0 c0), v1] h R :=
  run_of mixed Try.func97 (by kernel_rfl) (by kernel_rfl) f97.good (Eq.mpr (show (Fwd Try.prog f97.T f97.kp Try.f97 R [] (mkFr (argL [(Value.slice A0 n0 c0), v1] 0)) h) = (f97.runT R A0 n0 c0 v1 h) by kernel_rfl) H)

/-! ### roadstead/roadref4.History$1$1: function 98 -/
def f98.T : Tab := { sh := tSh, tup := tTup, keep := [], plan := [] }
def f98.kp : Keep := []
theorem f98.good : goodCode Try.prog f98.T (rootOf Try.f98) = true := by kernel_rfl
set_option maxRecDepth 100000 in
theorem f98.ok : calleeOk Try.prog 98 = true := by kernel_rfl
set_option maxRecDepth 100000 in
def f98.runT (R : Value → Heap → Prop) (v0 : Value) (a1 : Addr) (a2 : Addr) (h : Heap) : Prop :=
  newH h (Obj.cells ((v0).cells) 83) fun h1_ => ∃ v2_, ldv false 1 h1_ (Addr.add (⟨Array.size h, 0, none⟩) 1) = some v2_ ∧ ∃ x3_, v2_ = (Value.int .i64 x3_) ∧ ∃ v4_, ldv false 1 h1_ a1 = some v4_ ∧ ∃ x5_, v4_ = (Value.int .i64 x5_) ∧ splitB (x3_ == x5_) (∃ v6_, ldv false 1 h1_ (Addr.add (⟨Array.size h, 0, none⟩) 2) = some v6_ ∧ ∃ x7_, v6_ = (Value.int .i64 x7_) ∧ ∃ v8_, ldv false 1 h1_ (Addr.add a2 2) = some v8_ ∧ ∃ x9_, v8_ = (Value.int .i64 x9_) ∧ R (Value.bool (x7_ == x9_)) h1_) (R (Value.bool false) h1_)
set_option maxRecDepth 100000 in
theorem f98.run {R : Value → Heap → Prop} {v0 : Value} {a1 : Addr} {a2 : Addr} {h : Heap} (H : f98.runT R v0 a1 a2 h) : Run Try.prog 98 #[v0, (Value.pointer (some a1)), (Value.pointer (some a2))] h R :=
  run_of mixed Try.func98 (by kernel_rfl) (by kernel_rfl) f98.good (Eq.mpr (show (Fwd Try.prog f98.T f98.kp Try.f98 R [] (mkFr (argL [v0, (Value.pointer (some a1)), (Value.pointer (some a2))] 0)) h) = (f98.runT R v0 a1 a2 h) by kernel_rfl) H)

/-! ### roadstead/roadref4.History$1: function 96 -/
def f96.T : Tab := { sh := tSh, tup := tTup, keep := [], plan := [] }
def f96.kp : Keep := []
theorem f96.good : goodCode Try.prog f96.T (rootOf Try.f96) = true := by kernel_rfl
set_option maxRecDepth 100000 in
theorem f96.ok : calleeOk Try.prog 96 = true := by kernel_rfl
set_option maxRecDepth 100000 in
def f96.runT (R : Value → Heap → Prop) (x0 : Int) (a1 : Addr) (a2 : Addr) (a3 : Addr) (h : Heap) : Prop :=
  newH h (Obj.cells #[(Value.int .i64 x0)] 3) fun h1_ => ∃ v2_, ldv false 1 h1_ a1 = some v2_ ∧ ∃ A3_, ∃ n3_, ∃ c3_, v2_ = (Value.slice A3_ n3_ c3_) ∧ ∃ v4_, ldv false 1 h1_ a2 = some v4_ ∧ ∃ x5_, v4_ = (Value.int .i64 x5_) ∧ 0 ≤ (0 : Int) ∧ (0 : Int) ≤ x5_ ∧ x5_ ≤ ((c3_ : Nat) : Int) ∧ (Run Try.prog 97 #[(Value.slice (sliceA A3_ (Int.toNat (0 : Int)) c3_ 3) (Int.toNat x5_ - Int.toNat (0 : Int)) (c3_ - Int.toNat (0 : Int))), (Value.func (.func 98) #[] #[(Value.pointer (some ⟨Array.size h, 0, none⟩)), (Value.pointer (some a3))])] h1_ fun v6_ h7_ => ∃ b8_, v6_ = (Value.bool b8_) ∧ R (Value.bool b8_) h7_)
set_option maxRecDepth 100000 in
theorem f96.run {R : Value → Heap → Prop} {x0 : Int} {a1 : Addr} {a2 : Addr} {a3 : Addr} {h : Heap} (H : f96.runT R x0 a1 a2 a3 h) : Run Try.prog 96 #[(Value.int .i64 x0), (Value.pointer (some a1)), (Value.pointer (some a2)), (Value.pointer (some a3))] h R :=
  run_of mixed Try.func96 (by kernel_rfl) (by kernel_rfl) f96.good (Eq.mpr (show (Fwd Try.prog f96.T f96.kp Try.f96 R [] (mkFr (argL [(Value.int .i64 x0), (Value.pointer (some a1)), (Value.pointer (some a2)), (Value.pointer (some a3))] 0)) h) = (f96.runT R x0 a1 a2 a3 h) by kernel_rfl) H)

/-! ### roadstead/roadref4.within: function 99 -/
def f99.T : Tab := { sh := tSh, tup := tTup, keep := [], plan := [] }
def f99.kp : Keep := []
theorem f99.good : goodCode Try.prog f99.T (rootOf Try.f99) = true := by kernel_rfl
set_option maxRecDepth 100000 in
theorem f99.ok : calleeOk Try.prog 99 = true := by kernel_rfl
set_option maxRecDepth 100000 in
def f99.runT (R : Value → Heap → Prop) (x0 : Int) (x1 : Int) (x2 : Int) (h : Heap) : Prop :=
  splitB (decide (x0 ≥ x1)) (R (Value.bool (decide (x0 ≤ x2))) h) (R (Value.bool false) h)
set_option maxRecDepth 100000 in
theorem f99.run {R : Value → Heap → Prop} {x0 : Int} {x1 : Int} {x2 : Int} {h : Heap} (H : f99.runT R x0 x1 x2 h) : Run Try.prog 99 #[(Value.int .i64 x0), (Value.int .i64 x1), (Value.int .i64 x2)] h R :=
  run_of mixed Try.func99 (by kernel_rfl) (by kernel_rfl) f99.good (Eq.mpr (show (Fwd Try.prog f99.T f99.kp Try.f99 R [] (mkFr (argL [(Value.int .i64 x0), (Value.int .i64 x1), (Value.int .i64 x2)] 0)) h) = (f99.runT R x0 x1 x2 h) by kernel_rfl) H)

/-! ### roadstead/roadref4.History: function 23 -/
def f23.T : Tab := { sh := tSh, tup := tTup, keep := [], plan := [] }
def f23.kp : Keep := [([false, false, true, false, true, true], [1, 9, 10, 11]), ([true, true, true, false, true, true, false, false, true, true, false, false, true, false, true, true], [1, 4, 5, 9, 10, 11, 22]), ([true, true, true, true, true, false, true, true, false, false, true, true, false, false, true, false, true, true], [1, 4, 5, 9, 10, 11, 36]), ([true, true, true, true, true, true, true, false, true, true, false, false, true, true, false, false, true, false, true, true], [1, 4, 5, 9, 10, 11, 44])]
theorem f23.good : goodCode Try.prog f23.T (rootOf Try.f23) = true := by kernel_rfl
set_option maxRecDepth 100000 in
theorem f23.ok : calleeOk Try.prog 23 = true := by kernel_rfl
def f23.l0 (R : Value → Heap → Prop) (a1 : Addr) (A9 : Option Addr) (n9 : Nat) (c9 : Nat) (x10 : Int) (x11 : Int) (h : Heap) : Prop := Pt Try.prog Try.f23 R [false, false, true, false, true, true] (mkFr [(1, (Value.pointer (some a1))), (9, (Value.slice A9 n9 c9)), (10, (Value.int .i64 x10)), (11, (Value.int .i64 x11))]) h
def f23.j0 (R : Value → Heap → Prop) (a1 : Addr) (a4 : Addr) (a5_0 : Addr) (a5_1 : Addr) (a5_2 : Addr) (A9 : Option Addr) (n9 : Nat) (c9 : Nat) (x10 : Int) (x11 : Int) (b22 : Bool) (h : Heap) : Prop := Pt Try.prog Try.f23 R [true, true, true, false, true, true, false, false, true, true, false, false, true, false, true, true] (mkFr [(1, (Value.pointer (some a1))), (4, (Value.pointer (some a4))), (5, (Value.func (.func 96) #[] #[(Value.pointer (some a5_0)), (Value.pointer (some a5_1)), (Value.pointer (some a5_2))])), (9, (Value.slice A9 n9 c9)), (10, (Value.int .i64 x10)), (11, (Value.int .i64 x11)), (22, (Value.bool b22))]) h
def f23.j1 (R : Value → Heap → Prop) (a1 : Addr) (a4 : Addr) (a5_0 : Addr) (a5_1 : Addr) (a5_2 : Addr) (A9 : Option Addr) (n9 : Nat) (c9 : Nat) (x10 : Int) (x11 : Int) (b36 : Bool) (h : Heap) : Prop := Pt Try.prog Try.f23 R [true, true, true, true, true, false, true, true, false, false, true, true, false, false, true, false, true, true] (mkFr [(1, (Value.pointer (some a1))), (4, (Value.pointer (some a4))), (5, (Value.func (.func 96) #[] #[(Value.pointer (some a5_0)), (Value.pointer (some a5_1)), (Value.pointer (some a5_2))])), (9, (Value.slice A9 n9 c9)), (10, (Value.int .i64 x10)), (11, (Value.int .i64 x11)), (36, (Value.bool b36))]) h
def f23.j2 (R : Value → Heap → Prop) (a1 : Addr) (a4 : Addr) (a5_0 : Addr) (a5_1 : Addr) (a5_2 : Addr) (A9 : Option Addr) (n9 : Nat) (c9 : Nat) (x10 : Int) (x11 : Int) (b44 : Bool) (h : Heap) : Prop := Pt Try.prog Try.f23 R [true, true, true, true, true, true, true, false, true, true, false, false, true, true, false, false, true, false, true, true] (mkFr [(1, (Value.pointer (some a1))), (4, (Value.pointer (some a4))), (5, (Value.func (.func 96) #[] #[(Value.pointer (some a5_0)), (Value.pointer (some a5_1)), (Value.pointer (some a5_2))])), (9, (Value.slice A9 n9 c9)), (10, (Value.int .i64 x10)), (11, (Value.int .i64 x11)), (44, (Value.bool b44))]) h
set_option maxRecDepth 100000 in
def f23.l0T (R : Value → Heap → Prop) (a1 : Addr) (A9 : Option Addr) (n9 : Nat) (c9 : Nat) (x10 : Int) (x11 : Int) (h : Heap) : Prop :=
  splitB (decide (x11 < x10)) (ptrOk A9 fun a1_ => 0 ≤ x11 ∧ x11 < ((n9 : Nat) : Int) ∧ (∃ v2_, ldv true 3 h (Addr.add a1_ (Int.toNat x11 * 3)) = some v2_ ∧ newH h (Obj.cells #[(Value.int .i64 (0 : Int))] 3) fun h3_ => newH h3_ (Obj.cells #[(Value.int .i64 (0 : Int)), (Value.int .i64 (0 : Int)), (Value.int .i64 (0 : Int))] 83) fun h4_ => ∃ h5_, st1 h4_ (⟨Array.size h, 0, none⟩) (Value.int .i64 x11) = some h5_ ∧ ∃ l7_ : List Value, v2_ = Value.agg l7_.toArray ∧ l7_.length = 3 ∧ ∃ h6_, stH h5_ (⟨Array.size h3_, 0, none⟩) l7_ 0 = some h6_ ∧ ∃ v8_, ldv false 1 h6_ (Addr.add (⟨Array.size h3_, 0, none⟩) 1) = some v8_ ∧ ∃ x9_, v8_ = (Value.int .i64 x9_) ∧ Run Try.prog 99 #[(Value.int .i64 x9_), (Value.int .i64 (1 : Int)), (Value.int .i64 (3 : Int))] h6_ fun v10_ h11_ => ∃ b12_, v10_ = (Value.bool b12_) ∧ splitB (!b12_) (R (Value.int .i64 (3 : Int)) h11_) (∃ v13_, ldv false 1 h11_ (⟨Array.size h3_, 0, none⟩) = some v13_ ∧ ∃ x14_, v13_ = (Value.int .i64 x14_) ∧ Run Try.prog 99 #[(Value.int .i64 x14_), (Value.int .i64 (0 : Int)), (Value.int .i64 (7 : Int))] h11_ fun v15_ h16_ => ∃ b17_, v15_ = (Value.bool b17_) ∧ splitB (!b17_) (f23.j0 R a1 (⟨Array.size h3_, 0, none⟩) a1 (⟨Array.size h, 0, none⟩) (⟨Array.size h3_, 0, none⟩) A9 n9 c9 x10 x11 (!b17_) h16_) (∃ v18_, ldv false 1 h16_ (Addr.add (⟨Array.size h3_, 0, none⟩) 1) = some v18_ ∧ ∃ x19_, v18_ = (Value.int .i64 x19_) ∧ splitB (decide (x19_ > (1 : Int))) (∃ v20_, ldv false 1 h16_ (Addr.add (⟨Array.size h3_, 0, none⟩) 2) = some v20_ ∧ ∃ x21_, v20_ = (Value.int .i64 x21_) ∧ Run Try.prog 99 #[(Value.int .i64 x21_), (Value.int .i64 (0 : Int)), (Value.int .i64 (999 : Int))] h16_ fun v22_ h23_ => ∃ b24_, v22_ = (Value.bool b24_) ∧ f23.j0 R a1 (⟨Array.size h3_, 0, none⟩) a1 (⟨Array.size h, 0, none⟩) (⟨Array.size h3_, 0, none⟩) A9 n9 c9 x10 x11 (!b24_) h23_) (f23.j0 R a1 (⟨Array.size h3_, 0, none⟩) a1 (⟨Array.size h, 0, none⟩) (⟨Array.size h3_, 0, none⟩) A9 n9 c9 x10 x11 false h16_))))) (R (Value.int .i64 (0 : Int)) h)
set_option maxRecDepth 100000 in
theorem f23.l0_in {R : Value → Heap → Prop} {a1 : Addr} {A9 : Option Addr} {n9 : Nat} {c9 : Nat} {x10 : Int} {x11 : Int} {h : Heap} (H : f23.l0T R a1 A9 n9 c9 x10 x11 h) : f23.l0 R a1 A9 n9 c9 x10 x11 h :=
  pt_intro mixed f23.good (Eq.mpr (show (Fwd Try.prog f23.T f23.kp Try.f23 R [false, false, true, false, true, true] (mkFr [(1, (Value.pointer (some a1))), (9, (Value.slice A9 n9 c9)), (10, (Value.int .i64 x10)), (11, (Value.int .i64 x11))]) h) = (f23.l0T R a1 A9 n9 c9 x10 x11 h) by kernel_rfl) H)
set_option maxRecDepth 100000 in
def f23.j0T (R : Value → Heap → Prop) (a1 : Addr) (a4 : Addr) (a5_0 : Addr) (a5_1 : Addr) (a5_2 : Addr) (A9 : Option Addr) (n9 : Nat) (c9 : Nat) (x10 : Int) (x11 : Int) (b22 : Bool) (h : Heap) : Prop :=
  splitB b22 (R (Value.int .i64 (1 : Int)) h) (∃ v1_, ldv false 1 h (Addr.add a4 1) = some v1_ ∧ ∃ x2_, v1_ = (Value.int .i64 x2_) ∧ splitB (x2_ == (2 : Int)) (Run Try.prog 96 #[(Value.int .i64 (2 : Int)), (Value.pointer (some a5_0)), (Value.pointer (some a5_1)), (Value.pointer (some a5_2))] h fun v3_ h4_ => ∃ b5_, v3_ = (Value.bool b5_) ∧ f23.j1 R a1 a4 a5_0 a5_1 a5_2 A9 n9 c9 x10 x11 b5_ h4_) (f23.j1 R a1 a4 a5_0 a5_1 a5_2 A9 n9 c9 x10 x11 false h))
set_option maxRecDepth 100000 in
theorem f23.j0_in {R : Value → Heap → Prop} {a1 : Addr} {a4 : Addr} {a5_0 : Addr} {a5_1 : Addr} {a5_2 : Addr} {A9 : Option Addr} {n9 : Nat} {c9 : Nat} {x10 : Int} {x11 : Int} {b22 : Bool} {h : Heap} (H : f23.j0T R a1 a4 a5_0 a5_1 a5_2 A9 n9 c9 x10 x11 b22 h) : f23.j0 R a1 a4 a5_0 a5_1 a5_2 A9 n9 c9 x10 x11 b22 h :=
  pt_intro mixed f23.good (Eq.mpr (show (Fwd Try.prog f23.T f23.kp Try.f23 R [true, true, true, false, true, true, false, false, true, true, false, false, true, false, true, true] (mkFr [(1, (Value.pointer (some a1))), (4, (Value.pointer (some a4))), (5, (Value.func (.func 96) #[] #[(Value.pointer (some a5_0)), (Value.pointer (some a5_1)), (Value.pointer (some a5_2))])), (9, (Value.slice A9 n9 c9)), (10, (Value.int .i64 x10)), (11, (Value.int .i64 x11)), (22, (Value.bool b22))]) h) = (f23.j0T R a1 a4 a5_0 a5_1 a5_2 A9 n9 c9 x10 x11 b22 h) by kernel_rfl) H)
set_option maxRecDepth 100000 in
def f23.j1T (R : Value → Heap → Prop) (a1 : Addr) (a4 : Addr) (a5_0 : Addr) (a5_1 : Addr) (a5_2 : Addr) (A9 : Option Addr) (n9 : Nat) (c9 : Nat) (x10 : Int) (x11 : Int) (b36 : Bool) (h : Heap) : Prop :=
  splitB b36 (R (Value.int .i64 (5 : Int)) h) (∃ v1_, ldv false 1 h (Addr.add a4 1) = some v1_ ∧ ∃ x2_, v1_ = (Value.int .i64 x2_) ∧ splitB (x2_ == (3 : Int)) (Run Try.prog 96 #[(Value.int .i64 (2 : Int)), (Value.pointer (some a5_0)), (Value.pointer (some a5_1)), (Value.pointer (some a5_2))] h fun v3_ h4_ => ∃ b5_, v3_ = (Value.bool b5_) ∧ f23.j2 R a1 a4 a5_0 a5_1 a5_2 A9 n9 c9 x10 x11 (!b5_) h4_) (f23.j2 R a1 a4 a5_0 a5_1 a5_2 A9 n9 c9 x10 x11 false h))
set_option maxRecDepth 100000 in
theorem f23.j1_in {R : Value → Heap → Prop} {a1 : Addr} {a4 : Addr} {a5_0 : Addr} {a5_1 : Addr} {a5_2 : Addr} {A9 : Option Addr} {n9 : Nat} {c9 : Nat} {x10 : Int} {x11 : Int} {b36 : Bool} {h : Heap} (H : f23.j1T R a1 a4 a5_0 a5_1 a5_2 A9 n9 c9 x10 x11 b36 h) : f23.j1 R a1 a4 a5_0 a5_1 a5_2 A9 n9 c9 x10 x11 b36 h :=
  pt_intro mixed f23.good (Eq.mpr (show (Fwd Try.prog f23.T f23.kp Try.f23 R [true, true, true, true, true, false, true, true, false, false, true, true, false, false, true, false, true, true] (mkFr [(1, (Value.pointer (some a1))), (4, (Value.pointer (some a4))), (5, (Value.func (.func 96) #[] #[(Value.pointer (some a5_0)), (Value.pointer (some a5_1)), (Value.pointer (some a5_2))])), (9, (Value.slice A9 n9 c9)), (10, (Value.int .i64 x10)), (11, (Value.int .i64 x11)), (36, (Value.bool b36))]) h) = (f23.j1T R a1 a4 a5_0 a5_1 a5_2 A9 n9 c9 x10 x11 b36 h) by kernel_rfl) H)
set_option maxRecDepth 100000 in
def f23.j2T (R : Value → Heap → Prop) (a1 : Addr) (a4 : Addr) (a5_0 : Addr) (a5_1 : Addr) (a5_2 : Addr) (A9 : Option Addr) (n9 : Nat) (c9 : Nat) (x10 : Int) (x11 : Int) (b44 : Bool) (h : Heap) : Prop :=
  splitB b44 (R (Value.int .i64 (4 : Int)) h) (∃ v1_, ldv false 1 h (Addr.add a4 1) = some v1_ ∧ ∃ x2_, v1_ = (Value.int .i64 x2_) ∧ splitB (x2_ == (3 : Int)) (Run Try.prog 96 #[(Value.int .i64 (3 : Int)), (Value.pointer (some a5_0)), (Value.pointer (some a5_1)), (Value.pointer (some a5_2))] h fun v3_ h4_ => ∃ b5_, v3_ = (Value.bool b5_) ∧ splitB b5_ (R (Value.int .i64 (5 : Int)) h4_) (f23.l0 R a1 A9 n9 c9 x10 (IntKind.wrap .i64 (x11 + (1 : Int))) h4_)) (f23.l0 R a1 A9 n9 c9 x10 (IntKind.wrap .i64 (x11 + (1 : Int))) h))
set_option maxRecDepth 100000 in
theorem f23.j2_in {R : Value → Heap → Prop} {a1 : Addr} {a4 : Addr} {a5_0 : Addr} {a5_1 : Addr} {a5_2 : Addr} {A9 : Option Addr} {n9 : Nat} {c9 : Nat} {x10 : Int} {x11 : Int} {b44 : Bool} {h : Heap} (H : f23.j2T R a1 a4 a5_0 a5_1 a5_2 A9 n9 c9 x10 x11 b44 h) : f23.j2 R a1 a4 a5_0 a5_1 a5_2 A9 n9 c9 x10 x11 b44 h :=
  pt_intro mixed f23.good (Eq.mpr (show (Fwd Try.prog f23.T f23.kp Try.f23 R [true, true, true, true, true, true, true, false, true, true, false, false, true, true, false, false, true, false, true, true] (mkFr [(1, (Value.pointer (some a1))), (4, (Value.pointer (some a4))), (5, (Value.func (.func 96) #[] #[(Value.pointer (some a5_0)), (Value.pointer (some a5_1)), (Value.pointer (some a5_2))])), (9, (Value.slice A9 n9 c9)), (10, (Value.int .i64 x10)), (11, (Value.int .i64 x11)), (44, (Value.bool b44))]) h) = (f23.j2T R a1 a4 a5_0 a5_1 a5_2 A9 n9 c9 x10 x11 b44 h) by kernel_rfl) H)
set_option maxRecDepth 100000 in
def f23.runT (R : Value → Heap → Prop) (A0 : Option Addr) (n0 : Nat) (c0 : Nat) (h : Heap) : Prop :=
  newH h (Obj.cells #[(Value.slice A0 n0 c0)] 35) fun h1_ => ∃ v2_, ldv false 1 h1_ (⟨Array.size h, 0, none⟩) = some v2_ ∧ ∃ A3_, ∃ n3_, ∃ c3_, v2_ = (Value.slice A3_ n3_ c3_) ∧ splitB (decide (((n3_ : Nat) : Int) > (200 : Int))) (R (Value.int .i64 (2 : Int)) h1_) (∃ v4_, ldv false 1 h1_ (⟨Array.size h, 0, none⟩) = some v4_ ∧ ∃ A5_, ∃ n5_, ∃ c5_, v4_ = (Value.slice A5_ n5_ c5_) ∧ f23.l0 R (⟨Array.size h, 0, none⟩) A5_ n5_ c5_ ((n5_ : Nat) : Int) (0 : Int) h1_)
set_option maxRecDepth 100000 in
theorem f23.run {R : Value → Heap → Prop} {A0 : Option Addr} {n0 : Nat} {c0 : Nat} {h : Heap} (H : f23.runT R A0 n0 c0 h) : Run Try.prog 23 #[(Value.slice A0 n0 c0)] h R :=
  run_of mixed Try.func23 (by kernel_rfl) (by kernel_rfl) f23.good (Eq.mpr (show (Fwd Try.prog f23.T f23.kp Try.f23 R [] (mkFr (argL [(Value.slice A0 n0 c0)] 0)) h) = (f23.runT R A0 n0 c0 h) by kernel_rfl) H)

/-! ### roadstead/clock.Check: function 86 -/
def f86.T : Tab := { sh := tSh, tup := tTup, keep := [], plan := [] }
def f86.kp : Keep := [([false, false, true, false, true, true, true], [3, 4, 12, 13, 14]), ([true, true, false, false, true, true, false, false, true, false, true, true, true], [3, 4, 6, 12, 13, 14]), ([true, true, true, false, false, true, true, false, false, true, false, true, true, true], [3, 4, 6, 12, 13, 14])]
theorem f86.good : goodCode Try.prog f86.T (rootOf Try.f86) = true := by kernel_rfl
set_option maxRecDepth 100000 in
theorem f86.ok : calleeOk Try.prog 86 = true := by kernel_rfl
def f86.l0 (R : Value → Heap → Prop) (v3 : Value) (v4 : Value) (A12 : Option Addr) (n12 : Nat) (c12 : Nat) (x13 : Int) (x14 : Int) (h : Heap) : Prop := Pt Try.prog Try.f86 R [false, false, true, false, true, true, true] (mkFr [(3, v3), (4, v4), (12, (Value.slice A12 n12 c12)), (13, (Value.int .i64 x13)), (14, (Value.int .i64 x14))]) h
def f86.j0 (R : Value → Heap → Prop) (v3 : Value) (v4 : Value) (a6 : Addr) (A12 : Option Addr) (n12 : Nat) (c12 : Nat) (x13 : Int) (x14 : Int) (h : Heap) : Prop := Pt Try.prog Try.f86 R [true, true, false, false, true, true, false, false, true, false, true, true, true] (mkFr [(3, v3), (4, v4), (6, (Value.pointer (some a6))), (12, (Value.slice A12 n12 c12)), (13, (Value.int .i64 x13)), (14, (Value.int .i64 x14))]) h
def f86.j1 (R : Value → Heap → Prop) (v3 : Value) (v4 : Value) (a6 : Addr) (A12 : Option Addr) (n12 : Nat) (c12 : Nat) (x13 : Int) (x14 : Int) (h : Heap) : Prop := Pt Try.prog Try.f86 R [true, true, true, false, false, true, true, false, false, true, false, true, true, true] (mkFr [(3, v3), (4, v4), (6, (Value.pointer (some a6))), (12, (Value.slice A12 n12 c12)), (13, (Value.int .i64 x13)), (14, (Value.int .i64 x14))]) h
set_option maxRecDepth 100000 in
def f86.l0T (R : Value → Heap → Prop) (v3 : Value) (v4 : Value) (A12 : Option Addr) (n12 : Nat) (c12 : Nat) (x13 : Int) (x14 : Int) (h : Heap) : Prop :=
  splitB (decide (x14 < x13)) (ptrOk A12 fun a1_ => 0 ≤ x14 ∧ x14 < ((n12 : Nat) : Int) ∧ (∃ v2_, ldv true 3 h (Addr.add a1_ (Int.toNat x14 * 3)) = some v2_ ∧ newH h (Obj.cells #[(Value.int .i64 (0 : Int)), (Value.int .i64 (0 : Int)), (Value.int .i64 (0 : Int))] 83) fun h3_ => ∃ l5_ : List Value, v2_ = Value.agg l5_.toArray ∧ l5_.length = 3 ∧ ∃ h4_, stH h3_ (⟨Array.size h, 0, none⟩) l5_ 0 = some h4_ ∧ ∃ v6_, ldv false 1 h4_ (Addr.add (⟨Array.size h, 0, none⟩) 1) = some v6_ ∧ ∃ x7_, v6_ = (Value.int .i64 x7_) ∧ splitB (decide (x7_ < (1 : Int))) (R (Value.int .i64 (3 : Int)) h4_) (∃ v8_, ldv false 1 h4_ (Addr.add (⟨Array.size h, 0, none⟩) 1) = some v8_ ∧ ∃ x9_, v8_ = (Value.int .i64 x9_) ∧ splitB (decide (x9_ > (3 : Int))) (R (Value.int .i64 (3 : Int)) h4_) (f86.j0 R v3 v4 (⟨Array.size h, 0, none⟩) A12 n12 c12 x13 x14 h4_)))) (R (Value.int .i64 (0 : Int)) h)
set_option maxRecDepth 100000 in
theorem f86.l0_in {R : Value → Heap → Prop} {v3 : Value} {v4 : Value} {A12 : Option Addr} {n12 : Nat} {c12 : Nat} {x13 : Int} {x14 : Int} {h : Heap} (H : f86.l0T R v3 v4 A12 n12 c12 x13 x14 h) : f86.l0 R v3 v4 A12 n12 c12 x13 x14 h :=
  pt_intro mixed f86.good (Eq.mpr (show (Fwd Try.prog f86.T f86.kp Try.f86 R [false, false, true, false, true, true, true] (mkFr [(3, v3), (4, v4), (12, (Value.slice A12 n12 c12)), (13, (Value.int .i64 x13)), (14, (Value.int .i64 x14))]) h) = (f86.l0T R v3 v4 A12 n12 c12 x13 x14 h) by kernel_rfl) H)
set_option maxRecDepth 100000 in
def f86.j0T (R : Value → Heap → Prop) (v3 : Value) (v4 : Value) (a6 : Addr) (A12 : Option Addr) (n12 : Nat) (c12 : Nat) (x13 : Int) (x14 : Int) (h : Heap) : Prop :=
  ∃ v1_, ldv false 1 h a6 = some v1_ ∧ ∃ x2_, v1_ = (Value.int .i64 x2_) ∧ splitB (decide (x2_ < (0 : Int))) (R (Value.int .i64 (1 : Int)) h) (∃ v3_, ldv false 1 h a6 = some v3_ ∧ ∃ x4_, v3_ = (Value.int .i64 x4_) ∧ splitB (decide (x4_ ≥ (8 : Int))) (R (Value.int .i64 (1 : Int)) h) (∃ v5_, ldv false 1 h (Addr.add a6 1) = some v5_ ∧ ∃ x6_, v5_ = (Value.int .i64 x6_) ∧ splitB (x6_ != (1 : Int)) (∃ v7_, ldv false 1 h (Addr.add a6 2) = some v7_ ∧ ∃ x8_, v7_ = (Value.int .i64 x8_) ∧ splitB (decide (x8_ < (0 : Int))) (R (Value.int .i64 (1 : Int)) h) (∃ v9_, ldv false 1 h (Addr.add a6 2) = some v9_ ∧ ∃ x10_, v9_ = (Value.int .i64 x10_) ∧ splitB (decide (x10_ > (999 : Int))) (R (Value.int .i64 (1 : Int)) h) (f86.j1 R v3 v4 a6 A12 n12 c12 x13 x14 h))) (f86.j1 R v3 v4 a6 A12 n12 c12 x13 x14 h)))
set_option maxRecDepth 100000 in
theorem f86.j0_in {R : Value → Heap → Prop} {v3 : Value} {v4 : Value} {a6 : Addr} {A12 : Option Addr} {n12 : Nat} {c12 : Nat} {x13 : Int} {x14 : Int} {h : Heap} (H : f86.j0T R v3 v4 a6 A12 n12 c12 x13 x14 h) : f86.j0 R v3 v4 a6 A12 n12 c12 x13 x14 h :=
  pt_intro mixed f86.good (Eq.mpr (show (Fwd Try.prog f86.T f86.kp Try.f86 R [true, true, false, false, true, true, false, false, true, false, true, true, true] (mkFr [(3, v3), (4, v4), (6, (Value.pointer (some a6))), (12, (Value.slice A12 n12 c12)), (13, (Value.int .i64 x13)), (14, (Value.int .i64 x14))]) h) = (f86.j0T R v3 v4 a6 A12 n12 c12 x13 x14 h) by kernel_rfl) H)
set_option maxRecDepth 100000 in
def f86.j1T (R : Value → Heap → Prop) (v3 : Value) (v4 : Value) (a6 : Addr) (A12 : Option Addr) (n12 : Nat) (c12 : Nat) (x13 : Int) (x14 : Int) (h : Heap) : Prop :=
  ∃ v1_, ldv false 1 h (Addr.add a6 1) = some v1_ ∧ ∃ x2_, v1_ = (Value.int .i64 x2_) ∧ splitB (x2_ == (2 : Int)) (∃ v3_, ldv false 1 h (Addr.add a6 2) = some v3_ ∧ ∃ x4_, v3_ = (Value.int .i64 x4_) ∧ Gen Try.prog (Instr.lookup 220 v3 (Value.int .i64 x4_) false) h fun v5_ h6_ => ∃ b7_, v5_ = (Value.bool b7_) ∧ splitB b7_ (R (Value.int .i64 (5 : Int)) h6_) (∃ v8_, ldv false 1 h6_ (Addr.add a6 2) = some v8_ ∧ ∃ x9_, v8_ = (Value.int .i64 x9_) ∧ Hwp Try.prog (Instr.mapUpdate 220 v3 (Value.int .i64 x9_) (Value.bool true)) h6_ fun _ h10_ => f86.l0 R v3 v4 A12 n12 c12 x13 (IntKind.wrap .i64 (x14 + (1 : Int))) h10_)) (splitB (x2_ == (3 : Int)) (∃ v11_, ldv false 1 h (Addr.add a6 2) = some v11_ ∧ ∃ x12_, v11_ = (Value.int .i64 x12_) ∧ Gen Try.prog (Instr.lookup 220 v3 (Value.int .i64 x12_) false) h fun v13_ h14_ => ∃ b15_, v13_ = (Value.bool b15_) ∧ splitB (!b15_) (R (Value.int .i64 (4 : Int)) h14_) (∃ v16_, ldv false 1 h14_ (Addr.add a6 2) = some v16_ ∧ ∃ x17_, v16_ = (Value.int .i64 x17_) ∧ Gen Try.prog (Instr.lookup 220 v4 (Value.int .i64 x17_) false) h14_ fun v18_ h19_ => ∃ b20_, v18_ = (Value.bool b20_) ∧ splitB b20_ (R (Value.int .i64 (5 : Int)) h19_) (∃ v21_, ldv false 1 h19_ (Addr.add a6 2) = some v21_ ∧ ∃ x22_, v21_ = (Value.int .i64 x22_) ∧ Hwp Try.prog (Instr.mapUpdate 220 v4 (Value.int .i64 x22_) (Value.bool true)) h19_ fun _ h23_ => f86.l0 R v3 v4 A12 n12 c12 x13 (IntKind.wrap .i64 (x14 + (1 : Int))) h23_))) (f86.l0 R v3 v4 A12 n12 c12 x13 (IntKind.wrap .i64 (x14 + (1 : Int))) h))
set_option maxRecDepth 100000 in
theorem f86.j1_in {R : Value → Heap → Prop} {v3 : Value} {v4 : Value} {a6 : Addr} {A12 : Option Addr} {n12 : Nat} {c12 : Nat} {x13 : Int} {x14 : Int} {h : Heap} (H : f86.j1T R v3 v4 a6 A12 n12 c12 x13 x14 h) : f86.j1 R v3 v4 a6 A12 n12 c12 x13 x14 h :=
  pt_intro mixed f86.good (Eq.mpr (show (Fwd Try.prog f86.T f86.kp Try.f86 R [true, true, true, false, false, true, true, false, false, true, false, true, true, true] (mkFr [(3, v3), (4, v4), (6, (Value.pointer (some a6))), (12, (Value.slice A12 n12 c12)), (13, (Value.int .i64 x13)), (14, (Value.int .i64 x14))]) h) = (f86.j1T R v3 v4 a6 A12 n12 c12 x13 x14 h) by kernel_rfl) H)
set_option maxRecDepth 100000 in
def f86.runT (R : Value → Heap → Prop) (A0 : Option Addr) (n0 : Nat) (c0 : Nat) (h : Heap) : Prop :=
  splitB (decide (((n0 : Nat) : Int) > (200 : Int))) (R (Value.int .i64 (2 : Int)) h) (Gen Try.prog (Instr.makeMap 220 none) h fun v1_ h2_ => Gen Try.prog (Instr.makeMap 220 none) h2_ fun v3_ h4_ => f86.l0 R v1_ v3_ A0 n0 c0 ((n0 : Nat) : Int) (0 : Int) h4_)
set_option maxRecDepth 100000 in
theorem f86.run {R : Value → Heap → Prop} {A0 : Option Addr} {n0 : Nat} {c0 : Nat} {h : Heap} (H : f86.runT R A0 n0 c0 h) : Run Try.prog 86 #[(Value.slice A0 n0 c0)] h R :=
  run_of mixed Try.func86 (by kernel_rfl) (by kernel_rfl) f86.good (Eq.mpr (show (Fwd Try.prog f86.T f86.kp Try.f86 R [] (mkFr (argL [(Value.slice A0 n0 c0)] 0)) h) = (f86.runT R A0 n0 c0 h) by kernel_rfl) H)

/-! ### roadstead/trace.put: function 105 -/
def f105.T : Tab := { sh := tSh, tup := tTup, keep := [], plan := [] }
def f105.kp : Keep := [([false, false, false, true], [0, 1])]
theorem f105.good : goodCode Try.prog f105.T (rootOf Try.f105) = true := by kernel_rfl
set_option maxRecDepth 100000 in
theorem f105.ok : calleeOk Try.prog 105 = true := by kernel_rfl
def f105.l0 (R : Value → Heap → Prop) (A0 : Option Addr) (n0 : Nat) (c0 : Nat) (x1 : Int) (h : Heap) : Prop := Pt Try.prog Try.f105 R [false, false, false, true] (mkFr [(0, (Value.slice A0 n0 c0)), (1, (Value.int .i64 x1))]) h
set_option maxRecDepth 100000 in
def f105.l0T (R : Value → Heap → Prop) (A0 : Option Addr) (n0 : Nat) (c0 : Nat) (x1 : Int) (h : Heap) : Prop :=
  splitB (decide (x1 ≥ (128 : Int))) ((128 : Int) ≠ 0 ∧ (newH h (Obj.cells #[(Value.int .u8 (IntKind.wrap .u8 (IntKind.wrap .i64 ((Int.tmod x1 (128 : Int)) + (128 : Int)))))] 5) fun h1_ => AppW 5 1 1 #[(Value.int .u8 (0 : Int))] A0 n0 c0 (Value.slice (some ⟨Array.size h, 0, none⟩) 1 1) h1_ fun v2_ h3_ => ∃ A4_, ∃ n4_, ∃ c4_, v2_ = (Value.slice A4_ n4_ c4_) ∧ (128 : Int) ≠ 0 ∧ (f105.l0 R A4_ n4_ c4_ (IntKind.wrap .i64 (Int.tdiv x1 (128 : Int))) h3_))) (newH h (Obj.cells #[(Value.int .u8 (IntKind.wrap .u8 x1))] 5) fun h5_ => AppW 5 1 1 #[(Value.int .u8 (0 : Int))] A0 n0 c0 (Value.slice (some ⟨Array.size h, 0, none⟩) 1 1) h5_ fun v6_ h7_ => ∃ A8_, ∃ n8_, ∃ c8_, v6_ = (Value.slice A8_ n8_ c8_) ∧ R (Value.slice A8_ n8_ c8_) h7_)
set_option maxRecDepth 100000 in
theorem f105.l0_in {R : Value → Heap → Prop} {A0 : Option Addr} {n0 : Nat} {c0 : Nat} {x1 : Int} {h : Heap} (H : f105.l0T R A0 n0 c0 x1 h) : f105.l0 R A0 n0 c0 x1 h :=
  pt_intro mixed f105.good (Eq.mpr (show (Fwd Try.prog f105.T f105.kp Try.f105 R [false, false, false, true] (mkFr [(0, (Value.slice A0 n0 c0)), (1, (Value.int .i64 x1))]) h) = (f105.l0T R A0 n0 c0 x1 h) by kernel_rfl) H)
set_option maxRecDepth 100000 in
def f105.runT (R : Value → Heap → Prop) (A0 : Option Addr) (n0 : Nat) (c0 : Nat) (x1 : Int) (h : Heap) : Prop :=
  f105.l0 R A0 n0 c0 x1 h
set_option maxRecDepth 100000 in
theorem f105.run {R : Value → Heap → Prop} {A0 : Option Addr} {n0 : Nat} {c0 : Nat} {x1 : Int} {h : Heap} (H : f105.runT R A0 n0 c0 x1 h) : Run Try.prog 105 #[(Value.slice A0 n0 c0), (Value.int .i64 x1)] h R :=
  run_of mixed Try.func105 (by kernel_rfl) (by kernel_rfl) f105.good (Eq.mpr (show (Fwd Try.prog f105.T f105.kp Try.f105 R [] (mkFr (argL [(Value.slice A0 n0 c0), (Value.int .i64 x1)] 0)) h) = (f105.runT R A0 n0 c0 x1 h) by kernel_rfl) H)

/-! ### roadstead/trace.Pack: function 36 -/
def f36.T : Tab := { sh := tSh, tup := tTup, keep := [], plan := [] }
def f36.kp : Keep := [([false, false, true, false, true, true, true], [5, 16, 17, 18])]
theorem f36.good : goodCode Try.prog f36.T (rootOf Try.f36) = true := by kernel_rfl
set_option maxRecDepth 100000 in
theorem f36.ok : calleeOk Try.prog 36 = true := by kernel_rfl
def f36.l0 (R : Value → Heap → Prop) (A5 : Option Addr) (n5 : Nat) (c5 : Nat) (A16 : Option Addr) (n16 : Nat) (c16 : Nat) (x17 : Int) (x18 : Int) (h : Heap) : Prop := Pt Try.prog Try.f36 R [false, false, true, false, true, true, true] (mkFr [(5, (Value.slice A5 n5 c5)), (16, (Value.slice A16 n16 c16)), (17, (Value.int .i64 x17)), (18, (Value.int .i64 x18))]) h
set_option maxRecDepth 100000 in
def f36.l0T (R : Value → Heap → Prop) (A5 : Option Addr) (n5 : Nat) (c5 : Nat) (A16 : Option Addr) (n16 : Nat) (c16 : Nat) (x17 : Int) (x18 : Int) (h : Heap) : Prop :=
  splitB (decide (x18 < x17)) (ptrOk A16 fun a1_ => 0 ≤ x18 ∧ x18 < ((n16 : Nat) : Int) ∧ (∃ v2_, ldv true 3 h (Addr.add a1_ (Int.toNat x18 * 3)) = some v2_ ∧ newH h (Obj.cells #[(Value.int .i64 (0 : Int)), (Value.int .i64 (0 : Int)), (Value.int .i64 (0 : Int))] 83) fun h3_ => ∃ l5_ : List Value, v2_ = Value.agg l5_.toArray ∧ l5_.length = 3 ∧ ∃ h4_, stH h3_ (⟨Array.size h, 0, none⟩) l5_ 0 = some h4_ ∧ ∃ v6_, ldv false 1 h4_ (⟨Array.size h, 0, none⟩) = some v6_ ∧ ∃ x7_, v6_ = (Value.int .i64 x7_) ∧ ∃ v8_, ldv false 1 h4_ (Addr.add (⟨Array.size h, 0, none⟩) 1) = some v8_ ∧ ∃ x9_, v8_ = (Value.int .i64 x9_) ∧ Run Try.prog 105 #[(Value.slice A5 n5 c5), (Value.int .i64 (IntKind.wrap .i64 ((IntKind.wrap .i64 ((IntKind.wrap .i64 ((3 : Int) * x7_)) + x9_)) - (1 : Int))))] h4_ fun v10_ h11_ => ∃ A12_, ∃ n12_, ∃ c12_, v10_ = (Value.slice A12_ n12_ c12_) ∧ ∃ v13_, ldv false 1 h11_ (Addr.add (⟨Array.size h, 0, none⟩) 1) = some v13_ ∧ ∃ x14_, v13_ = (Value.int .i64 x14_) ∧ splitB (x14_ != (1 : Int)) (∃ v15_, ldv false 1 h11_ (Addr.add (⟨Array.size h, 0, none⟩) 2) = some v15_ ∧ ∃ x16_, v15_ = (Value.int .i64 x16_) ∧ Run Try.prog 105 #[(Value.slice A12_ n12_ c12_), (Value.int .i64 x16_)] h11_ fun v17_ h18_ => ∃ A19_, ∃ n19_, ∃ c19_, v17_ = (Value.slice A19_ n19_ c19_) ∧ f36.l0 R A19_ n19_ c19_ A16 n16 c16 x17 (IntKind.wrap .i64 (x18 + (1 : Int))) h18_) (f36.l0 R A12_ n12_ c12_ A16 n16 c16 x17 (IntKind.wrap .i64 (x18 + (1 : Int))) h11_))) (R (Value.tuple #[(Value.slice A5 n5 c5), (Value.int .i64 (0 : Int))]) h)
set_option maxRecDepth 100000 in
theorem f36.l0_in {R : Value → Heap → Prop} {A5 : Option Addr} {n5 : Nat} {c5 : Nat} {A16 : Option Addr} {n16 : Nat} {c16 : Nat} {x17 : Int} {x18 : Int} {h : Heap} (H : f36.l0T R A5 n5 c5 A16 n16 c16 x17 x18 h) : f36.l0 R A5 n5 c5 A16 n16 c16 x17 x18 h :=
  pt_intro mixed f36.good (Eq.mpr (show (Fwd Try.prog f36.T f36.kp Try.f36 R [false, false, true, false, true, true, true] (mkFr [(5, (Value.slice A5 n5 c5)), (16, (Value.slice A16 n16 c16)), (17, (Value.int .i64 x17)), (18, (Value.int .i64 x18))]) h) = (f36.l0T R A5 n5 c5 A16 n16 c16 x17 x18 h) by kernel_rfl) H)
set_option maxRecDepth 100000 in
def f36.runT (R : Value → Heap → Prop) (A0 : Option Addr) (n0 : Nat) (c0 : Nat) (h : Heap) : Prop :=
  Run Try.prog 86 #[(Value.slice A0 n0 c0)] h fun v1_ h2_ => ∃ x3_, v1_ = (Value.int .i64 x3_) ∧ splitB (x3_ != (0 : Int)) (R (Value.tuple #[(Value.slice none 0 0), (Value.int .i64 x3_)]) h2_) (Run Try.prog 105 #[(Value.slice none 0 0), (Value.int .i64 ((n0 : Nat) : Int))] h2_ fun v4_ h5_ => ∃ A6_, ∃ n6_, ∃ c6_, v4_ = (Value.slice A6_ n6_ c6_) ∧ f36.l0 R A6_ n6_ c6_ A0 n0 c0 ((n0 : Nat) : Int) (0 : Int) h5_)
set_option maxRecDepth 100000 in
theorem f36.run {R : Value → Heap → Prop} {A0 : Option Addr} {n0 : Nat} {c0 : Nat} {h : Heap} (H : f36.runT R A0 n0 c0 h) : Run Try.prog 36 #[(Value.slice A0 n0 c0)] h R :=
  run_of mixed Try.func36 (by kernel_rfl) (by kernel_rfl) f36.good (Eq.mpr (show (Fwd Try.prog f36.T f36.kp Try.f36 R [] (mkFr (argL [(Value.slice A0 n0 c0)] 0)) h) = (f36.runT R A0 n0 c0 h) by kernel_rfl) H)

/-! ### bytes.Equal: function 37 -/
def f37.T : Tab := { sh := tSh, tup := tTup, keep := [], plan := [] }
def f37.kp : Keep := []
theorem f37.good : goodCode Try.prog f37.T (rootOf Try.f37) = true := by kernel_rfl
set_option maxRecDepth 100000 in
theorem f37.ok : calleeOk Try.prog 37 = true := by kernel_rfl
set_option maxRecDepth 100000 in
def f37.runT (R : Value → Heap → Prop) (A0 : Option Addr) (n0 : Nat) (c0 : Nat) (A1 : Option Addr) (n1 : Nat) (c1 : Nat) (h : Heap) : Prop :=
  Gen Try.prog (convert 74 9 (Value.slice A0 n0 c0)) h fun v1_ h2_ => ∃ s3_, v1_ = (Value.string s3_) ∧ Gen Try.prog (convert 74 9 (Value.slice A1 n1 c1)) h2_ fun v4_ h5_ => ∃ s6_, v4_ = (Value.string s6_) ∧ R (Value.bool (ByteArray.toList s3_ == ByteArray.toList s6_)) h5_
set_option maxRecDepth 100000 in
theorem f37.run {R : Value → Heap → Prop} {A0 : Option Addr} {n0 : Nat} {c0 : Nat} {A1 : Option Addr} {n1 : Nat} {c1 : Nat} {h : Heap} (H : f37.runT R A0 n0 c0 A1 n1 c1 h) : Run Try.prog 37 #[(Value.slice A0 n0 c0), (Value.slice A1 n1 c1)] h R :=
  run_of mixed Try.func37 (by kernel_rfl) (by kernel_rfl) f37.good (Eq.mpr (show (Fwd Try.prog f37.T f37.kp Try.f37 R [] (mkFr (argL [(Value.slice A0 n0 c0), (Value.slice A1 n1 c1)] 0)) h) = (f37.runT R A0 n0 c0 A1 n1 c1 h) by kernel_rfl) H)

/-! ### roadstead/trace.take: function 106 -/
def f106.T : Tab := { sh := tSh, tup := tTup, keep := [], plan := [(8, (.take 0 (.take 1 (.take 2 (.take 3 (.take 4 (.take 5 (.take 6 (.take 7 (.take 8 (.take 9 (.take 10 (.take 11 (.take 12 .done))))))))))))))] }
def f106.kp : Keep := [([false, false, true, false, true, true], [0, 5, 6, 9, 10, 11]), ([true, false, true, false, false, true, true, false, false, true, false, true, true], [0, 5, 6, 7, 8, 9, 10, 11, 25]), ([true, true, false, false, true, true, false, false, true, false, true, true], [0, 5, 6, 7, 8, 9, 10, 11])]
theorem f106.good : goodCode Try.prog f106.T (rootOf Try.f106) = true := by kernel_rfl
set_option maxRecDepth 100000 in
theorem f106.ok : calleeOk Try.prog 106 = true := by kernel_rfl
def f106.l0 (R : Value → Heap → Prop) (A0 : Option Addr) (n0 : Nat) (c0 : Nat) (x5 : Int) (x6 : Int) (A9 : Option Addr) (n9 : Nat) (c9 : Nat) (x10 : Int) (x11 : Int) (h : Heap) : Prop := Pt Try.prog Try.f106 R [false, false, true, false, true, true] (mkFr [(0, (Value.slice A0 n0 c0)), (5, (Value.int .i64 x5)), (6, (Value.int .i64 x6)), (9, (Value.slice A9 n9 c9)), (10, (Value.int .i64 x10)), (11, (Value.int .i64 x11))]) h
def f106.j1 (R : Value → Heap → Prop) (A0 : Option Addr) (n0 : Nat) (c0 : Nat) (x5 : Int) (x6 : Int) (x7 : Int) (x8 : Int) (A9 : Option Addr) (n9 : Nat) (c9 : Nat) (x10 : Int) (x11 : Int) (b25 : Bool) (h : Heap) : Prop := Pt Try.prog Try.f106 R [true, false, true, false, false, true, true, false, false, true, false, true, true] (mkFr [(0, (Value.slice A0 n0 c0)), (5, (Value.int .i64 x5)), (6, (Value.int .i64 x6)), (7, (Value.int .i64 x7)), (8, (Value.int .u8 x8)), (9, (Value.slice A9 n9 c9)), (10, (Value.int .i64 x10)), (11, (Value.int .i64 x11)), (25, (Value.bool b25))]) h
def f106.j0 (R : Value → Heap → Prop) (A0 : Option Addr) (n0 : Nat) (c0 : Nat) (x5 : Int) (x6 : Int) (x7 : Int) (x8 : Int) (A9 : Option Addr) (n9 : Nat) (c9 : Nat) (x10 : Int) (x11 : Int) (h : Heap) : Prop := Pt Try.prog Try.f106 R [true, true, false, false, true, true, false, false, true, false, true, true] (mkFr [(0, (Value.slice A0 n0 c0)), (5, (Value.int .i64 x5)), (6, (Value.int .i64 x6)), (7, (Value.int .i64 x7)), (8, (Value.int .u8 x8)), (9, (Value.slice A9 n9 c9)), (10, (Value.int .i64 x10)), (11, (Value.int .i64 x11))]) h
set_option maxRecDepth 100000 in
def f106.l0T (R : Value → Heap → Prop) (A0 : Option Addr) (n0 : Nat) (c0 : Nat) (x5 : Int) (x6 : Int) (A9 : Option Addr) (n9 : Nat) (c9 : Nat) (x10 : Int) (x11 : Int) (h : Heap) : Prop :=
  splitB (decide (x11 < x10)) (ptrOk A9 fun a1_ => 0 ≤ x11 ∧ x11 < ((n9 : Nat) : Int) ∧ (∃ v2_, ldv false 1 h (Addr.add a1_ (Int.toNat x11 * 1)) = some v2_ ∧ ∃ x3_, v2_ = (Value.int .u8 x3_) ∧ splitB (x11 == (3 : Int)) (f106.j1 R A0 n0 c0 x5 x6 x11 x3_ A9 n9 c9 x10 x11 true h) (splitB (decide (x11 > (0 : Int))) (f106.j1 R A0 n0 c0 x5 x6 x11 x3_ A9 n9 c9 x10 x11 (x3_ == (0 : Int)) h) (f106.j1 R A0 n0 c0 x5 x6 x11 x3_ A9 n9 c9 x10 x11 false h)))) (R (Value.tuple #[(Value.int .i64 (0 : Int)), (Value.slice none 0 0), (Value.bool false)]) h)
set_option maxRecDepth 100000 in
theorem f106.l0_in {R : Value → Heap → Prop} {A0 : Option Addr} {n0 : Nat} {c0 : Nat} {x5 : Int} {x6 : Int} {A9 : Option Addr} {n9 : Nat} {c9 : Nat} {x10 : Int} {x11 : Int} {h : Heap} (H : f106.l0T R A0 n0 c0 x5 x6 A9 n9 c9 x10 x11 h) : f106.l0 R A0 n0 c0 x5 x6 A9 n9 c9 x10 x11 h :=
  pt_intro mixed f106.good (Eq.mpr (show (Fwd Try.prog f106.T f106.kp Try.f106 R [false, false, true, false, true, true] (mkFr [(0, (Value.slice A0 n0 c0)), (5, (Value.int .i64 x5)), (6, (Value.int .i64 x6)), (9, (Value.slice A9 n9 c9)), (10, (Value.int .i64 x10)), (11, (Value.int .i64 x11))]) h) = (f106.l0T R A0 n0 c0 x5 x6 A9 n9 c9 x10 x11 h) by kernel_rfl) H)
set_option maxRecDepth 100000 in
def f106.j1T (R : Value → Heap → Prop) (A0 : Option Addr) (n0 : Nat) (c0 : Nat) (x5 : Int) (x6 : Int) (x7 : Int) (x8 : Int) (A9 : Option Addr) (n9 : Nat) (c9 : Nat) (x10 : Int) (x11 : Int) (b25 : Bool) (h : Heap) : Prop :=
  splitB b25 (R (Value.tuple #[(Value.int .i64 (0 : Int)), (Value.slice none 0 0), (Value.bool false)]) h) (f106.j0 R A0 n0 c0 x5 x6 x7 x8 A9 n9 c9 x10 x11 h)
set_option maxRecDepth 100000 in
theorem f106.j1_in {R : Value → Heap → Prop} {A0 : Option Addr} {n0 : Nat} {c0 : Nat} {x5 : Int} {x6 : Int} {x7 : Int} {x8 : Int} {A9 : Option Addr} {n9 : Nat} {c9 : Nat} {x10 : Int} {x11 : Int} {b25 : Bool} {h : Heap} (H : f106.j1T R A0 n0 c0 x5 x6 x7 x8 A9 n9 c9 x10 x11 b25 h) : f106.j1 R A0 n0 c0 x5 x6 x7 x8 A9 n9 c9 x10 x11 b25 h :=
  pt_intro mixed f106.good (Eq.mpr (show (Fwd Try.prog f106.T f106.kp Try.f106 R [true, false, true, false, false, true, true, false, false, true, false, true, true] (mkFr [(0, (Value.slice A0 n0 c0)), (5, (Value.int .i64 x5)), (6, (Value.int .i64 x6)), (7, (Value.int .i64 x7)), (8, (Value.int .u8 x8)), (9, (Value.slice A9 n9 c9)), (10, (Value.int .i64 x10)), (11, (Value.int .i64 x11)), (25, (Value.bool b25))]) h) = (f106.j1T R A0 n0 c0 x5 x6 x7 x8 A9 n9 c9 x10 x11 b25 h) by kernel_rfl) H)
set_option maxRecDepth 100000 in
def f106.j0T (R : Value → Heap → Prop) (A0 : Option Addr) (n0 : Nat) (c0 : Nat) (x5 : Int) (x6 : Int) (x7 : Int) (x8 : Int) (A9 : Option Addr) (n9 : Nat) (c9 : Nat) (x10 : Int) (x11 : Int) (h : Heap) : Prop :=
  splitB (decide (x8 < (128 : Int))) (0 ≤ (IntKind.wrap .i64 (x7 + (1 : Int))) ∧ (IntKind.wrap .i64 (x7 + (1 : Int))) ≤ ((n0 : Nat) : Int) ∧ ((n0 : Nat) : Int) ≤ ((c0 : Nat) : Int) ∧ (R (Value.tuple #[(Value.int .i64 (IntKind.wrap .i64 (x5 + (IntKind.wrap .i64 (x6 * (IntKind.wrap .i64 x8)))))), (Value.slice (sliceA A0 (Int.toNat (IntKind.wrap .i64 (x7 + (1 : Int)))) c0 1) (Int.toNat ((n0 : Nat) : Int) - Int.toNat (IntKind.wrap .i64 (x7 + (1 : Int)))) (c0 - Int.toNat (IntKind.wrap .i64 (x7 + (1 : Int))))), (Value.bool true)]) h)) (f106.l0 R A0 n0 c0 (IntKind.wrap .i64 (x5 + (IntKind.wrap .i64 (x6 * (IntKind.wrap .i64 (IntKind.wrap .u8 (x8 - (128 : Int)))))))) (IntKind.wrap .i64 (x6 * (128 : Int))) A9 n9 c9 x10 (IntKind.wrap .i64 (x11 + (1 : Int))) h)
set_option maxRecDepth 100000 in
theorem f106.j0_in {R : Value → Heap → Prop} {A0 : Option Addr} {n0 : Nat} {c0 : Nat} {x5 : Int} {x6 : Int} {x7 : Int} {x8 : Int} {A9 : Option Addr} {n9 : Nat} {c9 : Nat} {x10 : Int} {x11 : Int} {h : Heap} (H : f106.j0T R A0 n0 c0 x5 x6 x7 x8 A9 n9 c9 x10 x11 h) : f106.j0 R A0 n0 c0 x5 x6 x7 x8 A9 n9 c9 x10 x11 h :=
  pt_intro mixed f106.good (Eq.mpr (show (Fwd Try.prog f106.T f106.kp Try.f106 R [true, true, false, false, true, true, false, false, true, false, true, true] (mkFr [(0, (Value.slice A0 n0 c0)), (5, (Value.int .i64 x5)), (6, (Value.int .i64 x6)), (7, (Value.int .i64 x7)), (8, (Value.int .u8 x8)), (9, (Value.slice A9 n9 c9)), (10, (Value.int .i64 x10)), (11, (Value.int .i64 x11))]) h) = (f106.j0T R A0 n0 c0 x5 x6 x7 x8 A9 n9 c9 x10 x11 h) by kernel_rfl) H)
set_option maxRecDepth 100000 in
def f106.runT (R : Value → Heap → Prop) (A0 : Option Addr) (n0 : Nat) (c0 : Nat) (h : Heap) : Prop :=
  f106.l0 R A0 n0 c0 (0 : Int) (1 : Int) A0 n0 c0 ((n0 : Nat) : Int) (0 : Int) h
set_option maxRecDepth 100000 in
theorem f106.run {R : Value → Heap → Prop} {A0 : Option Addr} {n0 : Nat} {c0 : Nat} {h : Heap} (H : f106.runT R A0 n0 c0 h) : Run Try.prog 106 #[(Value.slice A0 n0 c0)] h R :=
  run_of mixed Try.func106 (by kernel_rfl) (by kernel_rfl) f106.good (Eq.mpr (show (Fwd Try.prog f106.T f106.kp Try.f106 R [] (mkFr (argL [(Value.slice A0 n0 c0)] 0)) h) = (f106.runT R A0 n0 c0 h) by kernel_rfl) H)

/-! ### roadstead/trace.Unpack: function 38 -/
def f38.T : Tab := { sh := tSh, tup := tTup, keep := [], plan := [] }
def f38.kp : Keep := [([false, false, true, false, true, true, true, true, true, true], [0, 6, 23, 24]), ([true, true, true, true, false, false, true, true, false, false, true, false, true, true, true, true, true, true], [0, 6, 8, 23, 24])]
theorem f38.good : goodCode Try.prog f38.T (rootOf Try.f38) = true := by kernel_rfl
set_option maxRecDepth 100000 in
theorem f38.ok : calleeOk Try.prog 38 = true := by kernel_rfl
def f38.l0 (R : Value → Heap → Prop) (A0 : Option Addr) (n0 : Nat) (c0 : Nat) (A6 : Option Addr) (n6 : Nat) (c6 : Nat) (x23 : Int) (x24 : Int) (h : Heap) : Prop := Pt Try.prog Try.f38 R [false, false, true, false, true, true, true, true, true, true] (mkFr [(0, (Value.slice A0 n0 c0)), (6, (Value.slice A6 n6 c6)), (23, (Value.int .i64 x23)), (24, (Value.int .i64 x24))]) h
def f38.j0 (R : Value → Heap → Prop) (A0 : Option Addr) (n0 : Nat) (c0 : Nat) (A6 : Option Addr) (n6 : Nat) (c6 : Nat) (a8 : Addr) (x23 : Int) (x24 : Int) (h : Heap) : Prop := Pt Try.prog Try.f38 R [true, true, true, true, false, false, true, true, false, false, true, false, true, true, true, true, true, true] (mkFr [(0, (Value.slice A0 n0 c0)), (6, (Value.slice A6 n6 c6)), (8, (Value.pointer (some a8))), (23, (Value.int .i64 x23)), (24, (Value.int .i64 x24))]) h
set_option maxRecDepth 100000 in
def f38.l0T (R : Value → Heap → Prop) (A0 : Option Addr) (n0 : Nat) (c0 : Nat) (A6 : Option Addr) (n6 : Nat) (c6 : Nat) (x23 : Int) (x24 : Int) (h : Heap) : Prop :=
  splitB (decide (x24 < x23)) (Run Try.prog 106 #[(Value.slice A0 n0 c0)] h fun v1_ h2_ => ∃ x3_, ∃ A4_, ∃ n4_, ∃ c4_, ∃ b5_, v1_ = (Value.tuple #[(Value.int .i64 x3_), (Value.slice A4_ n4_ c4_), (Value.bool b5_)]) ∧ splitB (!b5_) (R (Value.tuple #[(Value.slice none 0 0), (Value.int .i64 (3 : Int))]) h2_) ((3 : Int) ≠ 0 ∧ ((3 : Int) ≠ 0 ∧ (newH h2_ (Obj.cells #[(Value.int .i64 (0 : Int)), (Value.int .i64 (0 : Int)), (Value.int .i64 (0 : Int))] 83) fun h6_ => ∃ l8_ : List Value, (Value.agg #[(Value.int .i64 (IntKind.wrap .i64 (Int.tdiv x3_ (3 : Int)))), (Value.int .i64 (IntKind.wrap .i64 ((Int.tmod x3_ (3 : Int)) + (1 : Int)))), (Value.int .i64 (0 : Int))]) = Value.agg l8_.toArray ∧ l8_.length = 3 ∧ ∃ h7_, stH h6_ (⟨Array.size h2_, 0, none⟩) l8_ 0 = some h7_ ∧ ∃ v9_, ldv false 1 h7_ (Addr.add (⟨Array.size h2_, 0, none⟩) 1) = some v9_ ∧ ∃ x10_, v9_ = (Value.int .i64 x10_) ∧ splitB (x10_ != (1 : Int)) (Run Try.prog 106 #[(Value.slice A4_ n4_ c4_)] h7_ fun v11_ h12_ => ∃ x13_, ∃ A14_, ∃ n14_, ∃ c14_, ∃ b15_, v11_ = (Value.tuple #[(Value.int .i64 x13_), (Value.slice A14_ n14_ c14_), (Value.bool b15_)]) ∧ ∃ h16_, st1 h12_ (Addr.add (⟨Array.size h2_, 0, none⟩) 2) (Value.int .i64 x13_) = some h16_ ∧ splitB (!b15_) (R (Value.tuple #[(Value.slice none 0 0), (Value.int .i64 (3 : Int))]) h16_) (f38.j0 R A14_ n14_ c14_ A6 n6 c6 (⟨Array.size h2_, 0, none⟩) x23 x24 h16_)) (f38.j0 R A4_ n4_ c4_ A6 n6 c6 (⟨Array.size h2_, 0, none⟩) x23 x24 h7_))))) (splitB (decide (((n0 : Nat) : Int) > (0 : Int))) (R (Value.tuple #[(Value.slice none 0 0), (Value.int .i64 (3 : Int))]) h) (Run Try.prog 86 #[(Value.slice A6 n6 c6)] h fun v17_ h18_ => ∃ x19_, v17_ = (Value.int .i64 x19_) ∧ splitB (x19_ != (0 : Int)) (R (Value.tuple #[(Value.slice none 0 0), (Value.int .i64 x19_)]) h18_) (R (Value.tuple #[(Value.slice A6 n6 c6), (Value.int .i64 (0 : Int))]) h18_)))
set_option maxRecDepth 100000 in
theorem f38.l0_in {R : Value → Heap → Prop} {A0 : Option Addr} {n0 : Nat} {c0 : Nat} {A6 : Option Addr} {n6 : Nat} {c6 : Nat} {x23 : Int} {x24 : Int} {h : Heap} (H : f38.l0T R A0 n0 c0 A6 n6 c6 x23 x24 h) : f38.l0 R A0 n0 c0 A6 n6 c6 x23 x24 h :=
  pt_intro mixed f38.good (Eq.mpr (show (Fwd Try.prog f38.T f38.kp Try.f38 R [false, false, true, false, true, true, true, true, true, true] (mkFr [(0, (Value.slice A0 n0 c0)), (6, (Value.slice A6 n6 c6)), (23, (Value.int .i64 x23)), (24, (Value.int .i64 x24))]) h) = (f38.l0T R A0 n0 c0 A6 n6 c6 x23 x24 h) by kernel_rfl) H)
set_option maxRecDepth 100000 in
def f38.j0T (R : Value → Heap → Prop) (A0 : Option Addr) (n0 : Nat) (c0 : Nat) (A6 : Option Addr) (n6 : Nat) (c6 : Nat) (a8 : Addr) (x23 : Int) (x24 : Int) (h : Heap) : Prop :=
  ∃ v1_, ldv true 3 h a8 = some v1_ ∧ ∃ l2_ : List Value, v1_ = Value.agg l2_.toArray ∧ l2_.length = 3 ∧ (newH h (Obj.cells ((List.take 0 ([(Value.int .i64 (0 : Int)), (Value.int .i64 (0 : Int)), (Value.int .i64 (0 : Int))]) ++ l2_ ++ List.drop 3 ([(Value.int .i64 (0 : Int)), (Value.int .i64 (0 : Int)), (Value.int .i64 (0 : Int))])).toArray) 83) fun h3_ => AppW 83 3 24 #[(Value.int .i64 (0 : Int)), (Value.int .i64 (0 : Int)), (Value.int .i64 (0 : Int))] A6 n6 c6 (Value.slice (some ⟨Array.size h, 0, none⟩) 1 1) h3_ fun v4_ h5_ => ∃ A6_, ∃ n6_, ∃ c6_, v4_ = (Value.slice A6_ n6_ c6_) ∧ f38.l0 R A0 n0 c0 A6_ n6_ c6_ x23 (IntKind.wrap .i64 (x24 + (1 : Int))) h5_)
set_option maxRecDepth 100000 in
theorem f38.j0_in {R : Value → Heap → Prop} {A0 : Option Addr} {n0 : Nat} {c0 : Nat} {A6 : Option Addr} {n6 : Nat} {c6 : Nat} {a8 : Addr} {x23 : Int} {x24 : Int} {h : Heap} (H : f38.j0T R A0 n0 c0 A6 n6 c6 a8 x23 x24 h) : f38.j0 R A0 n0 c0 A6 n6 c6 a8 x23 x24 h :=
  pt_intro mixed f38.good (Eq.mpr (show (Fwd Try.prog f38.T f38.kp Try.f38 R [true, true, true, true, false, false, true, true, false, false, true, false, true, true, true, true, true, true] (mkFr [(0, (Value.slice A0 n0 c0)), (6, (Value.slice A6 n6 c6)), (8, (Value.pointer (some a8))), (23, (Value.int .i64 x23)), (24, (Value.int .i64 x24))]) h) = (f38.j0T R A0 n0 c0 A6 n6 c6 a8 x23 x24 h) by kernel_rfl) H)
set_option maxRecDepth 100000 in
def f38.runT (R : Value → Heap → Prop) (A0 : Option Addr) (n0 : Nat) (c0 : Nat) (h : Heap) : Prop :=
  splitB (decide (((n0 : Nat) : Int) > (4000 : Int))) (R (Value.tuple #[(Value.slice none 0 0), (Value.int .i64 (2 : Int))]) h) (Run Try.prog 106 #[(Value.slice A0 n0 c0)] h fun v1_ h2_ => ∃ x3_, ∃ A4_, ∃ n4_, ∃ c4_, ∃ b5_, v1_ = (Value.tuple #[(Value.int .i64 x3_), (Value.slice A4_ n4_ c4_), (Value.bool b5_)]) ∧ splitB (!b5_) (R (Value.tuple #[(Value.slice none 0 0), (Value.int .i64 (3 : Int))]) h2_) (splitB (decide (x3_ > (200 : Int))) (R (Value.tuple #[(Value.slice none 0 0), (Value.int .i64 (2 : Int))]) h2_) (f38.l0 R A4_ n4_ c4_ none 0 0 x3_ (0 : Int) h2_)))
set_option maxRecDepth 100000 in
theorem f38.run {R : Value → Heap → Prop} {A0 : Option Addr} {n0 : Nat} {c0 : Nat} {h : Heap} (H : f38.runT R A0 n0 c0 h) : Run Try.prog 38 #[(Value.slice A0 n0 c0)] h R :=
  run_of mixed Try.func38 (by kernel_rfl) (by kernel_rfl) f38.good (Eq.mpr (show (Fwd Try.prog f38.T f38.kp Try.f38 R [] (mkFr (argL [(Value.slice A0 n0 c0)] 0)) h) = (f38.runT R A0 n0 c0 h) by kernel_rfl) H)

/-! ### roadstead/roadref4.Bytes: function 107 -/
def f107.T : Tab := { sh := tSh, tup := tTup, keep := [], plan := [] }
def f107.kp : Keep := [([false, false, true, false, true, true], [3, 6, 7, 8]), ([false, false, false, true, false, false, true, true, false, false, true, false, true, true], [3, 5, 6, 7, 8])]
theorem f107.good : goodCode Try.prog f107.T (rootOf Try.f107) = true := by kernel_rfl
set_option maxRecDepth 100000 in
theorem f107.ok : calleeOk Try.prog 107 = true := by kernel_rfl
def f107.l0 (R : Value → Heap → Prop) (A3 : Option Addr) (n3 : Nat) (c3 : Nat) (A6 : Option Addr) (n6 : Nat) (c6 : Nat) (x7 : Int) (x8 : Int) (h : Heap) : Prop := Pt Try.prog Try.f107 R [false, false, true, false, true, true] (mkFr [(3, (Value.slice A3 n3 c3)), (6, (Value.slice A6 n6 c6)), (7, (Value.int .i64 x7)), (8, (Value.int .i64 x8))]) h
def f107.l1 (R : Value → Heap → Prop) (A3 : Option Addr) (n3 : Nat) (c3 : Nat) (x5 : Int) (A6 : Option Addr) (n6 : Nat) (c6 : Nat) (x7 : Int) (x8 : Int) (h : Heap) : Prop := Pt Try.prog Try.f107 R [false, false, false, true, false, false, true, true, false, false, true, false, true, true] (mkFr [(3, (Value.slice A3 n3 c3)), (5, (Value.int .i64 x5)), (6, (Value.slice A6 n6 c6)), (7, (Value.int .i64 x7)), (8, (Value.int .i64 x8))]) h
set_option maxRecDepth 100000 in
def f107.l0T (R : Value → Heap → Prop) (A3 : Option Addr) (n3 : Nat) (c3 : Nat) (A6 : Option Addr) (n6 : Nat) (c6 : Nat) (x7 : Int) (x8 : Int) (h : Heap) : Prop :=
  splitB (decide (x8 < x7)) (ptrOk A6 fun a1_ => 0 ≤ x8 ∧ x8 < ((n6 : Nat) : Int) ∧ (∃ v2_, ldv false 1 h (Addr.add a1_ (Int.toNat x8 * 1)) = some v2_ ∧ ∃ x3_, v2_ = (Value.int .i64 x3_) ∧ f107.l1 R A3 n3 c3 x3_ A6 n6 c6 x7 x8 h)) (R (Value.slice A3 n3 c3) h)
set_option maxRecDepth 100000 in
theorem f107.l0_in {R : Value → Heap → Prop} {A3 : Option Addr} {n3 : Nat} {c3 : Nat} {A6 : Option Addr} {n6 : Nat} {c6 : Nat} {x7 : Int} {x8 : Int} {h : Heap} (H : f107.l0T R A3 n3 c3 A6 n6 c6 x7 x8 h) : f107.l0 R A3 n3 c3 A6 n6 c6 x7 x8 h :=
  pt_intro mixed f107.good (Eq.mpr (show (Fwd Try.prog f107.T f107.kp Try.f107 R [false, false, true, false, true, true] (mkFr [(3, (Value.slice A3 n3 c3)), (6, (Value.slice A6 n6 c6)), (7, (Value.int .i64 x7)), (8, (Value.int .i64 x8))]) h) = (f107.l0T R A3 n3 c3 A6 n6 c6 x7 x8 h) by kernel_rfl) H)
set_option maxRecDepth 100000 in
def f107.l1T (R : Value → Heap → Prop) (A3 : Option Addr) (n3 : Nat) (c3 : Nat) (x5 : Int) (A6 : Option Addr) (n6 : Nat) (c6 : Nat) (x7 : Int) (x8 : Int) (h : Heap) : Prop :=
  splitB (decide (x5 > (127 : Int))) (newH h (Obj.cells #[(Value.int .u8 (IntKind.wrap .u8 (bitsI .or .i64 x5 (128 : Int))))] 5) fun h1_ => AppW 5 1 1 #[(Value.int .u8 (0 : Int))] A3 n3 c3 (Value.slice (some ⟨Array.size h, 0, none⟩) 1 1) h1_ fun v2_ h3_ => ∃ A4_, ∃ n4_, ∃ c4_, v2_ = (Value.slice A4_ n4_ c4_) ∧ 0 ≤ (7 : Int) ∧ (f107.l1 R A4_ n4_ c4_ (shrI .i64 x5 (7 : Int)) A6 n6 c6 x7 x8 h3_)) (newH h (Obj.cells #[(Value.int .u8 (IntKind.wrap .u8 x5))] 5) fun h5_ => AppW 5 1 1 #[(Value.int .u8 (0 : Int))] A3 n3 c3 (Value.slice (some ⟨Array.size h, 0, none⟩) 1 1) h5_ fun v6_ h7_ => ∃ A8_, ∃ n8_, ∃ c8_, v6_ = (Value.slice A8_ n8_ c8_) ∧ f107.l0 R A8_ n8_ c8_ A6 n6 c6 x7 (IntKind.wrap .i64 (x8 + (1 : Int))) h7_)
set_option maxRecDepth 100000 in
theorem f107.l1_in {R : Value → Heap → Prop} {A3 : Option Addr} {n3 : Nat} {c3 : Nat} {x5 : Int} {A6 : Option Addr} {n6 : Nat} {c6 : Nat} {x7 : Int} {x8 : Int} {h : Heap} (H : f107.l1T R A3 n3 c3 x5 A6 n6 c6 x7 x8 h) : f107.l1 R A3 n3 c3 x5 A6 n6 c6 x7 x8 h :=
  pt_intro mixed f107.good (Eq.mpr (show (Fwd Try.prog f107.T f107.kp Try.f107 R [false, false, false, true, false, false, true, true, false, false, true, false, true, true] (mkFr [(3, (Value.slice A3 n3 c3)), (5, (Value.int .i64 x5)), (6, (Value.slice A6 n6 c6)), (7, (Value.int .i64 x7)), (8, (Value.int .i64 x8))]) h) = (f107.l1T R A3 n3 c3 x5 A6 n6 c6 x7 x8 h) by kernel_rfl) H)
set_option maxRecDepth 100000 in
def f107.runT (R : Value → Heap → Prop) (A0 : Option Addr) (n0 : Nat) (c0 : Nat) (h : Heap) : Prop :=
  f107.l0 R none 0 0 A0 n0 c0 ((n0 : Nat) : Int) (0 : Int) h
set_option maxRecDepth 100000 in
theorem f107.run {R : Value → Heap → Prop} {A0 : Option Addr} {n0 : Nat} {c0 : Nat} {h : Heap} (H : f107.runT R A0 n0 c0 h) : Run Try.prog 107 #[(Value.slice A0 n0 c0)] h R :=
  run_of mixed Try.func107 (by kernel_rfl) (by kernel_rfl) f107.good (Eq.mpr (show (Fwd Try.prog f107.T f107.kp Try.f107 R [] (mkFr (argL [(Value.slice A0 n0 c0)] 0)) h) = (f107.runT R A0 n0 c0 h) by kernel_rfl) H)

/-! ### roadstead/roadref4.Pack: function 39 -/
def f39.T : Tab := { sh := tSh, tup := tTup, keep := [], plan := [] }
def f39.kp : Keep := [([false, false, true, false, true, true], [3, 9, 10, 11])]
theorem f39.good : goodCode Try.prog f39.T (rootOf Try.f39) = true := by kernel_rfl
set_option maxRecDepth 100000 in
theorem f39.ok : calleeOk Try.prog 39 = true := by kernel_rfl
def f39.l0 (R : Value → Heap → Prop) (A3 : Option Addr) (n3 : Nat) (c3 : Nat) (A9 : Option Addr) (n9 : Nat) (c9 : Nat) (x10 : Int) (x11 : Int) (h : Heap) : Prop := Pt Try.prog Try.f39 R [false, false, true, false, true, true] (mkFr [(3, (Value.slice A3 n3 c3)), (9, (Value.slice A9 n9 c9)), (10, (Value.int .i64 x10)), (11, (Value.int .i64 x11))]) h
set_option maxRecDepth 100000 in
def f39.l0T (R : Value → Heap → Prop) (A3 : Option Addr) (n3 : Nat) (c3 : Nat) (A9 : Option Addr) (n9 : Nat) (c9 : Nat) (x10 : Int) (x11 : Int) (h : Heap) : Prop :=
  splitB (decide (x11 < x10)) (ptrOk A9 fun a1_ => 0 ≤ x11 ∧ x11 < ((n9 : Nat) : Int) ∧ (∃ v2_, ldv true 3 h (Addr.add a1_ (Int.toNat x11 * 3)) = some v2_ ∧ newH h (Obj.cells #[(Value.int .i64 (0 : Int)), (Value.int .i64 (0 : Int)), (Value.int .i64 (0 : Int))] 83) fun h3_ => ∃ l5_ : List Value, v2_ = Value.agg l5_.toArray ∧ l5_.length = 3 ∧ ∃ h4_, stH h3_ (⟨Array.size h, 0, none⟩) l5_ 0 = some h4_ ∧ ∃ v6_, ldv false 1 h4_ (⟨Array.size h, 0, none⟩) = some v6_ ∧ ∃ x7_, v6_ = (Value.int .i64 x7_) ∧ ∃ v8_, ldv false 1 h4_ (Addr.add (⟨Array.size h, 0, none⟩) 1) = some v8_ ∧ ∃ x9_, v8_ = (Value.int .i64 x9_) ∧ newH h4_ (Obj.cells #[(Value.int .i64 (IntKind.wrap .i64 ((IntKind.wrap .i64 ((IntKind.wrap .i64 (x7_ * (3 : Int))) + x9_)) - (1 : Int))))] 3) fun h10_ => AppW 3 1 8 #[(Value.int .i64 (0 : Int))] A3 n3 c3 (Value.slice (some ⟨Array.size h4_, 0, none⟩) 1 1) h10_ fun v11_ h12_ => ∃ A13_, ∃ n13_, ∃ c13_, v11_ = (Value.slice A13_ n13_ c13_) ∧ ∃ v14_, ldv false 1 h12_ (Addr.add (⟨Array.size h, 0, none⟩) 1) = some v14_ ∧ ∃ x15_, v14_ = (Value.int .i64 x15_) ∧ splitB (decide (x15_ > (1 : Int))) (∃ v16_, ldv false 1 h12_ (Addr.add (⟨Array.size h, 0, none⟩) 2) = some v16_ ∧ ∃ x17_, v16_ = (Value.int .i64 x17_) ∧ newH h12_ (Obj.cells #[(Value.int .i64 x17_)] 3) fun h18_ => AppW 3 1 8 #[(Value.int .i64 (0 : Int))] A13_ n13_ c13_ (Value.slice (some ⟨Array.size h12_, 0, none⟩) 1 1) h18_ fun v19_ h20_ => ∃ A21_, ∃ n21_, ∃ c21_, v19_ = (Value.slice A21_ n21_ c21_) ∧ f39.l0 R A21_ n21_ c21_ A9 n9 c9 x10 (IntKind.wrap .i64 (x11 + (1 : Int))) h20_) (f39.l0 R A13_ n13_ c13_ A9 n9 c9 x10 (IntKind.wrap .i64 (x11 + (1 : Int))) h12_))) (Run Try.prog 107 #[(Value.slice A3 n3 c3)] h fun v22_ h23_ => ∃ A24_, ∃ n24_, ∃ c24_, v22_ = (Value.slice A24_ n24_ c24_) ∧ R (Value.slice A24_ n24_ c24_) h23_)
set_option maxRecDepth 100000 in
theorem f39.l0_in {R : Value → Heap → Prop} {A3 : Option Addr} {n3 : Nat} {c3 : Nat} {A9 : Option Addr} {n9 : Nat} {c9 : Nat} {x10 : Int} {x11 : Int} {h : Heap} (H : f39.l0T R A3 n3 c3 A9 n9 c9 x10 x11 h) : f39.l0 R A3 n3 c3 A9 n9 c9 x10 x11 h :=
  pt_intro mixed f39.good (Eq.mpr (show (Fwd Try.prog f39.T f39.kp Try.f39 R [false, false, true, false, true, true] (mkFr [(3, (Value.slice A3 n3 c3)), (9, (Value.slice A9 n9 c9)), (10, (Value.int .i64 x10)), (11, (Value.int .i64 x11))]) h) = (f39.l0T R A3 n3 c3 A9 n9 c9 x10 x11 h) by kernel_rfl) H)
set_option maxRecDepth 100000 in
def f39.runT (R : Value → Heap → Prop) (A0 : Option Addr) (n0 : Nat) (c0 : Nat) (h : Heap) : Prop :=
  newH h (Obj.cells #[(Value.int .i64 ((n0 : Nat) : Int))] 3) fun h1_ => f39.l0 R (some ⟨Array.size h, 0, none⟩) 1 1 A0 n0 c0 ((n0 : Nat) : Int) (0 : Int) h1_
set_option maxRecDepth 100000 in
theorem f39.run {R : Value → Heap → Prop} {A0 : Option Addr} {n0 : Nat} {c0 : Nat} {h : Heap} (H : f39.runT R A0 n0 c0 h) : Run Try.prog 39 #[(Value.slice A0 n0 c0)] h R :=
  run_of mixed Try.func39 (by kernel_rfl) (by kernel_rfl) f39.good (Eq.mpr (show (Fwd Try.prog f39.T f39.kp Try.f39 R [] (mkFr (argL [(Value.slice A0 n0 c0)] 0)) h) = (f39.runT R A0 n0 c0 h) by kernel_rfl) H)

/-! ### roadstead/roadref4.Read: function 108 -/
def f108.T : Tab := { sh := tSh, tup := tTup, keep := [], plan := [] }
def f108.kp : Keep := [([false, false, false, true, true], [0, 4]), ([false, false, false, true, false, true, false, false, false, true, true], [0, 4, 5]), ([true, false, false, false, true, false, true, false, false, false, true, true], [0, 4, 5]), ([true, true, false, true, false, false, false, true, true], [0, 4, 5]), ([true, false, true, true, false, true, false, false, false, true, true], [0, 4, 5, 42]), ([true, true, true, false, true, false, false, false, true, true], [0, 4, 5]), ([false, false, true, false, true, true, true, true, false, true, false, false, false, true, true], [0, 4, 5, 6, 7])]
theorem f108.good : goodCode Try.prog f108.T (rootOf Try.f108) = true := by kernel_rfl
set_option maxRecDepth 100000 in
theorem f108.ok : calleeOk Try.prog 108 = true := by kernel_rfl
def f108.l0 (R : Value → Heap → Prop) (A0 : Option Addr) (n0 : Nat) (c0 : Nat) (A4 : Option Addr) (n4 : Nat) (c4 : Nat) (h : Heap) : Prop := Pt Try.prog Try.f108 R [false, false, false, true, true] (mkFr [(0, (Value.slice A0 n0 c0)), (4, (Value.slice A4 n4 c4))]) h
def f108.l1 (R : Value → Heap → Prop) (A0 : Option Addr) (n0 : Nat) (c0 : Nat) (A4 : Option Addr) (n4 : Nat) (c4 : Nat) (x5 : Int) (h : Heap) : Prop := Pt Try.prog Try.f108 R [false, false, false, true, false, true, false, false, false, true, true] (mkFr [(0, (Value.slice A0 n0 c0)), (4, (Value.slice A4 n4 c4)), (5, (Value.int .i64 x5))]) h
def f108.j3 (R : Value → Heap → Prop) (A0 : Option Addr) (n0 : Nat) (c0 : Nat) (A4 : Option Addr) (n4 : Nat) (c4 : Nat) (x5 : Int) (h : Heap) : Prop := Pt Try.prog Try.f108 R [true, false, false, false, true, false, true, false, false, false, true, true] (mkFr [(0, (Value.slice A0 n0 c0)), (4, (Value.slice A4 n4 c4)), (5, (Value.int .i64 x5))]) h
def f108.j0 (R : Value → Heap → Prop) (A0 : Option Addr) (n0 : Nat) (c0 : Nat) (A4 : Option Addr) (n4 : Nat) (c4 : Nat) (x5 : Int) (h : Heap) : Prop := Pt Try.prog Try.f108 R [true, true, false, true, false, false, false, true, true] (mkFr [(0, (Value.slice A0 n0 c0)), (4, (Value.slice A4 n4 c4)), (5, (Value.int .i64 x5))]) h
def f108.j2 (R : Value → Heap → Prop) (A0 : Option Addr) (n0 : Nat) (c0 : Nat) (A4 : Option Addr) (n4 : Nat) (c4 : Nat) (x5 : Int) (b42 : Bool) (h : Heap) : Prop := Pt Try.prog Try.f108 R [true, false, true, true, false, true, false, false, false, true, true] (mkFr [(0, (Value.slice A0 n0 c0)), (4, (Value.slice A4 n4 c4)), (5, (Value.int .i64 x5)), (42, (Value.bool b42))]) h
def f108.j1 (R : Value → Heap → Prop) (A0 : Option Addr) (n0 : Nat) (c0 : Nat) (A4 : Option Addr) (n4 : Nat) (c4 : Nat) (x5 : Int) (h : Heap) : Prop := Pt Try.prog Try.f108 R [true, true, true, false, true, false, false, false, true, true] (mkFr [(0, (Value.slice A0 n0 c0)), (4, (Value.slice A4 n4 c4)), (5, (Value.int .i64 x5))]) h
def f108.l2 (R : Value → Heap → Prop) (A0 : Option Addr) (n0 : Nat) (c0 : Nat) (A4 : Option Addr) (n4 : Nat) (c4 : Nat) (x5 : Int) (x6 : Int) (x7 : Int) (h : Heap) : Prop := Pt Try.prog Try.f108 R [false, false, true, false, true, true, true, true, false, true, false, false, false, true, true] (mkFr [(0, (Value.slice A0 n0 c0)), (4, (Value.slice A4 n4 c4)), (5, (Value.int .i64 x5)), (6, (Value.int .i64 x6)), (7, (Value.int .i64 x7))]) h
set_option maxRecDepth 100000 in
def f108.l0T (R : Value → Heap → Prop) (A0 : Option Addr) (n0 : Nat) (c0 : Nat) (A4 : Option Addr) (n4 : Nat) (c4 : Nat) (h : Heap) : Prop :=
  splitB (decide (((n0 : Nat) : Int) > (0 : Int))) (f108.l1 R A0 n0 c0 A4 n4 c4 (0 : Int) h) (R (Value.tuple #[(Value.slice A4 n4 c4), (Value.bool true)]) h)
set_option maxRecDepth 100000 in
theorem f108.l0_in {R : Value → Heap → Prop} {A0 : Option Addr} {n0 : Nat} {c0 : Nat} {A4 : Option Addr} {n4 : Nat} {c4 : Nat} {h : Heap} (H : f108.l0T R A0 n0 c0 A4 n4 c4 h) : f108.l0 R A0 n0 c0 A4 n4 c4 h :=
  pt_intro mixed f108.good (Eq.mpr (show (Fwd Try.prog f108.T f108.kp Try.f108 R [false, false, false, true, true] (mkFr [(0, (Value.slice A0 n0 c0)), (4, (Value.slice A4 n4 c4))]) h) = (f108.l0T R A0 n0 c0 A4 n4 c4 h) by kernel_rfl) H)
set_option maxRecDepth 100000 in
def f108.l1T (R : Value → Heap → Prop) (A0 : Option Addr) (n0 : Nat) (c0 : Nat) (A4 : Option Addr) (n4 : Nat) (c4 : Nat) (x5 : Int) (h : Heap) : Prop :=
  splitB (decide (x5 < ((n0 : Nat) : Int))) (ptrOk A0 fun a1_ => 0 ≤ x5 ∧ x5 < ((n0 : Nat) : Int) ∧ (∃ v2_, ldv false 1 h (Addr.add a1_ (Int.toNat x5 * 1)) = some v2_ ∧ ∃ x3_, v2_ = (Value.int .u8 x3_) ∧ splitB (decide (x3_ > (127 : Int))) (f108.j3 R A0 n0 c0 A4 n4 c4 x5 h) (f108.j0 R A0 n0 c0 A4 n4 c4 x5 h))) (f108.j0 R A0 n0 c0 A4 n4 c4 x5 h)
set_option maxRecDepth 100000 in
theorem f108.l1_in {R : Value → Heap → Prop} {A0 : Option Addr} {n0 : Nat} {c0 : Nat} {A4 : Option Addr} {n4 : Nat} {c4 : Nat} {x5 : Int} {h : Heap} (H : f108.l1T R A0 n0 c0 A4 n4 c4 x5 h) : f108.l1 R A0 n0 c0 A4 n4 c4 x5 h :=
  pt_intro mixed f108.good (Eq.mpr (show (Fwd Try.prog f108.T f108.kp Try.f108 R [false, false, false, true, false, true, false, false, false, true, true] (mkFr [(0, (Value.slice A0 n0 c0)), (4, (Value.slice A4 n4 c4)), (5, (Value.int .i64 x5))]) h) = (f108.l1T R A0 n0 c0 A4 n4 c4 x5 h) by kernel_rfl) H)
set_option maxRecDepth 100000 in
def f108.j3T (R : Value → Heap → Prop) (A0 : Option Addr) (n0 : Nat) (c0 : Nat) (A4 : Option Addr) (n4 : Nat) (c4 : Nat) (x5 : Int) (h : Heap) : Prop :=
  f108.l1 R A0 n0 c0 A4 n4 c4 (IntKind.wrap .i64 (x5 + (1 : Int))) h
set_option maxRecDepth 100000 in
theorem f108.j3_in {R : Value → Heap → Prop} {A0 : Option Addr} {n0 : Nat} {c0 : Nat} {A4 : Option Addr} {n4 : Nat} {c4 : Nat} {x5 : Int} {h : Heap} (H : f108.j3T R A0 n0 c0 A4 n4 c4 x5 h) : f108.j3 R A0 n0 c0 A4 n4 c4 x5 h :=
  pt_intro mixed f108.good (Eq.mpr (show (Fwd Try.prog f108.T f108.kp Try.f108 R [true, false, false, false, true, false, true, false, false, false, true, true] (mkFr [(0, (Value.slice A0 n0 c0)), (4, (Value.slice A4 n4 c4)), (5, (Value.int .i64 x5))]) h) = (f108.j3T R A0 n0 c0 A4 n4 c4 x5 h) by kernel_rfl) H)
set_option maxRecDepth 100000 in
def f108.j0T (R : Value → Heap → Prop) (A0 : Option Addr) (n0 : Nat) (c0 : Nat) (A4 : Option Addr) (n4 : Nat) (c4 : Nat) (x5 : Int) (h : Heap) : Prop :=
  splitB (x5 == ((n0 : Nat) : Int)) (f108.j2 R A0 n0 c0 A4 n4 c4 x5 true h) (splitB (decide (x5 > (2 : Int))) (f108.j2 R A0 n0 c0 A4 n4 c4 x5 true h) (splitB (decide (x5 > (0 : Int))) (ptrOk A0 fun a1_ => 0 ≤ x5 ∧ x5 < ((n0 : Nat) : Int) ∧ (∃ v2_, ldv false 1 h (Addr.add a1_ (Int.toNat x5 * 1)) = some v2_ ∧ ∃ x3_, v2_ = (Value.int .u8 x3_) ∧ f108.j2 R A0 n0 c0 A4 n4 c4 x5 (x3_ == (0 : Int)) h)) (f108.j2 R A0 n0 c0 A4 n4 c4 x5 false h)))
set_option maxRecDepth 100000 in
theorem f108.j0_in {R : Value → Heap → Prop} {A0 : Option Addr} {n0 : Nat} {c0 : Nat} {A4 : Option Addr} {n4 : Nat} {c4 : Nat} {x5 : Int} {h : Heap} (H : f108.j0T R A0 n0 c0 A4 n4 c4 x5 h) : f108.j0 R A0 n0 c0 A4 n4 c4 x5 h :=
  pt_intro mixed f108.good (Eq.mpr (show (Fwd Try.prog f108.T f108.kp Try.f108 R [true, true, false, true, false, false, false, true, true] (mkFr [(0, (Value.slice A0 n0 c0)), (4, (Value.slice A4 n4 c4)), (5, (Value.int .i64 x5))]) h) = (f108.j0T R A0 n0 c0 A4 n4 c4 x5 h) by kernel_rfl) H)
set_option maxRecDepth 100000 in
def f108.j2T (R : Value → Heap → Prop) (A0 : Option Addr) (n0 : Nat) (c0 : Nat) (A4 : Option Addr) (n4 : Nat) (c4 : Nat) (x5 : Int) (b42 : Bool) (h : Heap) : Prop :=
  splitB b42 (R (Value.tuple #[(Value.slice A4 n4 c4), (Value.bool false)]) h) (f108.j1 R A0 n0 c0 A4 n4 c4 x5 h)
set_option maxRecDepth 100000 in
theorem f108.j2_in {R : Value → Heap → Prop} {A0 : Option Addr} {n0 : Nat} {c0 : Nat} {A4 : Option Addr} {n4 : Nat} {c4 : Nat} {x5 : Int} {b42 : Bool} {h : Heap} (H : f108.j2T R A0 n0 c0 A4 n4 c4 x5 b42 h) : f108.j2 R A0 n0 c0 A4 n4 c4 x5 b42 h :=
  pt_intro mixed f108.good (Eq.mpr (show (Fwd Try.prog f108.T f108.kp Try.f108 R [true, false, true, true, false, true, false, false, false, true, true] (mkFr [(0, (Value.slice A0 n0 c0)), (4, (Value.slice A4 n4 c4)), (5, (Value.int .i64 x5)), (42, (Value.bool b42))]) h) = (f108.j2T R A0 n0 c0 A4 n4 c4 x5 b42 h) by kernel_rfl) H)
set_option maxRecDepth 100000 in
def f108.j1T (R : Value → Heap → Prop) (A0 : Option Addr) (n0 : Nat) (c0 : Nat) (A4 : Option Addr) (n4 : Nat) (c4 : Nat) (x5 : Int) (h : Heap) : Prop :=
  f108.l2 R A0 n0 c0 A4 n4 c4 x5 (0 : Int) x5 h
set_option maxRecDepth 100000 in
theorem f108.j1_in {R : Value → Heap → Prop} {A0 : Option Addr} {n0 : Nat} {c0 : Nat} {A4 : Option Addr} {n4 : Nat} {c4 : Nat} {x5 : Int} {h : Heap} (H : f108.j1T R A0 n0 c0 A4 n4 c4 x5 h) : f108.j1 R A0 n0 c0 A4 n4 c4 x5 h :=
  pt_intro mixed f108.good (Eq.mpr (show (Fwd Try.prog f108.T f108.kp Try.f108 R [true, true, true, false, true, false, false, false, true, true] (mkFr [(0, (Value.slice A0 n0 c0)), (4, (Value.slice A4 n4 c4)), (5, (Value.int .i64 x5))]) h) = (f108.j1T R A0 n0 c0 A4 n4 c4 x5 h) by kernel_rfl) H)
set_option maxRecDepth 100000 in
def f108.l2T (R : Value → Heap → Prop) (A0 : Option Addr) (n0 : Nat) (c0 : Nat) (A4 : Option Addr) (n4 : Nat) (c4 : Nat) (x5 : Int) (x6 : Int) (x7 : Int) (h : Heap) : Prop :=
  splitB (decide (x7 ≥ (0 : Int))) (ptrOk A0 fun a1_ => 0 ≤ x7 ∧ x7 < ((n0 : Nat) : Int) ∧ (∃ v2_, ldv false 1 h (Addr.add a1_ (Int.toNat x7 * 1)) = some v2_ ∧ ∃ x3_, v2_ = (Value.int .u8 x3_) ∧ (128 : Int) ≠ 0 ∧ (f108.l2 R A0 n0 c0 A4 n4 c4 x5 (IntKind.wrap .i64 ((IntKind.wrap .i64 (x6 * (128 : Int))) + (IntKind.wrap .i64 (Int.tmod x3_ (128 : Int))))) (IntKind.wrap .i64 (x7 - (1 : Int))) h))) (newH h (Obj.cells #[(Value.int .i64 x6)] 3) fun h4_ => AppW 3 1 8 #[(Value.int .i64 (0 : Int))] A4 n4 c4 (Value.slice (some ⟨Array.size h, 0, none⟩) 1 1) h4_ fun v5_ h6_ => ∃ A7_, ∃ n7_, ∃ c7_, v5_ = (Value.slice A7_ n7_ c7_) ∧ 0 ≤ (IntKind.wrap .i64 (x5 + (1 : Int))) ∧ (IntKind.wrap .i64 (x5 + (1 : Int))) ≤ ((n0 : Nat) : Int) ∧ ((n0 : Nat) : Int) ≤ ((c0 : Nat) : Int) ∧ (f108.l0 R (sliceA A0 (Int.toNat (IntKind.wrap .i64 (x5 + (1 : Int)))) c0 1) (Int.toNat ((n0 : Nat) : Int) - Int.toNat (IntKind.wrap .i64 (x5 + (1 : Int)))) (c0 - Int.toNat (IntKind.wrap .i64 (x5 + (1 : Int)))) A7_ n7_ c7_ h6_))
set_option maxRecDepth 100000 in
theorem f108.l2_in {R : Value → Heap → Prop} {A0 : Option Addr} {n0 : Nat} {c0 : Nat} {A4 : Option Addr} {n4 : Nat} {c4 : Nat} {x5 : Int} {x6 : Int} {x7 : Int} {h : Heap} (H : f108.l2T R A0 n0 c0 A4 n4 c4 x5 x6 x7 h) : f108.l2 R A0 n0 c0 A4 n4 c4 x5 x6 x7 h :=
  pt_intro mixed f108.good (Eq.mpr (show (Fwd Try.prog f108.T f108.kp Try.f108 R [false, false, true, false, true, true, true, true, false, true, false, false, false, true, true] (mkFr [(0, (Value.slice A0 n0 c0)), (4, (Value.slice A4 n4 c4)), (5, (Value.int .i64 x5)), (6, (Value.int .i64 x6)), (7, (Value.int .i64 x7))]) h) = (f108.l2T R A0 n0 c0 A4 n4 c4 x5 x6 x7 h) by kernel_rfl) H)
set_option maxRecDepth 100000 in
def f108.runT (R : Value → Heap → Prop) (A0 : Option Addr) (n0 : Nat) (c0 : Nat) (h : Heap) : Prop :=
  f108.l0 R A0 n0 c0 none 0 0 h
set_option maxRecDepth 100000 in
theorem f108.run {R : Value → Heap → Prop} {A0 : Option Addr} {n0 : Nat} {c0 : Nat} {h : Heap} (H : f108.runT R A0 n0 c0 h) : Run Try.prog 108 #[(Value.slice A0 n0 c0)] h R :=
  run_of mixed Try.func108 (by kernel_rfl) (by kernel_rfl) f108.good (Eq.mpr (show (Fwd Try.prog f108.T f108.kp Try.f108 R [] (mkFr (argL [(Value.slice A0 n0 c0)] 0)) h) = (f108.runT R A0 n0 c0 h) by kernel_rfl) H)

/-! ### roadstead/roadref4.Unpack: function 40 -/
def f40.T : Tab := { sh := tSh, tup := tTup, keep := [], plan := [(15, (.take 0 (.take 1 (.take 4 (.take 5 (.take 2 (.take 3 (.take 6 (.take 7 (.take 8 (.alt false 9 (.eff true 10 (.eff false 11 .done)) (.eff true 10 (.eff false 9 (.eff false 11 .done)))))))))))))), (20, (.take 0 (.take 1 (.take 3 (.take 4 (.take 2 (.take 5 (.eff false 6 (.take 7 .done)))))))))] }
def f40.kp : Keep := [([false, false, true, false, true, true, true, true, true, true, true, true], [4, 5, 7, 28, 29]), ([true, true, true, true, false, false, true, true, false, false, true, false, true, true, true, true, true, true, true, true], [4, 5, 7, 8, 28, 29]), ([true, false, true, true, true, true, true, true, true, true, true], [7, 69]), ([true, true, true, true, true, true, true, true, true, true], [7])]
theorem f40.good : goodCode Try.prog f40.T (rootOf Try.f40) = true := by kernel_rfl
set_option maxRecDepth 100000 in
theorem f40.ok : calleeOk Try.prog 40 = true := by kernel_rfl
def f40.l0 (R : Value → Heap → Prop) (A4 : Option Addr) (n4 : Nat) (c4 : Nat) (b5 : Bool) (A7 : Option Addr) (n7 : Nat) (c7 : Nat) (x28 : Int) (x29 : Int) (h : Heap) : Prop := Pt Try.prog Try.f40 R [false, false, true, false, true, true, true, true, true, true, true, true] (mkFr [(4, (Value.slice A4 n4 c4)), (5, (Value.bool b5)), (7, (Value.slice A7 n7 c7)), (28, (Value.int .i64 x28)), (29, (Value.int .i64 x29))]) h
def f40.j2 (R : Value → Heap → Prop) (A4 : Option Addr) (n4 : Nat) (c4 : Nat) (b5 : Bool) (A7 : Option Addr) (n7 : Nat) (c7 : Nat) (a8 : Addr) (x28 : Int) (x29 : Int) (h : Heap) : Prop := Pt Try.prog Try.f40 R [true, true, true, true, false, false, true, true, false, false, true, false, true, true, true, true, true, true, true, true] (mkFr [(4, (Value.slice A4 n4 c4)), (5, (Value.bool b5)), (7, (Value.slice A7 n7 c7)), (8, (Value.pointer (some a8))), (28, (Value.int .i64 x28)), (29, (Value.int .i64 x29))]) h
def f40.j1 (R : Value → Heap → Prop) (A7 : Option Addr) (n7 : Nat) (c7 : Nat) (b69 : Bool) (h : Heap) : Prop := Pt Try.prog Try.f40 R [true, false, true, true, true, true, true, true, true, true, true] (mkFr [(7, (Value.slice A7 n7 c7)), (69, (Value.bool b69))]) h
def f40.j0 (R : Value → Heap → Prop) (A7 : Option Addr) (n7 : Nat) (c7 : Nat) (h : Heap) : Prop := Pt Try.prog Try.f40 R [true, true, true, true, true, true, true, true, true, true] (mkFr [(7, (Value.slice A7 n7 c7))]) h
set_option maxRecDepth 100000 in
def f40.l0T (R : Value → Heap → Prop) (A4 : Option Addr) (n4 : Nat) (c4 : Nat) (b5 : Bool) (A7 : Option Addr) (n7 : Nat) (c7 : Nat) (x28 : Int) (x29 : Int) (h : Heap) : Prop :=
  splitB (decide (x29 < x28)) (splitB (((n4 : Nat) : Int) == (0 : Int)) (R (Value.tuple #[(Value.slice none 0 0), (Value.int .i64 (3 : Int))]) h) (ptrOk A4 fun a1_ => 0 ≤ (0 : Int) ∧ (0 : Int) < ((n4 : Nat) : Int) ∧ (ptrOk A4 fun a2_ => 0 ≤ (0 : Int) ∧ (0 : Int) < ((n4 : Nat) : Int) ∧ (∃ v3_, ldv false 1 h (Addr.add a1_ (Int.toNat (0 : Int) * 1)) = some v3_ ∧ ∃ x4_, v3_ = (Value.int .i64 x4_) ∧ (3 : Int) ≠ 0 ∧ (∃ v5_, ldv false 1 h (Addr.add a2_ (Int.toNat (0 : Int) * 1)) = some v5_ ∧ ∃ x6_, v5_ = (Value.int .i64 x6_) ∧ (3 : Int) ≠ 0 ∧ ((newH h (Obj.cells #[(Value.int .i64 (0 : Int)), (Value.int .i64 (0 : Int)), (Value.int .i64 (0 : Int))] 83) fun h7_ => Ext h h7_ ∧ (∃ l9_ : List Value, (Value.agg #[(Value.int .i64 (IntKind.wrap .i64 (Int.tdiv x4_ (3 : Int)))), (Value.int .i64 (IntKind.wrap .i64 ((Int.tmod x6_ (3 : Int)) + (1 : Int)))), (Value.int .i64 (0 : Int))]) = Value.agg l9_.toArray ∧ l9_.length = 3 ∧ ∃ h8_, stH h7_ (⟨Array.size h, 0, none⟩) l9_ 0 = some h8_ ∧ 0 ≤ (1 : Int) ∧ (1 : Int) ≤ ((n4 : Nat) : Int) ∧ ((n4 : Nat) : Int) ≤ ((c4 : Nat) : Int) ∧ (∃ v10_, ldv false 1 h8_ (Addr.add (⟨Array.size h, 0, none⟩) 1) = some v10_ ∧ ∃ x11_, v10_ = (Value.int .i64 x11_) ∧ splitB (decide (x11_ > (1 : Int))) (splitB ((((Int.toNat ((n4 : Nat) : Int) - Int.toNat (1 : Int)) : Nat) : Int) == (0 : Int)) (R (Value.tuple #[(Value.slice none 0 0), (Value.int .i64 (3 : Int))]) h8_) (ptrOk (sliceA A4 (Int.toNat (1 : Int)) c4 1) fun a12_ => 0 ≤ (0 : Int) ∧ (0 : Int) < (((Int.toNat ((n4 : Nat) : Int) - Int.toNat (1 : Int)) : Nat) : Int) ∧ (0 ≤ (1 : Int) ∧ (1 : Int) ≤ (((Int.toNat ((n4 : Nat) : Int) - Int.toNat (1 : Int)) : Nat) : Int) ∧ (((Int.toNat ((n4 : Nat) : Int) - Int.toNat (1 : Int)) : Nat) : Int) ≤ (((c4 - Int.toNat (1 : Int)) : Nat) : Int) ∧ (∃ v13_, ldv false 1 h8_ (Addr.add a12_ (Int.toNat (0 : Int) * 1)) = some v13_ ∧ ∃ x14_, v13_ = (Value.int .i64 x14_) ∧ ∃ h15_, st1 h8_ (Addr.add (⟨Array.size h, 0, none⟩) 2) (Value.int .i64 x14_) = some h15_ ∧ f40.j2 R (sliceA (sliceA A4 (Int.toNat (1 : Int)) c4 1) (Int.toNat (1 : Int)) (c4 - Int.toNat (1 : Int)) 1) (Int.toNat (((Int.toNat ((n4 : Nat) : Int) - Int.toNat (1 : Int)) : Nat) : Int) - Int.toNat (1 : Int)) ((c4 - Int.toNat (1 : Int)) - Int.toNat (1 : Int)) b5 A7 n7 c7 (⟨Array.size h, 0, none⟩) x28 x29 h15_)))) (f40.j2 R (sliceA A4 (Int.toNat (1 : Int)) c4 1) (Int.toNat ((n4 : Nat) : Int) - Int.toNat (1 : Int)) (c4 - Int.toNat (1 : Int)) b5 A7 n7 c7 (⟨Array.size h, 0, none⟩) x28 x29 h8_)))) ∧ (newH h (Obj.cells #[(Value.int .i64 (0 : Int)), (Value.int .i64 (0 : Int)), (Value.int .i64 (0 : Int))] 83) fun h16_ => Ext h h16_ ∧ (∃ l18_ : List Value, (Value.agg #[(Value.int .i64 (IntKind.wrap .i64 (Int.tdiv x4_ (3 : Int)))), (Value.int .i64 (IntKind.wrap .i64 ((Int.tmod x6_ (3 : Int)) + (1 : Int)))), (Value.int .i64 (0 : Int))]) = Value.agg l18_.toArray ∧ l18_.length = 3 ∧ ∃ h17_, stH h16_ (⟨Array.size h, 0, none⟩) l18_ 0 = some h17_ ∧ 0 ≤ (1 : Int) ∧ (1 : Int) ≤ ((n4 : Nat) : Int) ∧ ((n4 : Nat) : Int) ≤ ((c4 : Nat) : Int) ∧ (∃ v19_, ldv false 1 h17_ (Addr.add (⟨Array.size h, 0, none⟩) 1) = some v19_ ∧ ∃ x20_, v19_ = (Value.int .i64 x20_) ∧ splitB (decide (x20_ > (1 : Int))) (splitB ((((Int.toNat ((n4 : Nat) : Int) - Int.toNat (1 : Int)) : Nat) : Int) == (0 : Int)) (R (Value.tuple #[(Value.slice none 0 0), (Value.int .i64 (3 : Int))]) h17_) (ptrOk (sliceA A4 (Int.toNat (1 : Int)) c4 1) fun a21_ => 0 ≤ (0 : Int) ∧ (0 : Int) < (((Int.toNat ((n4 : Nat) : Int) - Int.toNat (1 : Int)) : Nat) : Int) ∧ (0 ≤ (1 : Int) ∧ (1 : Int) ≤ (((Int.toNat ((n4 : Nat) : Int) - Int.toNat (1 : Int)) : Nat) : Int) ∧ (((Int.toNat ((n4 : Nat) : Int) - Int.toNat (1 : Int)) : Nat) : Int) ≤ (((c4 - Int.toNat (1 : Int)) : Nat) : Int) ∧ (∃ v22_, ldv false 1 h17_ (Addr.add a21_ (Int.toNat (0 : Int) * 1)) = some v22_ ∧ ∃ x23_, v22_ = (Value.int .i64 x23_) ∧ ∃ h24_, st1 h17_ (Addr.add (⟨Array.size h, 0, none⟩) 2) (Value.int .i64 x23_) = some h24_ ∧ f40.j2 R (sliceA (sliceA A4 (Int.toNat (1 : Int)) c4 1) (Int.toNat (1 : Int)) (c4 - Int.toNat (1 : Int)) 1) (Int.toNat (((Int.toNat ((n4 : Nat) : Int) - Int.toNat (1 : Int)) : Nat) : Int) - Int.toNat (1 : Int)) ((c4 - Int.toNat (1 : Int)) - Int.toNat (1 : Int)) b5 A7 n7 c7 (⟨Array.size h, 0, none⟩) x28 x29 h24_)))) (f40.j2 R (sliceA A4 (Int.toNat (1 : Int)) c4 1) (Int.toNat ((n4 : Nat) : Int) - Int.toNat (1 : Int)) (c4 - Int.toNat (1 : Int)) b5 A7 n7 c7 (⟨Array.size h, 0, none⟩) x28 x29 h17_)))))))))) (splitB (decide (((n4 : Nat) : Int) > (0 : Int))) (f40.j1 R A7 n7 c7 true h) (f40.j1 R A7 n7 c7 (!b5) h))
set_option maxRecDepth 100000 in
theorem f40.l0_in {R : Value → Heap → Prop} {A4 : Option Addr} {n4 : Nat} {c4 : Nat} {b5 : Bool} {A7 : Option Addr} {n7 : Nat} {c7 : Nat} {x28 : Int} {x29 : Int} {h : Heap} (H : f40.l0T R A4 n4 c4 b5 A7 n7 c7 x28 x29 h) : f40.l0 R A4 n4 c4 b5 A7 n7 c7 x28 x29 h :=
  pt_intro mixed f40.good (Eq.mpr (show (Fwd Try.prog f40.T f40.kp Try.f40 R [false, false, true, false, true, true, true, true, true, true, true, true] (mkFr [(4, (Value.slice A4 n4 c4)), (5, (Value.bool b5)), (7, (Value.slice A7 n7 c7)), (28, (Value.int .i64 x28)), (29, (Value.int .i64 x29))]) h) = (f40.l0T R A4 n4 c4 b5 A7 n7 c7 x28 x29 h) by kernel_rfl) H)
set_option maxRecDepth 100000 in
def f40.j2T (R : Value → Heap → Prop) (A4 : Option Addr) (n4 : Nat) (c4 : Nat) (b5 : Bool) (A7 : Option Addr) (n7 : Nat) (c7 : Nat) (a8 : Addr) (x28 : Int) (x29 : Int) (h : Heap) : Prop :=
  ∃ v1_, ldv true 3 h a8 = some v1_ ∧ ∃ l2_ : List Value, v1_ = Value.agg l2_.toArray ∧ l2_.length = 3 ∧ (newH h (Obj.cells ((List.take 0 ([(Value.int .i64 (0 : Int)), (Value.int .i64 (0 : Int)), (Value.int .i64 (0 : Int))]) ++ l2_ ++ List.drop 3 ([(Value.int .i64 (0 : Int)), (Value.int .i64 (0 : Int)), (Value.int .i64 (0 : Int))])).toArray) 83) fun h3_ => AppW 83 3 24 #[(Value.int .i64 (0 : Int)), (Value.int .i64 (0 : Int)), (Value.int .i64 (0 : Int))] A7 n7 c7 (Value.slice (some ⟨Array.size h, 0, none⟩) 1 1) h3_ fun v4_ h5_ => ∃ A6_, ∃ n6_, ∃ c6_, v4_ = (Value.slice A6_ n6_ c6_) ∧ f40.l0 R A4 n4 c4 b5 A6_ n6_ c6_ x28 (IntKind.wrap .i64 (x29 + (1 : Int))) h5_)
set_option maxRecDepth 100000 in
theorem f40.j2_in {R : Value → Heap → Prop} {A4 : Option Addr} {n4 : Nat} {c4 : Nat} {b5 : Bool} {A7 : Option Addr} {n7 : Nat} {c7 : Nat} {a8 : Addr} {x28 : Int} {x29 : Int} {h : Heap} (H : f40.j2T R A4 n4 c4 b5 A7 n7 c7 a8 x28 x29 h) : f40.j2 R A4 n4 c4 b5 A7 n7 c7 a8 x28 x29 h :=
  pt_intro mixed f40.good (Eq.mpr (show (Fwd Try.prog f40.T f40.kp Try.f40 R [true, true, true, true, false, false, true, true, false, false, true, false, true, true, true, true, true, true, true, true] (mkFr [(4, (Value.slice A4 n4 c4)), (5, (Value.bool b5)), (7, (Value.slice A7 n7 c7)), (8, (Value.pointer (some a8))), (28, (Value.int .i64 x28)), (29, (Value.int .i64 x29))]) h) = (f40.j2T R A4 n4 c4 b5 A7 n7 c7 a8 x28 x29 h) by kernel_rfl) H)
set_option maxRecDepth 100000 in
def f40.j1T (R : Value → Heap → Prop) (A7 : Option Addr) (n7 : Nat) (c7 : Nat) (b69 : Bool) (h : Heap) : Prop :=
  splitB b69 (R (Value.tuple #[(Value.slice none 0 0), (Value.int .i64 (3 : Int))]) h) (f40.j0 R A7 n7 c7 h)
set_option maxRecDepth 100000 in
theorem f40.j1_in {R : Value → Heap → Prop} {A7 : Option Addr} {n7 : Nat} {c7 : Nat} {b69 : Bool} {h : Heap} (H : f40.j1T R A7 n7 c7 b69 h) : f40.j1 R A7 n7 c7 b69 h :=
  pt_intro mixed f40.good (Eq.mpr (show (Fwd Try.prog f40.T f40.kp Try.f40 R [true, false, true, true, true, true, true, true, true, true, true] (mkFr [(7, (Value.slice A7 n7 c7)), (69, (Value.bool b69))]) h) = (f40.j1T R A7 n7 c7 b69 h) by kernel_rfl) H)
set_option maxRecDepth 100000 in
def f40.j0T (R : Value → Heap → Prop) (A7 : Option Addr) (n7 : Nat) (c7 : Nat) (h : Heap) : Prop :=
  Run Try.prog 23 #[(Value.slice A7 n7 c7)] h fun v1_ h2_ => ∃ x3_, v1_ = (Value.int .i64 x3_) ∧ splitB (x3_ != (0 : Int)) (R (Value.tuple #[(Value.slice none 0 0), (Value.int .i64 x3_)]) h2_) (R (Value.tuple #[(Value.slice A7 n7 c7), (Value.int .i64 (0 : Int))]) h2_)
set_option maxRecDepth 100000 in
theorem f40.j0_in {R : Value → Heap → Prop} {A7 : Option Addr} {n7 : Nat} {c7 : Nat} {h : Heap} (H : f40.j0T R A7 n7 c7 h) : f40.j0 R A7 n7 c7 h :=
  pt_intro mixed f40.good (Eq.mpr (show (Fwd Try.prog f40.T f40.kp Try.f40 R [true, true, true, true, true, true, true, true, true, true] (mkFr [(7, (Value.slice A7 n7 c7))]) h) = (f40.j0T R A7 n7 c7 h) by kernel_rfl) H)
set_option maxRecDepth 100000 in
def f40.runT (R : Value → Heap → Prop) (A0 : Option Addr) (n0 : Nat) (c0 : Nat) (h : Heap) : Prop :=
  splitB (decide (((n0 : Nat) : Int) > (4000 : Int))) (R (Value.tuple #[(Value.slice none 0 0), (Value.int .i64 (2 : Int))]) h) (Run Try.prog 108 #[(Value.slice A0 n0 c0)] h fun v1_ h2_ => ∃ A3_, ∃ n3_, ∃ c3_, ∃ b4_, v1_ = (Value.tuple #[(Value.slice A3_ n3_ c3_), (Value.bool b4_)]) ∧ splitB (((n3_ : Nat) : Int) == (0 : Int)) (R (Value.tuple #[(Value.slice none 0 0), (Value.int .i64 (3 : Int))]) h2_) (ptrOk A3_ fun a5_ => 0 ≤ (0 : Int) ∧ (0 : Int) < ((n3_ : Nat) : Int) ∧ (∃ v6_, ldv false 1 h2_ (Addr.add a5_ (Int.toNat (0 : Int) * 1)) = some v6_ ∧ ∃ x7_, v6_ = (Value.int .i64 x7_) ∧ splitB (decide (x7_ > (200 : Int))) (R (Value.tuple #[(Value.slice none 0 0), (Value.int .i64 (2 : Int))]) h2_) (0 ≤ (1 : Int) ∧ (1 : Int) ≤ ((n3_ : Nat) : Int) ∧ ((n3_ : Nat) : Int) ≤ ((c3_ : Nat) : Int) ∧ (f40.l0 R (sliceA A3_ (Int.toNat (1 : Int)) c3_ 1) (Int.toNat ((n3_ : Nat) : Int) - Int.toNat (1 : Int)) (c3_ - Int.toNat (1 : Int)) b4_ none 0 0 x7_ (0 : Int) h2_)))))
set_option maxRecDepth 100000 in
theorem f40.run {R : Value → Heap → Prop} {A0 : Option Addr} {n0 : Nat} {c0 : Nat} {h : Heap} (H : f40.runT R A0 n0 c0 h) : Run Try.prog 40 #[(Value.slice A0 n0 c0)] h R :=
  run_of mixed Try.func40 (by kernel_rfl) (by kernel_rfl) f40.good (Eq.mpr (show (Fwd Try.prog f40.T f40.kp Try.f40 R [] (mkFr (argL [(Value.slice A0 n0 c0)] 0)) h) = (f40.runT R A0 n0 c0 h) by kernel_rfl) H)

/-! ### slices.Equal[[]roadstead/api.Event,roadstead/api.Event]: function 41 -/
def f41.T : Tab := { sh := tSh, tup := tTup, keep := [], plan := [(6, (.take 0 (.take 1 (.take 2 (.take 4 (.take 5 (.take 6 (.take 3 (.take 7 (.eff false 8 .done))))))))))] }
def f41.kp : Keep := [([false, false, true, false, true, true], [0, 1, 12, 13])]
theorem f41.good : goodCode Try.prog f41.T (rootOf Try.f41) = true := by kernel_rfl
set_option maxRecDepth 100000 in
theorem f41.ok : calleeOk Try.prog 41 = true := by kernel_rfl
def f41.l0 (R : Value → Heap → Prop) (A0 : Option Addr) (n0 : Nat) (c0 : Nat) (A1 : Option Addr) (n1 : Nat) (c1 : Nat) (x12 : Int) (x13 : Int) (h : Heap) : Prop := Pt Try.prog Try.f41 R [false, false, true, false, true, true] (mkFr [(0, (Value.slice A0 n0 c0)), (1, (Value.slice A1 n1 c1)), (12, (Value.int .i64 x12)), (13, (Value.int .i64 x13))]) h
set_option maxRecDepth 100000 in
def f41.l0T (R : Value → Heap → Prop) (A0 : Option Addr) (n0 : Nat) (c0 : Nat) (A1 : Option Addr) (n1 : Nat) (c1 : Nat) (x12 : Int) (x13 : Int) (h : Heap) : Prop :=
  splitB (decide (x13 < x12)) (ptrOk A0 fun a1_ => 0 ≤ x13 ∧ x13 < ((n0 : Nat) : Int) ∧ (ptrOk A1 fun a2_ => 0 ≤ x13 ∧ x13 < ((n1 : Nat) : Int) ∧ (∃ v3_, ldv true 3 h (Addr.add a1_ (Int.toNat x13 * 3)) = some v3_ ∧ ∃ v4_, ldv true 3 h (Addr.add a2_ (Int.toNat x13 * 3)) = some v4_ ∧ Gen Try.prog (do eqGuard .neq 83 (.tmp 19) (.tmp 23) v3_ v4_; binOp .neq 83 v3_ v4_) h fun v5_ h6_ => ∃ b7_, v5_ = Value.bool b7_ ∧ splitB b7_ (R (Value.bool false) h6_) (f41.l0 R A0 n0 c0 A1 n1 c1 x12 (IntKind.wrap .i64 (x13 + (1 : Int))) h6_)))) (R (Value.bool true) h)
set_option maxRecDepth 100000 in
theorem f41.l0_in {R : Value → Heap → Prop} {A0 : Option Addr} {n0 : Nat} {c0 : Nat} {A1 : Option Addr} {n1 : Nat} {c1 : Nat} {x12 : Int} {x13 : Int} {h : Heap} (H : f41.l0T R A0 n0 c0 A1 n1 c1 x12 x13 h) : f41.l0 R A0 n0 c0 A1 n1 c1 x12 x13 h :=
  pt_intro mixed f41.good (Eq.mpr (show (Fwd Try.prog f41.T f41.kp Try.f41 R [false, false, true, false, true, true] (mkFr [(0, (Value.slice A0 n0 c0)), (1, (Value.slice A1 n1 c1)), (12, (Value.int .i64 x12)), (13, (Value.int .i64 x13))]) h) = (f41.l0T R A0 n0 c0 A1 n1 c1 x12 x13 h) by kernel_rfl) H)
set_option maxRecDepth 100000 in
def f41.runT (R : Value → Heap → Prop) (A0 : Option Addr) (n0 : Nat) (c0 : Nat) (A1 : Option Addr) (n1 : Nat) (c1 : Nat) (h : Heap) : Prop :=
  splitB (((n0 : Nat) : Int) != ((n1 : Nat) : Int)) (R (Value.bool false) h) (f41.l0 R A0 n0 c0 A1 n1 c1 ((n0 : Nat) : Int) (0 : Int) h)
set_option maxRecDepth 100000 in
theorem f41.run {R : Value → Heap → Prop} {A0 : Option Addr} {n0 : Nat} {c0 : Nat} {A1 : Option Addr} {n1 : Nat} {c1 : Nat} {h : Heap} (H : f41.runT R A0 n0 c0 A1 n1 c1 h) : Run Try.prog 41 #[(Value.slice A0 n0 c0), (Value.slice A1 n1 c1)] h R :=
  run_of mixed Try.func41 (by kernel_rfl) (by kernel_rfl) f41.good (Eq.mpr (show (Fwd Try.prog f41.T f41.kp Try.f41 R [] (mkFr (argL [(Value.slice A0 n0 c0), (Value.slice A1 n1 c1)] 0)) h) = (f41.runT R A0 n0 c0 A1 n1 c1 h) by kernel_rfl) H)

/-! ### roadstead/roadlaw4.TraceSays: function 6 -/
def f6.T : Tab := { sh := tSh, tup := tTup, keep := [], plan := [] }
def f6.kp : Keep := [([true, true], [0, 1]), ([true, true, true, true, true], [1, 9, 10])]
theorem f6.good : goodCode Try.prog f6.T (rootOf Try.f6) = true := by kernel_rfl
set_option maxRecDepth 100000 in
theorem f6.ok : calleeOk Try.prog 6 = true := by kernel_rfl
def f6.j0 (R : Value → Heap → Prop) (A0 : Option Addr) (n0 : Nat) (c0 : Nat) (A1 : Option Addr) (n1 : Nat) (c1 : Nat) (h : Heap) : Prop := Pt Try.prog Try.f6 R [true, true] (mkFr [(0, (Value.slice A0 n0 c0)), (1, (Value.slice A1 n1 c1))]) h
def f6.j1 (R : Value → Heap → Prop) (A1 : Option Addr) (n1 : Nat) (c1 : Nat) (A9 : Option Addr) (n9 : Nat) (c9 : Nat) (x10 : Int) (h : Heap) : Prop := Pt Try.prog Try.f6 R [true, true, true, true, true] (mkFr [(1, (Value.slice A1 n1 c1)), (9, (Value.slice A9 n9 c9)), (10, (Value.int .i64 x10))]) h
set_option maxRecDepth 100000 in
def f6.j0T (R : Value → Heap → Prop) (A0 : Option Addr) (n0 : Nat) (c0 : Nat) (A1 : Option Addr) (n1 : Nat) (c1 : Nat) (h : Heap) : Prop :=
  Run Try.prog 36 #[(Value.slice A0 n0 c0)] h fun v1_ h2_ => ∃ A3_, ∃ n3_, ∃ c3_, ∃ x4_, v1_ = (Value.tuple #[(Value.slice A3_ n3_ c3_), (Value.int .i64 x4_)]) ∧ Run Try.prog 38 #[(Value.slice A1 n1 c1)] h2_ fun v5_ h6_ => ∃ A7_, ∃ n7_, ∃ c7_, ∃ x8_, v5_ = (Value.tuple #[(Value.slice A7_ n7_ c7_), (Value.int .i64 x8_)]) ∧ Run Try.prog 23 #[(Value.slice A0 n0 c0)] h6_ fun v9_ h10_ => ∃ x11_, v9_ = (Value.int .i64 x11_) ∧ splitB (x11_ != (0 : Int)) (splitB (x4_ != x11_) (R (Value.bool false) h10_) (splitB (((n3_ : Nat) : Int) != (0 : Int)) (R (Value.bool false) h10_) (f6.j1 R A1 n1 c1 A7_ n7_ c7_ x8_ h10_))) (splitB (x4_ != (0 : Int)) (R (Value.bool false) h10_) (Run Try.prog 39 #[(Value.slice A0 n0 c0)] h10_ fun v12_ h13_ => ∃ A14_, ∃ n14_, ∃ c14_, v12_ = (Value.slice A14_ n14_ c14_) ∧ Run Try.prog 37 #[(Value.slice A3_ n3_ c3_), (Value.slice A14_ n14_ c14_)] h13_ fun v15_ h16_ => ∃ b17_, v15_ = (Value.bool b17_) ∧ splitB (!b17_) (R (Value.bool false) h16_) (f6.j1 R A1 n1 c1 A7_ n7_ c7_ x8_ h16_)))
set_option maxRecDepth 100000 in
theorem f6.j0_in {R : Value → Heap → Prop} {A0 : Option Addr} {n0 : Nat} {c0 : Nat} {A1 : Option Addr} {n1 : Nat} {c1 : Nat} {h : Heap} (H : f6.j0T R A0 n0 c0 A1 n1 c1 h) : f6.j0 R A0 n0 c0 A1 n1 c1 h :=
  pt_intro mixed f6.good (Eq.mpr (show (Fwd Try.prog f6.T f6.kp Try.f6 R [true, true] (mkFr [(0, (Value.slice A0 n0 c0)), (1, (Value.slice A1 n1 c1))]) h) = (f6.j0T R A0 n0 c0 A1 n1 c1 h) by kernel_rfl) H)
set_option maxRecDepth 100000 in
def f6.j1T (R : Value → Heap → Prop) (A1 : Option Addr) (n1 : Nat) (c1 : Nat) (A9 : Option Addr) (n9 : Nat) (c9 : Nat) (x10 : Int) (h : Heap) : Prop :=
  Run Try.prog 40 #[(Value.slice A1 n1 c1)] h fun v1_ h2_ => ∃ A3_, ∃ n3_, ∃ c3_, ∃ x4_, v1_ = (Value.tuple #[(Value.slice A3_ n3_ c3_), (Value.int .i64 x4_)]) ∧ splitB (x10 == x4_) (Run Try.prog 41 #[(Value.slice A9 n9 c9), (Value.slice A3_ n3_ c3_)] h2_ fun v5_ h6_ => ∃ b7_, v5_ = (Value.bool b7_) ∧ R (Value.bool b7_) h6_) (R (Value.bool false) h2_)
set_option maxRecDepth 100000 in
theorem f6.j1_in {R : Value → Heap → Prop} {A1 : Option Addr} {n1 : Nat} {c1 : Nat} {A9 : Option Addr} {n9 : Nat} {c9 : Nat} {x10 : Int} {h : Heap} (H : f6.j1T R A1 n1 c1 A9 n9 c9 x10 h) : f6.j1 R A1 n1 c1 A9 n9 c9 x10 h :=
  pt_intro mixed f6.good (Eq.mpr (show (Fwd Try.prog f6.T f6.kp Try.f6 R [true, true, true, true, true] (mkFr [(1, (Value.slice A1 n1 c1)), (9, (Value.slice A9 n9 c9)), (10, (Value.int .i64 x10))]) h) = (f6.j1T R A1 n1 c1 A9 n9 c9 x10 h) by kernel_rfl) H)
set_option maxRecDepth 100000 in
def f6.runT (R : Value → Heap → Prop) (A0 : Option Addr) (n0 : Nat) (c0 : Nat) (A1 : Option Addr) (n1 : Nat) (c1 : Nat) (h : Heap) : Prop :=
  Run Try.prog 22 #[] h fun v1_ h2_ => ∃ A3_, ∃ n3_, ∃ c3_, v1_ = (Value.slice A3_ n3_ c3_) ∧ Run Try.prog 36 #[(Value.slice A3_ n3_ c3_)] h2_ fun v4_ h5_ => ∃ A6_, ∃ n6_, ∃ c6_, ∃ x7_, v4_ = (Value.tuple #[(Value.slice A6_ n6_ c6_), (Value.int .i64 x7_)]) ∧ splitB (x7_ != (0 : Int)) (R (Value.bool false) h5_) (newH h5_ (Obj.cells #[(Value.int .u8 (2 : Int)), (Value.int .u8 (1 : Int)), (Value.int .u8 (5 : Int)), (Value.int .u8 (5 : Int)), (Value.int .u8 (5 : Int))] 5) fun h8_ => Run Try.prog 37 #[(Value.slice A6_ n6_ c6_), (Value.slice (some ⟨Array.size h5_, 0, none⟩) 5 5)] h8_ fun v9_ h10_ => ∃ b11_, v9_ = (Value.bool b11_) ∧ splitB (!b11_) (R (Value.bool false) h10_) (f6.j0 R A0 n0 c0 A1 n1 c1 h10_))
set_option maxRecDepth 100000 in
theorem f6.run {R : Value → Heap → Prop} {A0 : Option Addr} {n0 : Nat} {c0 : Nat} {A1 : Option Addr} {n1 : Nat} {c1 : Nat} {h : Heap} (H : f6.runT R A0 n0 c0 A1 n1 c1 h) : Run Try.prog 6 #[(Value.slice A0 n0 c0), (Value.slice A1 n1 c1)] h R :=
  run_of mixed Try.func6 (by kernel_rfl) (by kernel_rfl) f6.good (Eq.mpr (show (Fwd Try.prog f6.T f6.kp Try.f6 R [] (mkFr (argL [(Value.slice A0 n0 c0), (Value.slice A1 n1 c1)] 0)) h) = (f6.runT R A0 n0 c0 A1 n1 c1 h) by kernel_rfl) H)

end Go.Proofs.Ytilmfjdagnbbaaa.Fw
