/- Part 2: what the law PartSays needs, put together out of texts of this session. -/
import Derived.ProofKit
import Derived.OpenShut
import Derived.ShutString
import Derived.ChangeOld
import Derived.Below
import Derived.SizedLaws
import Derived.ChangeArms
import Derived.Laws.StructEq
import Derived.Test.YthnlhffpmlgmfadZPartSaysa
section
namespace Go.Proofs.Ythnlhffpmlgmfad.Fw
open Go Go.Hw Go.Proofs
set_option linter.unusedVariables false
def f40.T : Tab := { sh := tSh, tup := tTup, keep := [], plan := [] }
def f40.kp : Keep := [([false, false, true, false, true, true], [8, 9, 10])]
theorem f40.good : goodCode Try.prog f40.T (rootOf Try.f40) = true := by kernel_rfl
def f40.l0 (R : Value → Heap → Prop) (A8 : Option Addr) (n8 : Nat) (c8 : Nat) (x9 : Int) (x10 : Int) (h : Heap) : Prop := Pt Try.prog Try.f40 R [false, false, true, false, true, true] (mkFr [(8, (Value.slice A8 n8 c8)), (9, (Value.int .i64 x9)), (10, (Value.int .i64 x10))]) h
set_option maxRecDepth 100000 in
def f40.l0T (R : Value → Heap → Prop) (A8 : Option Addr) (n8 : Nat) (c8 : Nat) (x9 : Int) (x10 : Int) (h : Heap) : Prop :=
  splitB (decide (x10 < x9)) (ptrOk A8 fun a1_ => 0 ≤ x10 ∧ x10 < ((n8 : Nat) : Int) ∧ (∃ v2_, ldv true 3 h (Addr.add a1_ (Int.toNat x10 * 3)) = some v2_ ∧ newH h (Obj.cells #[(Value.int .i64 (0 : Int)), (Value.int .i64 (0 : Int)), (Value.int .i64 (0 : Int))] 71) fun h3_ => ∃ l5_ : List Value, v2_ = Value.agg l5_.toArray ∧ l5_.length = 3 ∧ ∃ h4_, stH h3_ (⟨Array.size h, 0, none⟩) l5_ 0 = some h4_ ∧ ∃ v6_, ldv false 1 h4_ (⟨Array.size h, 0, none⟩) = some v6_ ∧ ∃ x7_, v6_ = (Value.int .i64 x7_) ∧ splitB (decide (x7_ < (0 : Int))) (R (Value.int .i64 (1 : Int)) h4_) (∃ v8_, ldv false 1 h4_ (⟨Array.size h, 0, none⟩) = some v8_ ∧ ∃ x9_, v8_ = (Value.int .i64 x9_) ∧ splitB (decide (x9_ ≥ (8 : Int))) (R (Value.int .i64 (1 : Int)) h4_) (∃ v10_, ldv false 1 h4_ (Addr.add (⟨Array.size h, 0, none⟩) 1) = some v10_ ∧ ∃ x11_, v10_ = (Value.int .i64 x11_) ∧ splitB (decide (x11_ < (0 : Int))) (R (Value.int .i64 (1 : Int)) h4_) (∃ v12_, ldv false 1 h4_ (Addr.add (⟨Array.size h, 0, none⟩) 1) = some v12_ ∧ ∃ x13_, v12_ = (Value.int .i64 x13_) ∧ splitB (decide (x13_ ≥ (256 : Int))) (R (Value.int .i64 (1 : Int)) h4_) (∃ v14_, ldv false 1 h4_ (Addr.add (⟨Array.size h, 0, none⟩) 2) = some v14_ ∧ ∃ x15_, v14_ = (Value.int .i64 x15_) ∧ splitB (decide (x15_ < (0 : Int))) (R (Value.int .i64 (1 : Int)) h4_) (∃ v16_, ldv false 1 h4_ (Addr.add (⟨Array.size h, 0, none⟩) 2) = some v16_ ∧ ∃ x17_, v16_ = (Value.int .i64 x17_) ∧ splitB (decide (x17_ ≥ (256 : Int))) (R (Value.int .i64 (1 : Int)) h4_) (f40.l0 R A8 n8 c8 x9 (IntKind.wrap .i64 (x10 + (1 : Int))) h4_)))))))) (R (Value.int .i64 (0 : Int)) h)
set_option maxRecDepth 100000 in
theorem f40.l0_in {R : Value → Heap → Prop} {A8 : Option Addr} {n8 : Nat} {c8 : Nat} {x9 : Int} {x10 : Int} {h : Heap} (H : f40.l0T R A8 n8 c8 x9 x10 h) : f40.l0 R A8 n8 c8 x9 x10 h :=
  pt_intro mixed f40.good (Eq.mpr (show (Fwd Try.prog f40.T f40.kp Try.f40 R [false, false, true, false, true, true] (mkFr [(8, (Value.slice A8 n8 c8)), (9, (Value.int .i64 x9)), (10, (Value.int .i64 x10))]) h) = (f40.l0T R A8 n8 c8 x9 x10 h) by kernel_rfl) H)
set_option maxRecDepth 100000 in
def f40.runT (R : Value → Heap → Prop) (A0 : Option Addr) (n0 : Nat) (c0 : Nat) (h : Heap) : Prop :=
  splitB (decide (((n0 : Nat) : Int) > (40 : Int))) (R (Value.int .i64 (2 : Int)) h) (f40.l0 R A0 n0 c0 ((n0 : Nat) : Int) (0 : Int) h)
set_option maxRecDepth 100000 in
theorem f40.run {R : Value → Heap → Prop} {A0 : Option Addr} {n0 : Nat} {c0 : Nat} {h : Heap} (H : f40.runT R A0 n0 c0 h) : Run Try.prog 40 #[(Value.slice A0 n0 c0)] h R :=
  run_of mixed Try.func40 (by kernel_rfl) (by kernel_rfl) f40.good (Eq.mpr (show (Fwd Try.prog f40.T f40.kp Try.f40 R [] (mkFr (argL [(Value.slice A0 n0 c0)] 0)) h) = (f40.runT R A0 n0 c0 h) by kernel_rfl) H)
def f91.T : Tab := { sh := tSh, tup := tTup, keep := [], plan := [] }
def f91.kp : Keep := []
theorem f91.good : goodCode Try.prog f91.T (rootOf Try.f91) = true := by kernel_rfl
set_option maxRecDepth 100000 in
def f91.runT (R : Value → Heap → Prop) (v0 : Value) (v1 : Value) (h : Heap) : Prop :=
  newH h (Obj.cells ((v0).cells) 71) fun h1_ => newH h1_ (Obj.cells ((v1).cells) 71) fun h2_ => ∃ v3_, ldv false 1 h2_ (⟨Array.size h, 0, none⟩) = some v3_ ∧ ∃ x4_, v3_ = (Value.int .i64 x4_) ∧ ∃ v5_, ldv false 1 h2_ (⟨Array.size h1_, 0, none⟩) = some v5_ ∧ ∃ x6_, v5_ = (Value.int .i64 x6_) ∧ splitB (x4_ == x6_) (R (Value.bool true) h2_) (∃ v7_, ldv false 1 h2_ (Addr.add (⟨Array.size h, 0, none⟩) 2) = some v7_ ∧ ∃ x8_, v7_ = (Value.int .i64 x8_) ∧ ∃ v9_, ldv false 1 h2_ (Addr.add (⟨Array.size h1_, 0, none⟩) 1) = some v9_ ∧ ∃ x10_, v9_ = (Value.int .i64 x10_) ∧ ∃ v11_, ldv false 1 h2_ (Addr.add (⟨Array.size h1_, 0, none⟩) 2) = some v11_ ∧ ∃ x12_, v11_ = (Value.int .i64 x12_) ∧ splitB ((bitsI .and .i64 x8_ (bitsI .or .i64 x10_ x12_)) != (0 : Int)) (R (Value.bool true) h2_) (∃ v13_, ldv false 1 h2_ (Addr.add (⟨Array.size h1_, 0, none⟩) 2) = some v13_ ∧ ∃ x14_, v13_ = (Value.int .i64 x14_) ∧ ∃ v15_, ldv false 1 h2_ (Addr.add (⟨Array.size h, 0, none⟩) 1) = some v15_ ∧ ∃ x16_, v15_ = (Value.int .i64 x16_) ∧ R (Value.bool ((bitsI .and .i64 x14_ x16_) != (0 : Int))) h2_))
set_option maxRecDepth 100000 in
theorem f91.run {R : Value → Heap → Prop} {v0 : Value} {v1 : Value} {h : Heap} (H : f91.runT R v0 v1 h) : Run Try.prog 91 #[v0, v1] h R :=
  run_of mixed Try.func91 (by kernel_rfl) (by kernel_rfl) f91.good (Eq.mpr (show (Fwd Try.prog f91.T f91.kp Try.f91 R [] (mkFr (argL [v0, v1] 0)) h) = (f91.runT R v0 v1 h) by kernel_rfl) H)
def f33.T : Tab := { sh := tSh, tup := tTup, keep := [], plan := [] }
def f33.kp : Keep := []
theorem f33.good : goodCode Try.prog f33.T (rootOf Try.f33) = true := by kernel_rfl
set_option maxRecDepth 100000 in
def f33.runT (R : Value → Heap → Prop) (v0 : Value) (v1 : Value) (h : Heap) : Prop :=
  newH h (Obj.cells ((v0).cells) 71) fun h1_ => newH h1_ (Obj.cells ((v1).cells) 71) fun h2_ => ∃ v3_, ldv true 3 h2_ (⟨Array.size h, 0, none⟩) = some v3_ ∧ ∃ v4_, ldv true 3 h2_ (⟨Array.size h1_, 0, none⟩) = some v4_ ∧ ∃ l5_ : List Value, v3_ = Value.agg l5_.toArray ∧ l5_.length = 3 ∧ (∃ l6_ : List Value, v4_ = Value.agg l6_.toArray ∧ l6_.length = 3 ∧ (newH h2_ (Obj.cells ((List.take 3 (List.take 0 ([(Value.int .i64 (0 : Int)), (Value.int .i64 (0 : Int)), (Value.int .i64 (0 : Int)), (Value.int .i64 (0 : Int)), (Value.int .i64 (0 : Int)), (Value.int .i64 (0 : Int))]) ++ l5_ ++ List.drop 3 ([(Value.int .i64 (0 : Int)), (Value.int .i64 (0 : Int)), (Value.int .i64 (0 : Int)), (Value.int .i64 (0 : Int)), (Value.int .i64 (0 : Int)), (Value.int .i64 (0 : Int))])) ++ l6_ ++ List.drop 6 (List.take 0 ([(Value.int .i64 (0 : Int)), (Value.int .i64 (0 : Int)), (Value.int .i64 (0 : Int)), (Value.int .i64 (0 : Int)), (Value.int .i64 (0 : Int)), (Value.int .i64 (0 : Int))]) ++ l5_ ++ List.drop 3 ([(Value.int .i64 (0 : Int)), (Value.int .i64 (0 : Int)), (Value.int .i64 (0 : Int)), (Value.int .i64 (0 : Int)), (Value.int .i64 (0 : Int)), (Value.int .i64 (0 : Int))]))).toArray) 71) fun h7_ => Run Try.prog 40 #[(Value.slice (some ⟨Array.size h2_, 0, none⟩) 2 2)] h7_ fun v8_ h9_ => ∃ x10_, v8_ = (Value.int .i64 x10_) ∧ splitB (x10_ != (0 : Int)) (R (Value.tuple #[(Value.bool false), (Value.int .i64 x10_)]) h9_) (∃ v11_, ldv true 3 h9_ (⟨Array.size h, 0, none⟩) = some v11_ ∧ ∃ v12_, ldv true 3 h9_ (⟨Array.size h1_, 0, none⟩) = some v12_ ∧ Run Try.prog 91 #[v11_, v12_] h9_ fun v13_ h14_ => ∃ b15_, v13_ = (Value.bool b15_) ∧ R (Value.tuple #[(Value.bool b15_), (Value.int .i64 (0 : Int))]) h14_)))
set_option maxRecDepth 100000 in
theorem f33.run {R : Value → Heap → Prop} {v0 : Value} {v1 : Value} {h : Heap} (H : f33.runT R v0 v1 h) : Run Try.prog 33 #[v0, v1] h R :=
  run_of mixed Try.func33 (by kernel_rfl) (by kernel_rfl) f33.good (Eq.mpr (show (Fwd Try.prog f33.T f33.kp Try.f33 R [] (mkFr (argL [v0, v1] 0)) h) = (f33.runT R v0 v1 h) by kernel_rfl) H)
def f34.T : Tab := { sh := tSh, tup := tTup, keep := [], plan := [] }
def f34.kp : Keep := [([false, false, true, false, true, true], [3, 6, 7, 8])]
theorem f34.good : goodCode Try.prog f34.T (rootOf Try.f34) = true := by kernel_rfl
def f34.l0 (R : Value → Heap → Prop) (A3 : Option Addr) (n3 : Nat) (c3 : Nat) (A6 : Option Addr) (n6 : Nat) (c6 : Nat) (x7 : Int) (x8 : Int) (h : Heap) : Prop := Pt Try.prog Try.f34 R [false, false, true, false, true, true] (mkFr [(3, (Value.slice A3 n3 c3)), (6, (Value.slice A6 n6 c6)), (7, (Value.int .i64 x7)), (8, (Value.int .i64 x8))]) h
set_option maxRecDepth 100000 in
def f34.l0T (R : Value → Heap → Prop) (A3 : Option Addr) (n3 : Nat) (c3 : Nat) (A6 : Option Addr) (n6 : Nat) (c6 : Nat) (x7 : Int) (x8 : Int) (h : Heap) : Prop :=
  splitB (decide (x8 < x7)) (ptrOk A6 fun a1_ => 0 ≤ x8 ∧ x8 < ((n6 : Nat) : Int) ∧ (∃ v2_, ldv true 3 h (Addr.add a1_ (Int.toNat x8 * 3)) = some v2_ ∧ newH h (Obj.cells #[(Value.int .i64 (0 : Int)), (Value.int .i64 (0 : Int)), (Value.int .i64 (0 : Int))] 88) fun h3_ => ∃ l5_ : List Value, v2_ = Value.agg l5_.toArray ∧ l5_.length = 3 ∧ ∃ h4_, stH h3_ (⟨Array.size h, 0, none⟩) l5_ 0 = some h4_ ∧ ∃ v6_, ldv false 1 h4_ (⟨Array.size h, 0, none⟩) = some v6_ ∧ ∃ x7_, v6_ = (Value.int .i64 x7_) ∧ ∃ v8_, ldv false 1 h4_ (Addr.add (⟨Array.size h, 0, none⟩) 1) = some v8_ ∧ ∃ x9_, v8_ = (Value.int .i64 x9_) ∧ ∃ v10_, ldv false 1 h4_ (Addr.add (⟨Array.size h, 0, none⟩) 2) = some v10_ ∧ ∃ x11_, v10_ = (Value.int .i64 x11_) ∧ ∃ l12_ : List Value, (Value.agg #[(Value.int .i64 x7_), (Value.int .i64 x9_), (Value.int .i64 x11_)]) = Value.agg l12_.toArray ∧ l12_.length = 3 ∧ (newH h4_ (Obj.cells ((List.take 0 ([(Value.int .i64 (0 : Int)), (Value.int .i64 (0 : Int)), (Value.int .i64 (0 : Int))]) ++ l12_ ++ List.drop 3 ([(Value.int .i64 (0 : Int)), (Value.int .i64 (0 : Int)), (Value.int .i64 (0 : Int))])).toArray) 71) fun h13_ => AppW 71 3 24 #[(Value.int .i64 (0 : Int)), (Value.int .i64 (0 : Int)), (Value.int .i64 (0 : Int))] A3 n3 c3 (Value.slice (some ⟨Array.size h4_, 0, none⟩) 1 1) h13_ fun v14_ h15_ => ∃ A16_, ∃ n16_, ∃ c16_, v14_ = (Value.slice A16_ n16_ c16_) ∧ f34.l0 R A16_ n16_ c16_ A6 n6 c6 x7 (IntKind.wrap .i64 (x8 + (1 : Int))) h15_))) (R (Value.slice A3 n3 c3) h)
set_option maxRecDepth 100000 in
theorem f34.l0_in {R : Value → Heap → Prop} {A3 : Option Addr} {n3 : Nat} {c3 : Nat} {A6 : Option Addr} {n6 : Nat} {c6 : Nat} {x7 : Int} {x8 : Int} {h : Heap} (H : f34.l0T R A3 n3 c3 A6 n6 c6 x7 x8 h) : f34.l0 R A3 n3 c3 A6 n6 c6 x7 x8 h :=
  pt_intro mixed f34.good (Eq.mpr (show (Fwd Try.prog f34.T f34.kp Try.f34 R [false, false, true, false, true, true] (mkFr [(3, (Value.slice A3 n3 c3)), (6, (Value.slice A6 n6 c6)), (7, (Value.int .i64 x7)), (8, (Value.int .i64 x8))]) h) = (f34.l0T R A3 n3 c3 A6 n6 c6 x7 x8 h) by kernel_rfl) H)
set_option maxRecDepth 100000 in
def f34.runT (R : Value → Heap → Prop) (A0 : Option Addr) (n0 : Nat) (c0 : Nat) (h : Heap) : Prop :=
  f34.l0 R none 0 0 A0 n0 c0 ((n0 : Nat) : Int) (0 : Int) h
set_option maxRecDepth 100000 in
theorem f34.run {R : Value → Heap → Prop} {A0 : Option Addr} {n0 : Nat} {c0 : Nat} {h : Heap} (H : f34.runT R A0 n0 c0 h) : Run Try.prog 34 #[(Value.slice A0 n0 c0)] h R :=
  run_of mixed Try.func34 (by kernel_rfl) (by kernel_rfl) f34.good (Eq.mpr (show (Fwd Try.prog f34.T f34.kp Try.f34 R [] (mkFr (argL [(Value.slice A0 n0 c0)] 0)) h) = (f34.runT R A0 n0 c0 h) by kernel_rfl) H)
def f131.T : Tab := { sh := tSh, tup := tTup, keep := [], plan := [] }
def f131.kp : Keep := [([true, true], [0, 2]), ([true, true, true], [0, 2]), ([true, true, true, true], [0, 2])]
theorem f131.good : goodCode Try.prog f131.T (rootOf Try.f131) = true := by kernel_rfl
def f131.j0 (R : Value → Heap → Prop) (x0 : Int) (x2 : Int) (h : Heap) : Prop := Pt Try.prog Try.f131 R [true, true] (mkFr [(0, (Value.int .u64 x0)), (2, (Value.int .i64 x2))]) h
def f131.j1 (R : Value → Heap → Prop) (x0 : Int) (x2 : Int) (h : Heap) : Prop := Pt Try.prog Try.f131 R [true, true, true] (mkFr [(0, (Value.int .u64 x0)), (2, (Value.int .i64 x2))]) h
def f131.j2 (R : Value → Heap → Prop) (x0 : Int) (x2 : Int) (h : Heap) : Prop := Pt Try.prog Try.f131 R [true, true, true, true] (mkFr [(0, (Value.int .u64 x0)), (2, (Value.int .i64 x2))]) h
set_option maxRecDepth 100000 in
def f131.j0T (R : Value → Heap → Prop) (x0 : Int) (x2 : Int) (h : Heap) : Prop :=
  splitB (decide (x0 ≥ (65536 : Int))) (0 ≤ (16 : Int) ∧ (f131.j1 R (shrI .u64 x0 (16 : Int)) (IntKind.wrap .i64 (x2 + (16 : Int))) h)) (f131.j1 R x0 x2 h)
set_option maxRecDepth 100000 in
theorem f131.j0_in {R : Value → Heap → Prop} {x0 : Int} {x2 : Int} {h : Heap} (H : f131.j0T R x0 x2 h) : f131.j0 R x0 x2 h :=
  pt_intro mixed f131.good (Eq.mpr (show (Fwd Try.prog f131.T f131.kp Try.f131 R [true, true] (mkFr [(0, (Value.int .u64 x0)), (2, (Value.int .i64 x2))]) h) = (f131.j0T R x0 x2 h) by kernel_rfl) H)
set_option maxRecDepth 100000 in
def f131.j1T (R : Value → Heap → Prop) (x0 : Int) (x2 : Int) (h : Heap) : Prop :=
  splitB (decide (x0 ≥ (256 : Int))) (0 ≤ (8 : Int) ∧ (f131.j2 R (shrI .u64 x0 (8 : Int)) (IntKind.wrap .i64 (x2 + (8 : Int))) h)) (f131.j2 R x0 x2 h)
set_option maxRecDepth 100000 in
theorem f131.j1_in {R : Value → Heap → Prop} {x0 : Int} {x2 : Int} {h : Heap} (H : f131.j1T R x0 x2 h) : f131.j1 R x0 x2 h :=
  pt_intro mixed f131.good (Eq.mpr (show (Fwd Try.prog f131.T f131.kp Try.f131 R [true, true, true] (mkFr [(0, (Value.int .u64 x0)), (2, (Value.int .i64 x2))]) h) = (f131.j1T R x0 x2 h) by kernel_rfl) H)
set_option maxRecDepth 100000 in
def f131.j2T (R : Value → Heap → Prop) (x0 : Int) (x2 : Int) (h : Heap) : Prop :=
  0 ≤ (IntKind.wrap .u8 x0) ∧ ∃ y1_, (ByteArray.mk #[0, 1, 2, 2, 3, 3, 3, 3, 4, 4, 4, 4, 4, 4, 4, 4, 5, 5, 5, 5, 5, 5, 5, 5, 5, 5, 5, 5, 5, 5, 5, 5, 6, 6, 6, 6, 6, 6, 6, 6, 6, 6, 6, 6, 6, 6, 6, 6, 6, 6, 6, 6, 6, 6, 6, 6, 6, 6, 6, 6, 6, 6, 6, 6, 7, 7, 7, 7, 7, 7, 7, 7, 7, 7, 7, 7, 7, 7, 7, 7, 7, 7, 7, 7, 7, 7, 7, 7, 7, 7, 7, 7, 7, 7, 7, 7, 7, 7, 7, 7, 7, 7, 7, 7, 7, 7, 7, 7, 7, 7, 7, 7, 7, 7, 7, 7, 7, 7, 7, 7, 7, 7, 7, 7, 7, 7, 7, 7, 8, 8, 8, 8, 8, 8, 8, 8, 8, 8, 8, 8, 8, 8, 8, 8, 8, 8, 8, 8, 8, 8, 8, 8, 8, 8, 8, 8, 8, 8, 8, 8, 8, 8, 8, 8, 8, 8, 8, 8, 8, 8, 8, 8, 8, 8, 8, 8, 8, 8, 8, 8, 8, 8, 8, 8, 8, 8, 8, 8, 8, 8, 8, 8, 8, 8, 8, 8, 8, 8, 8, 8, 8, 8, 8, 8, 8, 8, 8, 8, 8, 8, 8, 8, 8, 8, 8, 8, 8, 8, 8, 8, 8, 8, 8, 8, 8, 8, 8, 8, 8, 8, 8, 8, 8, 8, 8, 8, 8, 8, 8, 8, 8, 8, 8, 8, 8, 8, 8, 8, 8, 8, 8, 8, 8, 8, 8, 8])[Int.toNat (IntKind.wrap .u8 x0)]? = some y1_ ∧ (R (Value.int .i64 (IntKind.wrap .i64 (x2 + (IntKind.wrap .i64 ((UInt8.toNat y1_ : Nat) : Int))))) h)
set_option maxRecDepth 100000 in
theorem f131.j2_in {R : Value → Heap → Prop} {x0 : Int} {x2 : Int} {h : Heap} (H : f131.j2T R x0 x2 h) : f131.j2 R x0 x2 h :=
  pt_intro mixed f131.good (Eq.mpr (show (Fwd Try.prog f131.T f131.kp Try.f131 R [true, true, true, true] (mkFr [(0, (Value.int .u64 x0)), (2, (Value.int .i64 x2))]) h) = (f131.j2T R x0 x2 h) by kernel_rfl) H)
set_option maxRecDepth 100000 in
def f131.runT (R : Value → Heap → Prop) (x0 : Int) (h : Heap) : Prop :=
  splitB (decide (x0 ≥ (4294967296 : Int))) (0 ≤ (32 : Int) ∧ (f131.j0 R (shrI .u64 x0 (32 : Int)) (32 : Int) h)) (f131.j0 R x0 (0 : Int) h)
set_option maxRecDepth 100000 in
theorem f131.run {R : Value → Heap → Prop} {x0 : Int} {h : Heap} (H : f131.runT R x0 h) : Run Try.prog 131 #[(Value.int .u64 x0)] h R :=
  run_of mixed Try.func131 (by kernel_rfl) (by kernel_rfl) f131.good (Eq.mpr (show (Fwd Try.prog f131.T f131.kp Try.f131 R [] (mkFr (argL [(Value.int .u64 x0)] 0)) h) = (f131.runT R x0 h) by kernel_rfl) H)
def f79.T : Tab := { sh := tSh, tup := tTup, keep := [], plan := [] }
def f79.kp : Keep := []
theorem f79.good : goodCode Try.prog f79.T (rootOf Try.f79) = true := by kernel_rfl
set_option maxRecDepth 100000 in
def f79.runT (R : Value → Heap → Prop) (x0 : Int) (h : Heap) : Prop :=
  Run Try.prog 131 #[(Value.int .u64 x0)] h fun v1_ h2_ => ∃ x3_, v1_ = (Value.int .i64 x3_) ∧ R (Value.int .i64 x3_) h2_
set_option maxRecDepth 100000 in
theorem f79.run {R : Value → Heap → Prop} {x0 : Int} {h : Heap} (H : f79.runT R x0 h) : Run Try.prog 79 #[(Value.int .u64 x0)] h R :=
  run_of mixed Try.func79 (by kernel_rfl) (by kernel_rfl) f79.good (Eq.mpr (show (Fwd Try.prog f79.T f79.kp Try.f79 R [] (mkFr (argL [(Value.int .u64 x0)] 0)) h) = (f79.runT R x0 h) by kernel_rfl) H)
def f165.T : Tab := { sh := tSh, tup := tTup, keep := [], plan := [(4, (.take 0 (.take 1 (.take 2 (.take 3 (.split 3 (.take 4 (.take 5 (.take 6 (.take 7 (.take 9 (.take 10 (.take 11 (.take 12 (.take 8 (.take 13 (.eff false 14 (.take 15 (.take 16 .done))))))))))))))))))), (6, (.take 0 (.take 1 (.take 2 (.take 3 (.take 4 (.take 5 (.take 6 (.take 7 (.take 8 (.take 10 (.take 11 (.take 12 (.take 9 (.take 13 (.take 14 (.eff false 15 (.take 16 (.eff false 17 .done)))))))))))))))))))] }
def f165.kp : Keep := [([false, false, true], [0, 1, 2, 3, 8]), ([false, false, true, false, false, true, false, false, true], [0, 1, 2, 3, 8, 9]), ([true, false, false, true, false, false, true, false, false, true], [0, 1, 2, 3, 8, 9]), ([true, true, false, false, true], [0, 1, 2, 3, 8])]
theorem f165.good : goodCode Try.prog f165.T (rootOf Try.f165) = true := by kernel_rfl
def f165.l0 (R : Value → Heap → Prop) (A0 : Option Addr) (n0 : Nat) (c0 : Nat) (x1 : Int) (x2 : Int) (v3 : Value) (x8 : Int) (h : Heap) : Prop := Pt Try.prog Try.f165 R [false, false, true] (mkFr [(0, (Value.slice A0 n0 c0)), (1, (Value.int .i64 x1)), (2, (Value.int .i64 x2)), (3, v3), (8, (Value.int .i64 x8))]) h
def f165.l1 (R : Value → Heap → Prop) (A0 : Option Addr) (n0 : Nat) (c0 : Nat) (x1 : Int) (x2 : Int) (v3 : Value) (x8 : Int) (x9 : Int) (h : Heap) : Prop := Pt Try.prog Try.f165 R [false, false, true, false, false, true, false, false, true] (mkFr [(0, (Value.slice A0 n0 c0)), (1, (Value.int .i64 x1)), (2, (Value.int .i64 x2)), (3, v3), (8, (Value.int .i64 x8)), (9, (Value.int .i64 x9))]) h
def f165.j1 (R : Value → Heap → Prop) (A0 : Option Addr) (n0 : Nat) (c0 : Nat) (x1 : Int) (x2 : Int) (v3 : Value) (x8 : Int) (x9 : Int) (h : Heap) : Prop := Pt Try.prog Try.f165 R [true, false, false, true, false, false, true, false, false, true] (mkFr [(0, (Value.slice A0 n0 c0)), (1, (Value.int .i64 x1)), (2, (Value.int .i64 x2)), (3, v3), (8, (Value.int .i64 x8)), (9, (Value.int .i64 x9))]) h
def f165.j0 (R : Value → Heap → Prop) (A0 : Option Addr) (n0 : Nat) (c0 : Nat) (x1 : Int) (x2 : Int) (v3 : Value) (x8 : Int) (h : Heap) : Prop := Pt Try.prog Try.f165 R [true, true, false, false, true] (mkFr [(0, (Value.slice A0 n0 c0)), (1, (Value.int .i64 x1)), (2, (Value.int .i64 x2)), (3, v3), (8, (Value.int .i64 x8))]) h
set_option maxRecDepth 100000 in
def f165.l0T (R : Value → Heap → Prop) (A0 : Option Addr) (n0 : Nat) (c0 : Nat) (x1 : Int) (x2 : Int) (v3 : Value) (x8 : Int) (h : Heap) : Prop :=
  splitB (decide (x8 < x2)) (f165.l1 R A0 n0 c0 x1 x2 v3 x8 x8 h) (R (Value.tuple #[]) h)
set_option maxRecDepth 100000 in
theorem f165.l0_in {R : Value → Heap → Prop} {A0 : Option Addr} {n0 : Nat} {c0 : Nat} {x1 : Int} {x2 : Int} {v3 : Value} {x8 : Int} {h : Heap} (H : f165.l0T R A0 n0 c0 x1 x2 v3 x8 h) : f165.l0 R A0 n0 c0 x1 x2 v3 x8 h :=
  pt_intro mixed f165.good (Eq.mpr (show (Fwd Try.prog f165.T f165.kp Try.f165 R [false, false, true] (mkFr [(0, (Value.slice A0 n0 c0)), (1, (Value.int .i64 x1)), (2, (Value.int .i64 x2)), (3, v3), (8, (Value.int .i64 x8))]) h) = (f165.l0T R A0 n0 c0 x1 x2 v3 x8 h) by kernel_rfl) H)
set_option maxRecDepth 100000 in
def f165.l1T (R : Value → Heap → Prop) (A0 : Option Addr) (n0 : Nat) (c0 : Nat) (x1 : Int) (x2 : Int) (v3 : Value) (x8 : Int) (x9 : Int) (h : Heap) : Prop :=
  splitB (decide (x9 > x1)) (ptrOk A0 fun a1_ => 0 ≤ x9 ∧ x9 < ((n0 : Nat) : Int) ∧ (ptrOk A0 fun a2_ => 0 ≤ (IntKind.wrap .i64 (x9 - (1 : Int))) ∧ (IntKind.wrap .i64 (x9 - (1 : Int))) < ((n0 : Nat) : Int) ∧ (∃ v3_, ldv true 3 h (Addr.add a1_ (Int.toNat x9 * 3)) = some v3_ ∧ ∃ v4_, ldv true 3 h (Addr.add a2_ (Int.toNat (IntKind.wrap .i64 (x9 - (1 : Int))) * 3)) = some v4_ ∧ CallF Try.prog v3 [v3_, v4_] h fun v5_ h6_ => ∃ x7_, v5_ = (Value.int .i64 x7_) ∧ splitB (decide (x7_ < (0 : Int))) (f165.j1 R A0 n0 c0 x1 x2 v3 x8 x9 h6_) (f165.j0 R A0 n0 c0 x1 x2 v3 x8 h6_)))) (f165.j0 R A0 n0 c0 x1 x2 v3 x8 h)
set_option maxRecDepth 100000 in
theorem f165.l1_in {R : Value → Heap → Prop} {A0 : Option Addr} {n0 : Nat} {c0 : Nat} {x1 : Int} {x2 : Int} {v3 : Value} {x8 : Int} {x9 : Int} {h : Heap} (H : f165.l1T R A0 n0 c0 x1 x2 v3 x8 x9 h) : f165.l1 R A0 n0 c0 x1 x2 v3 x8 x9 h :=
  pt_intro mixed f165.good (Eq.mpr (show (Fwd Try.prog f165.T f165.kp Try.f165 R [false, false, true, false, false, true, false, false, true] (mkFr [(0, (Value.slice A0 n0 c0)), (1, (Value.int .i64 x1)), (2, (Value.int .i64 x2)), (3, v3), (8, (Value.int .i64 x8)), (9, (Value.int .i64 x9))]) h) = (f165.l1T R A0 n0 c0 x1 x2 v3 x8 x9 h) by kernel_rfl) H)
set_option maxRecDepth 100000 in
def f165.j1T (R : Value → Heap → Prop) (A0 : Option Addr) (n0 : Nat) (c0 : Nat) (x1 : Int) (x2 : Int) (v3 : Value) (x8 : Int) (x9 : Int) (h : Heap) : Prop :=
  ptrOk A0 fun a1_ => 0 ≤ (IntKind.wrap .i64 (x9 - (1 : Int))) ∧ (IntKind.wrap .i64 (x9 - (1 : Int))) < ((n0 : Nat) : Int) ∧ (ptrOk A0 fun a2_ => 0 ≤ x9 ∧ x9 < ((n0 : Nat) : Int) ∧ (∃ v3_, ldv true 3 h (Addr.add a1_ (Int.toNat (IntKind.wrap .i64 (x9 - (1 : Int))) * 3)) = some v3_ ∧ ∃ v4_, ldv true 3 h (Addr.add a2_ (Int.toNat x9 * 3)) = some v4_ ∧ ptrOk A0 fun a5_ => 0 ≤ x9 ∧ x9 < ((n0 : Nat) : Int) ∧ (∃ l7_ : List Value, v3_ = Value.agg l7_.toArray ∧ l7_.length = 3 ∧ ∃ h6_, stH h (Addr.add a5_ (Int.toNat x9 * 3)) l7_ 0 = some h6_ ∧ ptrOk A0 fun a8_ => 0 ≤ (IntKind.wrap .i64 (x9 - (1 : Int))) ∧ (IntKind.wrap .i64 (x9 - (1 : Int))) < ((n0 : Nat) : Int) ∧ (∃ l10_ : List Value, v4_ = Value.agg l10_.toArray ∧ l10_.length = 3 ∧ ∃ h9_, stH h6_ (Addr.add a8_ (Int.toNat (IntKind.wrap .i64 (x9 - (1 : Int))) * 3)) l10_ 0 = some h9_ ∧ f165.l1 R A0 n0 c0 x1 x2 v3 x8 (IntKind.wrap .i64 (x9 - (1 : Int))) h9_))))
set_option maxRecDepth 100000 in
theorem f165.j1_in {R : Value → Heap → Prop} {A0 : Option Addr} {n0 : Nat} {c0 : Nat} {x1 : Int} {x2 : Int} {v3 : Value} {x8 : Int} {x9 : Int} {h : Heap} (H : f165.j1T R A0 n0 c0 x1 x2 v3 x8 x9 h) : f165.j1 R A0 n0 c0 x1 x2 v3 x8 x9 h :=
  pt_intro mixed f165.good (Eq.mpr (show (Fwd Try.prog f165.T f165.kp Try.f165 R [true, false, false, true, false, false, true, false, false, true] (mkFr [(0, (Value.slice A0 n0 c0)), (1, (Value.int .i64 x1)), (2, (Value.int .i64 x2)), (3, v3), (8, (Value.int .i64 x8)), (9, (Value.int .i64 x9))]) h) = (f165.j1T R A0 n0 c0 x1 x2 v3 x8 x9 h) by kernel_rfl) H)
set_option maxRecDepth 100000 in
def f165.j0T (R : Value → Heap → Prop) (A0 : Option Addr) (n0 : Nat) (c0 : Nat) (x1 : Int) (x2 : Int) (v3 : Value) (x8 : Int) (h : Heap) : Prop :=
  f165.l0 R A0 n0 c0 x1 x2 v3 (IntKind.wrap .i64 (x8 + (1 : Int))) h
set_option maxRecDepth 100000 in
theorem f165.j0_in {R : Value → Heap → Prop} {A0 : Option Addr} {n0 : Nat} {c0 : Nat} {x1 : Int} {x2 : Int} {v3 : Value} {x8 : Int} {h : Heap} (H : f165.j0T R A0 n0 c0 x1 x2 v3 x8 h) : f165.j0 R A0 n0 c0 x1 x2 v3 x8 h :=
  pt_intro mixed f165.good (Eq.mpr (show (Fwd Try.prog f165.T f165.kp Try.f165 R [true, true, false, false, true] (mkFr [(0, (Value.slice A0 n0 c0)), (1, (Value.int .i64 x1)), (2, (Value.int .i64 x2)), (3, v3), (8, (Value.int .i64 x8))]) h) = (f165.j0T R A0 n0 c0 x1 x2 v3 x8 h) by kernel_rfl) H)
set_option maxRecDepth 100000 in
def f165.runT (R : Value → Heap → Prop) (A0 : Option Addr) (n0 : Nat) (c0 : Nat) (x1 : Int) (x2 : Int) (v3 : Value) (h : Heap) : Prop :=
  f165.l0 R A0 n0 c0 x1 x2 v3 (IntKind.wrap .i64 (x1 + (1 : Int))) h
set_option maxRecDepth 100000 in
theorem f165.run {R : Value → Heap → Prop} {A0 : Option Addr} {n0 : Nat} {c0 : Nat} {x1 : Int} {x2 : Int} {v3 : Value} {h : Heap} (H : f165.runT R A0 n0 c0 x1 x2 v3 h) : Run Try.prog 165 #[(Value.slice A0 n0 c0), (Value.int .i64 x1), (Value.int .i64 x2), v3] h R :=
  run_of mixed Try.func165 (by kernel_rfl) (by kernel_rfl) f165.good (Eq.mpr (show (Fwd Try.prog f165.T f165.kp Try.f165 R [] (mkFr (argL [(Value.slice A0 n0 c0), (Value.int .i64 x1), (Value.int .i64 x2), v3] 0)) h) = (f165.runT R A0 n0 c0 x1 x2 v3 h) by kernel_rfl) H)
def f185.T : Tab := { sh := tSh, tup := tTup, keep := [], plan := [(3, (.take 0 (.take 1 (.take 2 (.take 3 (.take 4 (.split 4 (.take 5 (.take 6 (.take 7 (.take 8 (.take 9 (.take 10 (.take 12 (.take 13 (.take 14 (.take 15 (.take 16 (.take 17 (.take 11 (.take 18 (.eff false 19 (.take 20 (.take 21 .done)))))))))))))))))))))))), (5, (.take 0 (.take 1 (.take 2 (.take 3 (.take 4 (.take 5 (.take 7 (.take 8 (.take 9 (.take 10 (.take 11 (.take 6 (.take 12 (.eff false 13 (.take 14 (.take 15 .done))))))))))))))))), (6, (.take 0 (.take 1 (.take 2 (.take 3 (.take 4 (.take 5 (.take 6 (.take 7 (.take 8 (.take 9 (.take 10 (.take 11 (.take 12 (.take 14 (.take 15 (.take 16 (.take 17 (.take 18 (.take 13 (.take 19 (.take 20 (.eff false 21 (.take 22 (.eff false 23 .done)))))))))))))))))))))))))] }
def f185.kp : Keep := [([false, false, true], [0, 2, 3, 4, 10]), ([true, false, true, true, false, false, false, true], [0, 2, 3, 4, 10, 11, 40]), ([true, true, true, false, false, false, true], [0, 2, 3, 4, 10, 11])]
theorem f185.good : goodCode Try.prog f185.T (rootOf Try.f185) = true := by kernel_rfl
def f185.l0 (R : Value → Heap → Prop) (A0 : Option Addr) (n0 : Nat) (c0 : Nat) (x2 : Int) (x3 : Int) (v4 : Value) (x10 : Int) (h : Heap) : Prop := Pt Try.prog Try.f185 R [false, false, true] (mkFr [(0, (Value.slice A0 n0 c0)), (2, (Value.int .i64 x2)), (3, (Value.int .i64 x3)), (4, v4), (10, (Value.int .i64 x10))]) h
def f185.j1 (R : Value → Heap → Prop) (A0 : Option Addr) (n0 : Nat) (c0 : Nat) (x2 : Int) (x3 : Int) (v4 : Value) (x10 : Int) (x11 : Int) (b40 : Bool) (h : Heap) : Prop := Pt Try.prog Try.f185 R [true, false, true, true, false, false, false, true] (mkFr [(0, (Value.slice A0 n0 c0)), (2, (Value.int .i64 x2)), (3, (Value.int .i64 x3)), (4, v4), (10, (Value.int .i64 x10)), (11, (Value.int .i64 x11)), (40, (Value.bool b40))]) h
def f185.j0 (R : Value → Heap → Prop) (A0 : Option Addr) (n0 : Nat) (c0 : Nat) (x2 : Int) (x3 : Int) (v4 : Value) (x10 : Int) (x11 : Int) (h : Heap) : Prop := Pt Try.prog Try.f185 R [true, true, true, false, false, false, true] (mkFr [(0, (Value.slice A0 n0 c0)), (2, (Value.int .i64 x2)), (3, (Value.int .i64 x3)), (4, v4), (10, (Value.int .i64 x10)), (11, (Value.int .i64 x11))]) h
set_option maxRecDepth 100000 in
def f185.l0T (R : Value → Heap → Prop) (A0 : Option Addr) (n0 : Nat) (c0 : Nat) (x2 : Int) (x3 : Int) (v4 : Value) (x10 : Int) (h : Heap) : Prop :=
  splitB (decide ((IntKind.wrap .i64 ((IntKind.wrap .i64 ((2 : Int) * x10)) + (1 : Int))) ≥ x2)) (R (Value.tuple #[]) h) (splitB (decide ((IntKind.wrap .i64 ((IntKind.wrap .i64 ((IntKind.wrap .i64 ((2 : Int) * x10)) + (1 : Int))) + (1 : Int))) < x2)) (ptrOk A0 fun a1_ => 0 ≤ (IntKind.wrap .i64 (x3 + (IntKind.wrap .i64 ((IntKind.wrap .i64 ((2 : Int) * x10)) + (1 : Int))))) ∧ (IntKind.wrap .i64 (x3 + (IntKind.wrap .i64 ((IntKind.wrap .i64 ((2 : Int) * x10)) + (1 : Int))))) < ((n0 : Nat) : Int) ∧ (ptrOk A0 fun a2_ => 0 ≤ (IntKind.wrap .i64 ((IntKind.wrap .i64 (x3 + (IntKind.wrap .i64 ((IntKind.wrap .i64 ((2 : Int) * x10)) + (1 : Int))))) + (1 : Int))) ∧ (IntKind.wrap .i64 ((IntKind.wrap .i64 (x3 + (IntKind.wrap .i64 ((IntKind.wrap .i64 ((2 : Int) * x10)) + (1 : Int))))) + (1 : Int))) < ((n0 : Nat) : Int) ∧ (∃ v3_, ldv true 3 h (Addr.add a1_ (Int.toNat (IntKind.wrap .i64 (x3 + (IntKind.wrap .i64 ((IntKind.wrap .i64 ((2 : Int) * x10)) + (1 : Int))))) * 3)) = some v3_ ∧ ∃ v4_, ldv true 3 h (Addr.add a2_ (Int.toNat (IntKind.wrap .i64 ((IntKind.wrap .i64 (x3 + (IntKind.wrap .i64 ((IntKind.wrap .i64 ((2 : Int) * x10)) + (1 : Int))))) + (1 : Int))) * 3)) = some v4_ ∧ CallF Try.prog v4 [v3_, v4_] h fun v5_ h6_ => ∃ x7_, v5_ = (Value.int .i64 x7_) ∧ f185.j1 R A0 n0 c0 x2 x3 v4 x10 (IntKind.wrap .i64 ((IntKind.wrap .i64 ((2 : Int) * x10)) + (1 : Int))) (decide (x7_ < (0 : Int))) h6_))) (f185.j1 R A0 n0 c0 x2 x3 v4 x10 (IntKind.wrap .i64 ((IntKind.wrap .i64 ((2 : Int) * x10)) + (1 : Int))) false h))
set_option maxRecDepth 100000 in
theorem f185.l0_in {R : Value → Heap → Prop} {A0 : Option Addr} {n0 : Nat} {c0 : Nat} {x2 : Int} {x3 : Int} {v4 : Value} {x10 : Int} {h : Heap} (H : f185.l0T R A0 n0 c0 x2 x3 v4 x10 h) : f185.l0 R A0 n0 c0 x2 x3 v4 x10 h :=
  pt_intro mixed f185.good (Eq.mpr (show (Fwd Try.prog f185.T f185.kp Try.f185 R [false, false, true] (mkFr [(0, (Value.slice A0 n0 c0)), (2, (Value.int .i64 x2)), (3, (Value.int .i64 x3)), (4, v4), (10, (Value.int .i64 x10))]) h) = (f185.l0T R A0 n0 c0 x2 x3 v4 x10 h) by kernel_rfl) H)
set_option maxRecDepth 100000 in
def f185.j1T (R : Value → Heap → Prop) (A0 : Option Addr) (n0 : Nat) (c0 : Nat) (x2 : Int) (x3 : Int) (v4 : Value) (x10 : Int) (x11 : Int) (b40 : Bool) (h : Heap) : Prop :=
  splitB b40 (f185.j0 R A0 n0 c0 x2 x3 v4 x10 (IntKind.wrap .i64 (x11 + (1 : Int))) h) (f185.j0 R A0 n0 c0 x2 x3 v4 x10 x11 h)
set_option maxRecDepth 100000 in
theorem f185.j1_in {R : Value → Heap → Prop} {A0 : Option Addr} {n0 : Nat} {c0 : Nat} {x2 : Int} {x3 : Int} {v4 : Value} {x10 : Int} {x11 : Int} {b40 : Bool} {h : Heap} (H : f185.j1T R A0 n0 c0 x2 x3 v4 x10 x11 b40 h) : f185.j1 R A0 n0 c0 x2 x3 v4 x10 x11 b40 h :=
  pt_intro mixed f185.good (Eq.mpr (show (Fwd Try.prog f185.T f185.kp Try.f185 R [true, false, true, true, false, false, false, true] (mkFr [(0, (Value.slice A0 n0 c0)), (2, (Value.int .i64 x2)), (3, (Value.int .i64 x3)), (4, v4), (10, (Value.int .i64 x10)), (11, (Value.int .i64 x11)), (40, (Value.bool b40))]) h) = (f185.j1T R A0 n0 c0 x2 x3 v4 x10 x11 b40 h) by kernel_rfl) H)
set_option maxRecDepth 100000 in
def f185.j0T (R : Value → Heap → Prop) (A0 : Option Addr) (n0 : Nat) (c0 : Nat) (x2 : Int) (x3 : Int) (v4 : Value) (x10 : Int) (x11 : Int) (h : Heap) : Prop :=
  ptrOk A0 fun a1_ => 0 ≤ (IntKind.wrap .i64 (x3 + x10)) ∧ (IntKind.wrap .i64 (x3 + x10)) < ((n0 : Nat) : Int) ∧ (ptrOk A0 fun a2_ => 0 ≤ (IntKind.wrap .i64 (x3 + x11)) ∧ (IntKind.wrap .i64 (x3 + x11)) < ((n0 : Nat) : Int) ∧ (∃ v3_, ldv true 3 h (Addr.add a1_ (Int.toNat (IntKind.wrap .i64 (x3 + x10)) * 3)) = some v3_ ∧ ∃ v4_, ldv true 3 h (Addr.add a2_ (Int.toNat (IntKind.wrap .i64 (x3 + x11)) * 3)) = some v4_ ∧ CallF Try.prog v4 [v3_, v4_] h fun v5_ h6_ => ∃ x7_, v5_ = (Value.int .i64 x7_) ∧ splitB (!(decide (x7_ < (0 : Int)))) (R (Value.tuple #[]) h6_) (ptrOk A0 fun a8_ => 0 ≤ (IntKind.wrap .i64 (x3 + x11)) ∧ (IntKind.wrap .i64 (x3 + x11)) < ((n0 : Nat) : Int) ∧ (ptrOk A0 fun a9_ => 0 ≤ (IntKind.wrap .i64 (x3 + x10)) ∧ (IntKind.wrap .i64 (x3 + x10)) < ((n0 : Nat) : Int) ∧ (∃ v10_, ldv true 3 h6_ (Addr.add a8_ (Int.toNat (IntKind.wrap .i64 (x3 + x11)) * 3)) = some v10_ ∧ ∃ v11_, ldv true 3 h6_ (Addr.add a9_ (Int.toNat (IntKind.wrap .i64 (x3 + x10)) * 3)) = some v11_ ∧ ptrOk A0 fun a12_ => 0 ≤ (IntKind.wrap .i64 (x3 + x10)) ∧ (IntKind.wrap .i64 (x3 + x10)) < ((n0 : Nat) : Int) ∧ (∃ l14_ : List Value, v10_ = Value.agg l14_.toArray ∧ l14_.length = 3 ∧ ∃ h13_, stH h6_ (Addr.add a12_ (Int.toNat (IntKind.wrap .i64 (x3 + x10)) * 3)) l14_ 0 = some h13_ ∧ ptrOk A0 fun a15_ => 0 ≤ (IntKind.wrap .i64 (x3 + x11)) ∧ (IntKind.wrap .i64 (x3 + x11)) < ((n0 : Nat) : Int) ∧ (∃ l17_ : List Value, v11_ = Value.agg l17_.toArray ∧ l17_.length = 3 ∧ ∃ h16_, stH h13_ (Addr.add a15_ (Int.toNat (IntKind.wrap .i64 (x3 + x11)) * 3)) l17_ 0 = some h16_ ∧ f185.l0 R A0 n0 c0 x2 x3 v4 x11 h16_)))))))
set_option maxRecDepth 100000 in
theorem f185.j0_in {R : Value → Heap → Prop} {A0 : Option Addr} {n0 : Nat} {c0 : Nat} {x2 : Int} {x3 : Int} {v4 : Value} {x10 : Int} {x11 : Int} {h : Heap} (H : f185.j0T R A0 n0 c0 x2 x3 v4 x10 x11 h) : f185.j0 R A0 n0 c0 x2 x3 v4 x10 x11 h :=
  pt_intro mixed f185.good (Eq.mpr (show (Fwd Try.prog f185.T f185.kp Try.f185 R [true, true, true, false, false, false, true] (mkFr [(0, (Value.slice A0 n0 c0)), (2, (Value.int .i64 x2)), (3, (Value.int .i64 x3)), (4, v4), (10, (Value.int .i64 x10)), (11, (Value.int .i64 x11))]) h) = (f185.j0T R A0 n0 c0 x2 x3 v4 x10 x11 h) by kernel_rfl) H)
set_option maxRecDepth 100000 in
def f185.runT (R : Value → Heap → Prop) (A0 : Option Addr) (n0 : Nat) (c0 : Nat) (x1 : Int) (x2 : Int) (x3 : Int) (v4 : Value) (h : Heap) : Prop :=
  f185.l0 R A0 n0 c0 x2 x3 v4 x1 h
set_option maxRecDepth 100000 in
theorem f185.run {R : Value → Heap → Prop} {A0 : Option Addr} {n0 : Nat} {c0 : Nat} {x1 : Int} {x2 : Int} {x3 : Int} {v4 : Value} {h : Heap} (H : f185.runT R A0 n0 c0 x1 x2 x3 v4 h) : Run Try.prog 185 #[(Value.slice A0 n0 c0), (Value.int .i64 x1), (Value.int .i64 x2), (Value.int .i64 x3), v4] h R :=
  run_of mixed Try.func185 (by kernel_rfl) (by kernel_rfl) f185.good (Eq.mpr (show (Fwd Try.prog f185.T f185.kp Try.f185 R [] (mkFr (argL [(Value.slice A0 n0 c0), (Value.int .i64 x1), (Value.int .i64 x2), (Value.int .i64 x3), v4] 0)) h) = (f185.runT R A0 n0 c0 x1 x2 x3 v4 h) by kernel_rfl) H)
def f166.T : Tab := { sh := tSh, tup := tTup, keep := [], plan := [(10, (.take 0 (.take 1 (.take 2 (.take 3 (.take 4 (.take 5 (.take 6 (.take 7 (.take 8 (.take 9 (.take 10 (.take 12 (.take 13 (.take 14 (.take 11 (.take 15 (.take 16 (.eff false 17 (.take 18 (.eff false 19 .done)))))))))))))))))))))] }
def f166.kp : Keep := [([false, false, true, false, true, true, true], [0, 3, 8, 9, 10, 11]), ([false, false, true, true, true, true, true], [0, 3, 8, 9, 12])]
theorem f166.good : goodCode Try.prog f166.T (rootOf Try.f166) = true := by kernel_rfl
def f166.l0 (R : Value → Heap → Prop) (A0 : Option Addr) (n0 : Nat) (c0 : Nat) (v3 : Value) (x8 : Int) (x9 : Int) (x10 : Int) (x11 : Int) (h : Heap) : Prop := Pt Try.prog Try.f166 R [false, false, true, false, true, true, true] (mkFr [(0, (Value.slice A0 n0 c0)), (3, v3), (8, (Value.int .i64 x8)), (9, (Value.int .i64 x9)), (10, (Value.int .i64 x10)), (11, (Value.int .i64 x11))]) h
def f166.l1 (R : Value → Heap → Prop) (A0 : Option Addr) (n0 : Nat) (c0 : Nat) (v3 : Value) (x8 : Int) (x9 : Int) (x12 : Int) (h : Heap) : Prop := Pt Try.prog Try.f166 R [false, false, true, true, true, true, true] (mkFr [(0, (Value.slice A0 n0 c0)), (3, v3), (8, (Value.int .i64 x8)), (9, (Value.int .i64 x9)), (12, (Value.int .i64 x12))]) h
set_option maxRecDepth 100000 in
def f166.l0T (R : Value → Heap → Prop) (A0 : Option Addr) (n0 : Nat) (c0 : Nat) (v3 : Value) (x8 : Int) (x9 : Int) (x10 : Int) (x11 : Int) (h : Heap) : Prop :=
  splitB (decide (x11 ≥ (0 : Int))) (Run Try.prog 185 #[(Value.slice A0 n0 c0), (Value.int .i64 x11), (Value.int .i64 x10), (Value.int .i64 x8), v3] h fun v1_ h2_ => v1_ = (Value.tuple #[]) ∧ f166.l0 R A0 n0 c0 v3 x8 x9 x10 (IntKind.wrap .i64 (x11 - (1 : Int))) h2_) (f166.l1 R A0 n0 c0 v3 x8 x9 (IntKind.wrap .i64 (x10 - (1 : Int))) h)
set_option maxRecDepth 100000 in
theorem f166.l0_in {R : Value → Heap → Prop} {A0 : Option Addr} {n0 : Nat} {c0 : Nat} {v3 : Value} {x8 : Int} {x9 : Int} {x10 : Int} {x11 : Int} {h : Heap} (H : f166.l0T R A0 n0 c0 v3 x8 x9 x10 x11 h) : f166.l0 R A0 n0 c0 v3 x8 x9 x10 x11 h :=
  pt_intro mixed f166.good (Eq.mpr (show (Fwd Try.prog f166.T f166.kp Try.f166 R [false, false, true, false, true, true, true] (mkFr [(0, (Value.slice A0 n0 c0)), (3, v3), (8, (Value.int .i64 x8)), (9, (Value.int .i64 x9)), (10, (Value.int .i64 x10)), (11, (Value.int .i64 x11))]) h) = (f166.l0T R A0 n0 c0 v3 x8 x9 x10 x11 h) by kernel_rfl) H)
set_option maxRecDepth 100000 in
def f166.l1T (R : Value → Heap → Prop) (A0 : Option Addr) (n0 : Nat) (c0 : Nat) (v3 : Value) (x8 : Int) (x9 : Int) (x12 : Int) (h : Heap) : Prop :=
  splitB (decide (x12 ≥ (0 : Int))) (ptrOk A0 fun a1_ => 0 ≤ (IntKind.wrap .i64 (x8 + x12)) ∧ (IntKind.wrap .i64 (x8 + x12)) < ((n0 : Nat) : Int) ∧ (ptrOk A0 fun a2_ => 0 ≤ x8 ∧ x8 < ((n0 : Nat) : Int) ∧ (∃ v3_, ldv true 3 h (Addr.add a1_ (Int.toNat (IntKind.wrap .i64 (x8 + x12)) * 3)) = some v3_ ∧ ∃ v4_, ldv true 3 h (Addr.add a2_ (Int.toNat x8 * 3)) = some v4_ ∧ ptrOk A0 fun a5_ => 0 ≤ x8 ∧ x8 < ((n0 : Nat) : Int) ∧ (∃ l7_ : List Value, v3_ = Value.agg l7_.toArray ∧ l7_.length = 3 ∧ ∃ h6_, stH h (Addr.add a5_ (Int.toNat x8 * 3)) l7_ 0 = some h6_ ∧ ptrOk A0 fun a8_ => 0 ≤ (IntKind.wrap .i64 (x8 + x12)) ∧ (IntKind.wrap .i64 (x8 + x12)) < ((n0 : Nat) : Int) ∧ (∃ l10_ : List Value, v4_ = Value.agg l10_.toArray ∧ l10_.length = 3 ∧ ∃ h9_, stH h6_ (Addr.add a8_ (Int.toNat (IntKind.wrap .i64 (x8 + x12)) * 3)) l10_ 0 = some h9_ ∧ Run Try.prog 185 #[(Value.slice A0 n0 c0), (Value.int .i64 x9), (Value.int .i64 x12), (Value.int .i64 x8), v3] h9_ fun v11_ h12_ => v11_ = (Value.tuple #[]) ∧ f166.l1 R A0 n0 c0 v3 x8 x9 (IntKind.wrap .i64 (x12 - (1 : Int))) h12_))))) (R (Value.tuple #[]) h)
set_option maxRecDepth 100000 in
theorem f166.l1_in {R : Value → Heap → Prop} {A0 : Option Addr} {n0 : Nat} {c0 : Nat} {v3 : Value} {x8 : Int} {x9 : Int} {x12 : Int} {h : Heap} (H : f166.l1T R A0 n0 c0 v3 x8 x9 x12 h) : f166.l1 R A0 n0 c0 v3 x8 x9 x12 h :=
  pt_intro mixed f166.good (Eq.mpr (show (Fwd Try.prog f166.T f166.kp Try.f166 R [false, false, true, true, true, true, true] (mkFr [(0, (Value.slice A0 n0 c0)), (3, v3), (8, (Value.int .i64 x8)), (9, (Value.int .i64 x9)), (12, (Value.int .i64 x12))]) h) = (f166.l1T R A0 n0 c0 v3 x8 x9 x12 h) by kernel_rfl) H)
set_option maxRecDepth 100000 in
def f166.runT (R : Value → Heap → Prop) (A0 : Option Addr) (n0 : Nat) (c0 : Nat) (x1 : Int) (x2 : Int) (v3 : Value) (h : Heap) : Prop :=
  (2 : Int) ≠ 0 ∧ (f166.l0 R A0 n0 c0 v3 x1 (0 : Int) (IntKind.wrap .i64 (x2 - x1)) (IntKind.wrap .i64 (Int.tdiv (IntKind.wrap .i64 ((IntKind.wrap .i64 (x2 - x1)) - (1 : Int))) (2 : Int))) h)
set_option maxRecDepth 100000 in
theorem f166.run {R : Value → Heap → Prop} {A0 : Option Addr} {n0 : Nat} {c0 : Nat} {x1 : Int} {x2 : Int} {v3 : Value} {h : Heap} (H : f166.runT R A0 n0 c0 x1 x2 v3 h) : Run Try.prog 166 #[(Value.slice A0 n0 c0), (Value.int .i64 x1), (Value.int .i64 x2), v3] h R :=
  run_of mixed Try.func166 (by kernel_rfl) (by kernel_rfl) f166.good (Eq.mpr (show (Fwd Try.prog f166.T f166.kp Try.f166 R [] (mkFr (argL [(Value.slice A0 n0 c0), (Value.int .i64 x1), (Value.int .i64 x2), v3] 0)) h) = (f166.runT R A0 n0 c0 x1 x2 v3 h) by kernel_rfl) H)
def f156.T : Tab := { sh := tSh, tup := tTup, keep := [], plan := [] }
def f156.kp : Keep := []
theorem f156.good : goodCode Try.prog f156.T (rootOf Try.f156) = true := by kernel_rfl
set_option maxRecDepth 100000 in
def f156.runT (R : Value → Heap → Prop) (x0 : Int) (h : Heap) : Prop :=
  Run Try.prog 79 #[(Value.int .u64 (IntKind.wrap .u64 x0))] h fun v1_ h2_ => ∃ x3_, v1_ = (Value.int .i64 x3_) ∧ 0 ≤ x3_ ∧ (R (Value.int .u64 (shlI .u64 (1 : Int) x3_)) h2_)
set_option maxRecDepth 100000 in
theorem f156.run {R : Value → Heap → Prop} {x0 : Int} {h : Heap} (H : f156.runT R x0 h) : Run Try.prog 156 #[(Value.int .i64 x0)] h R :=
  run_of mixed Try.func156 (by kernel_rfl) (by kernel_rfl) f156.good (Eq.mpr (show (Fwd Try.prog f156.T f156.kp Try.f156 R [] (mkFr (argL [(Value.int .i64 x0)] 0)) h) = (f156.runT R x0 h) by kernel_rfl) H)
def f157.T : Tab := { sh := tSh, tup := tTup, keep := [], plan := [(1, (.take 0 (.take 1 (.take 3 (.take 4 (.take 2 (.take 5 (.take 6 (.take 7 (.take 8 (.eff false 9 .done))))))))))), (2, (.take 0 (.take 1 (.take 3 (.take 4 (.take 2 (.take 5 (.take 6 (.take 7 (.take 8 (.eff false 9 .done))))))))))), (3, (.take 0 (.take 1 (.take 3 (.take 4 (.take 2 (.take 5 (.take 6 (.take 7 (.take 8 (.eff false 9 .done)))))))))))] }
def f157.kp : Keep := []
theorem f157.good : goodCode Try.prog f157.T (rootOf Try.f157) = true := by kernel_rfl
set_option maxRecDepth 100000 in
def f157.runT (R : Value → Heap → Prop) (a0 : Addr) (h : Heap) : Prop :=
  ∃ v1_, ldv false 1 h a0 = some v1_ ∧ ∃ x2_, v1_ = (Value.int .u64 x2_) ∧ ∃ v3_, ldv false 1 h a0 = some v3_ ∧ ∃ x4_, v3_ = (Value.int .u64 x4_) ∧ 0 ≤ (13 : Int) ∧ (∃ h5_, st1 h a0 (Value.int .u64 (bitsI .xor .u64 x2_ (shlI .u64 x4_ (13 : Int)))) = some h5_ ∧ ∃ v6_, ldv false 1 h5_ a0 = some v6_ ∧ ∃ x7_, v6_ = (Value.int .u64 x7_) ∧ ∃ v8_, ldv false 1 h5_ a0 = some v8_ ∧ ∃ x9_, v8_ = (Value.int .u64 x9_) ∧ 0 ≤ (7 : Int) ∧ (∃ h10_, st1 h5_ a0 (Value.int .u64 (bitsI .xor .u64 x7_ (shrI .u64 x9_ (7 : Int)))) = some h10_ ∧ ∃ v11_, ldv false 1 h10_ a0 = some v11_ ∧ ∃ x12_, v11_ = (Value.int .u64 x12_) ∧ ∃ v13_, ldv false 1 h10_ a0 = some v13_ ∧ ∃ x14_, v13_ = (Value.int .u64 x14_) ∧ 0 ≤ (17 : Int) ∧ (∃ h15_, st1 h10_ a0 (Value.int .u64 (bitsI .xor .u64 x12_ (shlI .u64 x14_ (17 : Int)))) = some h15_ ∧ ∃ v16_, ldv false 1 h15_ a0 = some v16_ ∧ ∃ x17_, v16_ = (Value.int .u64 x17_) ∧ R (Value.int .u64 x17_) h15_)))
set_option maxRecDepth 100000 in
theorem f157.run {R : Value → Heap → Prop} {a0 : Addr} {h : Heap} (H : f157.runT R a0 h) : Run Try.prog 157 #[(Value.pointer (some a0))] h R :=
  run_of mixed Try.func157 (by kernel_rfl) (by kernel_rfl) f157.good (Eq.mpr (show (Fwd Try.prog f157.T f157.kp Try.f157 R [] (mkFr (argL [(Value.pointer (some a0))] 0)) h) = (f157.runT R a0 h) by kernel_rfl) H)
def f167.T : Tab := { sh := tSh, tup := tTup, keep := [], plan := [(10, (.take 0 (.take 1 (.take 2 (.take 3 (.take 4 (.take 5 (.take 6 (.take 7 (.take 8 (.take 9 (.take 10 (.take 12 (.take 13 (.take 14 (.take 11 (.take 15 (.take 16 (.eff false 17 (.take 18 (.eff false 19 .done)))))))))))))))))))))] }
def f167.kp : Keep := [([false, false, true, true, true, false, true, true], [0, 1, 8, 9, 10, 11]), ([true, true, false, false, true, false, false, true, true, true, false, true, true], [0, 1, 8, 9, 10, 11, 12]), ([true, true, false, false, true, true, true, false, true, true], [0, 1, 8, 9, 10, 11])]
theorem f167.good : goodCode Try.prog f167.T (rootOf Try.f167) = true := by kernel_rfl
def f167.l0 (R : Value → Heap → Prop) (A0 : Option Addr) (n0 : Nat) (c0 : Nat) (x1 : Int) (x8 : Int) (a9 : Addr) (x10 : Int) (x11 : Int) (h : Heap) : Prop := Pt Try.prog Try.f167 R [false, false, true, true, true, false, true, true] (mkFr [(0, (Value.slice A0 n0 c0)), (1, (Value.int .i64 x1)), (8, (Value.int .i64 x8)), (9, (Value.pointer (some a9))), (10, (Value.int .u64 x10)), (11, (Value.int .i64 x11))]) h
def f167.j1 (R : Value → Heap → Prop) (A0 : Option Addr) (n0 : Nat) (c0 : Nat) (x1 : Int) (x8 : Int) (a9 : Addr) (x10 : Int) (x11 : Int) (x12 : Int) (h : Heap) : Prop := Pt Try.prog Try.f167 R [true, true, false, false, true, false, false, true, true, true, false, true, true] (mkFr [(0, (Value.slice A0 n0 c0)), (1, (Value.int .i64 x1)), (8, (Value.int .i64 x8)), (9, (Value.pointer (some a9))), (10, (Value.int .u64 x10)), (11, (Value.int .i64 x11)), (12, (Value.int .i64 x12))]) h
def f167.j0 (R : Value → Heap → Prop) (A0 : Option Addr) (n0 : Nat) (c0 : Nat) (x1 : Int) (x8 : Int) (a9 : Addr) (x10 : Int) (x11 : Int) (h : Heap) : Prop := Pt Try.prog Try.f167 R [true, true, false, false, true, true, true, false, true, true] (mkFr [(0, (Value.slice A0 n0 c0)), (1, (Value.int .i64 x1)), (8, (Value.int .i64 x8)), (9, (Value.pointer (some a9))), (10, (Value.int .u64 x10)), (11, (Value.int .i64 x11))]) h
set_option maxRecDepth 100000 in
def f167.l0T (R : Value → Heap → Prop) (A0 : Option Addr) (n0 : Nat) (c0 : Nat) (x1 : Int) (x8 : Int) (a9 : Addr) (x10 : Int) (x11 : Int) (h : Heap) : Prop :=
  (4 : Int) ≠ 0 ∧ (splitB (decide (x11 ≤ (IntKind.wrap .i64 ((IntKind.wrap .i64 (x1 + (IntKind.wrap .i64 ((IntKind.wrap .i64 (Int.tdiv x8 (4 : Int))) * (2 : Int))))) + (1 : Int))))) (Run Try.prog 157 #[(Value.pointer (some a9))] h fun v1_ h2_ => ∃ x3_, v1_ = (Value.int .u64 x3_) ∧ splitB (decide ((IntKind.wrap .i64 (bitsI .and .u64 x3_ (IntKind.wrap .u64 (x10 - (1 : Int))))) ≥ x8)) (f167.j1 R A0 n0 c0 x1 x8 a9 x10 x11 (IntKind.wrap .i64 ((IntKind.wrap .i64 (bitsI .and .u64 x3_ (IntKind.wrap .u64 (x10 - (1 : Int))))) - x8)) h2_) (f167.j1 R A0 n0 c0 x1 x8 a9 x10 x11 (IntKind.wrap .i64 (bitsI .and .u64 x3_ (IntKind.wrap .u64 (x10 - (1 : Int))))) h2_)) (R (Value.tuple #[]) h))
set_option maxRecDepth 100000 in
theorem f167.l0_in {R : Value → Heap → Prop} {A0 : Option Addr} {n0 : Nat} {c0 : Nat} {x1 : Int} {x8 : Int} {a9 : Addr} {x10 : Int} {x11 : Int} {h : Heap} (H : f167.l0T R A0 n0 c0 x1 x8 a9 x10 x11 h) : f167.l0 R A0 n0 c0 x1 x8 a9 x10 x11 h :=
  pt_intro mixed f167.good (Eq.mpr (show (Fwd Try.prog f167.T f167.kp Try.f167 R [false, false, true, true, true, false, true, true] (mkFr [(0, (Value.slice A0 n0 c0)), (1, (Value.int .i64 x1)), (8, (Value.int .i64 x8)), (9, (Value.pointer (some a9))), (10, (Value.int .u64 x10)), (11, (Value.int .i64 x11))]) h) = (f167.l0T R A0 n0 c0 x1 x8 a9 x10 x11 h) by kernel_rfl) H)
set_option maxRecDepth 100000 in
def f167.j1T (R : Value → Heap → Prop) (A0 : Option Addr) (n0 : Nat) (c0 : Nat) (x1 : Int) (x8 : Int) (a9 : Addr) (x10 : Int) (x11 : Int) (x12 : Int) (h : Heap) : Prop :=
  ptrOk A0 fun a1_ => 0 ≤ (IntKind.wrap .i64 (x1 + x12)) ∧ (IntKind.wrap .i64 (x1 + x12)) < ((n0 : Nat) : Int) ∧ (ptrOk A0 fun a2_ => 0 ≤ x11 ∧ x11 < ((n0 : Nat) : Int) ∧ (∃ v3_, ldv true 3 h (Addr.add a1_ (Int.toNat (IntKind.wrap .i64 (x1 + x12)) * 3)) = some v3_ ∧ ∃ v4_, ldv true 3 h (Addr.add a2_ (Int.toNat x11 * 3)) = some v4_ ∧ ptrOk A0 fun a5_ => 0 ≤ x11 ∧ x11 < ((n0 : Nat) : Int) ∧ (∃ l7_ : List Value, v3_ = Value.agg l7_.toArray ∧ l7_.length = 3 ∧ ∃ h6_, stH h (Addr.add a5_ (Int.toNat x11 * 3)) l7_ 0 = some h6_ ∧ ptrOk A0 fun a8_ => 0 ≤ (IntKind.wrap .i64 (x1 + x12)) ∧ (IntKind.wrap .i64 (x1 + x12)) < ((n0 : Nat) : Int) ∧ (∃ l10_ : List Value, v4_ = Value.agg l10_.toArray ∧ l10_.length = 3 ∧ ∃ h9_, stH h6_ (Addr.add a8_ (Int.toNat (IntKind.wrap .i64 (x1 + x12)) * 3)) l10_ 0 = some h9_ ∧ f167.j0 R A0 n0 c0 x1 x8 a9 x10 x11 h9_))))
set_option maxRecDepth 100000 in
theorem f167.j1_in {R : Value → Heap → Prop} {A0 : Option Addr} {n0 : Nat} {c0 : Nat} {x1 : Int} {x8 : Int} {a9 : Addr} {x10 : Int} {x11 : Int} {x12 : Int} {h : Heap} (H : f167.j1T R A0 n0 c0 x1 x8 a9 x10 x11 x12 h) : f167.j1 R A0 n0 c0 x1 x8 a9 x10 x11 x12 h :=
  pt_intro mixed f167.good (Eq.mpr (show (Fwd Try.prog f167.T f167.kp Try.f167 R [true, true, false, false, true, false, false, true, true, true, false, true, true] (mkFr [(0, (Value.slice A0 n0 c0)), (1, (Value.int .i64 x1)), (8, (Value.int .i64 x8)), (9, (Value.pointer (some a9))), (10, (Value.int .u64 x10)), (11, (Value.int .i64 x11)), (12, (Value.int .i64 x12))]) h) = (f167.j1T R A0 n0 c0 x1 x8 a9 x10 x11 x12 h) by kernel_rfl) H)
set_option maxRecDepth 100000 in
def f167.j0T (R : Value → Heap → Prop) (A0 : Option Addr) (n0 : Nat) (c0 : Nat) (x1 : Int) (x8 : Int) (a9 : Addr) (x10 : Int) (x11 : Int) (h : Heap) : Prop :=
  f167.l0 R A0 n0 c0 x1 x8 a9 x10 (IntKind.wrap .i64 (x11 + (1 : Int))) h
set_option maxRecDepth 100000 in
theorem f167.j0_in {R : Value → Heap → Prop} {A0 : Option Addr} {n0 : Nat} {c0 : Nat} {x1 : Int} {x8 : Int} {a9 : Addr} {x10 : Int} {x11 : Int} {h : Heap} (H : f167.j0T R A0 n0 c0 x1 x8 a9 x10 x11 h) : f167.j0 R A0 n0 c0 x1 x8 a9 x10 x11 h :=
  pt_intro mixed f167.good (Eq.mpr (show (Fwd Try.prog f167.T f167.kp Try.f167 R [true, true, false, false, true, true, true, false, true, true] (mkFr [(0, (Value.slice A0 n0 c0)), (1, (Value.int .i64 x1)), (8, (Value.int .i64 x8)), (9, (Value.pointer (some a9))), (10, (Value.int .u64 x10)), (11, (Value.int .i64 x11))]) h) = (f167.j0T R A0 n0 c0 x1 x8 a9 x10 x11 h) by kernel_rfl) H)
set_option maxRecDepth 100000 in
def f167.runT (R : Value → Heap → Prop) (A0 : Option Addr) (n0 : Nat) (c0 : Nat) (x1 : Int) (x2 : Int) (v3 : Value) (h : Heap) : Prop :=
  splitB (decide ((IntKind.wrap .i64 (x2 - x1)) ≥ (8 : Int))) (newH h (Obj.cells #[(Value.int .u64 (0 : Int))] 223) fun h1_ => ∃ h2_, st1 h1_ (⟨Array.size h, 0, none⟩) (Value.int .u64 (IntKind.wrap .u64 (IntKind.wrap .i64 (x2 - x1)))) = some h2_ ∧ Run Try.prog 156 #[(Value.int .i64 (IntKind.wrap .i64 (x2 - x1)))] h2_ fun v3_ h4_ => ∃ x5_, v3_ = (Value.int .u64 x5_) ∧ (4 : Int) ≠ 0 ∧ (f167.l0 R A0 n0 c0 x1 (IntKind.wrap .i64 (x2 - x1)) (⟨Array.size h, 0, none⟩) x5_ (IntKind.wrap .i64 ((IntKind.wrap .i64 (x1 + (IntKind.wrap .i64 ((IntKind.wrap .i64 (Int.tdiv (IntKind.wrap .i64 (x2 - x1)) (4 : Int))) * (2 : Int))))) - (1 : Int))) h4_)) (R (Value.tuple #[]) h)
set_option maxRecDepth 100000 in
theorem f167.run {R : Value → Heap → Prop} {A0 : Option Addr} {n0 : Nat} {c0 : Nat} {x1 : Int} {x2 : Int} {v3 : Value} {h : Heap} (H : f167.runT R A0 n0 c0 x1 x2 v3 h) : Run Try.prog 167 #[(Value.slice A0 n0 c0), (Value.int .i64 x1), (Value.int .i64 x2), v3] h R :=
  run_of mixed Try.func167 (by kernel_rfl) (by kernel_rfl) f167.good (Eq.mpr (show (Fwd Try.prog f167.T f167.kp Try.f167 R [] (mkFr (argL [(Value.slice A0 n0 c0), (Value.int .i64 x1), (Value.int .i64 x2), v3] 0)) h) = (f167.runT R A0 n0 c0 x1 x2 v3 h) by kernel_rfl) H)
def f199.T : Tab := { sh := tSh, tup := tTup, keep := [], plan := [(1, (.take 0 (.take 1 (.take 2 (.take 3 (.take 5 (.take 6 (.take 7 (.take 4 (.take 8 (.eff false 9 (.take 10 .done))))))))))))] }
def f199.kp : Keep := []
theorem f199.good : goodCode Try.prog f199.T (rootOf Try.f199) = true := by kernel_rfl
set_option maxRecDepth 100000 in
def f199.runT (R : Value → Heap → Prop) (A0 : Option Addr) (n0 : Nat) (c0 : Nat) (x1 : Int) (x2 : Int) (a3 : Addr) (v4 : Value) (h : Heap) : Prop :=
  ptrOk A0 fun a1_ => 0 ≤ x2 ∧ x2 < ((n0 : Nat) : Int) ∧ (ptrOk A0 fun a2_ => 0 ≤ x1 ∧ x1 < ((n0 : Nat) : Int) ∧ (∃ v3_, ldv true 3 h (Addr.add a1_ (Int.toNat x2 * 3)) = some v3_ ∧ ∃ v4_, ldv true 3 h (Addr.add a2_ (Int.toNat x1 * 3)) = some v4_ ∧ CallF Try.prog v4 [v3_, v4_] h fun v5_ h6_ => ∃ x7_, v5_ = (Value.int .i64 x7_) ∧ splitB (decide (x7_ < (0 : Int))) (∃ v8_, ldv false 1 h6_ a3 = some v8_ ∧ ∃ x9_, v8_ = (Value.int .i64 x9_) ∧ ∃ h10_, st1 h6_ a3 (Value.int .i64 (IntKind.wrap .i64 (x9_ + (1 : Int)))) = some h10_ ∧ R (Value.tuple #[(Value.int .i64 x2), (Value.int .i64 x1)]) h10_) (R (Value.tuple #[(Value.int .i64 x1), (Value.int .i64 x2)]) h6_)))
set_option maxRecDepth 100000 in
theorem f199.run {R : Value → Heap → Prop} {A0 : Option Addr} {n0 : Nat} {c0 : Nat} {x1 : Int} {x2 : Int} {a3 : Addr} {v4 : Value} {h : Heap} (H : f199.runT R A0 n0 c0 x1 x2 a3 v4 h) : Run Try.prog 199 #[(Value.slice A0 n0 c0), (Value.int .i64 x1), (Value.int .i64 x2), (Value.pointer (some a3)), v4] h R :=
  run_of mixed Try.func199 (by kernel_rfl) (by kernel_rfl) f199.good (Eq.mpr (show (Fwd Try.prog f199.T f199.kp Try.f199 R [] (mkFr (argL [(Value.slice A0 n0 c0), (Value.int .i64 x1), (Value.int .i64 x2), (Value.pointer (some a3)), v4] 0)) h) = (f199.runT R A0 n0 c0 x1 x2 a3 v4 h) by kernel_rfl) H)
def f187.T : Tab := { sh := tSh, tup := tTup, keep := [], plan := [] }
def f187.kp : Keep := []
theorem f187.good : goodCode Try.prog f187.T (rootOf Try.f187) = true := by kernel_rfl
set_option maxRecDepth 100000 in
def f187.runT (R : Value → Heap → Prop) (A0 : Option Addr) (n0 : Nat) (c0 : Nat) (x1 : Int) (x2 : Int) (x3 : Int) (a4 : Addr) (v5 : Value) (h : Heap) : Prop :=
  Run Try.prog 199 #[(Value.slice A0 n0 c0), (Value.int .i64 x1), (Value.int .i64 x2), (Value.pointer (some a4)), v5] h fun v1_ h2_ => ∃ x3_, ∃ x4_, v1_ = (Value.tuple #[(Value.int .i64 x3_), (Value.int .i64 x4_)]) ∧ Run Try.prog 199 #[(Value.slice A0 n0 c0), (Value.int .i64 x4_), (Value.int .i64 x3), (Value.pointer (some a4)), v5] h2_ fun v5_ h6_ => ∃ x7_, ∃ x8_, v5_ = (Value.tuple #[(Value.int .i64 x7_), (Value.int .i64 x8_)]) ∧ Run Try.prog 199 #[(Value.slice A0 n0 c0), (Value.int .i64 x3_), (Value.int .i64 x7_), (Value.pointer (some a4)), v5] h6_ fun v9_ h10_ => ∃ x11_, ∃ x12_, v9_ = (Value.tuple #[(Value.int .i64 x11_), (Value.int .i64 x12_)]) ∧ R (Value.int .i64 x12_) h10_
set_option maxRecDepth 100000 in
theorem f187.run {R : Value → Heap → Prop} {A0 : Option Addr} {n0 : Nat} {c0 : Nat} {x1 : Int} {x2 : Int} {x3 : Int} {a4 : Addr} {v5 : Value} {h : Heap} (H : f187.runT R A0 n0 c0 x1 x2 x3 a4 v5 h) : Run Try.prog 187 #[(Value.slice A0 n0 c0), (Value.int .i64 x1), (Value.int .i64 x2), (Value.int .i64 x3), (Value.pointer (some a4)), v5] h R :=
  run_of mixed Try.func187 (by kernel_rfl) (by kernel_rfl) f187.good (Eq.mpr (show (Fwd Try.prog f187.T f187.kp Try.f187 R [] (mkFr (argL [(Value.slice A0 n0 c0), (Value.int .i64 x1), (Value.int .i64 x2), (Value.int .i64 x3), (Value.pointer (some a4)), v5] 0)) h) = (f187.runT R A0 n0 c0 x1 x2 x3 a4 v5 h) by kernel_rfl) H)
def f186.T : Tab := { sh := tSh, tup := tTup, keep := [], plan := [] }
def f186.kp : Keep := []
theorem f186.good : goodCode Try.prog f186.T (rootOf Try.f186) = true := by kernel_rfl
set_option maxRecDepth 100000 in
def f186.runT (R : Value → Heap → Prop) (A0 : Option Addr) (n0 : Nat) (c0 : Nat) (x1 : Int) (a2 : Addr) (v3 : Value) (h : Heap) : Prop :=
  Run Try.prog 187 #[(Value.slice A0 n0 c0), (Value.int .i64 (IntKind.wrap .i64 (x1 - (1 : Int)))), (Value.int .i64 x1), (Value.int .i64 (IntKind.wrap .i64 (x1 + (1 : Int)))), (Value.pointer (some a2)), v3] h fun v1_ h2_ => ∃ x3_, v1_ = (Value.int .i64 x3_) ∧ R (Value.int .i64 x3_) h2_
set_option maxRecDepth 100000 in
theorem f186.run {R : Value → Heap → Prop} {A0 : Option Addr} {n0 : Nat} {c0 : Nat} {x1 : Int} {a2 : Addr} {v3 : Value} {h : Heap} (H : f186.runT R A0 n0 c0 x1 a2 v3 h) : Run Try.prog 186 #[(Value.slice A0 n0 c0), (Value.int .i64 x1), (Value.pointer (some a2)), v3] h R :=
  run_of mixed Try.func186 (by kernel_rfl) (by kernel_rfl) f186.good (Eq.mpr (show (Fwd Try.prog f186.T f186.kp Try.f186 R [] (mkFr (argL [(Value.slice A0 n0 c0), (Value.int .i64 x1), (Value.pointer (some a2)), v3] 0)) h) = (f186.runT R A0 n0 c0 x1 a2 v3 h) by kernel_rfl) H)
def f168.T : Tab := { sh := tSh, tup := tTup, keep := [], plan := [] }
def f168.kp : Keep := [([true, false, true, false, true, true, true, true, true, true], [0, 3, 11, 12, 13, 14]), ([true, true, true, true, true, true, true], [11, 13])]
theorem f168.good : goodCode Try.prog f168.T (rootOf Try.f168) = true := by kernel_rfl
def f168.j1 (R : Value → Heap → Prop) (A0 : Option Addr) (n0 : Nat) (c0 : Nat) (v3 : Value) (a11 : Addr) (x12 : Int) (x13 : Int) (x14 : Int) (h : Heap) : Prop := Pt Try.prog Try.f168 R [true, false, true, false, true, true, true, true, true, true] (mkFr [(0, (Value.slice A0 n0 c0)), (3, v3), (11, (Value.pointer (some a11))), (12, (Value.int .i64 x12)), (13, (Value.int .i64 x13)), (14, (Value.int .i64 x14))]) h
def f168.j0 (R : Value → Heap → Prop) (a11 : Addr) (x13 : Int) (h : Heap) : Prop := Pt Try.prog Try.f168 R [true, true, true, true, true, true, true] (mkFr [(11, (Value.pointer (some a11))), (13, (Value.int .i64 x13))]) h
set_option maxRecDepth 100000 in
def f168.j1T (R : Value → Heap → Prop) (A0 : Option Addr) (n0 : Nat) (c0 : Nat) (v3 : Value) (a11 : Addr) (x12 : Int) (x13 : Int) (x14 : Int) (h : Heap) : Prop :=
  Run Try.prog 187 #[(Value.slice A0 n0 c0), (Value.int .i64 x12), (Value.int .i64 x13), (Value.int .i64 x14), (Value.pointer (some a11)), v3] h fun v1_ h2_ => ∃ x3_, v1_ = (Value.int .i64 x3_) ∧ f168.j0 R a11 x3_ h2_
set_option maxRecDepth 100000 in
theorem f168.j1_in {R : Value → Heap → Prop} {A0 : Option Addr} {n0 : Nat} {c0 : Nat} {v3 : Value} {a11 : Addr} {x12 : Int} {x13 : Int} {x14 : Int} {h : Heap} (H : f168.j1T R A0 n0 c0 v3 a11 x12 x13 x14 h) : f168.j1 R A0 n0 c0 v3 a11 x12 x13 x14 h :=
  pt_intro mixed f168.good (Eq.mpr (show (Fwd Try.prog f168.T f168.kp Try.f168 R [true, false, true, false, true, true, true, true, true, true] (mkFr [(0, (Value.slice A0 n0 c0)), (3, v3), (11, (Value.pointer (some a11))), (12, (Value.int .i64 x12)), (13, (Value.int .i64 x13)), (14, (Value.int .i64 x14))]) h) = (f168.j1T R A0 n0 c0 v3 a11 x12 x13 x14 h) by kernel_rfl) H)
set_option maxRecDepth 100000 in
def f168.j0T (R : Value → Heap → Prop) (a11 : Addr) (x13 : Int) (h : Heap) : Prop :=
  ∃ v1_, ldv false 1 h a11 = some v1_ ∧ ∃ x2_, v1_ = (Value.int .i64 x2_) ∧ splitB (x2_ == (0 : Int)) (R (Value.tuple #[(Value.int .i64 x13), (Value.int .i64 (1 : Int))]) h) (splitB (x2_ == (12 : Int)) (R (Value.tuple #[(Value.int .i64 x13), (Value.int .i64 (2 : Int))]) h) (R (Value.tuple #[(Value.int .i64 x13), (Value.int .i64 (0 : Int))]) h))
set_option maxRecDepth 100000 in
theorem f168.j0_in {R : Value → Heap → Prop} {a11 : Addr} {x13 : Int} {h : Heap} (H : f168.j0T R a11 x13 h) : f168.j0 R a11 x13 h :=
  pt_intro mixed f168.good (Eq.mpr (show (Fwd Try.prog f168.T f168.kp Try.f168 R [true, true, true, true, true, true, true] (mkFr [(11, (Value.pointer (some a11))), (13, (Value.int .i64 x13))]) h) = (f168.j0T R a11 x13 h) by kernel_rfl) H)
set_option maxRecDepth 100000 in
def f168.runT (R : Value → Heap → Prop) (A0 : Option Addr) (n0 : Nat) (c0 : Nat) (x1 : Int) (x2 : Int) (v3 : Value) (h : Heap) : Prop :=
  newH h (Obj.cells #[(Value.int .i64 (0 : Int))] 3) fun h1_ => (4 : Int) ≠ 0 ∧ ((4 : Int) ≠ 0 ∧ ((4 : Int) ≠ 0 ∧ (splitB (decide ((IntKind.wrap .i64 (x2 - x1)) ≥ (8 : Int))) (splitB (decide ((IntKind.wrap .i64 (x2 - x1)) ≥ (50 : Int))) (Run Try.prog 186 #[(Value.slice A0 n0 c0), (Value.int .i64 (IntKind.wrap .i64 (x1 + (IntKind.wrap .i64 ((IntKind.wrap .i64 (Int.tdiv (IntKind.wrap .i64 (x2 - x1)) (4 : Int))) * (1 : Int)))))), (Value.pointer (some ⟨Array.size h, 0, none⟩)), v3] h1_ fun v2_ h3_ => ∃ x4_, v2_ = (Value.int .i64 x4_) ∧ Run Try.prog 186 #[(Value.slice A0 n0 c0), (Value.int .i64 (IntKind.wrap .i64 (x1 + (IntKind.wrap .i64 ((IntKind.wrap .i64 (Int.tdiv (IntKind.wrap .i64 (x2 - x1)) (4 : Int))) * (2 : Int)))))), (Value.pointer (some ⟨Array.size h, 0, none⟩)), v3] h3_ fun v5_ h6_ => ∃ x7_, v5_ = (Value.int .i64 x7_) ∧ Run Try.prog 186 #[(Value.slice A0 n0 c0), (Value.int .i64 (IntKind.wrap .i64 (x1 + (IntKind.wrap .i64 ((IntKind.wrap .i64 (Int.tdiv (IntKind.wrap .i64 (x2 - x1)) (4 : Int))) * (3 : Int)))))), (Value.pointer (some ⟨Array.size h, 0, none⟩)), v3] h6_ fun v8_ h9_ => ∃ x10_, v8_ = (Value.int .i64 x10_) ∧ f168.j1 R A0 n0 c0 v3 (⟨Array.size h, 0, none⟩) x4_ x7_ x10_ h9_) (f168.j1 R A0 n0 c0 v3 (⟨Array.size h, 0, none⟩) (IntKind.wrap .i64 (x1 + (IntKind.wrap .i64 ((IntKind.wrap .i64 (Int.tdiv (IntKind.wrap .i64 (x2 - x1)) (4 : Int))) * (1 : Int))))) (IntKind.wrap .i64 (x1 + (IntKind.wrap .i64 ((IntKind.wrap .i64 (Int.tdiv (IntKind.wrap .i64 (x2 - x1)) (4 : Int))) * (2 : Int))))) (IntKind.wrap .i64 (x1 + (IntKind.wrap .i64 ((IntKind.wrap .i64 (Int.tdiv (IntKind.wrap .i64 (x2 - x1)) (4 : Int))) * (3 : Int))))) h1_)) (f168.j0 R (⟨Array.size h, 0, none⟩) (IntKind.wrap .i64 (x1 + (IntKind.wrap .i64 ((IntKind.wrap .i64 (Int.tdiv (IntKind.wrap .i64 (x2 - x1)) (4 : Int))) * (2 : Int))))) h1_))))
set_option maxRecDepth 100000 in
theorem f168.run {R : Value → Heap → Prop} {A0 : Option Addr} {n0 : Nat} {c0 : Nat} {x1 : Int} {x2 : Int} {v3 : Value} {h : Heap} (H : f168.runT R A0 n0 c0 x1 x2 v3 h) : Run Try.prog 168 #[(Value.slice A0 n0 c0), (Value.int .i64 x1), (Value.int .i64 x2), v3] h R :=
  run_of mixed Try.func168 (by kernel_rfl) (by kernel_rfl) f168.good (Eq.mpr (show (Fwd Try.prog f168.T f168.kp Try.f168 R [] (mkFr (argL [(Value.slice A0 n0 c0), (Value.int .i64 x1), (Value.int .i64 x2), v3] 0)) h) = (f168.runT R A0 n0 c0 x1 x2 v3 h) by kernel_rfl) H)
def f169.T : Tab := { sh := tSh, tup := tTup, keep := [], plan := [(3, (.take 0 (.take 1 (.take 2 (.take 3 (.take 4 (.take 5 (.take 6 (.take 8 (.take 9 (.take 10 (.take 7 (.take 11 (.take 12 (.eff false 13 (.take 14 (.eff false 15 .done)))))))))))))))))] }
def f169.kp : Keep := [([false, false, true, true], [0, 8, 9])]
theorem f169.good : goodCode Try.prog f169.T (rootOf Try.f169) = true := by kernel_rfl
def f169.l0 (R : Value → Heap → Prop) (A0 : Option Addr) (n0 : Nat) (c0 : Nat) (x8 : Int) (x9 : Int) (h : Heap) : Prop := Pt Try.prog Try.f169 R [false, false, true, true] (mkFr [(0, (Value.slice A0 n0 c0)), (8, (Value.int .i64 x8)), (9, (Value.int .i64 x9))]) h
set_option maxRecDepth 100000 in
def f169.l0T (R : Value → Heap → Prop) (A0 : Option Addr) (n0 : Nat) (c0 : Nat) (x8 : Int) (x9 : Int) (h : Heap) : Prop :=
  splitB (decide (x8 < x9)) (ptrOk A0 fun a1_ => 0 ≤ x9 ∧ x9 < ((n0 : Nat) : Int) ∧ (ptrOk A0 fun a2_ => 0 ≤ x8 ∧ x8 < ((n0 : Nat) : Int) ∧ (∃ v3_, ldv true 3 h (Addr.add a1_ (Int.toNat x9 * 3)) = some v3_ ∧ ∃ v4_, ldv true 3 h (Addr.add a2_ (Int.toNat x8 * 3)) = some v4_ ∧ ptrOk A0 fun a5_ => 0 ≤ x8 ∧ x8 < ((n0 : Nat) : Int) ∧ (∃ l7_ : List Value, v3_ = Value.agg l7_.toArray ∧ l7_.length = 3 ∧ ∃ h6_, stH h (Addr.add a5_ (Int.toNat x8 * 3)) l7_ 0 = some h6_ ∧ ptrOk A0 fun a8_ => 0 ≤ x9 ∧ x9 < ((n0 : Nat) : Int) ∧ (∃ l10_ : List Value, v4_ = Value.agg l10_.toArray ∧ l10_.length = 3 ∧ ∃ h9_, stH h6_ (Addr.add a8_ (Int.toNat x9 * 3)) l10_ 0 = some h9_ ∧ f169.l0 R A0 n0 c0 (IntKind.wrap .i64 (x8 + (1 : Int))) (IntKind.wrap .i64 (x9 - (1 : Int))) h9_))))) (R (Value.tuple #[]) h)
set_option maxRecDepth 100000 in
theorem f169.l0_in {R : Value → Heap → Prop} {A0 : Option Addr} {n0 : Nat} {c0 : Nat} {x8 : Int} {x9 : Int} {h : Heap} (H : f169.l0T R A0 n0 c0 x8 x9 h) : f169.l0 R A0 n0 c0 x8 x9 h :=
  pt_intro mixed f169.good (Eq.mpr (show (Fwd Try.prog f169.T f169.kp Try.f169 R [false, false, true, true] (mkFr [(0, (Value.slice A0 n0 c0)), (8, (Value.int .i64 x8)), (9, (Value.int .i64 x9))]) h) = (f169.l0T R A0 n0 c0 x8 x9 h) by kernel_rfl) H)
set_option maxRecDepth 100000 in
def f169.runT (R : Value → Heap → Prop) (A0 : Option Addr) (n0 : Nat) (c0 : Nat) (x1 : Int) (x2 : Int) (v3 : Value) (h : Heap) : Prop :=
  f169.l0 R A0 n0 c0 x1 (IntKind.wrap .i64 (x2 - (1 : Int))) h
set_option maxRecDepth 100000 in
theorem f169.run {R : Value → Heap → Prop} {A0 : Option Addr} {n0 : Nat} {c0 : Nat} {x1 : Int} {x2 : Int} {v3 : Value} {h : Heap} (H : f169.runT R A0 n0 c0 x1 x2 v3 h) : Run Try.prog 169 #[(Value.slice A0 n0 c0), (Value.int .i64 x1), (Value.int .i64 x2), v3] h R :=
  run_of mixed Try.func169 (by kernel_rfl) (by kernel_rfl) f169.good (Eq.mpr (show (Fwd Try.prog f169.T f169.kp Try.f169 R [] (mkFr (argL [(Value.slice A0 n0 c0), (Value.int .i64 x1), (Value.int .i64 x2), v3] 0)) h) = (f169.runT R A0 n0 c0 x1 x2 v3 h) by kernel_rfl) H)
def f170.T : Tab := { sh := tSh, tup := tTup, keep := [], plan := [(5, (.take 0 (.take 1 (.take 2 (.take 3 (.split 3 (.take 4 (.take 5 (.take 6 (.take 7 (.take 9 (.take 10 (.take 11 (.take 12 (.take 8 (.take 13 (.eff false 14 (.take 15 (.take 16 (.take 17 .done)))))))))))))))))))), (11, (.take 0 (.take 1 (.take 2 (.take 3 (.take 4 (.take 5 (.take 6 (.take 7 (.take 8 (.take 10 (.take 11 (.take 12 (.take 9 (.take 13 (.take 14 (.eff false 15 (.take 16 (.eff false 17 .done))))))))))))))))))), (16, (.take 0 (.take 1 (.take 2 (.take 3 (.take 5 (.take 6 (.take 7 (.take 8 (.take 4 (.take 9 (.eff false 10 (.take 11 (.take 12 .done)))))))))))))), (17, (.take 0 (.take 1 (.take 2 (.take 3 (.take 4 (.take 5 (.take 6 (.take 7 (.take 8 (.take 10 (.take 11 (.take 12 (.take 9 (.take 13 (.take 14 (.eff false 15 (.take 16 (.eff false 17 .done))))))))))))))))))), (22, (.take 0 (.take 1 (.take 2 (.take 3 (.take 5 (.take 6 (.take 7 (.take 8 (.take 4 (.take 9 (.eff false 10 (.take 11 (.take 12 .done)))))))))))))), (23, (.take 0 (.take 1 (.take 2 (.take 3 (.take 4 (.take 5 (.take 6 (.take 7 (.take 8 (.take 10 (.take 11 (.take 12 (.take 9 (.take 13 (.take 14 (.eff false 15 (.take 16 (.eff false 17 .done)))))))))))))))))))] }
def f170.kp : Keep := [([false, false, true, false, true, true], [0, 1, 2, 3, 9, 10]), ([false, false, false, false, false, true, false, false, true, false, true, true], [0, 1, 2, 3, 9, 10]), ([true, false, false, false, false, false, true, false, false, true, false, true, true], [0, 1, 2, 3, 9, 10]), ([true, false, false, true, false, false, true, false, true, true], [0, 1, 2, 3, 9, 10]), ([false, false, true, false, true, false, true, true, true, true, false, false, true, false, false, true, false, true, true], [0, 1, 2, 3, 9, 10, 11]), ([true, true, true, true, true, false, false, true, false, false, true, false, true, true], [0, 1, 2, 3, 9, 10]), ([false, false, true, false, true, true, true, true, true, true, false, false, true, false, false, true, false, true, true], [0, 1, 2, 3, 9, 10, 12]), ([true, true, false, false, true, false, true, true], [0, 1, 2, 3, 9, 10])]
theorem f170.good : goodCode Try.prog f170.T (rootOf Try.f170) = true := by kernel_rfl
def f170.l0 (R : Value → Heap → Prop) (A0 : Option Addr) (n0 : Nat) (c0 : Nat) (x1 : Int) (x2 : Int) (v3 : Value) (x9 : Int) (x10 : Int) (h : Heap) : Prop := Pt Try.prog Try.f170 R [false, false, true, false, true, true] (mkFr [(0, (Value.slice A0 n0 c0)), (1, (Value.int .i64 x1)), (2, (Value.int .i64 x2)), (3, v3), (9, (Value.int .i64 x9)), (10, (Value.int .i64 x10))]) h
def f170.l1 (R : Value → Heap → Prop) (A0 : Option Addr) (n0 : Nat) (c0 : Nat) (x1 : Int) (x2 : Int) (v3 : Value) (x9 : Int) (x10 : Int) (h : Heap) : Prop := Pt Try.prog Try.f170 R [false, false, false, false, false, true, false, false, true, false, true, true] (mkFr [(0, (Value.slice A0 n0 c0)), (1, (Value.int .i64 x1)), (2, (Value.int .i64 x2)), (3, v3), (9, (Value.int .i64 x9)), (10, (Value.int .i64 x10))]) h
def f170.j2 (R : Value → Heap → Prop) (A0 : Option Addr) (n0 : Nat) (c0 : Nat) (x1 : Int) (x2 : Int) (v3 : Value) (x9 : Int) (x10 : Int) (h : Heap) : Prop := Pt Try.prog Try.f170 R [true, false, false, false, false, false, true, false, false, true, false, true, true] (mkFr [(0, (Value.slice A0 n0 c0)), (1, (Value.int .i64 x1)), (2, (Value.int .i64 x2)), (3, v3), (9, (Value.int .i64 x9)), (10, (Value.int .i64 x10))]) h
def f170.j1 (R : Value → Heap → Prop) (A0 : Option Addr) (n0 : Nat) (c0 : Nat) (x1 : Int) (x2 : Int) (v3 : Value) (x9 : Int) (x10 : Int) (h : Heap) : Prop := Pt Try.prog Try.f170 R [true, false, false, true, false, false, true, false, true, true] (mkFr [(0, (Value.slice A0 n0 c0)), (1, (Value.int .i64 x1)), (2, (Value.int .i64 x2)), (3, v3), (9, (Value.int .i64 x9)), (10, (Value.int .i64 x10))]) h
def f170.l2 (R : Value → Heap → Prop) (A0 : Option Addr) (n0 : Nat) (c0 : Nat) (x1 : Int) (x2 : Int) (v3 : Value) (x9 : Int) (x10 : Int) (x11 : Int) (h : Heap) : Prop := Pt Try.prog Try.f170 R [false, false, true, false, true, false, true, true, true, true, false, false, true, false, false, true, false, true, true] (mkFr [(0, (Value.slice A0 n0 c0)), (1, (Value.int .i64 x1)), (2, (Value.int .i64 x2)), (3, v3), (9, (Value.int .i64 x9)), (10, (Value.int .i64 x10)), (11, (Value.int .i64 x11))]) h
def f170.j3 (R : Value → Heap → Prop) (A0 : Option Addr) (n0 : Nat) (c0 : Nat) (x1 : Int) (x2 : Int) (v3 : Value) (x9 : Int) (x10 : Int) (h : Heap) : Prop := Pt Try.prog Try.f170 R [true, true, true, true, true, false, false, true, false, false, true, false, true, true] (mkFr [(0, (Value.slice A0 n0 c0)), (1, (Value.int .i64 x1)), (2, (Value.int .i64 x2)), (3, v3), (9, (Value.int .i64 x9)), (10, (Value.int .i64 x10))]) h
def f170.l3 (R : Value → Heap → Prop) (A0 : Option Addr) (n0 : Nat) (c0 : Nat) (x1 : Int) (x2 : Int) (v3 : Value) (x9 : Int) (x10 : Int) (x12 : Int) (h : Heap) : Prop := Pt Try.prog Try.f170 R [false, false, true, false, true, true, true, true, true, true, false, false, true, false, false, true, false, true, true] (mkFr [(0, (Value.slice A0 n0 c0)), (1, (Value.int .i64 x1)), (2, (Value.int .i64 x2)), (3, v3), (9, (Value.int .i64 x9)), (10, (Value.int .i64 x10)), (12, (Value.int .i64 x12))]) h
def f170.j0 (R : Value → Heap → Prop) (A0 : Option Addr) (n0 : Nat) (c0 : Nat) (x1 : Int) (x2 : Int) (v3 : Value) (x9 : Int) (x10 : Int) (h : Heap) : Prop := Pt Try.prog Try.f170 R [true, true, false, false, true, false, true, true] (mkFr [(0, (Value.slice A0 n0 c0)), (1, (Value.int .i64 x1)), (2, (Value.int .i64 x2)), (3, v3), (9, (Value.int .i64 x9)), (10, (Value.int .i64 x10))]) h
set_option maxRecDepth 100000 in
def f170.l0T (R : Value → Heap → Prop) (A0 : Option Addr) (n0 : Nat) (c0 : Nat) (x1 : Int) (x2 : Int) (v3 : Value) (x9 : Int) (x10 : Int) (h : Heap) : Prop :=
  splitB (decide (x10 < (5 : Int))) (f170.l1 R A0 n0 c0 x1 x2 v3 x9 x10 h) (R (Value.bool false) h)
set_option maxRecDepth 100000 in
theorem f170.l0_in {R : Value → Heap → Prop} {A0 : Option Addr} {n0 : Nat} {c0 : Nat} {x1 : Int} {x2 : Int} {v3 : Value} {x9 : Int} {x10 : Int} {h : Heap} (H : f170.l0T R A0 n0 c0 x1 x2 v3 x9 x10 h) : f170.l0 R A0 n0 c0 x1 x2 v3 x9 x10 h :=
  pt_intro mixed f170.good (Eq.mpr (show (Fwd Try.prog f170.T f170.kp Try.f170 R [false, false, true, false, true, true] (mkFr [(0, (Value.slice A0 n0 c0)), (1, (Value.int .i64 x1)), (2, (Value.int .i64 x2)), (3, v3), (9, (Value.int .i64 x9)), (10, (Value.int .i64 x10))]) h) = (f170.l0T R A0 n0 c0 x1 x2 v3 x9 x10 h) by kernel_rfl) H)
set_option maxRecDepth 100000 in
def f170.l1T (R : Value → Heap → Prop) (A0 : Option Addr) (n0 : Nat) (c0 : Nat) (x1 : Int) (x2 : Int) (v3 : Value) (x9 : Int) (x10 : Int) (h : Heap) : Prop :=
  splitB (decide (x9 < x2)) (ptrOk A0 fun a1_ => 0 ≤ x9 ∧ x9 < ((n0 : Nat) : Int) ∧ (ptrOk A0 fun a2_ => 0 ≤ (IntKind.wrap .i64 (x9 - (1 : Int))) ∧ (IntKind.wrap .i64 (x9 - (1 : Int))) < ((n0 : Nat) : Int) ∧ (∃ v3_, ldv true 3 h (Addr.add a1_ (Int.toNat x9 * 3)) = some v3_ ∧ ∃ v4_, ldv true 3 h (Addr.add a2_ (Int.toNat (IntKind.wrap .i64 (x9 - (1 : Int))) * 3)) = some v4_ ∧ CallF Try.prog v3 [v3_, v4_] h fun v5_ h6_ => ∃ x7_, v5_ = (Value.int .i64 x7_) ∧ splitB (!(decide (x7_ < (0 : Int)))) (f170.j2 R A0 n0 c0 x1 x2 v3 x9 x10 h6_) (f170.j1 R A0 n0 c0 x1 x2 v3 x9 x10 h6_)))) (f170.j1 R A0 n0 c0 x1 x2 v3 x9 x10 h)
set_option maxRecDepth 100000 in
theorem f170.l1_in {R : Value → Heap → Prop} {A0 : Option Addr} {n0 : Nat} {c0 : Nat} {x1 : Int} {x2 : Int} {v3 : Value} {x9 : Int} {x10 : Int} {h : Heap} (H : f170.l1T R A0 n0 c0 x1 x2 v3 x9 x10 h) : f170.l1 R A0 n0 c0 x1 x2 v3 x9 x10 h :=
  pt_intro mixed f170.good (Eq.mpr (show (Fwd Try.prog f170.T f170.kp Try.f170 R [false, false, false, false, false, true, false, false, true, false, true, true] (mkFr [(0, (Value.slice A0 n0 c0)), (1, (Value.int .i64 x1)), (2, (Value.int .i64 x2)), (3, v3), (9, (Value.int .i64 x9)), (10, (Value.int .i64 x10))]) h) = (f170.l1T R A0 n0 c0 x1 x2 v3 x9 x10 h) by kernel_rfl) H)
set_option maxRecDepth 100000 in
def f170.j2T (R : Value → Heap → Prop) (A0 : Option Addr) (n0 : Nat) (c0 : Nat) (x1 : Int) (x2 : Int) (v3 : Value) (x9 : Int) (x10 : Int) (h : Heap) : Prop :=
  f170.l1 R A0 n0 c0 x1 x2 v3 (IntKind.wrap .i64 (x9 + (1 : Int))) x10 h
set_option maxRecDepth 100000 in
theorem f170.j2_in {R : Value → Heap → Prop} {A0 : Option Addr} {n0 : Nat} {c0 : Nat} {x1 : Int} {x2 : Int} {v3 : Value} {x9 : Int} {x10 : Int} {h : Heap} (H : f170.j2T R A0 n0 c0 x1 x2 v3 x9 x10 h) : f170.j2 R A0 n0 c0 x1 x2 v3 x9 x10 h :=
  pt_intro mixed f170.good (Eq.mpr (show (Fwd Try.prog f170.T f170.kp Try.f170 R [true, false, false, false, false, false, true, false, false, true, false, true, true] (mkFr [(0, (Value.slice A0 n0 c0)), (1, (Value.int .i64 x1)), (2, (Value.int .i64 x2)), (3, v3), (9, (Value.int .i64 x9)), (10, (Value.int .i64 x10))]) h) = (f170.j2T R A0 n0 c0 x1 x2 v3 x9 x10 h) by kernel_rfl) H)
set_option maxRecDepth 100000 in
def f170.j1T (R : Value → Heap → Prop) (A0 : Option Addr) (n0 : Nat) (c0 : Nat) (x1 : Int) (x2 : Int) (v3 : Value) (x9 : Int) (x10 : Int) (h : Heap) : Prop :=
  splitB (x9 == x2) (R (Value.bool true) h) (splitB (decide ((IntKind.wrap .i64 (x2 - x1)) < (50 : Int))) (R (Value.bool false) h) (ptrOk A0 fun a1_ => 0 ≤ (IntKind.wrap .i64 (x9 - (1 : Int))) ∧ (IntKind.wrap .i64 (x9 - (1 : Int))) < ((n0 : Nat) : Int) ∧ (ptrOk A0 fun a2_ => 0 ≤ x9 ∧ x9 < ((n0 : Nat) : Int) ∧ (∃ v3_, ldv true 3 h (Addr.add a1_ (Int.toNat (IntKind.wrap .i64 (x9 - (1 : Int))) * 3)) = some v3_ ∧ ∃ v4_, ldv true 3 h (Addr.add a2_ (Int.toNat x9 * 3)) = some v4_ ∧ ptrOk A0 fun a5_ => 0 ≤ x9 ∧ x9 < ((n0 : Nat) : Int) ∧ (∃ l7_ : List Value, v3_ = Value.agg l7_.toArray ∧ l7_.length = 3 ∧ ∃ h6_, stH h (Addr.add a5_ (Int.toNat x9 * 3)) l7_ 0 = some h6_ ∧ ptrOk A0 fun a8_ => 0 ≤ (IntKind.wrap .i64 (x9 - (1 : Int))) ∧ (IntKind.wrap .i64 (x9 - (1 : Int))) < ((n0 : Nat) : Int) ∧ (∃ l10_ : List Value, v4_ = Value.agg l10_.toArray ∧ l10_.length = 3 ∧ ∃ h9_, stH h6_ (Addr.add a8_ (Int.toNat (IntKind.wrap .i64 (x9 - (1 : Int))) * 3)) l10_ 0 = some h9_ ∧ splitB (decide ((IntKind.wrap .i64 (x9 - x1)) ≥ (2 : Int))) (f170.l2 R A0 n0 c0 x1 x2 v3 x9 x10 (IntKind.wrap .i64 (x9 - (1 : Int))) h9_) (f170.j3 R A0 n0 c0 x1 x2 v3 x9 x10 h9_)))))))
set_option maxRecDepth 100000 in
theorem f170.j1_in {R : Value → Heap → Prop} {A0 : Option Addr} {n0 : Nat} {c0 : Nat} {x1 : Int} {x2 : Int} {v3 : Value} {x9 : Int} {x10 : Int} {h : Heap} (H : f170.j1T R A0 n0 c0 x1 x2 v3 x9 x10 h) : f170.j1 R A0 n0 c0 x1 x2 v3 x9 x10 h :=
  pt_intro mixed f170.good (Eq.mpr (show (Fwd Try.prog f170.T f170.kp Try.f170 R [true, false, false, true, false, false, true, false, true, true] (mkFr [(0, (Value.slice A0 n0 c0)), (1, (Value.int .i64 x1)), (2, (Value.int .i64 x2)), (3, v3), (9, (Value.int .i64 x9)), (10, (Value.int .i64 x10))]) h) = (f170.j1T R A0 n0 c0 x1 x2 v3 x9 x10 h) by kernel_rfl) H)
set_option maxRecDepth 100000 in
def f170.l2T (R : Value → Heap → Prop) (A0 : Option Addr) (n0 : Nat) (c0 : Nat) (x1 : Int) (x2 : Int) (v3 : Value) (x9 : Int) (x10 : Int) (x11 : Int) (h : Heap) : Prop :=
  splitB (decide (x11 ≥ (1 : Int))) (ptrOk A0 fun a1_ => 0 ≤ x11 ∧ x11 < ((n0 : Nat) : Int) ∧ (ptrOk A0 fun a2_ => 0 ≤ (IntKind.wrap .i64 (x11 - (1 : Int))) ∧ (IntKind.wrap .i64 (x11 - (1 : Int))) < ((n0 : Nat) : Int) ∧ (∃ v3_, ldv true 3 h (Addr.add a1_ (Int.toNat x11 * 3)) = some v3_ ∧ ∃ v4_, ldv true 3 h (Addr.add a2_ (Int.toNat (IntKind.wrap .i64 (x11 - (1 : Int))) * 3)) = some v4_ ∧ CallF Try.prog v3 [v3_, v4_] h fun v5_ h6_ => ∃ x7_, v5_ = (Value.int .i64 x7_) ∧ splitB (!(decide (x7_ < (0 : Int)))) (f170.j3 R A0 n0 c0 x1 x2 v3 x9 x10 h6_) (ptrOk A0 fun a8_ => 0 ≤ (IntKind.wrap .i64 (x11 - (1 : Int))) ∧ (IntKind.wrap .i64 (x11 - (1 : Int))) < ((n0 : Nat) : Int) ∧ (ptrOk A0 fun a9_ => 0 ≤ x11 ∧ x11 < ((n0 : Nat) : Int) ∧ (∃ v10_, ldv true 3 h6_ (Addr.add a8_ (Int.toNat (IntKind.wrap .i64 (x11 - (1 : Int))) * 3)) = some v10_ ∧ ∃ v11_, ldv true 3 h6_ (Addr.add a9_ (Int.toNat x11 * 3)) = some v11_ ∧ ptrOk A0 fun a12_ => 0 ≤ x11 ∧ x11 < ((n0 : Nat) : Int) ∧ (∃ l14_ : List Value, v10_ = Value.agg l14_.toArray ∧ l14_.length = 3 ∧ ∃ h13_, stH h6_ (Addr.add a12_ (Int.toNat x11 * 3)) l14_ 0 = some h13_ ∧ ptrOk A0 fun a15_ => 0 ≤ (IntKind.wrap .i64 (x11 - (1 : Int))) ∧ (IntKind.wrap .i64 (x11 - (1 : Int))) < ((n0 : Nat) : Int) ∧ (∃ l17_ : List Value, v11_ = Value.agg l17_.toArray ∧ l17_.length = 3 ∧ ∃ h16_, stH h13_ (Addr.add a15_ (Int.toNat (IntKind.wrap .i64 (x11 - (1 : Int))) * 3)) l17_ 0 = some h16_ ∧ f170.l2 R A0 n0 c0 x1 x2 v3 x9 x10 (IntKind.wrap .i64 (x11 - (1 : Int))) h16_)))))))) (f170.j3 R A0 n0 c0 x1 x2 v3 x9 x10 h)
set_option maxRecDepth 100000 in
theorem f170.l2_in {R : Value → Heap → Prop} {A0 : Option Addr} {n0 : Nat} {c0 : Nat} {x1 : Int} {x2 : Int} {v3 : Value} {x9 : Int} {x10 : Int} {x11 : Int} {h : Heap} (H : f170.l2T R A0 n0 c0 x1 x2 v3 x9 x10 x11 h) : f170.l2 R A0 n0 c0 x1 x2 v3 x9 x10 x11 h :=
  pt_intro mixed f170.good (Eq.mpr (show (Fwd Try.prog f170.T f170.kp Try.f170 R [false, false, true, false, true, false, true, true, true, true, false, false, true, false, false, true, false, true, true] (mkFr [(0, (Value.slice A0 n0 c0)), (1, (Value.int .i64 x1)), (2, (Value.int .i64 x2)), (3, v3), (9, (Value.int .i64 x9)), (10, (Value.int .i64 x10)), (11, (Value.int .i64 x11))]) h) = (f170.l2T R A0 n0 c0 x1 x2 v3 x9 x10 x11 h) by kernel_rfl) H)
set_option maxRecDepth 100000 in
def f170.j3T (R : Value → Heap → Prop) (A0 : Option Addr) (n0 : Nat) (c0 : Nat) (x1 : Int) (x2 : Int) (v3 : Value) (x9 : Int) (x10 : Int) (h : Heap) : Prop :=
  splitB (decide ((IntKind.wrap .i64 (x2 - x9)) ≥ (2 : Int))) (f170.l3 R A0 n0 c0 x1 x2 v3 x9 x10 (IntKind.wrap .i64 (x9 + (1 : Int))) h) (f170.j0 R A0 n0 c0 x1 x2 v3 x9 x10 h)
set_option maxRecDepth 100000 in
theorem f170.j3_in {R : Value → Heap → Prop} {A0 : Option Addr} {n0 : Nat} {c0 : Nat} {x1 : Int} {x2 : Int} {v3 : Value} {x9 : Int} {x10 : Int} {h : Heap} (H : f170.j3T R A0 n0 c0 x1 x2 v3 x9 x10 h) : f170.j3 R A0 n0 c0 x1 x2 v3 x9 x10 h :=
  pt_intro mixed f170.good (Eq.mpr (show (Fwd Try.prog f170.T f170.kp Try.f170 R [true, true, true, true, true, false, false, true, false, false, true, false, true, true] (mkFr [(0, (Value.slice A0 n0 c0)), (1, (Value.int .i64 x1)), (2, (Value.int .i64 x2)), (3, v3), (9, (Value.int .i64 x9)), (10, (Value.int .i64 x10))]) h) = (f170.j3T R A0 n0 c0 x1 x2 v3 x9 x10 h) by kernel_rfl) H)
set_option maxRecDepth 100000 in
def f170.l3T (R : Value → Heap → Prop) (A0 : Option Addr) (n0 : Nat) (c0 : Nat) (x1 : Int) (x2 : Int) (v3 : Value) (x9 : Int) (x10 : Int) (x12 : Int) (h : Heap) : Prop :=
  splitB (decide (x12 < x2)) (ptrOk A0 fun a1_ => 0 ≤ x12 ∧ x12 < ((n0 : Nat) : Int) ∧ (ptrOk A0 fun a2_ => 0 ≤ (IntKind.wrap .i64 (x12 - (1 : Int))) ∧ (IntKind.wrap .i64 (x12 - (1 : Int))) < ((n0 : Nat) : Int) ∧ (∃ v3_, ldv true 3 h (Addr.add a1_ (Int.toNat x12 * 3)) = some v3_ ∧ ∃ v4_, ldv true 3 h (Addr.add a2_ (Int.toNat (IntKind.wrap .i64 (x12 - (1 : Int))) * 3)) = some v4_ ∧ CallF Try.prog v3 [v3_, v4_] h fun v5_ h6_ => ∃ x7_, v5_ = (Value.int .i64 x7_) ∧ splitB (!(decide (x7_ < (0 : Int)))) (f170.j0 R A0 n0 c0 x1 x2 v3 x9 x10 h6_) (ptrOk A0 fun a8_ => 0 ≤ (IntKind.wrap .i64 (x12 - (1 : Int))) ∧ (IntKind.wrap .i64 (x12 - (1 : Int))) < ((n0 : Nat) : Int) ∧ (ptrOk A0 fun a9_ => 0 ≤ x12 ∧ x12 < ((n0 : Nat) : Int) ∧ (∃ v10_, ldv true 3 h6_ (Addr.add a8_ (Int.toNat (IntKind.wrap .i64 (x12 - (1 : Int))) * 3)) = some v10_ ∧ ∃ v11_, ldv true 3 h6_ (Addr.add a9_ (Int.toNat x12 * 3)) = some v11_ ∧ ptrOk A0 fun a12_ => 0 ≤ x12 ∧ x12 < ((n0 : Nat) : Int) ∧ (∃ l14_ : List Value, v10_ = Value.agg l14_.toArray ∧ l14_.length = 3 ∧ ∃ h13_, stH h6_ (Addr.add a12_ (Int.toNat x12 * 3)) l14_ 0 = some h13_ ∧ ptrOk A0 fun a15_ => 0 ≤ (IntKind.wrap .i64 (x12 - (1 : Int))) ∧ (IntKind.wrap .i64 (x12 - (1 : Int))) < ((n0 : Nat) : Int) ∧ (∃ l17_ : List Value, v11_ = Value.agg l17_.toArray ∧ l17_.length = 3 ∧ ∃ h16_, stH h13_ (Addr.add a15_ (Int.toNat (IntKind.wrap .i64 (x12 - (1 : Int))) * 3)) l17_ 0 = some h16_ ∧ f170.l3 R A0 n0 c0 x1 x2 v3 x9 x10 (IntKind.wrap .i64 (x12 + (1 : Int))) h16_)))))))) (f170.j0 R A0 n0 c0 x1 x2 v3 x9 x10 h)
set_option maxRecDepth 100000 in
theorem f170.l3_in {R : Value → Heap → Prop} {A0 : Option Addr} {n0 : Nat} {c0 : Nat} {x1 : Int} {x2 : Int} {v3 : Value} {x9 : Int} {x10 : Int} {x12 : Int} {h : Heap} (H : f170.l3T R A0 n0 c0 x1 x2 v3 x9 x10 x12 h) : f170.l3 R A0 n0 c0 x1 x2 v3 x9 x10 x12 h :=
  pt_intro mixed f170.good (Eq.mpr (show (Fwd Try.prog f170.T f170.kp Try.f170 R [false, false, true, false, true, true, true, true, true, true, false, false, true, false, false, true, false, true, true] (mkFr [(0, (Value.slice A0 n0 c0)), (1, (Value.int .i64 x1)), (2, (Value.int .i64 x2)), (3, v3), (9, (Value.int .i64 x9)), (10, (Value.int .i64 x10)), (12, (Value.int .i64 x12))]) h) = (f170.l3T R A0 n0 c0 x1 x2 v3 x9 x10 x12 h) by kernel_rfl) H)
set_option maxRecDepth 100000 in
def f170.j0T (R : Value → Heap → Prop) (A0 : Option Addr) (n0 : Nat) (c0 : Nat) (x1 : Int) (x2 : Int) (v3 : Value) (x9 : Int) (x10 : Int) (h : Heap) : Prop :=
  f170.l0 R A0 n0 c0 x1 x2 v3 x9 (IntKind.wrap .i64 (x10 + (1 : Int))) h
set_option maxRecDepth 100000 in
theorem f170.j0_in {R : Value → Heap → Prop} {A0 : Option Addr} {n0 : Nat} {c0 : Nat} {x1 : Int} {x2 : Int} {v3 : Value} {x9 : Int} {x10 : Int} {h : Heap} (H : f170.j0T R A0 n0 c0 x1 x2 v3 x9 x10 h) : f170.j0 R A0 n0 c0 x1 x2 v3 x9 x10 h :=
  pt_intro mixed f170.good (Eq.mpr (show (Fwd Try.prog f170.T f170.kp Try.f170 R [true, true, false, false, true, false, true, true] (mkFr [(0, (Value.slice A0 n0 c0)), (1, (Value.int .i64 x1)), (2, (Value.int .i64 x2)), (3, v3), (9, (Value.int .i64 x9)), (10, (Value.int .i64 x10))]) h) = (f170.j0T R A0 n0 c0 x1 x2 v3 x9 x10 h) by kernel_rfl) H)
set_option maxRecDepth 100000 in
def f170.runT (R : Value → Heap → Prop) (A0 : Option Addr) (n0 : Nat) (c0 : Nat) (x1 : Int) (x2 : Int) (v3 : Value) (h : Heap) : Prop :=
  f170.l0 R A0 n0 c0 x1 x2 v3 (IntKind.wrap .i64 (x1 + (1 : Int))) (0 : Int) h
set_option maxRecDepth 100000 in
theorem f170.run {R : Value → Heap → Prop} {A0 : Option Addr} {n0 : Nat} {c0 : Nat} {x1 : Int} {x2 : Int} {v3 : Value} {h : Heap} (H : f170.runT R A0 n0 c0 x1 x2 v3 h) : Run Try.prog 170 #[(Value.slice A0 n0 c0), (Value.int .i64 x1), (Value.int .i64 x2), v3] h R :=
  run_of mixed Try.func170 (by kernel_rfl) (by kernel_rfl) f170.good (Eq.mpr (show (Fwd Try.prog f170.T f170.kp Try.f170 R [] (mkFr (argL [(Value.slice A0 n0 c0), (Value.int .i64 x1), (Value.int .i64 x2), v3] 0)) h) = (f170.runT R A0 n0 c0 x1 x2 v3 h) by kernel_rfl) H)
def f171.T : Tab := { sh := tSh, tup := tTup, keep := [], plan := [(1, (.take 0 (.take 1 (.take 2 (.take 3 (.take 4 (.take 5 (.take 6 (.take 8 (.take 9 (.take 10 (.take 7 (.take 11 (.take 12 (.eff false 13 (.take 14 (.eff false 15 .done))))))))))))))))), (3, (.take 0 (.take 1 (.take 2 (.take 3 (.split 3 (.take 4 (.take 5 (.take 6 (.take 7 (.take 9 (.take 10 (.take 11 (.take 8 (.take 12 (.eff false 13 (.take 14 (.take 15 (.take 16 .done))))))))))))))))))), (5, (.take 0 (.take 1 (.take 2 (.take 3 (.split 3 (.take 4 (.take 5 (.take 6 (.take 7 (.take 9 (.take 10 (.take 11 (.take 8 (.take 12 (.eff false 13 (.take 14 (.take 15 .done)))))))))))))))))), (8, (.take 0 (.take 1 (.take 2 (.take 3 (.take 4 (.take 5 (.take 6 (.take 8 (.take 9 (.take 10 (.take 7 (.take 11 (.take 12 (.eff false 13 (.take 14 (.eff false 15 .done)))))))))))))))))] }
def f171.kp : Keep := [([false, false, false, true, true, true], [0, 1, 4, 11, 12]), ([false, false, false, false, false, false, false, true, true, true], [0, 1, 4, 11, 12]), ([true, false, false, false, false, false, false, false, true, true, true], [0, 1, 4, 11, 12]), ([true, false, false, false, false, true, true, true], [0, 1, 4, 11, 12]), ([false, false, false, true, false, false, false, false, true, true, true], [0, 1, 4, 11, 12]), ([true, false, false, false, true, false, false, false, false, true, true, true], [0, 1, 4, 11, 12]), ([true, true, false, false, false, false, true, true, true], [0, 1, 4, 11, 12])]
theorem f171.good : goodCode Try.prog f171.T (rootOf Try.f171) = true := by kernel_rfl
def f171.l0 (R : Value → Heap → Prop) (A0 : Option Addr) (n0 : Nat) (c0 : Nat) (x1 : Int) (v4 : Value) (x11 : Int) (x12 : Int) (h : Heap) : Prop := Pt Try.prog Try.f171 R [false, false, false, true, true, true] (mkFr [(0, (Value.slice A0 n0 c0)), (1, (Value.int .i64 x1)), (4, v4), (11, (Value.int .i64 x11)), (12, (Value.int .i64 x12))]) h
def f171.l1 (R : Value → Heap → Prop) (A0 : Option Addr) (n0 : Nat) (c0 : Nat) (x1 : Int) (v4 : Value) (x11 : Int) (x12 : Int) (h : Heap) : Prop := Pt Try.prog Try.f171 R [false, false, false, false, false, false, false, true, true, true] (mkFr [(0, (Value.slice A0 n0 c0)), (1, (Value.int .i64 x1)), (4, v4), (11, (Value.int .i64 x11)), (12, (Value.int .i64 x12))]) h
def f171.j2 (R : Value → Heap → Prop) (A0 : Option Addr) (n0 : Nat) (c0 : Nat) (x1 : Int) (v4 : Value) (x11 : Int) (x12 : Int) (h : Heap) : Prop := Pt Try.prog Try.f171 R [true, false, false, false, false, false, false, false, true, true, true] (mkFr [(0, (Value.slice A0 n0 c0)), (1, (Value.int .i64 x1)), (4, v4), (11, (Value.int .i64 x11)), (12, (Value.int .i64 x12))]) h
def f171.j0 (R : Value → Heap → Prop) (A0 : Option Addr) (n0 : Nat) (c0 : Nat) (x1 : Int) (v4 : Value) (x11 : Int) (x12 : Int) (h : Heap) : Prop := Pt Try.prog Try.f171 R [true, false, false, false, false, true, true, true] (mkFr [(0, (Value.slice A0 n0 c0)), (1, (Value.int .i64 x1)), (4, v4), (11, (Value.int .i64 x11)), (12, (Value.int .i64 x12))]) h
def f171.l2 (R : Value → Heap → Prop) (A0 : Option Addr) (n0 : Nat) (c0 : Nat) (x1 : Int) (v4 : Value) (x11 : Int) (x12 : Int) (h : Heap) : Prop := Pt Try.prog Try.f171 R [false, false, false, true, false, false, false, false, true, true, true] (mkFr [(0, (Value.slice A0 n0 c0)), (1, (Value.int .i64 x1)), (4, v4), (11, (Value.int .i64 x11)), (12, (Value.int .i64 x12))]) h
def f171.j3 (R : Value → Heap → Prop) (A0 : Option Addr) (n0 : Nat) (c0 : Nat) (x1 : Int) (v4 : Value) (x11 : Int) (x12 : Int) (h : Heap) : Prop := Pt Try.prog Try.f171 R [true, false, false, false, true, false, false, false, false, true, true, true] (mkFr [(0, (Value.slice A0 n0 c0)), (1, (Value.int .i64 x1)), (4, v4), (11, (Value.int .i64 x11)), (12, (Value.int .i64 x12))]) h
def f171.j1 (R : Value → Heap → Prop) (A0 : Option Addr) (n0 : Nat) (c0 : Nat) (x1 : Int) (v4 : Value) (x11 : Int) (x12 : Int) (h : Heap) : Prop := Pt Try.prog Try.f171 R [true, true, false, false, false, false, true, true, true] (mkFr [(0, (Value.slice A0 n0 c0)), (1, (Value.int .i64 x1)), (4, v4), (11, (Value.int .i64 x11)), (12, (Value.int .i64 x12))]) h
set_option maxRecDepth 100000 in
def f171.l0T (R : Value → Heap → Prop) (A0 : Option Addr) (n0 : Nat) (c0 : Nat) (x1 : Int) (v4 : Value) (x11 : Int) (x12 : Int) (h : Heap) : Prop :=
  f171.l1 R A0 n0 c0 x1 v4 x11 x12 h
set_option maxRecDepth 100000 in
theorem f171.l0_in {R : Value → Heap → Prop} {A0 : Option Addr} {n0 : Nat} {c0 : Nat} {x1 : Int} {v4 : Value} {x11 : Int} {x12 : Int} {h : Heap} (H : f171.l0T R A0 n0 c0 x1 v4 x11 x12 h) : f171.l0 R A0 n0 c0 x1 v4 x11 x12 h :=
  pt_intro mixed f171.good (Eq.mpr (show (Fwd Try.prog f171.T f171.kp Try.f171 R [false, false, false, true, true, true] (mkFr [(0, (Value.slice A0 n0 c0)), (1, (Value.int .i64 x1)), (4, v4), (11, (Value.int .i64 x11)), (12, (Value.int .i64 x12))]) h) = (f171.l0T R A0 n0 c0 x1 v4 x11 x12 h) by kernel_rfl) H)
set_option maxRecDepth 100000 in
def f171.l1T (R : Value → Heap → Prop) (A0 : Option Addr) (n0 : Nat) (c0 : Nat) (x1 : Int) (v4 : Value) (x11 : Int) (x12 : Int) (h : Heap) : Prop :=
  splitB (decide (x11 ≤ x12)) (ptrOk A0 fun a1_ => 0 ≤ x1 ∧ x1 < ((n0 : Nat) : Int) ∧ (ptrOk A0 fun a2_ => 0 ≤ x11 ∧ x11 < ((n0 : Nat) : Int) ∧ (∃ v3_, ldv true 3 h (Addr.add a1_ (Int.toNat x1 * 3)) = some v3_ ∧ ∃ v4_, ldv true 3 h (Addr.add a2_ (Int.toNat x11 * 3)) = some v4_ ∧ CallF Try.prog v4 [v3_, v4_] h fun v5_ h6_ => ∃ x7_, v5_ = (Value.int .i64 x7_) ∧ splitB (!(decide (x7_ < (0 : Int)))) (f171.j2 R A0 n0 c0 x1 v4 x11 x12 h6_) (f171.j0 R A0 n0 c0 x1 v4 x11 x12 h6_)))) (f171.j0 R A0 n0 c0 x1 v4 x11 x12 h)
set_option maxRecDepth 100000 in
theorem f171.l1_in {R : Value → Heap → Prop} {A0 : Option Addr} {n0 : Nat} {c0 : Nat} {x1 : Int} {v4 : Value} {x11 : Int} {x12 : Int} {h : Heap} (H : f171.l1T R A0 n0 c0 x1 v4 x11 x12 h) : f171.l1 R A0 n0 c0 x1 v4 x11 x12 h :=
  pt_intro mixed f171.good (Eq.mpr (show (Fwd Try.prog f171.T f171.kp Try.f171 R [false, false, false, false, false, false, false, true, true, true] (mkFr [(0, (Value.slice A0 n0 c0)), (1, (Value.int .i64 x1)), (4, v4), (11, (Value.int .i64 x11)), (12, (Value.int .i64 x12))]) h) = (f171.l1T R A0 n0 c0 x1 v4 x11 x12 h) by kernel_rfl) H)
set_option maxRecDepth 100000 in
def f171.j2T (R : Value → Heap → Prop) (A0 : Option Addr) (n0 : Nat) (c0 : Nat) (x1 : Int) (v4 : Value) (x11 : Int) (x12 : Int) (h : Heap) : Prop :=
  f171.l1 R A0 n0 c0 x1 v4 (IntKind.wrap .i64 (x11 + (1 : Int))) x12 h
set_option maxRecDepth 100000 in
theorem f171.j2_in {R : Value → Heap → Prop} {A0 : Option Addr} {n0 : Nat} {c0 : Nat} {x1 : Int} {v4 : Value} {x11 : Int} {x12 : Int} {h : Heap} (H : f171.j2T R A0 n0 c0 x1 v4 x11 x12 h) : f171.j2 R A0 n0 c0 x1 v4 x11 x12 h :=
  pt_intro mixed f171.good (Eq.mpr (show (Fwd Try.prog f171.T f171.kp Try.f171 R [true, false, false, false, false, false, false, false, true, true, true] (mkFr [(0, (Value.slice A0 n0 c0)), (1, (Value.int .i64 x1)), (4, v4), (11, (Value.int .i64 x11)), (12, (Value.int .i64 x12))]) h) = (f171.j2T R A0 n0 c0 x1 v4 x11 x12 h) by kernel_rfl) H)
set_option maxRecDepth 100000 in
def f171.j0T (R : Value → Heap → Prop) (A0 : Option Addr) (n0 : Nat) (c0 : Nat) (x1 : Int) (v4 : Value) (x11 : Int) (x12 : Int) (h : Heap) : Prop :=
  f171.l2 R A0 n0 c0 x1 v4 x11 x12 h
set_option maxRecDepth 100000 in
theorem f171.j0_in {R : Value → Heap → Prop} {A0 : Option Addr} {n0 : Nat} {c0 : Nat} {x1 : Int} {v4 : Value} {x11 : Int} {x12 : Int} {h : Heap} (H : f171.j0T R A0 n0 c0 x1 v4 x11 x12 h) : f171.j0 R A0 n0 c0 x1 v4 x11 x12 h :=
  pt_intro mixed f171.good (Eq.mpr (show (Fwd Try.prog f171.T f171.kp Try.f171 R [true, false, false, false, false, true, true, true] (mkFr [(0, (Value.slice A0 n0 c0)), (1, (Value.int .i64 x1)), (4, v4), (11, (Value.int .i64 x11)), (12, (Value.int .i64 x12))]) h) = (f171.j0T R A0 n0 c0 x1 v4 x11 x12 h) by kernel_rfl) H)
set_option maxRecDepth 100000 in
def f171.l2T (R : Value → Heap → Prop) (A0 : Option Addr) (n0 : Nat) (c0 : Nat) (x1 : Int) (v4 : Value) (x11 : Int) (x12 : Int) (h : Heap) : Prop :=
  splitB (decide (x11 ≤ x12)) (ptrOk A0 fun a1_ => 0 ≤ x1 ∧ x1 < ((n0 : Nat) : Int) ∧ (ptrOk A0 fun a2_ => 0 ≤ x12 ∧ x12 < ((n0 : Nat) : Int) ∧ (∃ v3_, ldv true 3 h (Addr.add a1_ (Int.toNat x1 * 3)) = some v3_ ∧ ∃ v4_, ldv true 3 h (Addr.add a2_ (Int.toNat x12 * 3)) = some v4_ ∧ CallF Try.prog v4 [v3_, v4_] h fun v5_ h6_ => ∃ x7_, v5_ = (Value.int .i64 x7_) ∧ splitB (decide (x7_ < (0 : Int))) (f171.j3 R A0 n0 c0 x1 v4 x11 x12 h6_) (f171.j1 R A0 n0 c0 x1 v4 x11 x12 h6_)))) (f171.j1 R A0 n0 c0 x1 v4 x11 x12 h)
set_option maxRecDepth 100000 in
theorem f171.l2_in {R : Value → Heap → Prop} {A0 : Option Addr} {n0 : Nat} {c0 : Nat} {x1 : Int} {v4 : Value} {x11 : Int} {x12 : Int} {h : Heap} (H : f171.l2T R A0 n0 c0 x1 v4 x11 x12 h) : f171.l2 R A0 n0 c0 x1 v4 x11 x12 h :=
  pt_intro mixed f171.good (Eq.mpr (show (Fwd Try.prog f171.T f171.kp Try.f171 R [false, false, false, true, false, false, false, false, true, true, true] (mkFr [(0, (Value.slice A0 n0 c0)), (1, (Value.int .i64 x1)), (4, v4), (11, (Value.int .i64 x11)), (12, (Value.int .i64 x12))]) h) = (f171.l2T R A0 n0 c0 x1 v4 x11 x12 h) by kernel_rfl) H)
set_option maxRecDepth 100000 in
def f171.j3T (R : Value → Heap → Prop) (A0 : Option Addr) (n0 : Nat) (c0 : Nat) (x1 : Int) (v4 : Value) (x11 : Int) (x12 : Int) (h : Heap) : Prop :=
  f171.l2 R A0 n0 c0 x1 v4 x11 (IntKind.wrap .i64 (x12 - (1 : Int))) h
set_option maxRecDepth 100000 in
theorem f171.j3_in {R : Value → Heap → Prop} {A0 : Option Addr} {n0 : Nat} {c0 : Nat} {x1 : Int} {v4 : Value} {x11 : Int} {x12 : Int} {h : Heap} (H : f171.j3T R A0 n0 c0 x1 v4 x11 x12 h) : f171.j3 R A0 n0 c0 x1 v4 x11 x12 h :=
  pt_intro mixed f171.good (Eq.mpr (show (Fwd Try.prog f171.T f171.kp Try.f171 R [true, false, false, false, true, false, false, false, false, true, true, true] (mkFr [(0, (Value.slice A0 n0 c0)), (1, (Value.int .i64 x1)), (4, v4), (11, (Value.int .i64 x11)), (12, (Value.int .i64 x12))]) h) = (f171.j3T R A0 n0 c0 x1 v4 x11 x12 h) by kernel_rfl) H)
set_option maxRecDepth 100000 in
def f171.j1T (R : Value → Heap → Prop) (A0 : Option Addr) (n0 : Nat) (c0 : Nat) (x1 : Int) (v4 : Value) (x11 : Int) (x12 : Int) (h : Heap) : Prop :=
  splitB (decide (x11 > x12)) (R (Value.int .i64 x11) h) (ptrOk A0 fun a1_ => 0 ≤ x12 ∧ x12 < ((n0 : Nat) : Int) ∧ (ptrOk A0 fun a2_ => 0 ≤ x11 ∧ x11 < ((n0 : Nat) : Int) ∧ (∃ v3_, ldv true 3 h (Addr.add a1_ (Int.toNat x12 * 3)) = some v3_ ∧ ∃ v4_, ldv true 3 h (Addr.add a2_ (Int.toNat x11 * 3)) = some v4_ ∧ ptrOk A0 fun a5_ => 0 ≤ x11 ∧ x11 < ((n0 : Nat) : Int) ∧ (∃ l7_ : List Value, v3_ = Value.agg l7_.toArray ∧ l7_.length = 3 ∧ ∃ h6_, stH h (Addr.add a5_ (Int.toNat x11 * 3)) l7_ 0 = some h6_ ∧ ptrOk A0 fun a8_ => 0 ≤ x12 ∧ x12 < ((n0 : Nat) : Int) ∧ (∃ l10_ : List Value, v4_ = Value.agg l10_.toArray ∧ l10_.length = 3 ∧ ∃ h9_, stH h6_ (Addr.add a8_ (Int.toNat x12 * 3)) l10_ 0 = some h9_ ∧ f171.l0 R A0 n0 c0 x1 v4 (IntKind.wrap .i64 (x11 + (1 : Int))) (IntKind.wrap .i64 (x12 - (1 : Int))) h9_)))))
set_option maxRecDepth 100000 in
theorem f171.j1_in {R : Value → Heap → Prop} {A0 : Option Addr} {n0 : Nat} {c0 : Nat} {x1 : Int} {v4 : Value} {x11 : Int} {x12 : Int} {h : Heap} (H : f171.j1T R A0 n0 c0 x1 v4 x11 x12 h) : f171.j1 R A0 n0 c0 x1 v4 x11 x12 h :=
  pt_intro mixed f171.good (Eq.mpr (show (Fwd Try.prog f171.T f171.kp Try.f171 R [true, true, false, false, false, false, true, true, true] (mkFr [(0, (Value.slice A0 n0 c0)), (1, (Value.int .i64 x1)), (4, v4), (11, (Value.int .i64 x11)), (12, (Value.int .i64 x12))]) h) = (f171.j1T R A0 n0 c0 x1 v4 x11 x12 h) by kernel_rfl) H)
set_option maxRecDepth 100000 in
def f171.runT (R : Value → Heap → Prop) (A0 : Option Addr) (n0 : Nat) (c0 : Nat) (x1 : Int) (x2 : Int) (x3 : Int) (v4 : Value) (h : Heap) : Prop :=
  ptrOk A0 fun a1_ => 0 ≤ x3 ∧ x3 < ((n0 : Nat) : Int) ∧ (ptrOk A0 fun a2_ => 0 ≤ x1 ∧ x1 < ((n0 : Nat) : Int) ∧ (∃ v3_, ldv true 3 h (Addr.add a1_ (Int.toNat x3 * 3)) = some v3_ ∧ ∃ v4_, ldv true 3 h (Addr.add a2_ (Int.toNat x1 * 3)) = some v4_ ∧ ptrOk A0 fun a5_ => 0 ≤ x1 ∧ x1 < ((n0 : Nat) : Int) ∧ (∃ l7_ : List Value, v3_ = Value.agg l7_.toArray ∧ l7_.length = 3 ∧ ∃ h6_, stH h (Addr.add a5_ (Int.toNat x1 * 3)) l7_ 0 = some h6_ ∧ ptrOk A0 fun a8_ => 0 ≤ x3 ∧ x3 < ((n0 : Nat) : Int) ∧ (∃ l10_ : List Value, v4_ = Value.agg l10_.toArray ∧ l10_.length = 3 ∧ ∃ h9_, stH h6_ (Addr.add a8_ (Int.toNat x3 * 3)) l10_ 0 = some h9_ ∧ f171.l0 R A0 n0 c0 x1 v4 (IntKind.wrap .i64 (x1 + (1 : Int))) (IntKind.wrap .i64 (x2 - (1 : Int))) h9_))))
set_option maxRecDepth 100000 in
theorem f171.run {R : Value → Heap → Prop} {A0 : Option Addr} {n0 : Nat} {c0 : Nat} {x1 : Int} {x2 : Int} {x3 : Int} {v4 : Value} {h : Heap} (H : f171.runT R A0 n0 c0 x1 x2 x3 v4 h) : Run Try.prog 171 #[(Value.slice A0 n0 c0), (Value.int .i64 x1), (Value.int .i64 x2), (Value.int .i64 x3), v4] h R :=
  run_of mixed Try.func171 (by kernel_rfl) (by kernel_rfl) f171.good (Eq.mpr (show (Fwd Try.prog f171.T f171.kp Try.f171 R [] (mkFr (argL [(Value.slice A0 n0 c0), (Value.int .i64 x1), (Value.int .i64 x2), (Value.int .i64 x3), v4] 0)) h) = (f171.runT R A0 n0 c0 x1 x2 x3 v4 h) by kernel_rfl) H)
def f172.T : Tab := { sh := tSh, tup := tTup, keep := [], plan := [(1, (.take 0 (.take 1 (.take 2 (.take 3 (.take 4 (.take 5 (.take 6 (.take 8 (.take 9 (.take 10 (.take 7 (.take 11 (.take 12 (.eff false 13 (.take 14 (.eff false 15 .done))))))))))))))))), (3, (.take 0 (.take 1 (.take 2 (.take 3 (.split 3 (.take 4 (.take 5 (.take 6 (.take 7 (.take 9 (.take 10 (.take 11 (.take 8 (.take 12 (.eff false 13 (.take 14 (.take 15 .done)))))))))))))))))), (5, (.take 0 (.take 1 (.take 2 (.take 3 (.split 3 (.take 4 (.take 5 (.take 6 (.take 7 (.take 9 (.take 10 (.take 11 (.take 8 (.take 12 (.eff false 13 (.take 14 (.take 15 (.take 16 .done))))))))))))))))))), (8, (.take 0 (.take 1 (.take 2 (.take 3 (.take 4 (.take 5 (.take 6 (.take 8 (.take 9 (.take 10 (.take 7 (.take 11 (.take 12 (.eff false 13 (.take 14 (.eff false 15 .done))))))))))))))))), (10, (.take 0 (.take 1 (.take 2 (.take 3 (.take 4 (.take 5 (.take 6 (.take 8 (.take 9 (.take 10 (.take 7 (.take 11 (.take 12 (.eff false 13 (.take 14 (.eff false 15 .done))))))))))))))))), (13, (.take 0 (.take 1 (.take 2 (.take 3 (.split 3 (.take 4 (.take 5 (.take 6 (.take 7 (.take 9 (.take 10 (.take 11 (.take 8 (.take 12 (.eff false 13 (.take 14 (.take 15 .done)))))))))))))))))), (15, (.take 0 (.take 1 (.take 2 (.take 3 (.split 3 (.take 4 (.take 5 (.take 6 (.take 7 (.take 9 (.take 10 (.take 11 (.take 8 (.take 12 (.eff false 13 (.take 14 (.take 15 (.take 16 .done))))))))))))))))))), (18, (.take 0 (.take 1 (.take 2 (.take 3 (.take 4 (.take 5 (.take 6 (.take 8 (.take 9 (.take 10 (.take 7 (.take 11 (.take 12 (.eff false 13 (.take 14 (.eff false 15 .done))))))))))))))))), (21, (.take 0 (.take 1 (.take 2 (.take 3 (.take 4 (.take 5 (.take 6 (.take 8 (.take 9 (.take 10 (.take 7 (.take 11 (.take 12 (.eff false 13 (.take 14 (.eff false 15 .done)))))))))))))))))] }
def f172.kp : Keep := [([false, false, false, true, true, true], [0, 1, 4, 12, 13]), ([true, false, false, false, true, true, true], [0, 1, 4, 12, 13]), ([true, true, true, true], [0, 1, 4, 12, 13]), ([false, false, false, true, true, true, true], [0, 1, 4, 12, 13]), ([true, false, false, false, true, true, true, true], [0, 1, 4, 12, 13]), ([true, true, true, true, true], [0, 1, 4, 12, 13]), ([false, false, false, true, true, true, true, true, true, true, true, true], [0, 1, 4, 12, 13]), ([false, false, false, false, false, false, false, true, true, true, true, true, true, true, true, true], [0, 1, 4, 12, 13]), ([true, false, false, false, false, false, false, false, true, true, true, true, true, true, true, true, true], [0, 1, 4, 12, 13]), ([true, false, false, false, false, true, true, true, true, true, true, true, true, true], [0, 1, 4, 12, 13]), ([false, false, false, true, false, false, false, false, true, true, true, true, true, true, true, true, true], [0, 1, 4, 12, 13]), ([true, false, false, false, true, false, false, false, false, true, true, true, true, true, true, true, true, true], [0, 1, 4, 12, 13]), ([true, true, false, false, false, false, true, true, true, true, true, true, true, true, true], [0, 1, 4, 12, 13]), ([true, true, true, true, true, true, true, true, true, true], [0, 1, 13])]
theorem f172.good : goodCode Try.prog f172.T (rootOf Try.f172) = true := by kernel_rfl
def f172.l0 (R : Value → Heap → Prop) (A0 : Option Addr) (n0 : Nat) (c0 : Nat) (x1 : Int) (v4 : Value) (x12 : Int) (x13 : Int) (h : Heap) : Prop := Pt Try.prog Try.f172 R [false, false, false, true, true, true] (mkFr [(0, (Value.slice A0 n0 c0)), (1, (Value.int .i64 x1)), (4, v4), (12, (Value.int .i64 x12)), (13, (Value.int .i64 x13))]) h
def f172.j2 (R : Value → Heap → Prop) (A0 : Option Addr) (n0 : Nat) (c0 : Nat) (x1 : Int) (v4 : Value) (x12 : Int) (x13 : Int) (h : Heap) : Prop := Pt Try.prog Try.f172 R [true, false, false, false, true, true, true] (mkFr [(0, (Value.slice A0 n0 c0)), (1, (Value.int .i64 x1)), (4, v4), (12, (Value.int .i64 x12)), (13, (Value.int .i64 x13))]) h
def f172.j0 (R : Value → Heap → Prop) (A0 : Option Addr) (n0 : Nat) (c0 : Nat) (x1 : Int) (v4 : Value) (x12 : Int) (x13 : Int) (h : Heap) : Prop := Pt Try.prog Try.f172 R [true, true, true, true] (mkFr [(0, (Value.slice A0 n0 c0)), (1, (Value.int .i64 x1)), (4, v4), (12, (Value.int .i64 x12)), (13, (Value.int .i64 x13))]) h
def f172.l1 (R : Value → Heap → Prop) (A0 : Option Addr) (n0 : Nat) (c0 : Nat) (x1 : Int) (v4 : Value) (x12 : Int) (x13 : Int) (h : Heap) : Prop := Pt Try.prog Try.f172 R [false, false, false, true, true, true, true] (mkFr [(0, (Value.slice A0 n0 c0)), (1, (Value.int .i64 x1)), (4, v4), (12, (Value.int .i64 x12)), (13, (Value.int .i64 x13))]) h
def f172.j3 (R : Value → Heap → Prop) (A0 : Option Addr) (n0 : Nat) (c0 : Nat) (x1 : Int) (v4 : Value) (x12 : Int) (x13 : Int) (h : Heap) : Prop := Pt Try.prog Try.f172 R [true, false, false, false, true, true, true, true] (mkFr [(0, (Value.slice A0 n0 c0)), (1, (Value.int .i64 x1)), (4, v4), (12, (Value.int .i64 x12)), (13, (Value.int .i64 x13))]) h
def f172.j1 (R : Value → Heap → Prop) (A0 : Option Addr) (n0 : Nat) (c0 : Nat) (x1 : Int) (v4 : Value) (x12 : Int) (x13 : Int) (h : Heap) : Prop := Pt Try.prog Try.f172 R [true, true, true, true, true] (mkFr [(0, (Value.slice A0 n0 c0)), (1, (Value.int .i64 x1)), (4, v4), (12, (Value.int .i64 x12)), (13, (Value.int .i64 x13))]) h
def f172.l2 (R : Value → Heap → Prop) (A0 : Option Addr) (n0 : Nat) (c0 : Nat) (x1 : Int) (v4 : Value) (x12 : Int) (x13 : Int) (h : Heap) : Prop := Pt Try.prog Try.f172 R [false, false, false, true, true, true, true, true, true, true, true, true] (mkFr [(0, (Value.slice A0 n0 c0)), (1, (Value.int .i64 x1)), (4, v4), (12, (Value.int .i64 x12)), (13, (Value.int .i64 x13))]) h
def f172.l3 (R : Value → Heap → Prop) (A0 : Option Addr) (n0 : Nat) (c0 : Nat) (x1 : Int) (v4 : Value) (x12 : Int) (x13 : Int) (h : Heap) : Prop := Pt Try.prog Try.f172 R [false, false, false, false, false, false, false, true, true, true, true, true, true, true, true, true] (mkFr [(0, (Value.slice A0 n0 c0)), (1, (Value.int .i64 x1)), (4, v4), (12, (Value.int .i64 x12)), (13, (Value.int .i64 x13))]) h
def f172.j7 (R : Value → Heap → Prop) (A0 : Option Addr) (n0 : Nat) (c0 : Nat) (x1 : Int) (v4 : Value) (x12 : Int) (x13 : Int) (h : Heap) : Prop := Pt Try.prog Try.f172 R [true, false, false, false, false, false, false, false, true, true, true, true, true, true, true, true, true] (mkFr [(0, (Value.slice A0 n0 c0)), (1, (Value.int .i64 x1)), (4, v4), (12, (Value.int .i64 x12)), (13, (Value.int .i64 x13))]) h
def f172.j5 (R : Value → Heap → Prop) (A0 : Option Addr) (n0 : Nat) (c0 : Nat) (x1 : Int) (v4 : Value) (x12 : Int) (x13 : Int) (h : Heap) : Prop := Pt Try.prog Try.f172 R [true, false, false, false, false, true, true, true, true, true, true, true, true, true] (mkFr [(0, (Value.slice A0 n0 c0)), (1, (Value.int .i64 x1)), (4, v4), (12, (Value.int .i64 x12)), (13, (Value.int .i64 x13))]) h
def f172.l4 (R : Value → Heap → Prop) (A0 : Option Addr) (n0 : Nat) (c0 : Nat) (x1 : Int) (v4 : Value) (x12 : Int) (x13 : Int) (h : Heap) : Prop := Pt Try.prog Try.f172 R [false, false, false, true, false, false, false, false, true, true, true, true, true, true, true, true, true] (mkFr [(0, (Value.slice A0 n0 c0)), (1, (Value.int .i64 x1)), (4, v4), (12, (Value.int .i64 x12)), (13, (Value.int .i64 x13))]) h
def f172.j8 (R : Value → Heap → Prop) (A0 : Option Addr) (n0 : Nat) (c0 : Nat) (x1 : Int) (v4 : Value) (x12 : Int) (x13 : Int) (h : Heap) : Prop := Pt Try.prog Try.f172 R [true, false, false, false, true, false, false, false, false, true, true, true, true, true, true, true, true, true] (mkFr [(0, (Value.slice A0 n0 c0)), (1, (Value.int .i64 x1)), (4, v4), (12, (Value.int .i64 x12)), (13, (Value.int .i64 x13))]) h
def f172.j6 (R : Value → Heap → Prop) (A0 : Option Addr) (n0 : Nat) (c0 : Nat) (x1 : Int) (v4 : Value) (x12 : Int) (x13 : Int) (h : Heap) : Prop := Pt Try.prog Try.f172 R [true, true, false, false, false, false, true, true, true, true, true, true, true, true, true] (mkFr [(0, (Value.slice A0 n0 c0)), (1, (Value.int .i64 x1)), (4, v4), (12, (Value.int .i64 x12)), (13, (Value.int .i64 x13))]) h
def f172.j4 (R : Value → Heap → Prop) (A0 : Option Addr) (n0 : Nat) (c0 : Nat) (x1 : Int) (x13 : Int) (h : Heap) : Prop := Pt Try.prog Try.f172 R [true, true, true, true, true, true, true, true, true, true] (mkFr [(0, (Value.slice A0 n0 c0)), (1, (Value.int .i64 x1)), (13, (Value.int .i64 x13))]) h
set_option maxRecDepth 100000 in
def f172.l0T (R : Value → Heap → Prop) (A0 : Option Addr) (n0 : Nat) (c0 : Nat) (x1 : Int) (v4 : Value) (x12 : Int) (x13 : Int) (h : Heap) : Prop :=
  splitB (decide (x12 ≤ x13)) (ptrOk A0 fun a1_ => 0 ≤ x12 ∧ x12 < ((n0 : Nat) : Int) ∧ (ptrOk A0 fun a2_ => 0 ≤ x1 ∧ x1 < ((n0 : Nat) : Int) ∧ (∃ v3_, ldv true 3 h (Addr.add a1_ (Int.toNat x12 * 3)) = some v3_ ∧ ∃ v4_, ldv true 3 h (Addr.add a2_ (Int.toNat x1 * 3)) = some v4_ ∧ CallF Try.prog v4 [v3_, v4_] h fun v5_ h6_ => ∃ x7_, v5_ = (Value.int .i64 x7_) ∧ splitB (decide (x7_ < (0 : Int))) (f172.j2 R A0 n0 c0 x1 v4 x12 x13 h6_) (f172.j0 R A0 n0 c0 x1 v4 x12 x13 h6_)))) (f172.j0 R A0 n0 c0 x1 v4 x12 x13 h)
set_option maxRecDepth 100000 in
theorem f172.l0_in {R : Value → Heap → Prop} {A0 : Option Addr} {n0 : Nat} {c0 : Nat} {x1 : Int} {v4 : Value} {x12 : Int} {x13 : Int} {h : Heap} (H : f172.l0T R A0 n0 c0 x1 v4 x12 x13 h) : f172.l0 R A0 n0 c0 x1 v4 x12 x13 h :=
  pt_intro mixed f172.good (Eq.mpr (show (Fwd Try.prog f172.T f172.kp Try.f172 R [false, false, false, true, true, true] (mkFr [(0, (Value.slice A0 n0 c0)), (1, (Value.int .i64 x1)), (4, v4), (12, (Value.int .i64 x12)), (13, (Value.int .i64 x13))]) h) = (f172.l0T R A0 n0 c0 x1 v4 x12 x13 h) by kernel_rfl) H)
set_option maxRecDepth 100000 in
def f172.j2T (R : Value → Heap → Prop) (A0 : Option Addr) (n0 : Nat) (c0 : Nat) (x1 : Int) (v4 : Value) (x12 : Int) (x13 : Int) (h : Heap) : Prop :=
  f172.l0 R A0 n0 c0 x1 v4 (IntKind.wrap .i64 (x12 + (1 : Int))) x13 h
set_option maxRecDepth 100000 in
theorem f172.j2_in {R : Value → Heap → Prop} {A0 : Option Addr} {n0 : Nat} {c0 : Nat} {x1 : Int} {v4 : Value} {x12 : Int} {x13 : Int} {h : Heap} (H : f172.j2T R A0 n0 c0 x1 v4 x12 x13 h) : f172.j2 R A0 n0 c0 x1 v4 x12 x13 h :=
  pt_intro mixed f172.good (Eq.mpr (show (Fwd Try.prog f172.T f172.kp Try.f172 R [true, false, false, false, true, true, true] (mkFr [(0, (Value.slice A0 n0 c0)), (1, (Value.int .i64 x1)), (4, v4), (12, (Value.int .i64 x12)), (13, (Value.int .i64 x13))]) h) = (f172.j2T R A0 n0 c0 x1 v4 x12 x13 h) by kernel_rfl) H)
set_option maxRecDepth 100000 in
def f172.j0T (R : Value → Heap → Prop) (A0 : Option Addr) (n0 : Nat) (c0 : Nat) (x1 : Int) (v4 : Value) (x12 : Int) (x13 : Int) (h : Heap) : Prop :=
  f172.l1 R A0 n0 c0 x1 v4 x12 x13 h
set_option maxRecDepth 100000 in
theorem f172.j0_in {R : Value → Heap → Prop} {A0 : Option Addr} {n0 : Nat} {c0 : Nat} {x1 : Int} {v4 : Value} {x12 : Int} {x13 : Int} {h : Heap} (H : f172.j0T R A0 n0 c0 x1 v4 x12 x13 h) : f172.j0 R A0 n0 c0 x1 v4 x12 x13 h :=
  pt_intro mixed f172.good (Eq.mpr (show (Fwd Try.prog f172.T f172.kp Try.f172 R [true, true, true, true] (mkFr [(0, (Value.slice A0 n0 c0)), (1, (Value.int .i64 x1)), (4, v4), (12, (Value.int .i64 x12)), (13, (Value.int .i64 x13))]) h) = (f172.j0T R A0 n0 c0 x1 v4 x12 x13 h) by kernel_rfl) H)
set_option maxRecDepth 100000 in
def f172.l1T (R : Value → Heap → Prop) (A0 : Option Addr) (n0 : Nat) (c0 : Nat) (x1 : Int) (v4 : Value) (x12 : Int) (x13 : Int) (h : Heap) : Prop :=
  splitB (decide (x12 ≤ x13)) (ptrOk A0 fun a1_ => 0 ≤ x13 ∧ x13 < ((n0 : Nat) : Int) ∧ (ptrOk A0 fun a2_ => 0 ≤ x1 ∧ x1 < ((n0 : Nat) : Int) ∧ (∃ v3_, ldv true 3 h (Addr.add a1_ (Int.toNat x13 * 3)) = some v3_ ∧ ∃ v4_, ldv true 3 h (Addr.add a2_ (Int.toNat x1 * 3)) = some v4_ ∧ CallF Try.prog v4 [v3_, v4_] h fun v5_ h6_ => ∃ x7_, v5_ = (Value.int .i64 x7_) ∧ splitB (!(decide (x7_ < (0 : Int)))) (f172.j3 R A0 n0 c0 x1 v4 x12 x13 h6_) (f172.j1 R A0 n0 c0 x1 v4 x12 x13 h6_)))) (f172.j1 R A0 n0 c0 x1 v4 x12 x13 h)
set_option maxRecDepth 100000 in
theorem f172.l1_in {R : Value → Heap → Prop} {A0 : Option Addr} {n0 : Nat} {c0 : Nat} {x1 : Int} {v4 : Value} {x12 : Int} {x13 : Int} {h : Heap} (H : f172.l1T R A0 n0 c0 x1 v4 x12 x13 h) : f172.l1 R A0 n0 c0 x1 v4 x12 x13 h :=
  pt_intro mixed f172.good (Eq.mpr (show (Fwd Try.prog f172.T f172.kp Try.f172 R [false, false, false, true, true, true, true] (mkFr [(0, (Value.slice A0 n0 c0)), (1, (Value.int .i64 x1)), (4, v4), (12, (Value.int .i64 x12)), (13, (Value.int .i64 x13))]) h) = (f172.l1T R A0 n0 c0 x1 v4 x12 x13 h) by kernel_rfl) H)
set_option maxRecDepth 100000 in
def f172.j3T (R : Value → Heap → Prop) (A0 : Option Addr) (n0 : Nat) (c0 : Nat) (x1 : Int) (v4 : Value) (x12 : Int) (x13 : Int) (h : Heap) : Prop :=
  f172.l1 R A0 n0 c0 x1 v4 x12 (IntKind.wrap .i64 (x13 - (1 : Int))) h
set_option maxRecDepth 100000 in
theorem f172.j3_in {R : Value → Heap → Prop} {A0 : Option Addr} {n0 : Nat} {c0 : Nat} {x1 : Int} {v4 : Value} {x12 : Int} {x13 : Int} {h : Heap} (H : f172.j3T R A0 n0 c0 x1 v4 x12 x13 h) : f172.j3 R A0 n0 c0 x1 v4 x12 x13 h :=
  pt_intro mixed f172.good (Eq.mpr (show (Fwd Try.prog f172.T f172.kp Try.f172 R [true, false, false, false, true, true, true, true] (mkFr [(0, (Value.slice A0 n0 c0)), (1, (Value.int .i64 x1)), (4, v4), (12, (Value.int .i64 x12)), (13, (Value.int .i64 x13))]) h) = (f172.j3T R A0 n0 c0 x1 v4 x12 x13 h) by kernel_rfl) H)
set_option maxRecDepth 100000 in
def f172.j1T (R : Value → Heap → Prop) (A0 : Option Addr) (n0 : Nat) (c0 : Nat) (x1 : Int) (v4 : Value) (x12 : Int) (x13 : Int) (h : Heap) : Prop :=
  splitB (decide (x12 > x13)) (ptrOk A0 fun a1_ => 0 ≤ x1 ∧ x1 < ((n0 : Nat) : Int) ∧ (ptrOk A0 fun a2_ => 0 ≤ x13 ∧ x13 < ((n0 : Nat) : Int) ∧ (∃ v3_, ldv true 3 h (Addr.add a1_ (Int.toNat x1 * 3)) = some v3_ ∧ ∃ v4_, ldv true 3 h (Addr.add a2_ (Int.toNat x13 * 3)) = some v4_ ∧ ptrOk A0 fun a5_ => 0 ≤ x13 ∧ x13 < ((n0 : Nat) : Int) ∧ (∃ l7_ : List Value, v3_ = Value.agg l7_.toArray ∧ l7_.length = 3 ∧ ∃ h6_, stH h (Addr.add a5_ (Int.toNat x13 * 3)) l7_ 0 = some h6_ ∧ ptrOk A0 fun a8_ => 0 ≤ x1 ∧ x1 < ((n0 : Nat) : Int) ∧ (∃ l10_ : List Value, v4_ = Value.agg l10_.toArray ∧ l10_.length = 3 ∧ ∃ h9_, stH h6_ (Addr.add a8_ (Int.toNat x1 * 3)) l10_ 0 = some h9_ ∧ R (Value.tuple #[(Value.int .i64 x13), (Value.bool true)]) h9_))))) (ptrOk A0 fun a11_ => 0 ≤ x13 ∧ x13 < ((n0 : Nat) : Int) ∧ (ptrOk A0 fun a12_ => 0 ≤ x12 ∧ x12 < ((n0 : Nat) : Int) ∧ (∃ v13_, ldv true 3 h (Addr.add a11_ (Int.toNat x13 * 3)) = some v13_ ∧ ∃ v14_, ldv true 3 h (Addr.add a12_ (Int.toNat x12 * 3)) = some v14_ ∧ ptrOk A0 fun a15_ => 0 ≤ x12 ∧ x12 < ((n0 : Nat) : Int) ∧ (∃ l17_ : List Value, v13_ = Value.agg l17_.toArray ∧ l17_.length = 3 ∧ ∃ h16_, stH h (Addr.add a15_ (Int.toNat x12 * 3)) l17_ 0 = some h16_ ∧ ptrOk A0 fun a18_ => 0 ≤ x13 ∧ x13 < ((n0 : Nat) : Int) ∧ (∃ l20_ : List Value, v14_ = Value.agg l20_.toArray ∧ l20_.length = 3 ∧ ∃ h19_, stH h16_ (Addr.add a18_ (Int.toNat x13 * 3)) l20_ 0 = some h19_ ∧ f172.l2 R A0 n0 c0 x1 v4 (IntKind.wrap .i64 (x12 + (1 : Int))) (IntKind.wrap .i64 (x13 - (1 : Int))) h19_)))))
set_option maxRecDepth 100000 in
theorem f172.j1_in {R : Value → Heap → Prop} {A0 : Option Addr} {n0 : Nat} {c0 : Nat} {x1 : Int} {v4 : Value} {x12 : Int} {x13 : Int} {h : Heap} (H : f172.j1T R A0 n0 c0 x1 v4 x12 x13 h) : f172.j1 R A0 n0 c0 x1 v4 x12 x13 h :=
  pt_intro mixed f172.good (Eq.mpr (show (Fwd Try.prog f172.T f172.kp Try.f172 R [true, true, true, true, true] (mkFr [(0, (Value.slice A0 n0 c0)), (1, (Value.int .i64 x1)), (4, v4), (12, (Value.int .i64 x12)), (13, (Value.int .i64 x13))]) h) = (f172.j1T R A0 n0 c0 x1 v4 x12 x13 h) by kernel_rfl) H)
set_option maxRecDepth 100000 in
def f172.l2T (R : Value → Heap → Prop) (A0 : Option Addr) (n0 : Nat) (c0 : Nat) (x1 : Int) (v4 : Value) (x12 : Int) (x13 : Int) (h : Heap) : Prop :=
  f172.l3 R A0 n0 c0 x1 v4 x12 x13 h
set_option maxRecDepth 100000 in
theorem f172.l2_in {R : Value → Heap → Prop} {A0 : Option Addr} {n0 : Nat} {c0 : Nat} {x1 : Int} {v4 : Value} {x12 : Int} {x13 : Int} {h : Heap} (H : f172.l2T R A0 n0 c0 x1 v4 x12 x13 h) : f172.l2 R A0 n0 c0 x1 v4 x12 x13 h :=
  pt_intro mixed f172.good (Eq.mpr (show (Fwd Try.prog f172.T f172.kp Try.f172 R [false, false, false, true, true, true, true, true, true, true, true, true] (mkFr [(0, (Value.slice A0 n0 c0)), (1, (Value.int .i64 x1)), (4, v4), (12, (Value.int .i64 x12)), (13, (Value.int .i64 x13))]) h) = (f172.l2T R A0 n0 c0 x1 v4 x12 x13 h) by kernel_rfl) H)
set_option maxRecDepth 100000 in
def f172.l3T (R : Value → Heap → Prop) (A0 : Option Addr) (n0 : Nat) (c0 : Nat) (x1 : Int) (v4 : Value) (x12 : Int) (x13 : Int) (h : Heap) : Prop :=
  splitB (decide (x12 ≤ x13)) (ptrOk A0 fun a1_ => 0 ≤ x12 ∧ x12 < ((n0 : Nat) : Int) ∧ (ptrOk A0 fun a2_ => 0 ≤ x1 ∧ x1 < ((n0 : Nat) : Int) ∧ (∃ v3_, ldv true 3 h (Addr.add a1_ (Int.toNat x12 * 3)) = some v3_ ∧ ∃ v4_, ldv true 3 h (Addr.add a2_ (Int.toNat x1 * 3)) = some v4_ ∧ CallF Try.prog v4 [v3_, v4_] h fun v5_ h6_ => ∃ x7_, v5_ = (Value.int .i64 x7_) ∧ splitB (decide (x7_ < (0 : Int))) (f172.j7 R A0 n0 c0 x1 v4 x12 x13 h6_) (f172.j5 R A0 n0 c0 x1 v4 x12 x13 h6_)))) (f172.j5 R A0 n0 c0 x1 v4 x12 x13 h)
set_option maxRecDepth 100000 in
theorem f172.l3_in {R : Value → Heap → Prop} {A0 : Option Addr} {n0 : Nat} {c0 : Nat} {x1 : Int} {v4 : Value} {x12 : Int} {x13 : Int} {h : Heap} (H : f172.l3T R A0 n0 c0 x1 v4 x12 x13 h) : f172.l3 R A0 n0 c0 x1 v4 x12 x13 h :=
  pt_intro mixed f172.good (Eq.mpr (show (Fwd Try.prog f172.T f172.kp Try.f172 R [false, false, false, false, false, false, false, true, true, true, true, true, true, true, true, true] (mkFr [(0, (Value.slice A0 n0 c0)), (1, (Value.int .i64 x1)), (4, v4), (12, (Value.int .i64 x12)), (13, (Value.int .i64 x13))]) h) = (f172.l3T R A0 n0 c0 x1 v4 x12 x13 h) by kernel_rfl) H)
set_option maxRecDepth 100000 in
def f172.j7T (R : Value → Heap → Prop) (A0 : Option Addr) (n0 : Nat) (c0 : Nat) (x1 : Int) (v4 : Value) (x12 : Int) (x13 : Int) (h : Heap) : Prop :=
  f172.l3 R A0 n0 c0 x1 v4 (IntKind.wrap .i64 (x12 + (1 : Int))) x13 h
set_option maxRecDepth 100000 in
theorem f172.j7_in {R : Value → Heap → Prop} {A0 : Option Addr} {n0 : Nat} {c0 : Nat} {x1 : Int} {v4 : Value} {x12 : Int} {x13 : Int} {h : Heap} (H : f172.j7T R A0 n0 c0 x1 v4 x12 x13 h) : f172.j7 R A0 n0 c0 x1 v4 x12 x13 h :=
  pt_intro mixed f172.good (Eq.mpr (show (Fwd Try.prog f172.T f172.kp Try.f172 R [true, false, false, false, false, false, false, false, true, true, true, true, true, true, true, true, true] (mkFr [(0, (Value.slice A0 n0 c0)), (1, (Value.int .i64 x1)), (4, v4), (12, (Value.int .i64 x12)), (13, (Value.int .i64 x13))]) h) = (f172.j7T R A0 n0 c0 x1 v4 x12 x13 h) by kernel_rfl) H)
set_option maxRecDepth 100000 in
def f172.j5T (R : Value → Heap → Prop) (A0 : Option Addr) (n0 : Nat) (c0 : Nat) (x1 : Int) (v4 : Value) (x12 : Int) (x13 : Int) (h : Heap) : Prop :=
  f172.l4 R A0 n0 c0 x1 v4 x12 x13 h
set_option maxRecDepth 100000 in
theorem f172.j5_in {R : Value → Heap → Prop} {A0 : Option Addr} {n0 : Nat} {c0 : Nat} {x1 : Int} {v4 : Value} {x12 : Int} {x13 : Int} {h : Heap} (H : f172.j5T R A0 n0 c0 x1 v4 x12 x13 h) : f172.j5 R A0 n0 c0 x1 v4 x12 x13 h :=
  pt_intro mixed f172.good (Eq.mpr (show (Fwd Try.prog f172.T f172.kp Try.f172 R [true, false, false, false, false, true, true, true, true, true, true, true, true, true] (mkFr [(0, (Value.slice A0 n0 c0)), (1, (Value.int .i64 x1)), (4, v4), (12, (Value.int .i64 x12)), (13, (Value.int .i64 x13))]) h) = (f172.j5T R A0 n0 c0 x1 v4 x12 x13 h) by kernel_rfl) H)
set_option maxRecDepth 100000 in
def f172.l4T (R : Value → Heap → Prop) (A0 : Option Addr) (n0 : Nat) (c0 : Nat) (x1 : Int) (v4 : Value) (x12 : Int) (x13 : Int) (h : Heap) : Prop :=
  splitB (decide (x12 ≤ x13)) (ptrOk A0 fun a1_ => 0 ≤ x13 ∧ x13 < ((n0 : Nat) : Int) ∧ (ptrOk A0 fun a2_ => 0 ≤ x1 ∧ x1 < ((n0 : Nat) : Int) ∧ (∃ v3_, ldv true 3 h (Addr.add a1_ (Int.toNat x13 * 3)) = some v3_ ∧ ∃ v4_, ldv true 3 h (Addr.add a2_ (Int.toNat x1 * 3)) = some v4_ ∧ CallF Try.prog v4 [v3_, v4_] h fun v5_ h6_ => ∃ x7_, v5_ = (Value.int .i64 x7_) ∧ splitB (!(decide (x7_ < (0 : Int)))) (f172.j8 R A0 n0 c0 x1 v4 x12 x13 h6_) (f172.j6 R A0 n0 c0 x1 v4 x12 x13 h6_)))) (f172.j6 R A0 n0 c0 x1 v4 x12 x13 h)
set_option maxRecDepth 100000 in
theorem f172.l4_in {R : Value → Heap → Prop} {A0 : Option Addr} {n0 : Nat} {c0 : Nat} {x1 : Int} {v4 : Value} {x12 : Int} {x13 : Int} {h : Heap} (H : f172.l4T R A0 n0 c0 x1 v4 x12 x13 h) : f172.l4 R A0 n0 c0 x1 v4 x12 x13 h :=
  pt_intro mixed f172.good (Eq.mpr (show (Fwd Try.prog f172.T f172.kp Try.f172 R [false, false, false, true, false, false, false, false, true, true, true, true, true, true, true, true, true] (mkFr [(0, (Value.slice A0 n0 c0)), (1, (Value.int .i64 x1)), (4, v4), (12, (Value.int .i64 x12)), (13, (Value.int .i64 x13))]) h) = (f172.l4T R A0 n0 c0 x1 v4 x12 x13 h) by kernel_rfl) H)
set_option maxRecDepth 100000 in
def f172.j8T (R : Value → Heap → Prop) (A0 : Option Addr) (n0 : Nat) (c0 : Nat) (x1 : Int) (v4 : Value) (x12 : Int) (x13 : Int) (h : Heap) : Prop :=
  f172.l4 R A0 n0 c0 x1 v4 x12 (IntKind.wrap .i64 (x13 - (1 : Int))) h
set_option maxRecDepth 100000 in
theorem f172.j8_in {R : Value → Heap → Prop} {A0 : Option Addr} {n0 : Nat} {c0 : Nat} {x1 : Int} {v4 : Value} {x12 : Int} {x13 : Int} {h : Heap} (H : f172.j8T R A0 n0 c0 x1 v4 x12 x13 h) : f172.j8 R A0 n0 c0 x1 v4 x12 x13 h :=
  pt_intro mixed f172.good (Eq.mpr (show (Fwd Try.prog f172.T f172.kp Try.f172 R [true, false, false, false, true, false, false, false, false, true, true, true, true, true, true, true, true, true] (mkFr [(0, (Value.slice A0 n0 c0)), (1, (Value.int .i64 x1)), (4, v4), (12, (Value.int .i64 x12)), (13, (Value.int .i64 x13))]) h) = (f172.j8T R A0 n0 c0 x1 v4 x12 x13 h) by kernel_rfl) H)
set_option maxRecDepth 100000 in
def f172.j6T (R : Value → Heap → Prop) (A0 : Option Addr) (n0 : Nat) (c0 : Nat) (x1 : Int) (v4 : Value) (x12 : Int) (x13 : Int) (h : Heap) : Prop :=
  splitB (decide (x12 > x13)) (f172.j4 R A0 n0 c0 x1 x13 h) (ptrOk A0 fun a1_ => 0 ≤ x13 ∧ x13 < ((n0 : Nat) : Int) ∧ (ptrOk A0 fun a2_ => 0 ≤ x12 ∧ x12 < ((n0 : Nat) : Int) ∧ (∃ v3_, ldv true 3 h (Addr.add a1_ (Int.toNat x13 * 3)) = some v3_ ∧ ∃ v4_, ldv true 3 h (Addr.add a2_ (Int.toNat x12 * 3)) = some v4_ ∧ ptrOk A0 fun a5_ => 0 ≤ x12 ∧ x12 < ((n0 : Nat) : Int) ∧ (∃ l7_ : List Value, v3_ = Value.agg l7_.toArray ∧ l7_.length = 3 ∧ ∃ h6_, stH h (Addr.add a5_ (Int.toNat x12 * 3)) l7_ 0 = some h6_ ∧ ptrOk A0 fun a8_ => 0 ≤ x13 ∧ x13 < ((n0 : Nat) : Int) ∧ (∃ l10_ : List Value, v4_ = Value.agg l10_.toArray ∧ l10_.length = 3 ∧ ∃ h9_, stH h6_ (Addr.add a8_ (Int.toNat x13 * 3)) l10_ 0 = some h9_ ∧ f172.l2 R A0 n0 c0 x1 v4 (IntKind.wrap .i64 (x12 + (1 : Int))) (IntKind.wrap .i64 (x13 - (1 : Int))) h9_)))))
set_option maxRecDepth 100000 in
theorem f172.j6_in {R : Value → Heap → Prop} {A0 : Option Addr} {n0 : Nat} {c0 : Nat} {x1 : Int} {v4 : Value} {x12 : Int} {x13 : Int} {h : Heap} (H : f172.j6T R A0 n0 c0 x1 v4 x12 x13 h) : f172.j6 R A0 n0 c0 x1 v4 x12 x13 h :=
  pt_intro mixed f172.good (Eq.mpr (show (Fwd Try.prog f172.T f172.kp Try.f172 R [true, true, false, false, false, false, true, true, true, true, true, true, true, true, true] (mkFr [(0, (Value.slice A0 n0 c0)), (1, (Value.int .i64 x1)), (4, v4), (12, (Value.int .i64 x12)), (13, (Value.int .i64 x13))]) h) = (f172.j6T R A0 n0 c0 x1 v4 x12 x13 h) by kernel_rfl) H)
set_option maxRecDepth 100000 in
def f172.j4T (R : Value → Heap → Prop) (A0 : Option Addr) (n0 : Nat) (c0 : Nat) (x1 : Int) (x13 : Int) (h : Heap) : Prop :=
  ptrOk A0 fun a1_ => 0 ≤ x1 ∧ x1 < ((n0 : Nat) : Int) ∧ (ptrOk A0 fun a2_ => 0 ≤ x13 ∧ x13 < ((n0 : Nat) : Int) ∧ (∃ v3_, ldv true 3 h (Addr.add a1_ (Int.toNat x1 * 3)) = some v3_ ∧ ∃ v4_, ldv true 3 h (Addr.add a2_ (Int.toNat x13 * 3)) = some v4_ ∧ ptrOk A0 fun a5_ => 0 ≤ x13 ∧ x13 < ((n0 : Nat) : Int) ∧ (∃ l7_ : List Value, v3_ = Value.agg l7_.toArray ∧ l7_.length = 3 ∧ ∃ h6_, stH h (Addr.add a5_ (Int.toNat x13 * 3)) l7_ 0 = some h6_ ∧ ptrOk A0 fun a8_ => 0 ≤ x1 ∧ x1 < ((n0 : Nat) : Int) ∧ (∃ l10_ : List Value, v4_ = Value.agg l10_.toArray ∧ l10_.length = 3 ∧ ∃ h9_, stH h6_ (Addr.add a8_ (Int.toNat x1 * 3)) l10_ 0 = some h9_ ∧ R (Value.tuple #[(Value.int .i64 x13), (Value.bool false)]) h9_))))
set_option maxRecDepth 100000 in
theorem f172.j4_in {R : Value → Heap → Prop} {A0 : Option Addr} {n0 : Nat} {c0 : Nat} {x1 : Int} {x13 : Int} {h : Heap} (H : f172.j4T R A0 n0 c0 x1 x13 h) : f172.j4 R A0 n0 c0 x1 x13 h :=
  pt_intro mixed f172.good (Eq.mpr (show (Fwd Try.prog f172.T f172.kp Try.f172 R [true, true, true, true, true, true, true, true, true, true] (mkFr [(0, (Value.slice A0 n0 c0)), (1, (Value.int .i64 x1)), (13, (Value.int .i64 x13))]) h) = (f172.j4T R A0 n0 c0 x1 x13 h) by kernel_rfl) H)
set_option maxRecDepth 100000 in
def f172.runT (R : Value → Heap → Prop) (A0 : Option Addr) (n0 : Nat) (c0 : Nat) (x1 : Int) (x2 : Int) (x3 : Int) (v4 : Value) (h : Heap) : Prop :=
  ptrOk A0 fun a1_ => 0 ≤ x3 ∧ x3 < ((n0 : Nat) : Int) ∧ (ptrOk A0 fun a2_ => 0 ≤ x1 ∧ x1 < ((n0 : Nat) : Int) ∧ (∃ v3_, ldv true 3 h (Addr.add a1_ (Int.toNat x3 * 3)) = some v3_ ∧ ∃ v4_, ldv true 3 h (Addr.add a2_ (Int.toNat x1 * 3)) = some v4_ ∧ ptrOk A0 fun a5_ => 0 ≤ x1 ∧ x1 < ((n0 : Nat) : Int) ∧ (∃ l7_ : List Value, v3_ = Value.agg l7_.toArray ∧ l7_.length = 3 ∧ ∃ h6_, stH h (Addr.add a5_ (Int.toNat x1 * 3)) l7_ 0 = some h6_ ∧ ptrOk A0 fun a8_ => 0 ≤ x3 ∧ x3 < ((n0 : Nat) : Int) ∧ (∃ l10_ : List Value, v4_ = Value.agg l10_.toArray ∧ l10_.length = 3 ∧ ∃ h9_, stH h6_ (Addr.add a8_ (Int.toNat x3 * 3)) l10_ 0 = some h9_ ∧ f172.l0 R A0 n0 c0 x1 v4 (IntKind.wrap .i64 (x1 + (1 : Int))) (IntKind.wrap .i64 (x2 - (1 : Int))) h9_))))
set_option maxRecDepth 100000 in
theorem f172.run {R : Value → Heap → Prop} {A0 : Option Addr} {n0 : Nat} {c0 : Nat} {x1 : Int} {x2 : Int} {x3 : Int} {v4 : Value} {h : Heap} (H : f172.runT R A0 n0 c0 x1 x2 x3 v4 h) : Run Try.prog 172 #[(Value.slice A0 n0 c0), (Value.int .i64 x1), (Value.int .i64 x2), (Value.int .i64 x3), v4] h R :=
  run_of mixed Try.func172 (by kernel_rfl) (by kernel_rfl) f172.good (Eq.mpr (show (Fwd Try.prog f172.T f172.kp Try.f172 R [] (mkFr (argL [(Value.slice A0 n0 c0), (Value.int .i64 x1), (Value.int .i64 x2), (Value.int .i64 x3), v4] 0)) h) = (f172.runT R A0 n0 c0 x1 x2 x3 v4 h) by kernel_rfl) H)
def f136.T : Tab := { sh := tSh, tup := tTup, keep := [], plan := [(17, (.take 0 (.take 1 (.take 2 (.split 2 (.take 3 (.take 4 (.take 5 (.take 6 (.take 7 (.take 9 (.take 10 (.take 11 (.take 8 (.take 12 (.eff false 13 (.take 14 (.take 15 (.take 16 .done)))))))))))))))))))] }
def f136.kp : Keep := [([false, false, true, true], [0, 1, 2, 3, 4, 10, 11]), ([true, true, true, true, false, false, false, true, true], [0, 1, 2, 3, 4, 10, 11, 12]), ([true, true, true, true, true, true, false, false, false, true, true], [0, 1, 2, 3, 4, 10, 11, 12, 13, 14]), ([true, false, true, true, true, true, true, true, false, false, false, true, true], [0, 1, 2, 3, 4, 10, 11, 12, 13, 75]), ([true, true, true, true, true, true, true, false, false, false, true, true], [0, 1, 2, 3, 4, 10, 11, 12, 13]), ([true, false, true, true, true, true, true, true, true, false, false, false, true, true], [0, 1, 2, 3, 4, 10, 11, 12, 13, 97]), ([true, true, true, true, true, true, true, true, false, false, false, true, true], [0, 1, 2, 3, 4, 12, 13])]
theorem f136.good : goodCode Try.prog f136.T (rootOf Try.f136) = true := by kernel_rfl
def f136.l0 (R : Value → Heap → Prop) (A0 : Option Addr) (n0 : Nat) (c0 : Nat) (x1 : Int) (x2 : Int) (x3 : Int) (v4 : Value) (b10 : Bool) (b11 : Bool) (h : Heap) : Prop := Pt Try.prog Try.f136 R [false, false, true, true] (mkFr [(0, (Value.slice A0 n0 c0)), (1, (Value.int .i64 x1)), (2, (Value.int .i64 x2)), (3, (Value.int .i64 x3)), (4, v4), (10, (Value.bool b10)), (11, (Value.bool b11))]) h
def f136.j0 (R : Value → Heap → Prop) (A0 : Option Addr) (n0 : Nat) (c0 : Nat) (x1 : Int) (x2 : Int) (x3 : Int) (v4 : Value) (b10 : Bool) (b11 : Bool) (x12 : Int) (h : Heap) : Prop := Pt Try.prog Try.f136 R [true, true, true, true, false, false, false, true, true] (mkFr [(0, (Value.slice A0 n0 c0)), (1, (Value.int .i64 x1)), (2, (Value.int .i64 x2)), (3, (Value.int .i64 x3)), (4, v4), (10, (Value.bool b10)), (11, (Value.bool b11)), (12, (Value.int .i64 x12))]) h
def f136.j1 (R : Value → Heap → Prop) (A0 : Option Addr) (n0 : Nat) (c0 : Nat) (x1 : Int) (x2 : Int) (x3 : Int) (v4 : Value) (b10 : Bool) (b11 : Bool) (x12 : Int) (x13 : Int) (x14 : Int) (h : Heap) : Prop := Pt Try.prog Try.f136 R [true, true, true, true, true, true, false, false, false, true, true] (mkFr [(0, (Value.slice A0 n0 c0)), (1, (Value.int .i64 x1)), (2, (Value.int .i64 x2)), (3, (Value.int .i64 x3)), (4, v4), (10, (Value.bool b10)), (11, (Value.bool b11)), (12, (Value.int .i64 x12)), (13, (Value.int .i64 x13)), (14, (Value.int .i64 x14))]) h
def f136.j3 (R : Value → Heap → Prop) (A0 : Option Addr) (n0 : Nat) (c0 : Nat) (x1 : Int) (x2 : Int) (x3 : Int) (v4 : Value) (b10 : Bool) (b11 : Bool) (x12 : Int) (x13 : Int) (b75 : Bool) (h : Heap) : Prop := Pt Try.prog Try.f136 R [true, false, true, true, true, true, true, true, false, false, false, true, true] (mkFr [(0, (Value.slice A0 n0 c0)), (1, (Value.int .i64 x1)), (2, (Value.int .i64 x2)), (3, (Value.int .i64 x3)), (4, v4), (10, (Value.bool b10)), (11, (Value.bool b11)), (12, (Value.int .i64 x12)), (13, (Value.int .i64 x13)), (75, (Value.bool b75))]) h
def f136.j2 (R : Value → Heap → Prop) (A0 : Option Addr) (n0 : Nat) (c0 : Nat) (x1 : Int) (x2 : Int) (x3 : Int) (v4 : Value) (b10 : Bool) (b11 : Bool) (x12 : Int) (x13 : Int) (h : Heap) : Prop := Pt Try.prog Try.f136 R [true, true, true, true, true, true, true, false, false, false, true, true] (mkFr [(0, (Value.slice A0 n0 c0)), (1, (Value.int .i64 x1)), (2, (Value.int .i64 x2)), (3, (Value.int .i64 x3)), (4, v4), (10, (Value.bool b10)), (11, (Value.bool b11)), (12, (Value.int .i64 x12)), (13, (Value.int .i64 x13))]) h
def f136.j5 (R : Value → Heap → Prop) (A0 : Option Addr) (n0 : Nat) (c0 : Nat) (x1 : Int) (x2 : Int) (x3 : Int) (v4 : Value) (b10 : Bool) (b11 : Bool) (x12 : Int) (x13 : Int) (b97 : Bool) (h : Heap) : Prop := Pt Try.prog Try.f136 R [true, false, true, true, true, true, true, true, true, false, false, false, true, true] (mkFr [(0, (Value.slice A0 n0 c0)), (1, (Value.int .i64 x1)), (2, (Value.int .i64 x2)), (3, (Value.int .i64 x3)), (4, v4), (10, (Value.bool b10)), (11, (Value.bool b11)), (12, (Value.int .i64 x12)), (13, (Value.int .i64 x13)), (97, (Value.bool b97))]) h
def f136.j4 (R : Value → Heap → Prop) (A0 : Option Addr) (n0 : Nat) (c0 : Nat) (x1 : Int) (x2 : Int) (x3 : Int) (v4 : Value) (x12 : Int) (x13 : Int) (h : Heap) : Prop := Pt Try.prog Try.f136 R [true, true, true, true, true, true, true, true, false, false, false, true, true] (mkFr [(0, (Value.slice A0 n0 c0)), (1, (Value.int .i64 x1)), (2, (Value.int .i64 x2)), (3, (Value.int .i64 x3)), (4, v4), (12, (Value.int .i64 x12)), (13, (Value.int .i64 x13))]) h
set_option maxRecDepth 100000 in
def f136.l0T (R : Value → Heap → Prop) (A0 : Option Addr) (n0 : Nat) (c0 : Nat) (x1 : Int) (x2 : Int) (x3 : Int) (v4 : Value) (b10 : Bool) (b11 : Bool) (h : Heap) : Prop :=
  splitB (decide ((IntKind.wrap .i64 (x2 - x1)) ≤ (12 : Int))) (Run Try.prog 165 #[(Value.slice A0 n0 c0), (Value.int .i64 x1), (Value.int .i64 x2), v4] h fun v1_ h2_ => v1_ = (Value.tuple #[]) ∧ R (Value.tuple #[]) h2_) (splitB (x3 == (0 : Int)) (Run Try.prog 166 #[(Value.slice A0 n0 c0), (Value.int .i64 x1), (Value.int .i64 x2), v4] h fun v3_ h4_ => v3_ = (Value.tuple #[]) ∧ R (Value.tuple #[]) h4_) (splitB (!b10) (Run Try.prog 167 #[(Value.slice A0 n0 c0), (Value.int .i64 x1), (Value.int .i64 x2), v4] h fun v5_ h6_ => v5_ = (Value.tuple #[]) ∧ f136.j0 R A0 n0 c0 x1 x2 (IntKind.wrap .i64 (x3 - (1 : Int))) v4 b10 b11 (IntKind.wrap .i64 (x2 - x1)) h6_) (f136.j0 R A0 n0 c0 x1 x2 x3 v4 b10 b11 (IntKind.wrap .i64 (x2 - x1)) h)))
set_option maxRecDepth 100000 in
theorem f136.l0_in {R : Value → Heap → Prop} {A0 : Option Addr} {n0 : Nat} {c0 : Nat} {x1 : Int} {x2 : Int} {x3 : Int} {v4 : Value} {b10 : Bool} {b11 : Bool} {h : Heap} (H : f136.l0T R A0 n0 c0 x1 x2 x3 v4 b10 b11 h) : f136.l0 R A0 n0 c0 x1 x2 x3 v4 b10 b11 h :=
  pt_intro mixed f136.good (Eq.mpr (show (Fwd Try.prog f136.T f136.kp Try.f136 R [false, false, true, true] (mkFr [(0, (Value.slice A0 n0 c0)), (1, (Value.int .i64 x1)), (2, (Value.int .i64 x2)), (3, (Value.int .i64 x3)), (4, v4), (10, (Value.bool b10)), (11, (Value.bool b11))]) h) = (f136.l0T R A0 n0 c0 x1 x2 x3 v4 b10 b11 h) by kernel_rfl) H)
set_option maxRecDepth 100000 in
def f136.j0T (R : Value → Heap → Prop) (A0 : Option Addr) (n0 : Nat) (c0 : Nat) (x1 : Int) (x2 : Int) (x3 : Int) (v4 : Value) (b10 : Bool) (b11 : Bool) (x12 : Int) (h : Heap) : Prop :=
  Run Try.prog 168 #[(Value.slice A0 n0 c0), (Value.int .i64 x1), (Value.int .i64 x2), v4] h fun v1_ h2_ => ∃ x3_, ∃ x4_, v1_ = (Value.tuple #[(Value.int .i64 x3_), (Value.int .i64 x4_)]) ∧ splitB (x4_ == (2 : Int)) (Run Try.prog 169 #[(Value.slice A0 n0 c0), (Value.int .i64 x1), (Value.int .i64 x2), v4] h2_ fun v5_ h6_ => v5_ = (Value.tuple #[]) ∧ f136.j1 R A0 n0 c0 x1 x2 x3 v4 b10 b11 x12 (IntKind.wrap .i64 ((IntKind.wrap .i64 (x2 - (1 : Int))) - (IntKind.wrap .i64 (x3_ - x1)))) (1 : Int) h6_) (f136.j1 R A0 n0 c0 x1 x2 x3 v4 b10 b11 x12 x3_ x4_ h2_)
set_option maxRecDepth 100000 in
theorem f136.j0_in {R : Value → Heap → Prop} {A0 : Option Addr} {n0 : Nat} {c0 : Nat} {x1 : Int} {x2 : Int} {x3 : Int} {v4 : Value} {b10 : Bool} {b11 : Bool} {x12 : Int} {h : Heap} (H : f136.j0T R A0 n0 c0 x1 x2 x3 v4 b10 b11 x12 h) : f136.j0 R A0 n0 c0 x1 x2 x3 v4 b10 b11 x12 h :=
  pt_intro mixed f136.good (Eq.mpr (show (Fwd Try.prog f136.T f136.kp Try.f136 R [true, true, true, true, false, false, false, true, true] (mkFr [(0, (Value.slice A0 n0 c0)), (1, (Value.int .i64 x1)), (2, (Value.int .i64 x2)), (3, (Value.int .i64 x3)), (4, v4), (10, (Value.bool b10)), (11, (Value.bool b11)), (12, (Value.int .i64 x12))]) h) = (f136.j0T R A0 n0 c0 x1 x2 x3 v4 b10 b11 x12 h) by kernel_rfl) H)
set_option maxRecDepth 100000 in
def f136.j1T (R : Value → Heap → Prop) (A0 : Option Addr) (n0 : Nat) (c0 : Nat) (x1 : Int) (x2 : Int) (x3 : Int) (v4 : Value) (b10 : Bool) (b11 : Bool) (x12 : Int) (x13 : Int) (x14 : Int) (h : Heap) : Prop :=
  splitB b10 (splitB b11 (f136.j3 R A0 n0 c0 x1 x2 x3 v4 b10 b11 x12 x13 (x14 == (1 : Int)) h) (f136.j3 R A0 n0 c0 x1 x2 x3 v4 b10 b11 x12 x13 false h)) (f136.j3 R A0 n0 c0 x1 x2 x3 v4 b10 b11 x12 x13 false h)
set_option maxRecDepth 100000 in
theorem f136.j1_in {R : Value → Heap → Prop} {A0 : Option Addr} {n0 : Nat} {c0 : Nat} {x1 : Int} {x2 : Int} {x3 : Int} {v4 : Value} {b10 : Bool} {b11 : Bool} {x12 : Int} {x13 : Int} {x14 : Int} {h : Heap} (H : f136.j1T R A0 n0 c0 x1 x2 x3 v4 b10 b11 x12 x13 x14 h) : f136.j1 R A0 n0 c0 x1 x2 x3 v4 b10 b11 x12 x13 x14 h :=
  pt_intro mixed f136.good (Eq.mpr (show (Fwd Try.prog f136.T f136.kp Try.f136 R [true, true, true, true, true, true, false, false, false, true, true] (mkFr [(0, (Value.slice A0 n0 c0)), (1, (Value.int .i64 x1)), (2, (Value.int .i64 x2)), (3, (Value.int .i64 x3)), (4, v4), (10, (Value.bool b10)), (11, (Value.bool b11)), (12, (Value.int .i64 x12)), (13, (Value.int .i64 x13)), (14, (Value.int .i64 x14))]) h) = (f136.j1T R A0 n0 c0 x1 x2 x3 v4 b10 b11 x12 x13 x14 h) by kernel_rfl) H)
set_option maxRecDepth 100000 in
def f136.j3T (R : Value → Heap → Prop) (A0 : Option Addr) (n0 : Nat) (c0 : Nat) (x1 : Int) (x2 : Int) (x3 : Int) (v4 : Value) (b10 : Bool) (b11 : Bool) (x12 : Int) (x13 : Int) (b75 : Bool) (h : Heap) : Prop :=
  splitB b75 (Run Try.prog 170 #[(Value.slice A0 n0 c0), (Value.int .i64 x1), (Value.int .i64 x2), v4] h fun v1_ h2_ => ∃ b3_, v1_ = (Value.bool b3_) ∧ splitB b3_ (R (Value.tuple #[]) h2_) (f136.j2 R A0 n0 c0 x1 x2 x3 v4 b10 b11 x12 x13 h2_)) (f136.j2 R A0 n0 c0 x1 x2 x3 v4 b10 b11 x12 x13 h)
set_option maxRecDepth 100000 in
theorem f136.j3_in {R : Value → Heap → Prop} {A0 : Option Addr} {n0 : Nat} {c0 : Nat} {x1 : Int} {x2 : Int} {x3 : Int} {v4 : Value} {b10 : Bool} {b11 : Bool} {x12 : Int} {x13 : Int} {b75 : Bool} {h : Heap} (H : f136.j3T R A0 n0 c0 x1 x2 x3 v4 b10 b11 x12 x13 b75 h) : f136.j3 R A0 n0 c0 x1 x2 x3 v4 b10 b11 x12 x13 b75 h :=
  pt_intro mixed f136.good (Eq.mpr (show (Fwd Try.prog f136.T f136.kp Try.f136 R [true, false, true, true, true, true, true, true, false, false, false, true, true] (mkFr [(0, (Value.slice A0 n0 c0)), (1, (Value.int .i64 x1)), (2, (Value.int .i64 x2)), (3, (Value.int .i64 x3)), (4, v4), (10, (Value.bool b10)), (11, (Value.bool b11)), (12, (Value.int .i64 x12)), (13, (Value.int .i64 x13)), (75, (Value.bool b75))]) h) = (f136.j3T R A0 n0 c0 x1 x2 x3 v4 b10 b11 x12 x13 b75 h) by kernel_rfl) H)
set_option maxRecDepth 100000 in
def f136.j2T (R : Value → Heap → Prop) (A0 : Option Addr) (n0 : Nat) (c0 : Nat) (x1 : Int) (x2 : Int) (x3 : Int) (v4 : Value) (b10 : Bool) (b11 : Bool) (x12 : Int) (x13 : Int) (h : Heap) : Prop :=
  splitB (decide (x1 > (0 : Int))) (ptrOk A0 fun a1_ => 0 ≤ (IntKind.wrap .i64 (x1 - (1 : Int))) ∧ (IntKind.wrap .i64 (x1 - (1 : Int))) < ((n0 : Nat) : Int) ∧ (ptrOk A0 fun a2_ => 0 ≤ x13 ∧ x13 < ((n0 : Nat) : Int) ∧ (∃ v3_, ldv true 3 h (Addr.add a1_ (Int.toNat (IntKind.wrap .i64 (x1 - (1 : Int))) * 3)) = some v3_ ∧ ∃ v4_, ldv true 3 h (Addr.add a2_ (Int.toNat x13 * 3)) = some v4_ ∧ CallF Try.prog v4 [v3_, v4_] h fun v5_ h6_ => ∃ x7_, v5_ = (Value.int .i64 x7_) ∧ f136.j5 R A0 n0 c0 x1 x2 x3 v4 b10 b11 x12 x13 (!(decide (x7_ < (0 : Int)))) h6_))) (f136.j5 R A0 n0 c0 x1 x2 x3 v4 b10 b11 x12 x13 false h)
set_option maxRecDepth 100000 in
theorem f136.j2_in {R : Value → Heap → Prop} {A0 : Option Addr} {n0 : Nat} {c0 : Nat} {x1 : Int} {x2 : Int} {x3 : Int} {v4 : Value} {b10 : Bool} {b11 : Bool} {x12 : Int} {x13 : Int} {h : Heap} (H : f136.j2T R A0 n0 c0 x1 x2 x3 v4 b10 b11 x12 x13 h) : f136.j2 R A0 n0 c0 x1 x2 x3 v4 b10 b11 x12 x13 h :=
  pt_intro mixed f136.good (Eq.mpr (show (Fwd Try.prog f136.T f136.kp Try.f136 R [true, true, true, true, true, true, true, false, false, false, true, true] (mkFr [(0, (Value.slice A0 n0 c0)), (1, (Value.int .i64 x1)), (2, (Value.int .i64 x2)), (3, (Value.int .i64 x3)), (4, v4), (10, (Value.bool b10)), (11, (Value.bool b11)), (12, (Value.int .i64 x12)), (13, (Value.int .i64 x13))]) h) = (f136.j2T R A0 n0 c0 x1 x2 x3 v4 b10 b11 x12 x13 h) by kernel_rfl) H)
set_option maxRecDepth 100000 in
def f136.j5T (R : Value → Heap → Prop) (A0 : Option Addr) (n0 : Nat) (c0 : Nat) (x1 : Int) (x2 : Int) (x3 : Int) (v4 : Value) (b10 : Bool) (b11 : Bool) (x12 : Int) (x13 : Int) (b97 : Bool) (h : Heap) : Prop :=
  splitB b97 (Run Try.prog 171 #[(Value.slice A0 n0 c0), (Value.int .i64 x1), (Value.int .i64 x2), (Value.int .i64 x13), v4] h fun v1_ h2_ => ∃ x3_, v1_ = (Value.int .i64 x3_) ∧ f136.l0 R A0 n0 c0 x3_ x2 x3 v4 b10 b11 h2_) (f136.j4 R A0 n0 c0 x1 x2 x3 v4 x12 x13 h)
set_option maxRecDepth 100000 in
theorem f136.j5_in {R : Value → Heap → Prop} {A0 : Option Addr} {n0 : Nat} {c0 : Nat} {x1 : Int} {x2 : Int} {x3 : Int} {v4 : Value} {b10 : Bool} {b11 : Bool} {x12 : Int} {x13 : Int} {b97 : Bool} {h : Heap} (H : f136.j5T R A0 n0 c0 x1 x2 x3 v4 b10 b11 x12 x13 b97 h) : f136.j5 R A0 n0 c0 x1 x2 x3 v4 b10 b11 x12 x13 b97 h :=
  pt_intro mixed f136.good (Eq.mpr (show (Fwd Try.prog f136.T f136.kp Try.f136 R [true, false, true, true, true, true, true, true, true, false, false, false, true, true] (mkFr [(0, (Value.slice A0 n0 c0)), (1, (Value.int .i64 x1)), (2, (Value.int .i64 x2)), (3, (Value.int .i64 x3)), (4, v4), (10, (Value.bool b10)), (11, (Value.bool b11)), (12, (Value.int .i64 x12)), (13, (Value.int .i64 x13)), (97, (Value.bool b97))]) h) = (f136.j5T R A0 n0 c0 x1 x2 x3 v4 b10 b11 x12 x13 b97 h) by kernel_rfl) H)
set_option maxRecDepth 100000 in
def f136.j4T (R : Value → Heap → Prop) (A0 : Option Addr) (n0 : Nat) (c0 : Nat) (x1 : Int) (x2 : Int) (x3 : Int) (v4 : Value) (x12 : Int) (x13 : Int) (h : Heap) : Prop :=
  Run Try.prog 172 #[(Value.slice A0 n0 c0), (Value.int .i64 x1), (Value.int .i64 x2), (Value.int .i64 x13), v4] h fun v1_ h2_ => ∃ x3_, ∃ b4_, v1_ = (Value.tuple #[(Value.int .i64 x3_), (Value.bool b4_)]) ∧ (8 : Int) ≠ 0 ∧ (splitB (decide ((IntKind.wrap .i64 (x3_ - x1)) < (IntKind.wrap .i64 (x2 - x3_)))) (Run Try.prog 136 #[(Value.slice A0 n0 c0), (Value.int .i64 x1), (Value.int .i64 x3_), (Value.int .i64 x3), v4] h2_ fun v5_ h6_ => v5_ = (Value.tuple #[]) ∧ f136.l0 R A0 n0 c0 (IntKind.wrap .i64 (x3_ + (1 : Int))) x2 x3 v4 (decide ((IntKind.wrap .i64 (x3_ - x1)) ≥ (IntKind.wrap .i64 (Int.tdiv x12 (8 : Int))))) b4_ h6_) (Run Try.prog 136 #[(Value.slice A0 n0 c0), (Value.int .i64 (IntKind.wrap .i64 (x3_ + (1 : Int)))), (Value.int .i64 x2), (Value.int .i64 x3), v4] h2_ fun v7_ h8_ => v7_ = (Value.tuple #[]) ∧ f136.l0 R A0 n0 c0 x1 x3_ x3 v4 (decide ((IntKind.wrap .i64 (x2 - x3_)) ≥ (IntKind.wrap .i64 (Int.tdiv x12 (8 : Int))))) b4_ h8_))
set_option maxRecDepth 100000 in
theorem f136.j4_in {R : Value → Heap → Prop} {A0 : Option Addr} {n0 : Nat} {c0 : Nat} {x1 : Int} {x2 : Int} {x3 : Int} {v4 : Value} {x12 : Int} {x13 : Int} {h : Heap} (H : f136.j4T R A0 n0 c0 x1 x2 x3 v4 x12 x13 h) : f136.j4 R A0 n0 c0 x1 x2 x3 v4 x12 x13 h :=
  pt_intro mixed f136.good (Eq.mpr (show (Fwd Try.prog f136.T f136.kp Try.f136 R [true, true, true, true, true, true, true, true, false, false, false, true, true] (mkFr [(0, (Value.slice A0 n0 c0)), (1, (Value.int .i64 x1)), (2, (Value.int .i64 x2)), (3, (Value.int .i64 x3)), (4, v4), (12, (Value.int .i64 x12)), (13, (Value.int .i64 x13))]) h) = (f136.j4T R A0 n0 c0 x1 x2 x3 v4 x12 x13 h) by kernel_rfl) H)
set_option maxRecDepth 100000 in
def f136.runT (R : Value → Heap → Prop) (A0 : Option Addr) (n0 : Nat) (c0 : Nat) (x1 : Int) (x2 : Int) (x3 : Int) (v4 : Value) (h : Heap) : Prop :=
  f136.l0 R A0 n0 c0 x1 x2 x3 v4 true true h
set_option maxRecDepth 100000 in
theorem f136.run {R : Value → Heap → Prop} {A0 : Option Addr} {n0 : Nat} {c0 : Nat} {x1 : Int} {x2 : Int} {x3 : Int} {v4 : Value} {h : Heap} (H : f136.runT R A0 n0 c0 x1 x2 x3 v4 h) : Run Try.prog 136 #[(Value.slice A0 n0 c0), (Value.int .i64 x1), (Value.int .i64 x2), (Value.int .i64 x3), v4] h R :=
  run_of mixed Try.func136 (by kernel_rfl) (by kernel_rfl) f136.good (Eq.mpr (show (Fwd Try.prog f136.T f136.kp Try.f136 R [] (mkFr (argL [(Value.slice A0 n0 c0), (Value.int .i64 x1), (Value.int .i64 x2), (Value.int .i64 x3), v4] 0)) h) = (f136.runT R A0 n0 c0 x1 x2 x3 v4 h) by kernel_rfl) H)
def f92.T : Tab := { sh := tSh, tup := tTup, keep := [], plan := [] }
def f92.kp : Keep := []
theorem f92.good : goodCode Try.prog f92.T (rootOf Try.f92) = true := by kernel_rfl
set_option maxRecDepth 100000 in
def f92.runT (R : Value → Heap → Prop) (A0 : Option Addr) (n0 : Nat) (c0 : Nat) (v1 : Value) (h : Heap) : Prop :=
  Run Try.prog 79 #[(Value.int .u64 (IntKind.wrap .u64 ((n0 : Nat) : Int)))] h fun v1_ h2_ => ∃ x3_, v1_ = (Value.int .i64 x3_) ∧ Run Try.prog 136 #[(Value.slice A0 n0 c0), (Value.int .i64 (0 : Int)), (Value.int .i64 ((n0 : Nat) : Int)), (Value.int .i64 x3_), v1] h2_ fun v4_ h5_ => v4_ = (Value.tuple #[]) ∧ R (Value.tuple #[]) h5_
set_option maxRecDepth 100000 in
theorem f92.run {R : Value → Heap → Prop} {A0 : Option Addr} {n0 : Nat} {c0 : Nat} {v1 : Value} {h : Heap} (H : f92.runT R A0 n0 c0 v1 h) : Run Try.prog 92 #[(Value.slice A0 n0 c0), v1] h R :=
  run_of mixed Try.func92 (by kernel_rfl) (by kernel_rfl) f92.good (Eq.mpr (show (Fwd Try.prog f92.T f92.kp Try.f92 R [] (mkFr (argL [(Value.slice A0 n0 c0), v1] 0)) h) = (f92.runT R A0 n0 c0 v1 h) by kernel_rfl) H)
def f93.T : Tab := { sh := tSh, tup := tTup, keep := [], plan := [] }
def f93.kp : Keep := []
theorem f93.good : goodCode Try.prog f93.T (rootOf Try.f93) = true := by kernel_rfl
set_option maxRecDepth 100000 in
theorem f93.ok : calleeOk Try.prog 93 = true := by kernel_rfl
set_option maxRecDepth 100000 in
def f93.runT (R : Value → Heap → Prop) (v0 : Value) (v1 : Value) (h : Heap) : Prop :=
  newH h (Obj.cells ((v0).cells) 71) fun h1_ => newH h1_ (Obj.cells ((v1).cells) 71) fun h2_ => ∃ v3_, ldv false 1 h2_ (⟨Array.size h, 0, none⟩) = some v3_ ∧ ∃ x4_, v3_ = (Value.int .i64 x4_) ∧ ∃ v5_, ldv false 1 h2_ (⟨Array.size h1_, 0, none⟩) = some v5_ ∧ ∃ x6_, v5_ = (Value.int .i64 x6_) ∧ R (Value.int .i64 (IntKind.wrap .i64 (x4_ - x6_))) h2_
set_option maxRecDepth 100000 in
theorem f93.run {R : Value → Heap → Prop} {v0 : Value} {v1 : Value} {h : Heap} (H : f93.runT R v0 v1 h) : Run Try.prog 93 #[v0, v1] h R :=
  run_of mixed Try.func93 (by kernel_rfl) (by kernel_rfl) f93.good (Eq.mpr (show (Fwd Try.prog f93.T f93.kp Try.f93 R [] (mkFr (argL [v0, v1] 0)) h) = (f93.runT R v0 v1 h) by kernel_rfl) H)
def f35.T : Tab := { sh := tSh, tup := tTup, keep := [], plan := [(12, (.take 0 (.take 1 (.take 2 (.take 3 (.take 4 (.eff false 5 .done))))))), (13, (.take 0 (.take 1 (.take 2 (.take 3 (.take 4 (.take 6 (.take 7 (.take 8 (.take 5 (.take 9 (.take 10 (.take 11 (.take 12 (.eff false 13 .done))))))))))))))), (17, (.take 0 (.take 1 (.take 2 (.take 3 (.take 5 (.take 6 (.take 7 (.take 8 (.take 9 (.take 10 (.take 11 (.take 12 (.alt true 4 (.eff true 13 (.eff false 14 (.take 15 (.eff false 16 .done)))) (.eff true 13 (.alt true 4 (.eff false 14 (.take 15 (.eff false 16 .done))) (.eff false 14 (.eff true 4 (.take 15 (.eff false 16 .done))))))))))))))))))))] }
def f35.kp : Keep := [([false, false, true, false, true, true, true, true], [0, 5, 6, 20, 21, 22]), ([false, false, true, false, true, false, false, true, true, false, false, true, false, true, true, true, true], [0, 5, 6, 7, 8, 20, 21, 22, 27, 28]), ([false, false, false, true, true, false, false, true, true, false, false, true, false, true, true, true, true], [0, 5, 6, 7, 8, 20, 21, 22]), ([false, false, true, false, true, true, true, true, true], [6, 78, 79, 80])]
theorem f35.good : goodCode Try.prog f35.T (rootOf Try.f35) = true := by kernel_rfl
def f35.l0 (R : Value → Heap → Prop) (A0 : Option Addr) (n0 : Nat) (c0 : Nat) (A5 : Option Addr) (n5 : Nat) (c5 : Nat) (A6 : Option Addr) (n6 : Nat) (c6 : Nat) (A20 : Option Addr) (n20 : Nat) (c20 : Nat) (x21 : Int) (x22 : Int) (h : Heap) : Prop := Pt Try.prog Try.f35 R [false, false, true, false, true, true, true, true] (mkFr [(0, (Value.slice A0 n0 c0)), (5, (Value.slice A5 n5 c5)), (6, (Value.slice A6 n6 c6)), (20, (Value.slice A20 n20 c20)), (21, (Value.int .i64 x21)), (22, (Value.int .i64 x22))]) h
def f35.l2 (R : Value → Heap → Prop) (A0 : Option Addr) (n0 : Nat) (c0 : Nat) (A5 : Option Addr) (n5 : Nat) (c5 : Nat) (A6 : Option Addr) (n6 : Nat) (c6 : Nat) (x7 : Int) (a8 : Addr) (A20 : Option Addr) (n20 : Nat) (c20 : Nat) (x21 : Int) (x22 : Int) (x27 : Int) (x28 : Int) (h : Heap) : Prop := Pt Try.prog Try.f35 R [false, false, true, false, true, false, false, true, true, false, false, true, false, true, true, true, true] (mkFr [(0, (Value.slice A0 n0 c0)), (5, (Value.slice A5 n5 c5)), (6, (Value.slice A6 n6 c6)), (7, (Value.int .i64 x7)), (8, (Value.pointer (some a8))), (20, (Value.slice A20 n20 c20)), (21, (Value.int .i64 x21)), (22, (Value.int .i64 x22)), (27, (Value.int .i64 x27)), (28, (Value.int .i64 x28))]) h
def f35.l1 (R : Value → Heap → Prop) (A6 : Option Addr) (n6 : Nat) (c6 : Nat) (A78 : Option Addr) (n78 : Nat) (c78 : Nat) (x79 : Int) (x80 : Int) (h : Heap) : Prop := Pt Try.prog Try.f35 R [false, false, true, false, true, true, true, true, true] (mkFr [(6, (Value.slice A6 n6 c6)), (78, (Value.slice A78 n78 c78)), (79, (Value.int .i64 x79)), (80, (Value.int .i64 x80))]) h
def f35.l3 (R : Value → Heap → Prop) (A0 : Option Addr) (n0 : Nat) (c0 : Nat) (A5 : Option Addr) (n5 : Nat) (c5 : Nat) (A6 : Option Addr) (n6 : Nat) (c6 : Nat) (x7 : Int) (a8 : Addr) (A20 : Option Addr) (n20 : Nat) (c20 : Nat) (x21 : Int) (x22 : Int) (h : Heap) : Prop := Pt Try.prog Try.f35 R [false, false, false, true, true, false, false, true, true, false, false, true, false, true, true, true, true] (mkFr [(0, (Value.slice A0 n0 c0)), (5, (Value.slice A5 n5 c5)), (6, (Value.slice A6 n6 c6)), (7, (Value.int .i64 x7)), (8, (Value.pointer (some a8))), (20, (Value.slice A20 n20 c20)), (21, (Value.int .i64 x21)), (22, (Value.int .i64 x22))]) h
set_option maxRecDepth 100000 in
def f35.l0T (R : Value → Heap → Prop) (A0 : Option Addr) (n0 : Nat) (c0 : Nat) (A5 : Option Addr) (n5 : Nat) (c5 : Nat) (A6 : Option Addr) (n6 : Nat) (c6 : Nat) (A20 : Option Addr) (n20 : Nat) (c20 : Nat) (x21 : Int) (x22 : Int) (h : Heap) : Prop :=
  splitB (decide (x22 < x21)) (ptrOk A20 fun a1_ => 0 ≤ x22 ∧ x22 < ((n20 : Nat) : Int) ∧ (∃ v2_, ldv true 3 h (Addr.add a1_ (Int.toNat x22 * 3)) = some v2_ ∧ newH h (Obj.cells #[(Value.int .i64 (0 : Int)), (Value.int .i64 (0 : Int)), (Value.int .i64 (0 : Int))] 71) fun h3_ => ∃ l5_ : List Value, v2_ = Value.agg l5_.toArray ∧ l5_.length = 3 ∧ ∃ h4_, stH h3_ (⟨Array.size h, 0, none⟩) l5_ 0 = some h4_ ∧ f35.l2 R A0 n0 c0 A5 n5 c5 A6 n6 c6 x22 (⟨Array.size h, 0, none⟩) A20 n20 c20 x21 x22 x22 (0 : Int) h4_)) (f35.l1 R A6 n6 c6 A6 n6 c6 ((n6 : Nat) : Int) (0 : Int) h)
set_option maxRecDepth 100000 in
theorem f35.l0_in {R : Value → Heap → Prop} {A0 : Option Addr} {n0 : Nat} {c0 : Nat} {A5 : Option Addr} {n5 : Nat} {c5 : Nat} {A6 : Option Addr} {n6 : Nat} {c6 : Nat} {A20 : Option Addr} {n20 : Nat} {c20 : Nat} {x21 : Int} {x22 : Int} {h : Heap} (H : f35.l0T R A0 n0 c0 A5 n5 c5 A6 n6 c6 A20 n20 c20 x21 x22 h) : f35.l0 R A0 n0 c0 A5 n5 c5 A6 n6 c6 A20 n20 c20 x21 x22 h :=
  pt_intro mixed f35.good (Eq.mpr (show (Fwd Try.prog f35.T f35.kp Try.f35 R [false, false, true, false, true, true, true, true] (mkFr [(0, (Value.slice A0 n0 c0)), (5, (Value.slice A5 n5 c5)), (6, (Value.slice A6 n6 c6)), (20, (Value.slice A20 n20 c20)), (21, (Value.int .i64 x21)), (22, (Value.int .i64 x22))]) h) = (f35.l0T R A0 n0 c0 A5 n5 c5 A6 n6 c6 A20 n20 c20 x21 x22 h) by kernel_rfl) H)
set_option maxRecDepth 100000 in
def f35.l2T (R : Value → Heap → Prop) (A0 : Option Addr) (n0 : Nat) (c0 : Nat) (A5 : Option Addr) (n5 : Nat) (c5 : Nat) (A6 : Option Addr) (n6 : Nat) (c6 : Nat) (x7 : Int) (a8 : Addr) (A20 : Option Addr) (n20 : Nat) (c20 : Nat) (x21 : Int) (x22 : Int) (x27 : Int) (x28 : Int) (h : Heap) : Prop :=
  splitB (decide (x28 < x27)) (ptrOk A0 fun a1_ => 0 ≤ x28 ∧ x28 < ((n0 : Nat) : Int) ∧ (∃ v2_, ldv true 3 h (Addr.add a1_ (Int.toNat x28 * 3)) = some v2_ ∧ ∃ v3_, ldv true 3 h a8 = some v3_ ∧ Run Try.prog 91 #[v2_, v3_] h fun v4_ h5_ => ∃ b6_, v4_ = (Value.bool b6_) ∧ splitB b6_ (ptrOk A5 fun a7_ => 0 ≤ x7 ∧ x7 < ((n5 : Nat) : Int) ∧ (ptrOk A5 fun a8_ => 0 ≤ x28 ∧ x28 < ((n5 : Nat) : Int) ∧ (∃ v9_, ldv false 1 h5_ (Addr.add a7_ (Int.toNat x7 * 1)) = some v9_ ∧ ∃ x10_, v9_ = (Value.int .i64 x10_) ∧ ∃ v11_, ldv false 1 h5_ (Addr.add a8_ (Int.toNat x28 * 1)) = some v11_ ∧ ∃ x12_, v11_ = (Value.int .i64 x12_) ∧ ptrOk A5 fun a13_ => 0 ≤ x7 ∧ x7 < ((n5 : Nat) : Int) ∧ (∃ h14_, st1 h5_ (Addr.add a13_ (Int.toNat x7 * 1)) (Value.int .i64 (if (IntKind.wrap .i64 (x12_ + (1 : Int))) > x10_ then (IntKind.wrap .i64 (x12_ + (1 : Int))) else x10_)) = some h14_ ∧ f35.l2 R A0 n0 c0 A5 n5 c5 A6 n6 c6 x7 a8 A20 n20 c20 x21 x22 x27 (IntKind.wrap .i64 (x28 + (1 : Int))) h14_)))) (f35.l2 R A0 n0 c0 A5 n5 c5 A6 n6 c6 x7 a8 A20 n20 c20 x21 x22 x27 (IntKind.wrap .i64 (x28 + (1 : Int))) h5_))) (f35.l3 R A0 n0 c0 A5 n5 c5 A6 n6 c6 x7 a8 A20 n20 c20 x21 x22 h)
set_option maxRecDepth 100000 in
theorem f35.l2_in {R : Value → Heap → Prop} {A0 : Option Addr} {n0 : Nat} {c0 : Nat} {A5 : Option Addr} {n5 : Nat} {c5 : Nat} {A6 : Option Addr} {n6 : Nat} {c6 : Nat} {x7 : Int} {a8 : Addr} {A20 : Option Addr} {n20 : Nat} {c20 : Nat} {x21 : Int} {x22 : Int} {x27 : Int} {x28 : Int} {h : Heap} (H : f35.l2T R A0 n0 c0 A5 n5 c5 A6 n6 c6 x7 a8 A20 n20 c20 x21 x22 x27 x28 h) : f35.l2 R A0 n0 c0 A5 n5 c5 A6 n6 c6 x7 a8 A20 n20 c20 x21 x22 x27 x28 h :=
  pt_intro mixed f35.good (Eq.mpr (show (Fwd Try.prog f35.T f35.kp Try.f35 R [false, false, true, false, true, false, false, true, true, false, false, true, false, true, true, true, true] (mkFr [(0, (Value.slice A0 n0 c0)), (5, (Value.slice A5 n5 c5)), (6, (Value.slice A6 n6 c6)), (7, (Value.int .i64 x7)), (8, (Value.pointer (some a8))), (20, (Value.slice A20 n20 c20)), (21, (Value.int .i64 x21)), (22, (Value.int .i64 x22)), (27, (Value.int .i64 x27)), (28, (Value.int .i64 x28))]) h) = (f35.l2T R A0 n0 c0 A5 n5 c5 A6 n6 c6 x7 a8 A20 n20 c20 x21 x22 x27 x28 h) by kernel_rfl) H)
set_option maxRecDepth 100000 in
def f35.l1T (R : Value → Heap → Prop) (A6 : Option Addr) (n6 : Nat) (c6 : Nat) (A78 : Option Addr) (n78 : Nat) (c78 : Nat) (x79 : Int) (x80 : Int) (h : Heap) : Prop :=
  splitB (decide (x80 < x79)) (ptrOk A78 fun a1_ => 0 ≤ x80 ∧ x80 < ((n78 : Nat) : Int) ∧ (∃ v2_, ldv false 1 h (Addr.add a1_ (Int.toNat x80 * 1)) = some v2_ ∧ ∃ A3_, ∃ n3_, ∃ c3_, v2_ = (Value.slice A3_ n3_ c3_) ∧ Run Try.prog 92 #[(Value.slice A3_ n3_ c3_), (Value.func (.func 93) #[] #[])] h fun v4_ h5_ => v4_ = (Value.tuple #[]) ∧ f35.l1 R A6 n6 c6 A78 n78 c78 x79 (IntKind.wrap .i64 (x80 + (1 : Int))) h5_)) (R (Value.tuple #[(Value.slice A6 n6 c6), (Value.int .i64 (0 : Int))]) h)
set_option maxRecDepth 100000 in
theorem f35.l1_in {R : Value → Heap → Prop} {A6 : Option Addr} {n6 : Nat} {c6 : Nat} {A78 : Option Addr} {n78 : Nat} {c78 : Nat} {x79 : Int} {x80 : Int} {h : Heap} (H : f35.l1T R A6 n6 c6 A78 n78 c78 x79 x80 h) : f35.l1 R A6 n6 c6 A78 n78 c78 x79 x80 h :=
  pt_intro mixed f35.good (Eq.mpr (show (Fwd Try.prog f35.T f35.kp Try.f35 R [false, false, true, false, true, true, true, true, true] (mkFr [(6, (Value.slice A6 n6 c6)), (78, (Value.slice A78 n78 c78)), (79, (Value.int .i64 x79)), (80, (Value.int .i64 x80))]) h) = (f35.l1T R A6 n6 c6 A78 n78 c78 x79 x80 h) by kernel_rfl) H)
set_option maxRecDepth 100000 in
def f35.l3T (R : Value → Heap → Prop) (A0 : Option Addr) (n0 : Nat) (c0 : Nat) (A5 : Option Addr) (n5 : Nat) (c5 : Nat) (A6 : Option Addr) (n6 : Nat) (c6 : Nat) (x7 : Int) (a8 : Addr) (A20 : Option Addr) (n20 : Nat) (c20 : Nat) (x21 : Int) (x22 : Int) (h : Heap) : Prop :=
  ptrOk A5 fun a1_ => 0 ≤ x7 ∧ x7 < ((n5 : Nat) : Int) ∧ (∃ v2_, ldv false 1 h (Addr.add a1_ (Int.toNat x7 * 1)) = some v2_ ∧ ∃ x3_, v2_ = (Value.int .i64 x3_) ∧ splitB (decide (((n6 : Nat) : Int) ≤ x3_)) (newH h (Obj.cells #[(Value.slice none 0 0)] 72) fun h4_ => AppW 72 1 24 #[(Value.slice none 0 0)] A6 n6 c6 (Value.slice (some ⟨Array.size h, 0, none⟩) 1 1) h4_ fun v5_ h6_ => ∃ A7_, ∃ n7_, ∃ c7_, v5_ = (Value.slice A7_ n7_ c7_) ∧ f35.l3 R A0 n0 c0 A5 n5 c5 A7_ n7_ c7_ x7 a8 A20 n20 c20 x21 x22 h6_) (ptrOk A5 fun a8_ => 0 ≤ x7 ∧ x7 < ((n5 : Nat) : Int) ∧ (ptrOk A5 fun a9_ => 0 ≤ x7 ∧ x7 < ((n5 : Nat) : Int) ∧ (∃ v10_, ldv false 1 h (Addr.add a9_ (Int.toNat x7 * 1)) = some v10_ ∧ ∃ x11_, v10_ = (Value.int .i64 x11_) ∧ ptrOk A6 fun a12_ => 0 ≤ x11_ ∧ x11_ < ((n6 : Nat) : Int) ∧ (∃ v13_, ldv false 1 h (Addr.add a12_ (Int.toNat x11_ * 1)) = some v13_ ∧ ∃ A14_, ∃ n14_, ∃ c14_, v13_ = (Value.slice A14_ n14_ c14_) ∧ ∃ v15_, ldv true 3 h a8 = some v15_ ∧ (∃ v16_, ldv false 1 h (Addr.add a8_ (Int.toNat x7 * 1)) = some v16_ ∧ ∃ x17_, v16_ = (Value.int .i64 x17_) ∧ Ext h h ∧ (∃ l18_ : List Value, v15_ = Value.agg l18_.toArray ∧ l18_.length = 3 ∧ (newH h (Obj.cells ((List.take 0 ([(Value.int .i64 (0 : Int)), (Value.int .i64 (0 : Int)), (Value.int .i64 (0 : Int))]) ++ l18_ ++ List.drop 3 ([(Value.int .i64 (0 : Int)), (Value.int .i64 (0 : Int)), (Value.int .i64 (0 : Int))])).toArray) 71) fun h19_ => Ext h h19_ ∧ (AppW 71 3 24 #[(Value.int .i64 (0 : Int)), (Value.int .i64 (0 : Int)), (Value.int .i64 (0 : Int))] A14_ n14_ c14_ (Value.slice (some ⟨Array.size h, 0, none⟩) 1 1) h19_ fun v20_ h21_ => ∃ A22_, ∃ n22_, ∃ c22_, v20_ = (Value.slice A22_ n22_ c22_) ∧ ptrOk A6 fun a23_ => 0 ≤ x17_ ∧ x17_ < ((n6 : Nat) : Int) ∧ (∃ h24_, st1 h21_ (Addr.add a23_ (Int.toNat x17_ * 1)) (Value.slice A22_ n22_ c22_) = some h24_ ∧ f35.l0 R A0 n0 c0 A5 n5 c5 A6 n6 c6 A20 n20 c20 x21 (IntKind.wrap .i64 (x22 + (1 : Int))) h24_))))) ∧ (∃ l25_ : List Value, v15_ = Value.agg l25_.toArray ∧ l25_.length = 3 ∧ (newH h (Obj.cells ((List.take 0 ([(Value.int .i64 (0 : Int)), (Value.int .i64 (0 : Int)), (Value.int .i64 (0 : Int))]) ++ l25_ ++ List.drop 3 ([(Value.int .i64 (0 : Int)), (Value.int .i64 (0 : Int)), (Value.int .i64 (0 : Int))])).toArray) 71) fun h26_ => Ext h h26_ ∧ ((∃ v27_, ldv false 1 h26_ (Addr.add a8_ (Int.toNat x7 * 1)) = some v27_ ∧ ∃ x28_, v27_ = (Value.int .i64 x28_) ∧ Ext h26_ h26_ ∧ (AppW 71 3 24 #[(Value.int .i64 (0 : Int)), (Value.int .i64 (0 : Int)), (Value.int .i64 (0 : Int))] A14_ n14_ c14_ (Value.slice (some ⟨Array.size h, 0, none⟩) 1 1) h26_ fun v29_ h30_ => ∃ A31_, ∃ n31_, ∃ c31_, v29_ = (Value.slice A31_ n31_ c31_) ∧ ptrOk A6 fun a32_ => 0 ≤ x28_ ∧ x28_ < ((n6 : Nat) : Int) ∧ (∃ h33_, st1 h30_ (Addr.add a32_ (Int.toNat x28_ * 1)) (Value.slice A31_ n31_ c31_) = some h33_ ∧ f35.l0 R A0 n0 c0 A5 n5 c5 A6 n6 c6 A20 n20 c20 x21 (IntKind.wrap .i64 (x22 + (1 : Int))) h33_))) ∧ (AppW 71 3 24 #[(Value.int .i64 (0 : Int)), (Value.int .i64 (0 : Int)), (Value.int .i64 (0 : Int))] A14_ n14_ c14_ (Value.slice (some ⟨Array.size h, 0, none⟩) 1 1) h26_ fun v34_ h35_ => ∃ A36_, ∃ n36_, ∃ c36_, v34_ = (Value.slice A36_ n36_ c36_) ∧ ∃ v37_, ldv false 1 h35_ (Addr.add a8_ (Int.toNat x7 * 1)) = some v37_ ∧ ∃ x38_, v37_ = (Value.int .i64 x38_) ∧ Ext h35_ h35_ ∧ (ptrOk A6 fun a39_ => 0 ≤ x38_ ∧ x38_ < ((n6 : Nat) : Int) ∧ (∃ h40_, st1 h35_ (Addr.add a39_ (Int.toNat x38_ * 1)) (Value.slice A36_ n36_ c36_) = some h40_ ∧ f35.l0 R A0 n0 c0 A5 n5 c5 A6 n6 c6 A20 n20 c20 x21 (IntKind.wrap .i64 (x22 + (1 : Int))) h40_)))))))))))
set_option maxRecDepth 100000 in
theorem f35.l3_in {R : Value → Heap → Prop} {A0 : Option Addr} {n0 : Nat} {c0 : Nat} {A5 : Option Addr} {n5 : Nat} {c5 : Nat} {A6 : Option Addr} {n6 : Nat} {c6 : Nat} {x7 : Int} {a8 : Addr} {A20 : Option Addr} {n20 : Nat} {c20 : Nat} {x21 : Int} {x22 : Int} {h : Heap} (H : f35.l3T R A0 n0 c0 A5 n5 c5 A6 n6 c6 x7 a8 A20 n20 c20 x21 x22 h) : f35.l3 R A0 n0 c0 A5 n5 c5 A6 n6 c6 x7 a8 A20 n20 c20 x21 x22 h :=
  pt_intro mixed f35.good (Eq.mpr (show (Fwd Try.prog f35.T f35.kp Try.f35 R [false, false, false, true, true, false, false, true, true, false, false, true, false, true, true, true, true] (mkFr [(0, (Value.slice A0 n0 c0)), (5, (Value.slice A5 n5 c5)), (6, (Value.slice A6 n6 c6)), (7, (Value.int .i64 x7)), (8, (Value.pointer (some a8))), (20, (Value.slice A20 n20 c20)), (21, (Value.int .i64 x21)), (22, (Value.int .i64 x22))]) h) = (f35.l3T R A0 n0 c0 A5 n5 c5 A6 n6 c6 x7 a8 A20 n20 c20 x21 x22 h) by kernel_rfl) H)
set_option maxRecDepth 100000 in
def f35.runT (R : Value → Heap → Prop) (A0 : Option Addr) (n0 : Nat) (c0 : Nat) (h : Heap) : Prop :=
  Run Try.prog 40 #[(Value.slice A0 n0 c0)] h fun v1_ h2_ => ∃ x3_, v1_ = (Value.int .i64 x3_) ∧ splitB (x3_ != (0 : Int)) (R (Value.tuple #[(Value.slice none 0 0), (Value.int .i64 x3_)]) h2_) (0 ≤ ((n0 : Nat) : Int) ∧ ((n0 : Nat) : Int) ≤ ((n0 : Nat) : Int) ∧ ((n0 : Nat) : Int) * 8 ≤ 140737488355328 ∧ ((n0 : Nat) : Int) ≤ 9223372036854775807 ∧ (newH h2_ (Obj.cells (mkCells #[(Value.int .i64 (0 : Int))] (Int.toNat ((n0 : Nat) : Int) * 1)) 3) fun h4_ => f35.l0 R A0 n0 c0 (some ⟨Array.size h2_, 0, none⟩) (Int.toNat ((n0 : Nat) : Int)) (Int.toNat ((n0 : Nat) : Int)) none 0 0 A0 n0 c0 ((n0 : Nat) : Int) (0 : Int) h4_))
set_option maxRecDepth 100000 in
theorem f35.run {R : Value → Heap → Prop} {A0 : Option Addr} {n0 : Nat} {c0 : Nat} {h : Heap} (H : f35.runT R A0 n0 c0 h) : Run Try.prog 35 #[(Value.slice A0 n0 c0)] h R :=
  run_of mixed Try.func35 (by kernel_rfl) (by kernel_rfl) f35.good (Eq.mpr (show (Fwd Try.prog f35.T f35.kp Try.f35 R [] (mkFr (argL [(Value.slice A0 n0 c0)] 0)) h) = (f35.runT R A0 n0 c0 h) by kernel_rfl) H)
def f41.T : Tab := { sh := tSh, tup := tTup, keep := [], plan := [] }
def f41.kp : Keep := [([false, false, true, false, true, true], [1, 2, 15, 16, 17])]
theorem f41.good : goodCode Try.prog f41.T (rootOf Try.f41) = true := by kernel_rfl
def f41.l0 (R : Value → Heap → Prop) (A1 : Option Addr) (n1 : Nat) (c1 : Nat) (v2 : Value) (A15 : Option Addr) (n15 : Nat) (c15 : Nat) (x16 : Int) (x17 : Int) (h : Heap) : Prop := Pt Try.prog Try.f41 R [false, false, true, false, true, true] (mkFr [(1, (Value.slice A1 n1 c1)), (2, v2), (15, (Value.slice A15 n15 c15)), (16, (Value.int .i64 x16)), (17, (Value.int .i64 x17))]) h
set_option maxRecDepth 100000 in
def f41.l0T (R : Value → Heap → Prop) (A1 : Option Addr) (n1 : Nat) (c1 : Nat) (v2 : Value) (A15 : Option Addr) (n15 : Nat) (c15 : Nat) (x16 : Int) (x17 : Int) (h : Heap) : Prop :=
  splitB (decide (x17 < x16)) (ptrOk A15 fun a1_ => 0 ≤ x17 ∧ x17 < ((n15 : Nat) : Int) ∧ (∃ v2_, ldv false 1 h (Addr.add a1_ (Int.toNat x17 * 1)) = some v2_ ∧ ∃ A3_, ∃ n3_, ∃ c3_, v2_ = (Value.slice A3_ n3_ c3_) ∧ ptrOk A1 fun a4_ => 0 ≤ x17 ∧ x17 < ((n1 : Nat) : Int) ∧ (∃ v5_, ldv false 1 h (Addr.add a4_ (Int.toNat x17 * 1)) = some v5_ ∧ ∃ A6_, ∃ n6_, ∃ c6_, v5_ = (Value.slice A6_ n6_ c6_) ∧ CallF Try.prog v2 [(Value.slice A3_ n3_ c3_), (Value.slice A6_ n6_ c6_)] h fun v7_ h8_ => ∃ b9_, v7_ = (Value.bool b9_) ∧ splitB (!b9_) (R (Value.bool false) h8_) (f41.l0 R A1 n1 c1 v2 A15 n15 c15 x16 (IntKind.wrap .i64 (x17 + (1 : Int))) h8_)))) (R (Value.bool true) h)
set_option maxRecDepth 100000 in
theorem f41.l0_in {R : Value → Heap → Prop} {A1 : Option Addr} {n1 : Nat} {c1 : Nat} {v2 : Value} {A15 : Option Addr} {n15 : Nat} {c15 : Nat} {x16 : Int} {x17 : Int} {h : Heap} (H : f41.l0T R A1 n1 c1 v2 A15 n15 c15 x16 x17 h) : f41.l0 R A1 n1 c1 v2 A15 n15 c15 x16 x17 h :=
  pt_intro mixed f41.good (Eq.mpr (show (Fwd Try.prog f41.T f41.kp Try.f41 R [false, false, true, false, true, true] (mkFr [(1, (Value.slice A1 n1 c1)), (2, v2), (15, (Value.slice A15 n15 c15)), (16, (Value.int .i64 x16)), (17, (Value.int .i64 x17))]) h) = (f41.l0T R A1 n1 c1 v2 A15 n15 c15 x16 x17 h) by kernel_rfl) H)
set_option maxRecDepth 100000 in
def f41.runT (R : Value → Heap → Prop) (A0 : Option Addr) (n0 : Nat) (c0 : Nat) (A1 : Option Addr) (n1 : Nat) (c1 : Nat) (v2 : Value) (h : Heap) : Prop :=
  splitB (((n0 : Nat) : Int) != ((n1 : Nat) : Int)) (R (Value.bool false) h) (f41.l0 R A1 n1 c1 v2 A0 n0 c0 ((n0 : Nat) : Int) (0 : Int) h)
set_option maxRecDepth 100000 in
theorem f41.run {R : Value → Heap → Prop} {A0 : Option Addr} {n0 : Nat} {c0 : Nat} {A1 : Option Addr} {n1 : Nat} {c1 : Nat} {v2 : Value} {h : Heap} (H : f41.runT R A0 n0 c0 A1 n1 c1 v2 h) : Run Try.prog 41 #[(Value.slice A0 n0 c0), (Value.slice A1 n1 c1), v2] h R :=
  run_of mixed Try.func41 (by kernel_rfl) (by kernel_rfl) f41.good (Eq.mpr (show (Fwd Try.prog f41.T f41.kp Try.f41 R [] (mkFr (argL [(Value.slice A0 n0 c0), (Value.slice A1 n1 c1), v2] 0)) h) = (f41.runT R A0 n0 c0 A1 n1 c1 v2 h) by kernel_rfl) H)
def f44.T : Tab := { sh := tSh, tup := tTup, keep := [], plan := [(6, (.take 0 (.take 1 (.take 2 (.take 4 (.take 5 (.take 6 (.take 3 (.take 7 (.eff false 8 .done))))))))))] }
def f44.kp : Keep := [([false, false, true, false, true, true], [0, 1, 12, 13])]
theorem f44.good : goodCode Try.prog f44.T (rootOf Try.f44) = true := by kernel_rfl
def f44.l0 (R : Value → Heap → Prop) (A0 : Option Addr) (n0 : Nat) (c0 : Nat) (A1 : Option Addr) (n1 : Nat) (c1 : Nat) (x12 : Int) (x13 : Int) (h : Heap) : Prop := Pt Try.prog Try.f44 R [false, false, true, false, true, true] (mkFr [(0, (Value.slice A0 n0 c0)), (1, (Value.slice A1 n1 c1)), (12, (Value.int .i64 x12)), (13, (Value.int .i64 x13))]) h
set_option maxRecDepth 100000 in
def f44.l0T (R : Value → Heap → Prop) (A0 : Option Addr) (n0 : Nat) (c0 : Nat) (A1 : Option Addr) (n1 : Nat) (c1 : Nat) (x12 : Int) (x13 : Int) (h : Heap) : Prop :=
  splitB (decide (x13 < x12)) (ptrOk A0 fun a1_ => 0 ≤ x13 ∧ x13 < ((n0 : Nat) : Int) ∧ (ptrOk A1 fun a2_ => 0 ≤ x13 ∧ x13 < ((n1 : Nat) : Int) ∧ (∃ v3_, ldv true 3 h (Addr.add a1_ (Int.toNat x13 * 3)) = some v3_ ∧ ∃ v4_, ldv true 3 h (Addr.add a2_ (Int.toNat x13 * 3)) = some v4_ ∧ Gen Try.prog (do eqGuard .neq 71 (.tmp 19) (.tmp 23) v3_ v4_; binOp .neq 71 v3_ v4_) h fun v5_ h6_ => ∃ b7_, v5_ = Value.bool b7_ ∧ splitB b7_ (R (Value.bool false) h6_) (f44.l0 R A0 n0 c0 A1 n1 c1 x12 (IntKind.wrap .i64 (x13 + (1 : Int))) h6_)))) (R (Value.bool true) h)
set_option maxRecDepth 100000 in
theorem f44.l0_in {R : Value → Heap → Prop} {A0 : Option Addr} {n0 : Nat} {c0 : Nat} {A1 : Option Addr} {n1 : Nat} {c1 : Nat} {x12 : Int} {x13 : Int} {h : Heap} (H : f44.l0T R A0 n0 c0 A1 n1 c1 x12 x13 h) : f44.l0 R A0 n0 c0 A1 n1 c1 x12 x13 h :=
  pt_intro mixed f44.good (Eq.mpr (show (Fwd Try.prog f44.T f44.kp Try.f44 R [false, false, true, false, true, true] (mkFr [(0, (Value.slice A0 n0 c0)), (1, (Value.slice A1 n1 c1)), (12, (Value.int .i64 x12)), (13, (Value.int .i64 x13))]) h) = (f44.l0T R A0 n0 c0 A1 n1 c1 x12 x13 h) by kernel_rfl) H)
set_option maxRecDepth 100000 in
def f44.runT (R : Value → Heap → Prop) (A0 : Option Addr) (n0 : Nat) (c0 : Nat) (A1 : Option Addr) (n1 : Nat) (c1 : Nat) (h : Heap) : Prop :=
  splitB (((n0 : Nat) : Int) != ((n1 : Nat) : Int)) (R (Value.bool false) h) (f44.l0 R A0 n0 c0 A1 n1 c1 ((n0 : Nat) : Int) (0 : Int) h)
set_option maxRecDepth 100000 in
theorem f44.run {R : Value → Heap → Prop} {A0 : Option Addr} {n0 : Nat} {c0 : Nat} {A1 : Option Addr} {n1 : Nat} {c1 : Nat} {h : Heap} (H : f44.runT R A0 n0 c0 A1 n1 c1 h) : Run Try.prog 44 #[(Value.slice A0 n0 c0), (Value.slice A1 n1 c1)] h R :=
  run_of mixed Try.func44 (by kernel_rfl) (by kernel_rfl) f44.good (Eq.mpr (show (Fwd Try.prog f44.T f44.kp Try.f44 R [] (mkFr (argL [(Value.slice A0 n0 c0), (Value.slice A1 n1 c1)] 0)) h) = (f44.runT R A0 n0 c0 A1 n1 c1 h) by kernel_rfl) H)
def f94.T : Tab := { sh := tSh, tup := tTup, keep := [], plan := [] }
def f94.kp : Keep := []
theorem f94.good : goodCode Try.prog f94.T (rootOf Try.f94) = true := by kernel_rfl
set_option maxRecDepth 100000 in
theorem f94.ok : calleeOk Try.prog 94 = true := by kernel_rfl
set_option maxRecDepth 100000 in
def f94.runT (R : Value → Heap → Prop) (A0 : Option Addr) (n0 : Nat) (c0 : Nat) (A1 : Option Addr) (n1 : Nat) (c1 : Nat) (h : Heap) : Prop :=
  Run Try.prog 44 #[(Value.slice A0 n0 c0), (Value.slice A1 n1 c1)] h fun v1_ h2_ => ∃ b3_, v1_ = (Value.bool b3_) ∧ R (Value.bool b3_) h2_
set_option maxRecDepth 100000 in
theorem f94.run {R : Value → Heap → Prop} {A0 : Option Addr} {n0 : Nat} {c0 : Nat} {A1 : Option Addr} {n1 : Nat} {c1 : Nat} {h : Heap} (H : f94.runT R A0 n0 c0 A1 n1 c1 h) : Run Try.prog 94 #[(Value.slice A0 n0 c0), (Value.slice A1 n1 c1)] h R :=
  run_of mixed Try.func94 (by kernel_rfl) (by kernel_rfl) f94.good (Eq.mpr (show (Fwd Try.prog f94.T f94.kp Try.f94 R [] (mkFr (argL [(Value.slice A0 n0 c0), (Value.slice A1 n1 c1)] 0)) h) = (f94.runT R A0 n0 c0 A1 n1 c1 h) by kernel_rfl) H)
def f36.T : Tab := { sh := tSh, tup := tTup, keep := [], plan := [] }
def f36.kp : Keep := []
theorem f36.good : goodCode Try.prog f36.T (rootOf Try.f36) = true := by kernel_rfl
set_option maxRecDepth 100000 in
def f36.runT (R : Value → Heap → Prop) (A0 : Option Addr) (n0 : Nat) (c0 : Nat) (A1 : Option Addr) (n1 : Nat) (c1 : Nat) (h : Heap) : Prop :=
  Run Try.prog 35 #[(Value.slice A0 n0 c0)] h fun v1_ h2_ => ∃ A3_, ∃ n3_, ∃ c3_, ∃ x4_, v1_ = (Value.tuple #[(Value.slice A3_ n3_ c3_), (Value.int .i64 x4_)]) ∧ splitB (x4_ != (0 : Int)) (R (Value.tuple #[(Value.bool false), (Value.int .i64 x4_)]) h2_) (Run Try.prog 35 #[(Value.slice A1 n1 c1)] h2_ fun v5_ h6_ => ∃ A7_, ∃ n7_, ∃ c7_, ∃ x8_, v5_ = (Value.tuple #[(Value.slice A7_ n7_ c7_), (Value.int .i64 x8_)]) ∧ splitB (x8_ != (0 : Int)) (R (Value.tuple #[(Value.bool false), (Value.int .i64 x8_)]) h6_) (Run Try.prog 41 #[(Value.slice A3_ n3_ c3_), (Value.slice A7_ n7_ c7_), (Value.func (.func 94) #[] #[])] h6_ fun v9_ h10_ => ∃ b11_, v9_ = (Value.bool b11_) ∧ R (Value.tuple #[(Value.bool b11_), (Value.int .i64 (0 : Int))]) h10_))
set_option maxRecDepth 100000 in
theorem f36.run {R : Value → Heap → Prop} {A0 : Option Addr} {n0 : Nat} {c0 : Nat} {A1 : Option Addr} {n1 : Nat} {c1 : Nat} {h : Heap} (H : f36.runT R A0 n0 c0 A1 n1 c1 h) : Run Try.prog 36 #[(Value.slice A0 n0 c0), (Value.slice A1 n1 c1)] h R :=
  run_of mixed Try.func36 (by kernel_rfl) (by kernel_rfl) f36.good (Eq.mpr (show (Fwd Try.prog f36.T f36.kp Try.f36 R [] (mkFr (argL [(Value.slice A0 n0 c0), (Value.slice A1 n1 c1)] 0)) h) = (f36.runT R A0 n0 c0 A1 n1 c1 h) by kernel_rfl) H)
def f95.T : Tab := { sh := tSh, tup := tTup, keep := [], plan := [] }
def f95.kp : Keep := []
theorem f95.good : goodCode Try.prog f95.T (rootOf Try.f95) = true := by kernel_rfl
set_option maxRecDepth 100000 in
def f95.runT (R : Value → Heap → Prop) (A0 : Option Addr) (n0 : Nat) (c0 : Nat) (h : Heap) : Prop :=
  splitB (Option.isNone A0) (R (Value.slice none 0 0) h) (newH h (Obj.cells #[] 71) fun h1_ => AppW 71 3 24 #[(Value.int .i64 (0 : Int)), (Value.int .i64 (0 : Int)), (Value.int .i64 (0 : Int))] (some ⟨Array.size h, 0, none⟩) 0 0 (Value.slice A0 n0 c0) h1_ fun v2_ h3_ => ∃ A4_, ∃ n4_, ∃ c4_, v2_ = (Value.slice A4_ n4_ c4_) ∧ R (Value.slice A4_ n4_ c4_) h3_)
set_option maxRecDepth 100000 in
theorem f95.run {R : Value → Heap → Prop} {A0 : Option Addr} {n0 : Nat} {c0 : Nat} {h : Heap} (H : f95.runT R A0 n0 c0 h) : Run Try.prog 95 #[(Value.slice A0 n0 c0)] h R :=
  run_of mixed Try.func95 (by kernel_rfl) (by kernel_rfl) f95.good (Eq.mpr (show (Fwd Try.prog f95.T f95.kp Try.f95 R [] (mkFr (argL [(Value.slice A0 n0 c0)] 0)) h) = (f95.runT R A0 n0 c0 h) by kernel_rfl) H)
def f137.T : Tab := { sh := tSh, tup := tTup, keep := [], plan := [] }
def f137.kp : Keep := [([false, false, true, false, true], [0, 1, 7, 8])]
theorem f137.good : goodCode Try.prog f137.T (rootOf Try.f137) = true := by kernel_rfl
def f137.l0 (R : Value → Heap → Prop) (A0 : Option Addr) (n0 : Nat) (c0 : Nat) (v1 : Value) (x7 : Int) (x8 : Int) (h : Heap) : Prop := Pt Try.prog Try.f137 R [false, false, true, false, true] (mkFr [(0, (Value.slice A0 n0 c0)), (1, v1), (7, (Value.int .i64 x7)), (8, (Value.int .i64 x8))]) h
set_option maxRecDepth 100000 in
def f137.l0T (R : Value → Heap → Prop) (A0 : Option Addr) (n0 : Nat) (c0 : Nat) (v1 : Value) (x7 : Int) (x8 : Int) (h : Heap) : Prop :=
  splitB (decide (x8 < x7)) (ptrOk A0 fun a1_ => 0 ≤ x8 ∧ x8 < ((n0 : Nat) : Int) ∧ (∃ v2_, ldv true 3 h (Addr.add a1_ (Int.toNat x8 * 3)) = some v2_ ∧ CallF Try.prog v1 [v2_] h fun v3_ h4_ => ∃ b5_, v3_ = (Value.bool b5_) ∧ splitB b5_ (R (Value.int .i64 x8) h4_) (f137.l0 R A0 n0 c0 v1 x7 (IntKind.wrap .i64 (x8 + (1 : Int))) h4_))) (R (Value.int .i64 (-1 : Int)) h)
set_option maxRecDepth 100000 in
theorem f137.l0_in {R : Value → Heap → Prop} {A0 : Option Addr} {n0 : Nat} {c0 : Nat} {v1 : Value} {x7 : Int} {x8 : Int} {h : Heap} (H : f137.l0T R A0 n0 c0 v1 x7 x8 h) : f137.l0 R A0 n0 c0 v1 x7 x8 h :=
  pt_intro mixed f137.good (Eq.mpr (show (Fwd Try.prog f137.T f137.kp Try.f137 R [false, false, true, false, true] (mkFr [(0, (Value.slice A0 n0 c0)), (1, v1), (7, (Value.int .i64 x7)), (8, (Value.int .i64 x8))]) h) = (f137.l0T R A0 n0 c0 v1 x7 x8 h) by kernel_rfl) H)
set_option maxRecDepth 100000 in
def f137.runT (R : Value → Heap → Prop) (A0 : Option Addr) (n0 : Nat) (c0 : Nat) (v1 : Value) (h : Heap) : Prop :=
  f137.l0 R A0 n0 c0 v1 ((n0 : Nat) : Int) (0 : Int) h
set_option maxRecDepth 100000 in
theorem f137.run {R : Value → Heap → Prop} {A0 : Option Addr} {n0 : Nat} {c0 : Nat} {v1 : Value} {h : Heap} (H : f137.runT R A0 n0 c0 v1 h) : Run Try.prog 137 #[(Value.slice A0 n0 c0), v1] h R :=
  run_of mixed Try.func137 (by kernel_rfl) (by kernel_rfl) f137.good (Eq.mpr (show (Fwd Try.prog f137.T f137.kp Try.f137 R [] (mkFr (argL [(Value.slice A0 n0 c0), v1] 0)) h) = (f137.runT R A0 n0 c0 v1 h) by kernel_rfl) H)
def f96.T : Tab := { sh := tSh, tup := tTup, keep := [], plan := [] }
def f96.kp : Keep := []
theorem f96.good : goodCode Try.prog f96.T (rootOf Try.f96) = true := by kernel_rfl
set_option maxRecDepth 100000 in
def f96.runT (R : Value → Heap → Prop) (A0 : Option Addr) (n0 : Nat) (c0 : Nat) (v1 : Value) (h : Heap) : Prop :=
  Run Try.prog 137 #[(Value.slice A0 n0 c0), v1] h fun v1_ h2_ => ∃ x3_, v1_ = (Value.int .i64 x3_) ∧ R (Value.bool (decide (x3_ ≥ (0 : Int)))) h2_
set_option maxRecDepth 100000 in
theorem f96.run {R : Value → Heap → Prop} {A0 : Option Addr} {n0 : Nat} {c0 : Nat} {v1 : Value} {h : Heap} (H : f96.runT R A0 n0 c0 v1 h) : Run Try.prog 96 #[(Value.slice A0 n0 c0), v1] h R :=
  run_of mixed Try.func96 (by kernel_rfl) (by kernel_rfl) f96.good (Eq.mpr (show (Fwd Try.prog f96.T f96.kp Try.f96 R [] (mkFr (argL [(Value.slice A0 n0 c0), v1] 0)) h) = (f96.runT R A0 n0 c0 v1 h) by kernel_rfl) H)
def f97.T : Tab := { sh := tSh, tup := tTup, keep := [], plan := [] }
def f97.kp : Keep := []
theorem f97.good : goodCode Try.prog f97.T (rootOf Try.f97) = true := by kernel_rfl
set_option maxRecDepth 100000 in
theorem f97.ok : calleeOk Try.prog 97 = true := by kernel_rfl
set_option maxRecDepth 100000 in
def f97.runT (R : Value → Heap → Prop) (v0 : Value) (a1 : Addr) (h : Heap) : Prop :=
  newH h (Obj.cells ((v0).cells) 71) fun h1_ => ∃ v2_, ldv true 3 h1_ (⟨Array.size h, 0, none⟩) = some v2_ ∧ ∃ v3_, ldv true 3 h1_ a1 = some v3_ ∧ Run Try.prog 91 #[v2_, v3_] h1_ fun v4_ h5_ => ∃ b6_, v4_ = (Value.bool b6_) ∧ R (Value.bool b6_) h5_
set_option maxRecDepth 100000 in
theorem f97.run {R : Value → Heap → Prop} {v0 : Value} {a1 : Addr} {h : Heap} (H : f97.runT R v0 a1 h) : Run Try.prog 97 #[v0, (Value.pointer (some a1))] h R :=
  run_of mixed Try.func97 (by kernel_rfl) (by kernel_rfl) f97.good (Eq.mpr (show (Fwd Try.prog f97.T f97.kp Try.f97 R [] (mkFr (argL [v0, (Value.pointer (some a1))] 0)) h) = (f97.runT R v0 a1 h) by kernel_rfl) H)
def f98.T : Tab := { sh := tSh, tup := tTup, keep := [], plan := [(5, (.take 0 (.take 1 (.take 2 (.take 3 (.take 4 (.take 5 (.eff false 6 (.take 7 .done)))))))))] }
def f98.kp : Keep := []
theorem f98.good : goodCode Try.prog f98.T (rootOf Try.f98) = true := by kernel_rfl
set_option maxRecDepth 100000 in
def f98.runT (R : Value → Heap → Prop) (A0 : Option Addr) (n0 : Nat) (c0 : Nat) (x1 : Int) (x2 : Int) (h : Heap) : Prop :=
  0 ≤ x1 ∧ x1 ≤ x2 ∧ x2 ≤ ((n0 : Nat) : Int) ∧ ((n0 : Nat) : Int) ≤ ((c0 : Nat) : Int) ∧ (splitB (x1 == x2) (R (Value.slice A0 n0 c0) h) (0 ≤ (0 : Int) ∧ (0 : Int) ≤ x1 ∧ x1 ≤ ((c0 : Nat) : Int) ∧ (0 ≤ x2 ∧ x2 ≤ ((n0 : Nat) : Int) ∧ ((n0 : Nat) : Int) ≤ ((c0 : Nat) : Int) ∧ (AppW 71 3 24 #[(Value.int .i64 (0 : Int)), (Value.int .i64 (0 : Int)), (Value.int .i64 (0 : Int))] (sliceA A0 (Int.toNat (0 : Int)) c0 3) (Int.toNat x1 - Int.toNat (0 : Int)) (c0 - Int.toNat (0 : Int)) (Value.slice (sliceA A0 (Int.toNat x2) c0 3) (Int.toNat ((n0 : Nat) : Int) - Int.toNat x2) (c0 - Int.toNat x2)) h fun v1_ h2_ => ∃ A3_, ∃ n3_, ∃ c3_, v1_ = (Value.slice A3_ n3_ c3_) ∧ 0 ≤ ((n3_ : Nat) : Int) ∧ ((n3_ : Nat) : Int) ≤ ((n0 : Nat) : Int) ∧ ((n0 : Nat) : Int) ≤ ((c3_ : Nat) : Int) ∧ (Gen Try.prog (Builtin.clear_ #[72] 0 #[(Value.slice (sliceA A3_ (Int.toNat ((n3_ : Nat) : Int)) c3_ 3) (Int.toNat ((n0 : Nat) : Int) - Int.toNat ((n3_ : Nat) : Int)) (c3_ - Int.toNat ((n3_ : Nat) : Int)))]) h2_ fun v4_ h5_ => v4_ = (Value.tuple #[]) ∧ R (Value.slice A3_ n3_ c3_) h5_)))))
set_option maxRecDepth 100000 in
theorem f98.run {R : Value → Heap → Prop} {A0 : Option Addr} {n0 : Nat} {c0 : Nat} {x1 : Int} {x2 : Int} {h : Heap} (H : f98.runT R A0 n0 c0 x1 x2 h) : Run Try.prog 98 #[(Value.slice A0 n0 c0), (Value.int .i64 x1), (Value.int .i64 x2)] h R :=
  run_of mixed Try.func98 (by kernel_rfl) (by kernel_rfl) f98.good (Eq.mpr (show (Fwd Try.prog f98.T f98.kp Try.f98 R [] (mkFr (argL [(Value.slice A0 n0 c0), (Value.int .i64 x1), (Value.int .i64 x2)] 0)) h) = (f98.runT R A0 n0 c0 x1 x2 h) by kernel_rfl) H)
def f37.T : Tab := { sh := tSh, tup := tTup, keep := [], plan := [(12, (.take 0 (.take 1 (.split 1 (.take 2 (.take 3 (.take 4 (.split 4 (.take 5 (.take 7 (.take 8 (.take 9 (.take 10 (.take 6 (.take 11 (.take 12 (.take 13 (.take 14 .done))))))))))))))))))] }
def f37.kp : Keep := [([false, false, false, true, true, true, true], [5, 6]), ([false, false, true, false, true, false, true, false, false, false, true, true, true, true], [5, 6, 7, 21, 22, 23]), ([true, true, true, false, false, true, true, false, false, true, false, true, false, true, false, false, false, true, true, true, true], [5, 6, 7, 8, 21, 22, 23, 48])]
theorem f37.good : goodCode Try.prog f37.T (rootOf Try.f37) = true := by kernel_rfl
def f37.l0 (R : Value → Heap → Prop) (A5 : Option Addr) (n5 : Nat) (c5 : Nat) (A6 : Option Addr) (n6 : Nat) (c6 : Nat) (h : Heap) : Prop := Pt Try.prog Try.f37 R [false, false, false, true, true, true, true] (mkFr [(5, (Value.slice A5 n5 c5)), (6, (Value.slice A6 n6 c6))]) h
def f37.l1 (R : Value → Heap → Prop) (A5 : Option Addr) (n5 : Nat) (c5 : Nat) (A6 : Option Addr) (n6 : Nat) (c6 : Nat) (x7 : Int) (A21 : Option Addr) (n21 : Nat) (c21 : Nat) (x22 : Int) (x23 : Int) (h : Heap) : Prop := Pt Try.prog Try.f37 R [false, false, true, false, true, false, true, false, false, false, true, true, true, true] (mkFr [(5, (Value.slice A5 n5 c5)), (6, (Value.slice A6 n6 c6)), (7, (Value.int .i64 x7)), (21, (Value.slice A21 n21 c21)), (22, (Value.int .i64 x22)), (23, (Value.int .i64 x23))]) h
def f37.j0 (R : Value → Heap → Prop) (A5 : Option Addr) (n5 : Nat) (c5 : Nat) (A6 : Option Addr) (n6 : Nat) (c6 : Nat) (x7 : Int) (x8 : Int) (A21 : Option Addr) (n21 : Nat) (c21 : Nat) (x22 : Int) (x23 : Int) (b48 : Bool) (h : Heap) : Prop := Pt Try.prog Try.f37 R [true, true, true, false, false, true, true, false, false, true, false, true, false, true, false, false, false, true, true, true, true] (mkFr [(5, (Value.slice A5 n5 c5)), (6, (Value.slice A6 n6 c6)), (7, (Value.int .i64 x7)), (8, (Value.int .i64 x8)), (21, (Value.slice A21 n21 c21)), (22, (Value.int .i64 x22)), (23, (Value.int .i64 x23)), (48, (Value.bool b48))]) h
set_option maxRecDepth 100000 in
def f37.l0T (R : Value → Heap → Prop) (A5 : Option Addr) (n5 : Nat) (c5 : Nat) (A6 : Option Addr) (n6 : Nat) (c6 : Nat) (h : Heap) : Prop :=
  splitB (decide (((n5 : Nat) : Int) > (0 : Int))) (f37.l1 R A5 n5 c5 A6 n6 c6 (-1 : Int) A5 n5 c5 ((n5 : Nat) : Int) (0 : Int) h) (R (Value.tuple #[(Value.slice A6 n6 c6), (Value.int .i64 (0 : Int))]) h)
set_option maxRecDepth 100000 in
theorem f37.l0_in {R : Value → Heap → Prop} {A5 : Option Addr} {n5 : Nat} {c5 : Nat} {A6 : Option Addr} {n6 : Nat} {c6 : Nat} {h : Heap} (H : f37.l0T R A5 n5 c5 A6 n6 c6 h) : f37.l0 R A5 n5 c5 A6 n6 c6 h :=
  pt_intro mixed f37.good (Eq.mpr (show (Fwd Try.prog f37.T f37.kp Try.f37 R [false, false, false, true, true, true, true] (mkFr [(5, (Value.slice A5 n5 c5)), (6, (Value.slice A6 n6 c6))]) h) = (f37.l0T R A5 n5 c5 A6 n6 c6 h) by kernel_rfl) H)
set_option maxRecDepth 100000 in
def f37.l1T (R : Value → Heap → Prop) (A5 : Option Addr) (n5 : Nat) (c5 : Nat) (A6 : Option Addr) (n6 : Nat) (c6 : Nat) (x7 : Int) (A21 : Option Addr) (n21 : Nat) (c21 : Nat) (x22 : Int) (x23 : Int) (h : Heap) : Prop :=
  splitB (decide (x23 < x22)) (ptrOk A21 fun a1_ => 0 ≤ x23 ∧ x23 < ((n21 : Nat) : Int) ∧ (∃ v2_, ldv true 3 h (Addr.add a1_ (Int.toNat x23 * 3)) = some v2_ ∧ newH h (Obj.cells #[(Value.int .i64 (0 : Int)), (Value.int .i64 (0 : Int)), (Value.int .i64 (0 : Int))] 71) fun h3_ => ∃ l5_ : List Value, v2_ = Value.agg l5_.toArray ∧ l5_.length = 3 ∧ ∃ h4_, stH h3_ (⟨Array.size h, 0, none⟩) l5_ 0 = some h4_ ∧ 0 ≤ (0 : Int) ∧ (0 : Int) ≤ x23 ∧ x23 ≤ ((c5 : Nat) : Int) ∧ (Run Try.prog 96 #[(Value.slice (sliceA A5 (Int.toNat (0 : Int)) c5 3) (Int.toNat x23 - Int.toNat (0 : Int)) (c5 - Int.toNat (0 : Int))), (Value.func (.func 97) #[] #[(Value.pointer (some ⟨Array.size h, 0, none⟩))])] h4_ fun v6_ h7_ => ∃ b8_, v6_ = (Value.bool b8_) ∧ splitB (!b8_) (splitB (decide (x7 < (0 : Int))) (f37.j0 R A5 n5 c5 A6 n6 c6 x7 x23 A21 n21 c21 x22 x23 true h7_) (ptrOk A5 fun a9_ => 0 ≤ x7 ∧ x7 < ((n5 : Nat) : Int) ∧ (∃ v10_, ldv false 1 h7_ (⟨Array.size h, 0, none⟩) = some v10_ ∧ ∃ x11_, v10_ = (Value.int .i64 x11_) ∧ ∃ v12_, ldv false 1 h7_ (Addr.add a9_ (Int.toNat x7 * 3)) = some v12_ ∧ ∃ x13_, v12_ = (Value.int .i64 x13_) ∧ f37.j0 R A5 n5 c5 A6 n6 c6 x7 x23 A21 n21 c21 x22 x23 (decide (x11_ < x13_)) h7_))) (f37.j0 R A5 n5 c5 A6 n6 c6 x7 x23 A21 n21 c21 x22 x23 false h7_)))) (ptrOk A5 fun a14_ => 0 ≤ x7 ∧ x7 < ((n5 : Nat) : Int) ∧ (∃ v15_, ldv true 3 h (Addr.add a14_ (Int.toNat x7 * 3)) = some v15_ ∧ ∃ l16_ : List Value, v15_ = Value.agg l16_.toArray ∧ l16_.length = 3 ∧ (newH h (Obj.cells ((List.take 0 ([(Value.int .i64 (0 : Int)), (Value.int .i64 (0 : Int)), (Value.int .i64 (0 : Int))]) ++ l16_ ++ List.drop 3 ([(Value.int .i64 (0 : Int)), (Value.int .i64 (0 : Int)), (Value.int .i64 (0 : Int))])).toArray) 71) fun h17_ => AppW 71 3 24 #[(Value.int .i64 (0 : Int)), (Value.int .i64 (0 : Int)), (Value.int .i64 (0 : Int))] A6 n6 c6 (Value.slice (some ⟨Array.size h, 0, none⟩) 1 1) h17_ fun v18_ h19_ => ∃ A20_, ∃ n20_, ∃ c20_, v18_ = (Value.slice A20_ n20_ c20_) ∧ Run Try.prog 98 #[(Value.slice A5 n5 c5), (Value.int .i64 x7), (Value.int .i64 (IntKind.wrap .i64 (x7 + (1 : Int))))] h19_ fun v21_ h22_ => ∃ A23_, ∃ n23_, ∃ c23_, v21_ = (Value.slice A23_ n23_ c23_) ∧ f37.l0 R A23_ n23_ c23_ A20_ n20_ c20_ h22_)))
set_option maxRecDepth 100000 in
theorem f37.l1_in {R : Value → Heap → Prop} {A5 : Option Addr} {n5 : Nat} {c5 : Nat} {A6 : Option Addr} {n6 : Nat} {c6 : Nat} {x7 : Int} {A21 : Option Addr} {n21 : Nat} {c21 : Nat} {x22 : Int} {x23 : Int} {h : Heap} (H : f37.l1T R A5 n5 c5 A6 n6 c6 x7 A21 n21 c21 x22 x23 h) : f37.l1 R A5 n5 c5 A6 n6 c6 x7 A21 n21 c21 x22 x23 h :=
  pt_intro mixed f37.good (Eq.mpr (show (Fwd Try.prog f37.T f37.kp Try.f37 R [false, false, true, false, true, false, true, false, false, false, true, true, true, true] (mkFr [(5, (Value.slice A5 n5 c5)), (6, (Value.slice A6 n6 c6)), (7, (Value.int .i64 x7)), (21, (Value.slice A21 n21 c21)), (22, (Value.int .i64 x22)), (23, (Value.int .i64 x23))]) h) = (f37.l1T R A5 n5 c5 A6 n6 c6 x7 A21 n21 c21 x22 x23 h) by kernel_rfl) H)
set_option maxRecDepth 100000 in
def f37.j0T (R : Value → Heap → Prop) (A5 : Option Addr) (n5 : Nat) (c5 : Nat) (A6 : Option Addr) (n6 : Nat) (c6 : Nat) (x7 : Int) (x8 : Int) (A21 : Option Addr) (n21 : Nat) (c21 : Nat) (x22 : Int) (x23 : Int) (b48 : Bool) (h : Heap) : Prop :=
  splitB b48 (f37.l1 R A5 n5 c5 A6 n6 c6 x8 A21 n21 c21 x22 (IntKind.wrap .i64 (x23 + (1 : Int))) h) (f37.l1 R A5 n5 c5 A6 n6 c6 x7 A21 n21 c21 x22 (IntKind.wrap .i64 (x23 + (1 : Int))) h)
set_option maxRecDepth 100000 in
theorem f37.j0_in {R : Value → Heap → Prop} {A5 : Option Addr} {n5 : Nat} {c5 : Nat} {A6 : Option Addr} {n6 : Nat} {c6 : Nat} {x7 : Int} {x8 : Int} {A21 : Option Addr} {n21 : Nat} {c21 : Nat} {x22 : Int} {x23 : Int} {b48 : Bool} {h : Heap} (H : f37.j0T R A5 n5 c5 A6 n6 c6 x7 x8 A21 n21 c21 x22 x23 b48 h) : f37.j0 R A5 n5 c5 A6 n6 c6 x7 x8 A21 n21 c21 x22 x23 b48 h :=
  pt_intro mixed f37.good (Eq.mpr (show (Fwd Try.prog f37.T f37.kp Try.f37 R [true, true, true, false, false, true, true, false, false, true, false, true, false, true, false, false, false, true, true, true, true] (mkFr [(5, (Value.slice A5 n5 c5)), (6, (Value.slice A6 n6 c6)), (7, (Value.int .i64 x7)), (8, (Value.int .i64 x8)), (21, (Value.slice A21 n21 c21)), (22, (Value.int .i64 x22)), (23, (Value.int .i64 x23)), (48, (Value.bool b48))]) h) = (f37.j0T R A5 n5 c5 A6 n6 c6 x7 x8 A21 n21 c21 x22 x23 b48 h) by kernel_rfl) H)
set_option maxRecDepth 100000 in
def f37.runT (R : Value → Heap → Prop) (A0 : Option Addr) (n0 : Nat) (c0 : Nat) (h : Heap) : Prop :=
  Run Try.prog 40 #[(Value.slice A0 n0 c0)] h fun v1_ h2_ => ∃ x3_, v1_ = (Value.int .i64 x3_) ∧ splitB (x3_ != (0 : Int)) (R (Value.tuple #[(Value.slice none 0 0), (Value.int .i64 x3_)]) h2_) (Run Try.prog 95 #[(Value.slice A0 n0 c0)] h2_ fun v4_ h5_ => ∃ A6_, ∃ n6_, ∃ c6_, v4_ = (Value.slice A6_ n6_ c6_) ∧ f37.l0 R A6_ n6_ c6_ none 0 0 h5_)
set_option maxRecDepth 100000 in
theorem f37.run {R : Value → Heap → Prop} {A0 : Option Addr} {n0 : Nat} {c0 : Nat} {h : Heap} (H : f37.runT R A0 n0 c0 h) : Run Try.prog 37 #[(Value.slice A0 n0 c0)] h R :=
  run_of mixed Try.func37 (by kernel_rfl) (by kernel_rfl) f37.good (Eq.mpr (show (Fwd Try.prog f37.T f37.kp Try.f37 R [] (mkFr (argL [(Value.slice A0 n0 c0)] 0)) h) = (f37.runT R A0 n0 c0 h) by kernel_rfl) H)
def f38.T : Tab := { sh := tSh, tup := tTup, keep := [], plan := [(11, (.take 0 (.take 1 (.take 2 (.take 4 (.take 5 (.take 6 (.take 3 (.take 7 (.eff false 8 (.take 9 .done)))))))))))] }
def f38.kp : Keep := [([false, false, true, false, true, true, true], [0, 5, 14, 15]), ([false, false, true, true, false, false, true, true, false, false, true, false, true, true, true], [0, 5, 6, 14, 15, 18, 19])]
theorem f38.good : goodCode Try.prog f38.T (rootOf Try.f38) = true := by kernel_rfl
def f38.l0 (R : Value → Heap → Prop) (A0 : Option Addr) (n0 : Nat) (c0 : Nat) (x5 : Int) (x14 : Int) (x15 : Int) (h : Heap) : Prop := Pt Try.prog Try.f38 R [false, false, true, false, true, true, true] (mkFr [(0, (Value.slice A0 n0 c0)), (5, (Value.int .i64 x5)), (14, (Value.int .i64 x14)), (15, (Value.int .i64 x15))]) h
def f38.l1 (R : Value → Heap → Prop) (A0 : Option Addr) (n0 : Nat) (c0 : Nat) (x5 : Int) (x6 : Int) (x14 : Int) (x15 : Int) (x18 : Int) (x19 : Int) (h : Heap) : Prop := Pt Try.prog Try.f38 R [false, false, true, true, false, false, true, true, false, false, true, false, true, true, true] (mkFr [(0, (Value.slice A0 n0 c0)), (5, (Value.int .i64 x5)), (6, (Value.int .i64 x6)), (14, (Value.int .i64 x14)), (15, (Value.int .i64 x15)), (18, (Value.int .i64 x18)), (19, (Value.int .i64 x19))]) h
set_option maxRecDepth 100000 in
def f38.l0T (R : Value → Heap → Prop) (A0 : Option Addr) (n0 : Nat) (c0 : Nat) (x5 : Int) (x14 : Int) (x15 : Int) (h : Heap) : Prop :=
  splitB (decide (x15 < x14)) (f38.l1 R A0 n0 c0 x5 x15 x14 x15 x15 (0 : Int) h) (R (Value.tuple #[(Value.int .i64 x5), (Value.int .i64 (0 : Int))]) h)
set_option maxRecDepth 100000 in
theorem f38.l0_in {R : Value → Heap → Prop} {A0 : Option Addr} {n0 : Nat} {c0 : Nat} {x5 : Int} {x14 : Int} {x15 : Int} {h : Heap} (H : f38.l0T R A0 n0 c0 x5 x14 x15 h) : f38.l0 R A0 n0 c0 x5 x14 x15 h :=
  pt_intro mixed f38.good (Eq.mpr (show (Fwd Try.prog f38.T f38.kp Try.f38 R [false, false, true, false, true, true, true] (mkFr [(0, (Value.slice A0 n0 c0)), (5, (Value.int .i64 x5)), (14, (Value.int .i64 x14)), (15, (Value.int .i64 x15))]) h) = (f38.l0T R A0 n0 c0 x5 x14 x15 h) by kernel_rfl) H)
set_option maxRecDepth 100000 in
def f38.l1T (R : Value → Heap → Prop) (A0 : Option Addr) (n0 : Nat) (c0 : Nat) (x5 : Int) (x6 : Int) (x14 : Int) (x15 : Int) (x18 : Int) (x19 : Int) (h : Heap) : Prop :=
  splitB (decide (x19 < x18)) (ptrOk A0 fun a1_ => 0 ≤ x19 ∧ x19 < ((n0 : Nat) : Int) ∧ (ptrOk A0 fun a2_ => 0 ≤ x6 ∧ x6 < ((n0 : Nat) : Int) ∧ (∃ v3_, ldv true 3 h (Addr.add a1_ (Int.toNat x19 * 3)) = some v3_ ∧ ∃ v4_, ldv true 3 h (Addr.add a2_ (Int.toNat x6 * 3)) = some v4_ ∧ Run Try.prog 91 #[v3_, v4_] h fun v5_ h6_ => ∃ b7_, v5_ = (Value.bool b7_) ∧ splitB (!b7_) (f38.l1 R A0 n0 c0 (IntKind.wrap .i64 (x5 + (1 : Int))) x6 x14 x15 x18 (IntKind.wrap .i64 (x19 + (1 : Int))) h6_) (f38.l1 R A0 n0 c0 x5 x6 x14 x15 x18 (IntKind.wrap .i64 (x19 + (1 : Int))) h6_)))) (f38.l0 R A0 n0 c0 x5 x14 (IntKind.wrap .i64 (x15 + (1 : Int))) h)
set_option maxRecDepth 100000 in
theorem f38.l1_in {R : Value → Heap → Prop} {A0 : Option Addr} {n0 : Nat} {c0 : Nat} {x5 : Int} {x6 : Int} {x14 : Int} {x15 : Int} {x18 : Int} {x19 : Int} {h : Heap} (H : f38.l1T R A0 n0 c0 x5 x6 x14 x15 x18 x19 h) : f38.l1 R A0 n0 c0 x5 x6 x14 x15 x18 x19 h :=
  pt_intro mixed f38.good (Eq.mpr (show (Fwd Try.prog f38.T f38.kp Try.f38 R [false, false, true, true, false, false, true, true, false, false, true, false, true, true, true] (mkFr [(0, (Value.slice A0 n0 c0)), (5, (Value.int .i64 x5)), (6, (Value.int .i64 x6)), (14, (Value.int .i64 x14)), (15, (Value.int .i64 x15)), (18, (Value.int .i64 x18)), (19, (Value.int .i64 x19))]) h) = (f38.l1T R A0 n0 c0 x5 x6 x14 x15 x18 x19 h) by kernel_rfl) H)
set_option maxRecDepth 100000 in
def f38.runT (R : Value → Heap → Prop) (A0 : Option Addr) (n0 : Nat) (c0 : Nat) (h : Heap) : Prop :=
  Run Try.prog 40 #[(Value.slice A0 n0 c0)] h fun v1_ h2_ => ∃ x3_, v1_ = (Value.int .i64 x3_) ∧ splitB (x3_ != (0 : Int)) (R (Value.tuple #[(Value.int .i64 (0 : Int)), (Value.int .i64 x3_)]) h2_) (f38.l0 R A0 n0 c0 (0 : Int) ((n0 : Nat) : Int) (0 : Int) h2_)
set_option maxRecDepth 100000 in
theorem f38.run {R : Value → Heap → Prop} {A0 : Option Addr} {n0 : Nat} {c0 : Nat} {h : Heap} (H : f38.runT R A0 n0 c0 h) : Run Try.prog 38 #[(Value.slice A0 n0 c0)] h R :=
  run_of mixed Try.func38 (by kernel_rfl) (by kernel_rfl) f38.good (Eq.mpr (show (Fwd Try.prog f38.T f38.kp Try.f38 R [] (mkFr (argL [(Value.slice A0 n0 c0)] 0)) h) = (f38.runT R A0 n0 c0 h) by kernel_rfl) H)
def f99.T : Tab := { sh := tSh, tup := tTup, keep := [], plan := [] }
def f99.kp : Keep := []
theorem f99.good : goodCode Try.prog f99.T (rootOf Try.f99) = true := by kernel_rfl
set_option maxRecDepth 100000 in
def f99.runT (R : Value → Heap → Prop) (x0 : Int) (x1 : Int) (x2 : Int) (h : Heap) : Prop :=
  splitB (decide (x0 ≥ x1)) (R (Value.bool (decide (x0 ≤ x2))) h) (R (Value.bool false) h)
set_option maxRecDepth 100000 in
theorem f99.run {R : Value → Heap → Prop} {x0 : Int} {x1 : Int} {x2 : Int} {h : Heap} (H : f99.runT R x0 x1 x2 h) : Run Try.prog 99 #[(Value.int .i64 x0), (Value.int .i64 x1), (Value.int .i64 x2)] h R :=
  run_of mixed Try.func99 (by kernel_rfl) (by kernel_rfl) f99.good (Eq.mpr (show (Fwd Try.prog f99.T f99.kp Try.f99 R [] (mkFr (argL [(Value.int .i64 x0), (Value.int .i64 x1), (Value.int .i64 x2)] 0)) h) = (f99.runT R x0 x1 x2 h) by kernel_rfl) H)
def f39.T : Tab := { sh := tSh, tup := tTup, keep := [], plan := [] }
def f39.kp : Keep := [([false, false, true, false, true, true], [8, 9, 10])]
theorem f39.good : goodCode Try.prog f39.T (rootOf Try.f39) = true := by kernel_rfl
def f39.l0 (R : Value → Heap → Prop) (A8 : Option Addr) (n8 : Nat) (c8 : Nat) (x9 : Int) (x10 : Int) (h : Heap) : Prop := Pt Try.prog Try.f39 R [false, false, true, false, true, true] (mkFr [(8, (Value.slice A8 n8 c8)), (9, (Value.int .i64 x9)), (10, (Value.int .i64 x10))]) h
set_option maxRecDepth 100000 in
def f39.l0T (R : Value → Heap → Prop) (A8 : Option Addr) (n8 : Nat) (c8 : Nat) (x9 : Int) (x10 : Int) (h : Heap) : Prop :=
  splitB (decide (x10 < x9)) (ptrOk A8 fun a1_ => 0 ≤ x10 ∧ x10 < ((n8 : Nat) : Int) ∧ (∃ v2_, ldv true 3 h (Addr.add a1_ (Int.toNat x10 * 3)) = some v2_ ∧ newH h (Obj.cells #[(Value.int .i64 (0 : Int)), (Value.int .i64 (0 : Int)), (Value.int .i64 (0 : Int))] 88) fun h3_ => ∃ l5_ : List Value, v2_ = Value.agg l5_.toArray ∧ l5_.length = 3 ∧ ∃ h4_, stH h3_ (⟨Array.size h, 0, none⟩) l5_ 0 = some h4_ ∧ ∃ v6_, ldv false 1 h4_ (⟨Array.size h, 0, none⟩) = some v6_ ∧ ∃ x7_, v6_ = (Value.int .i64 x7_) ∧ Run Try.prog 99 #[(Value.int .i64 x7_), (Value.int .i64 (0 : Int)), (Value.int .i64 (7 : Int))] h4_ fun v8_ h9_ => ∃ b10_, v8_ = (Value.bool b10_) ∧ splitB (!b10_) (R (Value.int .i64 (1 : Int)) h9_) (∃ v11_, ldv false 1 h9_ (Addr.add (⟨Array.size h, 0, none⟩) 1) = some v11_ ∧ ∃ x12_, v11_ = (Value.int .i64 x12_) ∧ Run Try.prog 99 #[(Value.int .i64 x12_), (Value.int .i64 (0 : Int)), (Value.int .i64 (255 : Int))] h9_ fun v13_ h14_ => ∃ b15_, v13_ = (Value.bool b15_) ∧ splitB (!b15_) (R (Value.int .i64 (1 : Int)) h14_) (∃ v16_, ldv false 1 h14_ (Addr.add (⟨Array.size h, 0, none⟩) 2) = some v16_ ∧ ∃ x17_, v16_ = (Value.int .i64 x17_) ∧ Run Try.prog 99 #[(Value.int .i64 x17_), (Value.int .i64 (0 : Int)), (Value.int .i64 (255 : Int))] h14_ fun v18_ h19_ => ∃ b20_, v18_ = (Value.bool b20_) ∧ splitB (!b20_) (R (Value.int .i64 (1 : Int)) h19_) (f39.l0 R A8 n8 c8 x9 (IntKind.wrap .i64 (x10 + (1 : Int))) h19_))))) (R (Value.int .i64 (0 : Int)) h)
set_option maxRecDepth 100000 in
theorem f39.l0_in {R : Value → Heap → Prop} {A8 : Option Addr} {n8 : Nat} {c8 : Nat} {x9 : Int} {x10 : Int} {h : Heap} (H : f39.l0T R A8 n8 c8 x9 x10 h) : f39.l0 R A8 n8 c8 x9 x10 h :=
  pt_intro mixed f39.good (Eq.mpr (show (Fwd Try.prog f39.T f39.kp Try.f39 R [false, false, true, false, true, true] (mkFr [(8, (Value.slice A8 n8 c8)), (9, (Value.int .i64 x9)), (10, (Value.int .i64 x10))]) h) = (f39.l0T R A8 n8 c8 x9 x10 h) by kernel_rfl) H)
set_option maxRecDepth 100000 in
def f39.runT (R : Value → Heap → Prop) (A0 : Option Addr) (n0 : Nat) (c0 : Nat) (h : Heap) : Prop :=
  splitB (decide (((n0 : Nat) : Int) > (40 : Int))) (R (Value.int .i64 (2 : Int)) h) (f39.l0 R A0 n0 c0 ((n0 : Nat) : Int) (0 : Int) h)
set_option maxRecDepth 100000 in
theorem f39.run {R : Value → Heap → Prop} {A0 : Option Addr} {n0 : Nat} {c0 : Nat} {h : Heap} (H : f39.runT R A0 n0 c0 h) : Run Try.prog 39 #[(Value.slice A0 n0 c0)] h R :=
  run_of mixed Try.func39 (by kernel_rfl) (by kernel_rfl) f39.good (Eq.mpr (show (Fwd Try.prog f39.T f39.kp Try.f39 R [] (mkFr (argL [(Value.slice A0 n0 c0)] 0)) h) = (f39.runT R A0 n0 c0 h) by kernel_rfl) H)
def f46.T : Tab := { sh := tSh, tup := tTup, keep := [], plan := [(6, (.take 0 (.take 2 (.take 6 (.take 8 (.take 1 (.take 3 (.take 4 (.take 5 (.take 12 (.take 7 (.take 9 (.take 10 (.take 11 (.take 13 .done))))))))))))))), (7, (.take 0 (.take 2 (.take 6 (.take 8 (.take 1 (.take 3 (.take 4 (.take 5 (.take 12 (.take 7 (.take 9 (.take 10 (.take 11 (.take 13 .done)))))))))))))))] }
def f46.kp : Keep := [([false, false, true, false, true, true], [2, 3, 15])]
theorem f46.good : goodCode Try.prog f46.T (rootOf Try.f46) = true := by kernel_rfl
def f46.l0 (R : Value → Heap → Prop) (a2 : Addr) (a3 : Addr) (x15 : Int) (h : Heap) : Prop := Pt Try.prog Try.f46 R [false, false, true, false, true, true] (mkFr [(2, (Value.pointer (some a2))), (3, (Value.pointer (some a3))), (15, (Value.int .i64 x15))]) h
set_option maxRecDepth 100000 in
def f46.l0T (R : Value → Heap → Prop) (a2 : Addr) (a3 : Addr) (x15 : Int) (h : Heap) : Prop :=
  splitB (decide (x15 < (8 : Int))) (∃ v1_, ldv false 1 h (Addr.add a2 1) = some v1_ ∧ ∃ x2_, v1_ = (Value.int .i64 x2_) ∧ 0 ≤ x15 ∧ ((2 : Int) ≠ 0 ∧ (∃ v3_, ldv false 1 h (Addr.add a2 2) = some v3_ ∧ ∃ x4_, v3_ = (Value.int .i64 x4_) ∧ 0 ≤ x15 ∧ ((2 : Int) ≠ 0 ∧ (∃ v5_, ldv false 1 h (Addr.add a3 1) = some v5_ ∧ ∃ x6_, v5_ = (Value.int .i64 x6_) ∧ 0 ≤ x15 ∧ ((2 : Int) ≠ 0 ∧ (∃ v7_, ldv false 1 h (Addr.add a3 2) = some v7_ ∧ ∃ x8_, v7_ = (Value.int .i64 x8_) ∧ 0 ≤ x15 ∧ ((2 : Int) ≠ 0 ∧ (splitB ((Int.tmod (shrI .i64 x4_ x15) (2 : Int)) == (1 : Int)) (splitB ((Int.tmod (shrI .i64 x6_ x15) (2 : Int)) == (1 : Int)) (R (Value.bool true) h) (splitB ((Int.tmod (shrI .i64 x8_ x15) (2 : Int)) == (1 : Int)) (R (Value.bool true) h) (splitB ((Int.tmod (shrI .i64 x8_ x15) (2 : Int)) == (1 : Int)) (splitB ((Int.tmod (shrI .i64 x2_ x15) (2 : Int)) == (1 : Int)) (R (Value.bool true) h) (f46.l0 R a2 a3 (IntKind.wrap .i64 (x15 + (1 : Int))) h)) (f46.l0 R a2 a3 (IntKind.wrap .i64 (x15 + (1 : Int))) h)))) (splitB ((Int.tmod (shrI .i64 x8_ x15) (2 : Int)) == (1 : Int)) (splitB ((Int.tmod (shrI .i64 x2_ x15) (2 : Int)) == (1 : Int)) (R (Value.bool true) h) (f46.l0 R a2 a3 (IntKind.wrap .i64 (x15 + (1 : Int))) h)) (f46.l0 R a2 a3 (IntKind.wrap .i64 (x15 + (1 : Int))) h))))))))))) (R (Value.bool false) h)
set_option maxRecDepth 100000 in
theorem f46.l0_in {R : Value → Heap → Prop} {a2 : Addr} {a3 : Addr} {x15 : Int} {h : Heap} (H : f46.l0T R a2 a3 x15 h) : f46.l0 R a2 a3 x15 h :=
  pt_intro mixed f46.good (Eq.mpr (show (Fwd Try.prog f46.T f46.kp Try.f46 R [false, false, true, false, true, true] (mkFr [(2, (Value.pointer (some a2))), (3, (Value.pointer (some a3))), (15, (Value.int .i64 x15))]) h) = (f46.l0T R a2 a3 x15 h) by kernel_rfl) H)
set_option maxRecDepth 100000 in
def f46.runT (R : Value → Heap → Prop) (v0 : Value) (v1 : Value) (h : Heap) : Prop :=
  newH h (Obj.cells ((v0).cells) 88) fun h1_ => newH h1_ (Obj.cells ((v1).cells) 88) fun h2_ => ∃ v3_, ldv false 1 h2_ (⟨Array.size h, 0, none⟩) = some v3_ ∧ ∃ x4_, v3_ = (Value.int .i64 x4_) ∧ ∃ v5_, ldv false 1 h2_ (⟨Array.size h1_, 0, none⟩) = some v5_ ∧ ∃ x6_, v5_ = (Value.int .i64 x6_) ∧ splitB (x4_ == x6_) (R (Value.bool true) h2_) (f46.l0 R (⟨Array.size h, 0, none⟩) (⟨Array.size h1_, 0, none⟩) (0 : Int) h2_)
set_option maxRecDepth 100000 in
theorem f46.run {R : Value → Heap → Prop} {v0 : Value} {v1 : Value} {h : Heap} (H : f46.runT R v0 v1 h) : Run Try.prog 46 #[v0, v1] h R :=
  run_of mixed Try.func46 (by kernel_rfl) (by kernel_rfl) f46.good (Eq.mpr (show (Fwd Try.prog f46.T f46.kp Try.f46 R [] (mkFr (argL [v0, v1] 0)) h) = (f46.runT R v0 v1 h) by kernel_rfl) H)
def f100.T : Tab := { sh := tSh, tup := tTup, keep := [], plan := [(11, (.take 0 (.take 1 (.take 2 (.take 4 (.take 5 (.take 6 (.take 3 (.take 7 (.eff true 8 (.take 9 (.split 9 (.take 10 (.take 11 (.take 12 (.take 14 (.take 15 (.take 16 (.take 13 (.take 17 (.take 18 (.take 19 .done))))))))))))))))))))))] }
def f100.kp : Keep := [([false, false, true, false, true, true], [0, 3, 4]), ([false, false, true, true, false, true, false, false, true, false, true, true], [0, 3, 4, 12, 13]), ([false, false, true, true, false, false, true, true, false, false, true, true, false, true, false, false, true, false, true, true], [0, 3, 4, 5, 12, 13, 16, 17]), ([true, true, false, false, true, true, false, false, true, true, false, false, true, true, false, false, true, true, false, true, false, false, true, false, true, true], [0, 3, 4, 5, 6, 12, 13, 16, 17, 39])]
theorem f100.good : goodCode Try.prog f100.T (rootOf Try.f100) = true := by kernel_rfl
def f100.l0 (R : Value → Heap → Prop) (A0 : Option Addr) (n0 : Nat) (c0 : Nat) (A3 : Option Addr) (n3 : Nat) (c3 : Nat) (b4 : Bool) (h : Heap) : Prop := Pt Try.prog Try.f100 R [false, false, true, false, true, true] (mkFr [(0, (Value.slice A0 n0 c0)), (3, (Value.slice A3 n3 c3)), (4, (Value.bool b4))]) h
def f100.l1 (R : Value → Heap → Prop) (A0 : Option Addr) (n0 : Nat) (c0 : Nat) (A3 : Option Addr) (n3 : Nat) (c3 : Nat) (b4 : Bool) (x12 : Int) (x13 : Int) (h : Heap) : Prop := Pt Try.prog Try.f100 R [false, false, true, true, false, true, false, false, true, false, true, true] (mkFr [(0, (Value.slice A0 n0 c0)), (3, (Value.slice A3 n3 c3)), (4, (Value.bool b4)), (12, (Value.int .i64 x12)), (13, (Value.int .i64 x13))]) h
def f100.l2 (R : Value → Heap → Prop) (A0 : Option Addr) (n0 : Nat) (c0 : Nat) (A3 : Option Addr) (n3 : Nat) (c3 : Nat) (b4 : Bool) (x5 : Int) (x12 : Int) (x13 : Int) (x16 : Int) (x17 : Int) (h : Heap) : Prop := Pt Try.prog Try.f100 R [false, false, true, true, false, false, true, true, false, false, true, true, false, true, false, false, true, false, true, true] (mkFr [(0, (Value.slice A0 n0 c0)), (3, (Value.slice A3 n3 c3)), (4, (Value.bool b4)), (5, (Value.int .i64 x5)), (12, (Value.int .i64 x12)), (13, (Value.int .i64 x13)), (16, (Value.int .i64 x16)), (17, (Value.int .i64 x17))]) h
def f100.j0 (R : Value → Heap → Prop) (A0 : Option Addr) (n0 : Nat) (c0 : Nat) (A3 : Option Addr) (n3 : Nat) (c3 : Nat) (b4 : Bool) (x5 : Int) (x6 : Int) (x12 : Int) (x13 : Int) (x16 : Int) (x17 : Int) (b39 : Bool) (h : Heap) : Prop := Pt Try.prog Try.f100 R [true, true, false, false, true, true, false, false, true, true, false, false, true, true, false, false, true, true, false, true, false, false, true, false, true, true] (mkFr [(0, (Value.slice A0 n0 c0)), (3, (Value.slice A3 n3 c3)), (4, (Value.bool b4)), (5, (Value.int .i64 x5)), (6, (Value.int .i64 x6)), (12, (Value.int .i64 x12)), (13, (Value.int .i64 x13)), (16, (Value.int .i64 x16)), (17, (Value.int .i64 x17)), (39, (Value.bool b39))]) h
set_option maxRecDepth 100000 in
def f100.l0T (R : Value → Heap → Prop) (A0 : Option Addr) (n0 : Nat) (c0 : Nat) (A3 : Option Addr) (n3 : Nat) (c3 : Nat) (b4 : Bool) (h : Heap) : Prop :=
  splitB b4 (f100.l1 R A0 n0 c0 A3 n3 c3 false ((n0 : Nat) : Int) (0 : Int) h) (R (Value.slice A3 n3 c3) h)
set_option maxRecDepth 100000 in
theorem f100.l0_in {R : Value → Heap → Prop} {A0 : Option Addr} {n0 : Nat} {c0 : Nat} {A3 : Option Addr} {n3 : Nat} {c3 : Nat} {b4 : Bool} {h : Heap} (H : f100.l0T R A0 n0 c0 A3 n3 c3 b4 h) : f100.l0 R A0 n0 c0 A3 n3 c3 b4 h :=
  pt_intro mixed f100.good (Eq.mpr (show (Fwd Try.prog f100.T f100.kp Try.f100 R [false, false, true, false, true, true] (mkFr [(0, (Value.slice A0 n0 c0)), (3, (Value.slice A3 n3 c3)), (4, (Value.bool b4))]) h) = (f100.l0T R A0 n0 c0 A3 n3 c3 b4 h) by kernel_rfl) H)
set_option maxRecDepth 100000 in
def f100.l1T (R : Value → Heap → Prop) (A0 : Option Addr) (n0 : Nat) (c0 : Nat) (A3 : Option Addr) (n3 : Nat) (c3 : Nat) (b4 : Bool) (x12 : Int) (x13 : Int) (h : Heap) : Prop :=
  splitB (decide (x13 < x12)) (f100.l2 R A0 n0 c0 A3 n3 c3 b4 x13 x12 x13 x13 (0 : Int) h) (f100.l0 R A0 n0 c0 A3 n3 c3 b4 h)
set_option maxRecDepth 100000 in
theorem f100.l1_in {R : Value → Heap → Prop} {A0 : Option Addr} {n0 : Nat} {c0 : Nat} {A3 : Option Addr} {n3 : Nat} {c3 : Nat} {b4 : Bool} {x12 : Int} {x13 : Int} {h : Heap} (H : f100.l1T R A0 n0 c0 A3 n3 c3 b4 x12 x13 h) : f100.l1 R A0 n0 c0 A3 n3 c3 b4 x12 x13 h :=
  pt_intro mixed f100.good (Eq.mpr (show (Fwd Try.prog f100.T f100.kp Try.f100 R [false, false, true, true, false, true, false, false, true, false, true, true] (mkFr [(0, (Value.slice A0 n0 c0)), (3, (Value.slice A3 n3 c3)), (4, (Value.bool b4)), (12, (Value.int .i64 x12)), (13, (Value.int .i64 x13))]) h) = (f100.l1T R A0 n0 c0 A3 n3 c3 b4 x12 x13 h) by kernel_rfl) H)
set_option maxRecDepth 100000 in
def f100.l2T (R : Value → Heap → Prop) (A0 : Option Addr) (n0 : Nat) (c0 : Nat) (A3 : Option Addr) (n3 : Nat) (c3 : Nat) (b4 : Bool) (x5 : Int) (x12 : Int) (x13 : Int) (x16 : Int) (x17 : Int) (h : Heap) : Prop :=
  splitB (decide (x17 < x16)) (ptrOk A0 fun a1_ => 0 ≤ x17 ∧ x17 < ((n0 : Nat) : Int) ∧ (ptrOk A0 fun a2_ => 0 ≤ x5 ∧ x5 < ((n0 : Nat) : Int) ∧ (∃ v3_, ldv true 3 h (Addr.add a1_ (Int.toNat x17 * 3)) = some v3_ ∧ ∃ v4_, ldv true 3 h (Addr.add a2_ (Int.toNat x5 * 3)) = some v4_ ∧ Run Try.prog 46 #[v3_, v4_] h fun v5_ h6_ => ∃ b7_, v5_ = (Value.bool b7_) ∧ Ext h h6_ ∧ (splitB b7_ (ptrOk A3 fun a8_ => 0 ≤ x5 ∧ x5 < ((n3 : Nat) : Int) ∧ (ptrOk A3 fun a9_ => 0 ≤ x17 ∧ x17 < ((n3 : Nat) : Int) ∧ (∃ v10_, ldv false 1 h6_ (Addr.add a8_ (Int.toNat x5 * 1)) = some v10_ ∧ ∃ x11_, v10_ = (Value.int .i64 x11_) ∧ ∃ v12_, ldv false 1 h6_ (Addr.add a9_ (Int.toNat x17 * 1)) = some v12_ ∧ ∃ x13_, v12_ = (Value.int .i64 x13_) ∧ f100.j0 R A0 n0 c0 A3 n3 c3 b4 x5 x17 x12 x13 x16 x17 (decide (x11_ ≤ x13_)) h6_))) (f100.j0 R A0 n0 c0 A3 n3 c3 b4 x5 x17 x12 x13 x16 x17 false h6_))))) (f100.l1 R A0 n0 c0 A3 n3 c3 b4 x12 (IntKind.wrap .i64 (x13 + (1 : Int))) h)
set_option maxRecDepth 100000 in
theorem f100.l2_in {R : Value → Heap → Prop} {A0 : Option Addr} {n0 : Nat} {c0 : Nat} {A3 : Option Addr} {n3 : Nat} {c3 : Nat} {b4 : Bool} {x5 : Int} {x12 : Int} {x13 : Int} {x16 : Int} {x17 : Int} {h : Heap} (H : f100.l2T R A0 n0 c0 A3 n3 c3 b4 x5 x12 x13 x16 x17 h) : f100.l2 R A0 n0 c0 A3 n3 c3 b4 x5 x12 x13 x16 x17 h :=
  pt_intro mixed f100.good (Eq.mpr (show (Fwd Try.prog f100.T f100.kp Try.f100 R [false, false, true, true, false, false, true, true, false, false, true, true, false, true, false, false, true, false, true, true] (mkFr [(0, (Value.slice A0 n0 c0)), (3, (Value.slice A3 n3 c3)), (4, (Value.bool b4)), (5, (Value.int .i64 x5)), (12, (Value.int .i64 x12)), (13, (Value.int .i64 x13)), (16, (Value.int .i64 x16)), (17, (Value.int .i64 x17))]) h) = (f100.l2T R A0 n0 c0 A3 n3 c3 b4 x5 x12 x13 x16 x17 h) by kernel_rfl) H)
set_option maxRecDepth 100000 in
def f100.j0T (R : Value → Heap → Prop) (A0 : Option Addr) (n0 : Nat) (c0 : Nat) (A3 : Option Addr) (n3 : Nat) (c3 : Nat) (b4 : Bool) (x5 : Int) (x6 : Int) (x12 : Int) (x13 : Int) (x16 : Int) (x17 : Int) (b39 : Bool) (h : Heap) : Prop :=
  splitB b39 (ptrOk A3 fun a1_ => 0 ≤ x6 ∧ x6 < ((n3 : Nat) : Int) ∧ (∃ v2_, ldv false 1 h (Addr.add a1_ (Int.toNat x6 * 1)) = some v2_ ∧ ∃ x3_, v2_ = (Value.int .i64 x3_) ∧ ptrOk A3 fun a4_ => 0 ≤ x5 ∧ x5 < ((n3 : Nat) : Int) ∧ (∃ h5_, st1 h (Addr.add a4_ (Int.toNat x5 * 1)) (Value.int .i64 (IntKind.wrap .i64 (x3_ + (1 : Int)))) = some h5_ ∧ f100.l2 R A0 n0 c0 A3 n3 c3 true x5 x12 x13 x16 (IntKind.wrap .i64 (x17 + (1 : Int))) h5_))) (f100.l2 R A0 n0 c0 A3 n3 c3 b4 x5 x12 x13 x16 (IntKind.wrap .i64 (x17 + (1 : Int))) h)
set_option maxRecDepth 100000 in
theorem f100.j0_in {R : Value → Heap → Prop} {A0 : Option Addr} {n0 : Nat} {c0 : Nat} {A3 : Option Addr} {n3 : Nat} {c3 : Nat} {b4 : Bool} {x5 : Int} {x6 : Int} {x12 : Int} {x13 : Int} {x16 : Int} {x17 : Int} {b39 : Bool} {h : Heap} (H : f100.j0T R A0 n0 c0 A3 n3 c3 b4 x5 x6 x12 x13 x16 x17 b39 h) : f100.j0 R A0 n0 c0 A3 n3 c3 b4 x5 x6 x12 x13 x16 x17 b39 h :=
  pt_intro mixed f100.good (Eq.mpr (show (Fwd Try.prog f100.T f100.kp Try.f100 R [true, true, false, false, true, true, false, false, true, true, false, false, true, true, false, false, true, true, false, true, false, false, true, false, true, true] (mkFr [(0, (Value.slice A0 n0 c0)), (3, (Value.slice A3 n3 c3)), (4, (Value.bool b4)), (5, (Value.int .i64 x5)), (6, (Value.int .i64 x6)), (12, (Value.int .i64 x12)), (13, (Value.int .i64 x13)), (16, (Value.int .i64 x16)), (17, (Value.int .i64 x17)), (39, (Value.bool b39))]) h) = (f100.j0T R A0 n0 c0 A3 n3 c3 b4 x5 x6 x12 x13 x16 x17 b39 h) by kernel_rfl) H)
set_option maxRecDepth 100000 in
def f100.runT (R : Value → Heap → Prop) (A0 : Option Addr) (n0 : Nat) (c0 : Nat) (h : Heap) : Prop :=
  0 ≤ ((n0 : Nat) : Int) ∧ ((n0 : Nat) : Int) ≤ ((n0 : Nat) : Int) ∧ ((n0 : Nat) : Int) * 8 ≤ 140737488355328 ∧ ((n0 : Nat) : Int) ≤ 9223372036854775807 ∧ (newH h (Obj.cells (mkCells #[(Value.int .i64 (0 : Int))] (Int.toNat ((n0 : Nat) : Int) * 1)) 3) fun h1_ => f100.l0 R A0 n0 c0 (some ⟨Array.size h, 0, none⟩) (Int.toNat ((n0 : Nat) : Int)) (Int.toNat ((n0 : Nat) : Int)) true h1_)
set_option maxRecDepth 100000 in
theorem f100.run {R : Value → Heap → Prop} {A0 : Option Addr} {n0 : Nat} {c0 : Nat} {h : Heap} (H : f100.runT R A0 n0 c0 h) : Run Try.prog 100 #[(Value.slice A0 n0 c0)] h R :=
  run_of mixed Try.func100 (by kernel_rfl) (by kernel_rfl) f100.good (Eq.mpr (show (Fwd Try.prog f100.T f100.kp Try.f100 R [] (mkFr (argL [(Value.slice A0 n0 c0)] 0)) h) = (f100.runT R A0 n0 c0 h) by kernel_rfl) H)
def f42.T : Tab := { sh := tSh, tup := tTup, keep := [], plan := [] }
def f42.kp : Keep := [([false, false, true, false, true, true, true], [0, 3, 4, 13, 14]), ([false, false, true, false, true, true, false, false, true, true, false, false, true, false, true, true, true], [0, 3, 4, 5, 6, 13, 14, 17]), ([false, false, true, true, false, false, true, true, false, false, true, false, true, true, false, false, true, true, false, false, true, false, true, true, true], [0, 3, 4, 5, 6, 7, 13, 14, 17, 20, 21, 22]), ([true, true, false, false, true, true, false, false, true, true, false, false, true, true, false, false, true, false, true, true, false, false, true, true, false, false, true, false, true, true, true], [0, 3, 4, 5, 6, 7, 9, 13, 14, 17, 20, 21, 22, 38])]
theorem f42.good : goodCode Try.prog f42.T (rootOf Try.f42) = true := by kernel_rfl
def f42.l0 (R : Value → Heap → Prop) (A0 : Option Addr) (n0 : Nat) (c0 : Nat) (A3 : Option Addr) (n3 : Nat) (c3 : Nat) (A4 : Option Addr) (n4 : Nat) (c4 : Nat) (x13 : Int) (x14 : Int) (h : Heap) : Prop := Pt Try.prog Try.f42 R [false, false, true, false, true, true, true] (mkFr [(0, (Value.slice A0 n0 c0)), (3, (Value.slice A3 n3 c3)), (4, (Value.slice A4 n4 c4)), (13, (Value.int .i64 x13)), (14, (Value.int .i64 x14))]) h
def f42.l1 (R : Value → Heap → Prop) (A0 : Option Addr) (n0 : Nat) (c0 : Nat) (A3 : Option Addr) (n3 : Nat) (c3 : Nat) (A4 : Option Addr) (n4 : Nat) (c4 : Nat) (x5 : Int) (A6 : Option Addr) (n6 : Nat) (c6 : Nat) (x13 : Int) (x14 : Int) (x17 : Int) (h : Heap) : Prop := Pt Try.prog Try.f42 R [false, false, true, false, true, true, false, false, true, true, false, false, true, false, true, true, true] (mkFr [(0, (Value.slice A0 n0 c0)), (3, (Value.slice A3 n3 c3)), (4, (Value.slice A4 n4 c4)), (5, (Value.int .i64 x5)), (6, (Value.slice A6 n6 c6)), (13, (Value.int .i64 x13)), (14, (Value.int .i64 x14)), (17, (Value.int .i64 x17))]) h
def f42.l2 (R : Value → Heap → Prop) (A0 : Option Addr) (n0 : Nat) (c0 : Nat) (A3 : Option Addr) (n3 : Nat) (c3 : Nat) (A4 : Option Addr) (n4 : Nat) (c4 : Nat) (x5 : Int) (A6 : Option Addr) (n6 : Nat) (c6 : Nat) (x7 : Int) (x13 : Int) (x14 : Int) (x17 : Int) (A20 : Option Addr) (n20 : Nat) (c20 : Nat) (x21 : Int) (x22 : Int) (h : Heap) : Prop := Pt Try.prog Try.f42 R [false, false, true, true, false, false, true, true, false, false, true, false, true, true, false, false, true, true, false, false, true, false, true, true, true] (mkFr [(0, (Value.slice A0 n0 c0)), (3, (Value.slice A3 n3 c3)), (4, (Value.slice A4 n4 c4)), (5, (Value.int .i64 x5)), (6, (Value.slice A6 n6 c6)), (7, (Value.int .i64 x7)), (13, (Value.int .i64 x13)), (14, (Value.int .i64 x14)), (17, (Value.int .i64 x17)), (20, (Value.slice A20 n20 c20)), (21, (Value.int .i64 x21)), (22, (Value.int .i64 x22))]) h
def f42.j0 (R : Value → Heap → Prop) (A0 : Option Addr) (n0 : Nat) (c0 : Nat) (A3 : Option Addr) (n3 : Nat) (c3 : Nat) (A4 : Option Addr) (n4 : Nat) (c4 : Nat) (x5 : Int) (A6 : Option Addr) (n6 : Nat) (c6 : Nat) (x7 : Int) (a9 : Addr) (x13 : Int) (x14 : Int) (x17 : Int) (A20 : Option Addr) (n20 : Nat) (c20 : Nat) (x21 : Int) (x22 : Int) (b38 : Bool) (h : Heap) : Prop := Pt Try.prog Try.f42 R [true, true, false, false, true, true, false, false, true, true, false, false, true, true, false, false, true, false, true, true, false, false, true, true, false, false, true, false, true, true, true] (mkFr [(0, (Value.slice A0 n0 c0)), (3, (Value.slice A3 n3 c3)), (4, (Value.slice A4 n4 c4)), (5, (Value.int .i64 x5)), (6, (Value.slice A6 n6 c6)), (7, (Value.int .i64 x7)), (9, (Value.pointer (some a9))), (13, (Value.int .i64 x13)), (14, (Value.int .i64 x14)), (17, (Value.int .i64 x17)), (20, (Value.slice A20 n20 c20)), (21, (Value.int .i64 x21)), (22, (Value.int .i64 x22)), (38, (Value.bool b38))]) h
set_option maxRecDepth 100000 in
def f42.l0T (R : Value → Heap → Prop) (A0 : Option Addr) (n0 : Nat) (c0 : Nat) (A3 : Option Addr) (n3 : Nat) (c3 : Nat) (A4 : Option Addr) (n4 : Nat) (c4 : Nat) (x13 : Int) (x14 : Int) (h : Heap) : Prop :=
  splitB (decide (x14 < x13)) (f42.l1 R A0 n0 c0 A3 n3 c3 A4 n4 c4 x14 none 0 0 x13 x14 (0 : Int) h) (R (Value.slice A4 n4 c4) h)
set_option maxRecDepth 100000 in
theorem f42.l0_in {R : Value → Heap → Prop} {A0 : Option Addr} {n0 : Nat} {c0 : Nat} {A3 : Option Addr} {n3 : Nat} {c3 : Nat} {A4 : Option Addr} {n4 : Nat} {c4 : Nat} {x13 : Int} {x14 : Int} {h : Heap} (H : f42.l0T R A0 n0 c0 A3 n3 c3 A4 n4 c4 x13 x14 h) : f42.l0 R A0 n0 c0 A3 n3 c3 A4 n4 c4 x13 x14 h :=
  pt_intro mixed f42.good (Eq.mpr (show (Fwd Try.prog f42.T f42.kp Try.f42 R [false, false, true, false, true, true, true] (mkFr [(0, (Value.slice A0 n0 c0)), (3, (Value.slice A3 n3 c3)), (4, (Value.slice A4 n4 c4)), (13, (Value.int .i64 x13)), (14, (Value.int .i64 x14))]) h) = (f42.l0T R A0 n0 c0 A3 n3 c3 A4 n4 c4 x13 x14 h) by kernel_rfl) H)
set_option maxRecDepth 100000 in
def f42.l1T (R : Value → Heap → Prop) (A0 : Option Addr) (n0 : Nat) (c0 : Nat) (A3 : Option Addr) (n3 : Nat) (c3 : Nat) (A4 : Option Addr) (n4 : Nat) (c4 : Nat) (x5 : Int) (A6 : Option Addr) (n6 : Nat) (c6 : Nat) (x13 : Int) (x14 : Int) (x17 : Int) (h : Heap) : Prop :=
  splitB (decide (x17 < (8 : Int))) (f42.l2 R A0 n0 c0 A3 n3 c3 A4 n4 c4 x5 A6 n6 c6 x17 x13 x14 x17 A0 n0 c0 ((n0 : Nat) : Int) (0 : Int) h) (splitB (decide (((n6 : Nat) : Int) > (0 : Int))) (newH h (Obj.cells #[(Value.slice A6 n6 c6)] 72) fun h1_ => AppW 72 1 24 #[(Value.slice none 0 0)] A4 n4 c4 (Value.slice (some ⟨Array.size h, 0, none⟩) 1 1) h1_ fun v2_ h3_ => ∃ A4_, ∃ n4_, ∃ c4_, v2_ = (Value.slice A4_ n4_ c4_) ∧ f42.l0 R A0 n0 c0 A3 n3 c3 A4_ n4_ c4_ x13 (IntKind.wrap .i64 (x14 + (1 : Int))) h3_) (f42.l0 R A0 n0 c0 A3 n3 c3 A4 n4 c4 x13 (IntKind.wrap .i64 (x14 + (1 : Int))) h))
set_option maxRecDepth 100000 in
theorem f42.l1_in {R : Value → Heap → Prop} {A0 : Option Addr} {n0 : Nat} {c0 : Nat} {A3 : Option Addr} {n3 : Nat} {c3 : Nat} {A4 : Option Addr} {n4 : Nat} {c4 : Nat} {x5 : Int} {A6 : Option Addr} {n6 : Nat} {c6 : Nat} {x13 : Int} {x14 : Int} {x17 : Int} {h : Heap} (H : f42.l1T R A0 n0 c0 A3 n3 c3 A4 n4 c4 x5 A6 n6 c6 x13 x14 x17 h) : f42.l1 R A0 n0 c0 A3 n3 c3 A4 n4 c4 x5 A6 n6 c6 x13 x14 x17 h :=
  pt_intro mixed f42.good (Eq.mpr (show (Fwd Try.prog f42.T f42.kp Try.f42 R [false, false, true, false, true, true, false, false, true, true, false, false, true, false, true, true, true] (mkFr [(0, (Value.slice A0 n0 c0)), (3, (Value.slice A3 n3 c3)), (4, (Value.slice A4 n4 c4)), (5, (Value.int .i64 x5)), (6, (Value.slice A6 n6 c6)), (13, (Value.int .i64 x13)), (14, (Value.int .i64 x14)), (17, (Value.int .i64 x17))]) h) = (f42.l1T R A0 n0 c0 A3 n3 c3 A4 n4 c4 x5 A6 n6 c6 x13 x14 x17 h) by kernel_rfl) H)
set_option maxRecDepth 100000 in
def f42.l2T (R : Value → Heap → Prop) (A0 : Option Addr) (n0 : Nat) (c0 : Nat) (A3 : Option Addr) (n3 : Nat) (c3 : Nat) (A4 : Option Addr) (n4 : Nat) (c4 : Nat) (x5 : Int) (A6 : Option Addr) (n6 : Nat) (c6 : Nat) (x7 : Int) (x13 : Int) (x14 : Int) (x17 : Int) (A20 : Option Addr) (n20 : Nat) (c20 : Nat) (x21 : Int) (x22 : Int) (h : Heap) : Prop :=
  splitB (decide (x22 < x21)) (ptrOk A20 fun a1_ => 0 ≤ x22 ∧ x22 < ((n20 : Nat) : Int) ∧ (∃ v2_, ldv true 3 h (Addr.add a1_ (Int.toNat x22 * 3)) = some v2_ ∧ newH h (Obj.cells #[(Value.int .i64 (0 : Int)), (Value.int .i64 (0 : Int)), (Value.int .i64 (0 : Int))] 88) fun h3_ => ∃ l5_ : List Value, v2_ = Value.agg l5_.toArray ∧ l5_.length = 3 ∧ ∃ h4_, stH h3_ (⟨Array.size h, 0, none⟩) l5_ 0 = some h4_ ∧ ptrOk A3 fun a6_ => 0 ≤ x22 ∧ x22 < ((n3 : Nat) : Int) ∧ (∃ v7_, ldv false 1 h4_ (Addr.add a6_ (Int.toNat x22 * 1)) = some v7_ ∧ ∃ x8_, v7_ = (Value.int .i64 x8_) ∧ splitB (x8_ == x5) (∃ v9_, ldv false 1 h4_ (⟨Array.size h, 0, none⟩) = some v9_ ∧ ∃ x10_, v9_ = (Value.int .i64 x10_) ∧ f42.j0 R A0 n0 c0 A3 n3 c3 A4 n4 c4 x5 A6 n6 c6 x7 (⟨Array.size h, 0, none⟩) x13 x14 x17 A20 n20 c20 x21 x22 (x10_ == x7) h4_) (f42.j0 R A0 n0 c0 A3 n3 c3 A4 n4 c4 x5 A6 n6 c6 x7 (⟨Array.size h, 0, none⟩) x13 x14 x17 A20 n20 c20 x21 x22 false h4_)))) (f42.l1 R A0 n0 c0 A3 n3 c3 A4 n4 c4 x5 A6 n6 c6 x13 x14 (IntKind.wrap .i64 (x17 + (1 : Int))) h)
set_option maxRecDepth 100000 in
theorem f42.l2_in {R : Value → Heap → Prop} {A0 : Option Addr} {n0 : Nat} {c0 : Nat} {A3 : Option Addr} {n3 : Nat} {c3 : Nat} {A4 : Option Addr} {n4 : Nat} {c4 : Nat} {x5 : Int} {A6 : Option Addr} {n6 : Nat} {c6 : Nat} {x7 : Int} {x13 : Int} {x14 : Int} {x17 : Int} {A20 : Option Addr} {n20 : Nat} {c20 : Nat} {x21 : Int} {x22 : Int} {h : Heap} (H : f42.l2T R A0 n0 c0 A3 n3 c3 A4 n4 c4 x5 A6 n6 c6 x7 x13 x14 x17 A20 n20 c20 x21 x22 h) : f42.l2 R A0 n0 c0 A3 n3 c3 A4 n4 c4 x5 A6 n6 c6 x7 x13 x14 x17 A20 n20 c20 x21 x22 h :=
  pt_intro mixed f42.good (Eq.mpr (show (Fwd Try.prog f42.T f42.kp Try.f42 R [false, false, true, true, false, false, true, true, false, false, true, false, true, true, false, false, true, true, false, false, true, false, true, true, true] (mkFr [(0, (Value.slice A0 n0 c0)), (3, (Value.slice A3 n3 c3)), (4, (Value.slice A4 n4 c4)), (5, (Value.int .i64 x5)), (6, (Value.slice A6 n6 c6)), (7, (Value.int .i64 x7)), (13, (Value.int .i64 x13)), (14, (Value.int .i64 x14)), (17, (Value.int .i64 x17)), (20, (Value.slice A20 n20 c20)), (21, (Value.int .i64 x21)), (22, (Value.int .i64 x22))]) h) = (f42.l2T R A0 n0 c0 A3 n3 c3 A4 n4 c4 x5 A6 n6 c6 x7 x13 x14 x17 A20 n20 c20 x21 x22 h) by kernel_rfl) H)
set_option maxRecDepth 100000 in
def f42.j0T (R : Value → Heap → Prop) (A0 : Option Addr) (n0 : Nat) (c0 : Nat) (A3 : Option Addr) (n3 : Nat) (c3 : Nat) (A4 : Option Addr) (n4 : Nat) (c4 : Nat) (x5 : Int) (A6 : Option Addr) (n6 : Nat) (c6 : Nat) (x7 : Int) (a9 : Addr) (x13 : Int) (x14 : Int) (x17 : Int) (A20 : Option Addr) (n20 : Nat) (c20 : Nat) (x21 : Int) (x22 : Int) (b38 : Bool) (h : Heap) : Prop :=
  splitB b38 (∃ v1_, ldv false 1 h a9 = some v1_ ∧ ∃ x2_, v1_ = (Value.int .i64 x2_) ∧ ∃ v3_, ldv false 1 h (Addr.add a9 1) = some v3_ ∧ ∃ x4_, v3_ = (Value.int .i64 x4_) ∧ ∃ v5_, ldv false 1 h (Addr.add a9 2) = some v5_ ∧ ∃ x6_, v5_ = (Value.int .i64 x6_) ∧ ∃ l7_ : List Value, (Value.agg #[(Value.int .i64 x2_), (Value.int .i64 x4_), (Value.int .i64 x6_)]) = Value.agg l7_.toArray ∧ l7_.length = 3 ∧ (newH h (Obj.cells ((List.take 0 ([(Value.int .i64 (0 : Int)), (Value.int .i64 (0 : Int)), (Value.int .i64 (0 : Int))]) ++ l7_ ++ List.drop 3 ([(Value.int .i64 (0 : Int)), (Value.int .i64 (0 : Int)), (Value.int .i64 (0 : Int))])).toArray) 71) fun h8_ => AppW 71 3 24 #[(Value.int .i64 (0 : Int)), (Value.int .i64 (0 : Int)), (Value.int .i64 (0 : Int))] A6 n6 c6 (Value.slice (some ⟨Array.size h, 0, none⟩) 1 1) h8_ fun v9_ h10_ => ∃ A11_, ∃ n11_, ∃ c11_, v9_ = (Value.slice A11_ n11_ c11_) ∧ f42.l2 R A0 n0 c0 A3 n3 c3 A4 n4 c4 x5 A11_ n11_ c11_ x7 x13 x14 x17 A20 n20 c20 x21 (IntKind.wrap .i64 (x22 + (1 : Int))) h10_)) (f42.l2 R A0 n0 c0 A3 n3 c3 A4 n4 c4 x5 A6 n6 c6 x7 x13 x14 x17 A20 n20 c20 x21 (IntKind.wrap .i64 (x22 + (1 : Int))) h)
set_option maxRecDepth 100000 in
theorem f42.j0_in {R : Value → Heap → Prop} {A0 : Option Addr} {n0 : Nat} {c0 : Nat} {A3 : Option Addr} {n3 : Nat} {c3 : Nat} {A4 : Option Addr} {n4 : Nat} {c4 : Nat} {x5 : Int} {A6 : Option Addr} {n6 : Nat} {c6 : Nat} {x7 : Int} {a9 : Addr} {x13 : Int} {x14 : Int} {x17 : Int} {A20 : Option Addr} {n20 : Nat} {c20 : Nat} {x21 : Int} {x22 : Int} {b38 : Bool} {h : Heap} (H : f42.j0T R A0 n0 c0 A3 n3 c3 A4 n4 c4 x5 A6 n6 c6 x7 a9 x13 x14 x17 A20 n20 c20 x21 x22 b38 h) : f42.j0 R A0 n0 c0 A3 n3 c3 A4 n4 c4 x5 A6 n6 c6 x7 a9 x13 x14 x17 A20 n20 c20 x21 x22 b38 h :=
  pt_intro mixed f42.good (Eq.mpr (show (Fwd Try.prog f42.T f42.kp Try.f42 R [true, true, false, false, true, true, false, false, true, true, false, false, true, true, false, false, true, false, true, true, false, false, true, true, false, false, true, false, true, true, true] (mkFr [(0, (Value.slice A0 n0 c0)), (3, (Value.slice A3 n3 c3)), (4, (Value.slice A4 n4 c4)), (5, (Value.int .i64 x5)), (6, (Value.slice A6 n6 c6)), (7, (Value.int .i64 x7)), (9, (Value.pointer (some a9))), (13, (Value.int .i64 x13)), (14, (Value.int .i64 x14)), (17, (Value.int .i64 x17)), (20, (Value.slice A20 n20 c20)), (21, (Value.int .i64 x21)), (22, (Value.int .i64 x22)), (38, (Value.bool b38))]) h) = (f42.j0T R A0 n0 c0 A3 n3 c3 A4 n4 c4 x5 A6 n6 c6 x7 a9 x13 x14 x17 A20 n20 c20 x21 x22 b38 h) by kernel_rfl) H)
set_option maxRecDepth 100000 in
def f42.runT (R : Value → Heap → Prop) (A0 : Option Addr) (n0 : Nat) (c0 : Nat) (h : Heap) : Prop :=
  Run Try.prog 100 #[(Value.slice A0 n0 c0)] h fun v1_ h2_ => ∃ A3_, ∃ n3_, ∃ c3_, v1_ = (Value.slice A3_ n3_ c3_) ∧ f42.l0 R A0 n0 c0 A3_ n3_ c3_ none 0 0 ((n0 : Nat) : Int) (0 : Int) h2_
set_option maxRecDepth 100000 in
theorem f42.run {R : Value → Heap → Prop} {A0 : Option Addr} {n0 : Nat} {c0 : Nat} {h : Heap} (H : f42.runT R A0 n0 c0 h) : Run Try.prog 42 #[(Value.slice A0 n0 c0)] h R :=
  run_of mixed Try.func42 (by kernel_rfl) (by kernel_rfl) f42.good (Eq.mpr (show (Fwd Try.prog f42.T f42.kp Try.f42 R [] (mkFr (argL [(Value.slice A0 n0 c0)] 0)) h) = (f42.runT R A0 n0 c0 h) by kernel_rfl) H)
def f43.T : Tab := { sh := tSh, tup := tTup, keep := [], plan := [] }
def f43.kp : Keep := []
theorem f43.good : goodCode Try.prog f43.T (rootOf Try.f43) = true := by kernel_rfl
set_option maxRecDepth 100000 in
theorem f43.ok : calleeOk Try.prog 43 = true := by kernel_rfl
set_option maxRecDepth 100000 in
def f43.runT (R : Value → Heap → Prop) (A0 : Option Addr) (n0 : Nat) (c0 : Nat) (A1 : Option Addr) (n1 : Nat) (c1 : Nat) (h : Heap) : Prop :=
  Run Try.prog 44 #[(Value.slice A0 n0 c0), (Value.slice A1 n1 c1)] h fun v1_ h2_ => ∃ b3_, v1_ = (Value.bool b3_) ∧ R (Value.bool b3_) h2_
set_option maxRecDepth 100000 in
theorem f43.run {R : Value → Heap → Prop} {A0 : Option Addr} {n0 : Nat} {c0 : Nat} {A1 : Option Addr} {n1 : Nat} {c1 : Nat} {h : Heap} (H : f43.runT R A0 n0 c0 A1 n1 c1 h) : Run Try.prog 43 #[(Value.slice A0 n0 c0), (Value.slice A1 n1 c1)] h R :=
  run_of mixed Try.func43 (by kernel_rfl) (by kernel_rfl) f43.good (Eq.mpr (show (Fwd Try.prog f43.T f43.kp Try.f43 R [] (mkFr (argL [(Value.slice A0 n0 c0), (Value.slice A1 n1 c1)] 0)) h) = (f43.runT R A0 n0 c0 A1 n1 c1 h) by kernel_rfl) H)
def f138.T : Tab := { sh := tSh, tup := tTup, keep := [], plan := [] }
def f138.kp : Keep := [([true, true], [0, 1])]
theorem f138.good : goodCode Try.prog f138.T (rootOf Try.f138) = true := by kernel_rfl
def f138.j0 (R : Value → Heap → Prop) (A0 : Option Addr) (n0 : Nat) (c0 : Nat) (x1 : Int) (h : Heap) : Prop := Pt Try.prog Try.f138 R [true, true] (mkFr [(0, (Value.slice A0 n0 c0)), (1, (Value.int .i64 x1))]) h
set_option maxRecDepth 100000 in
def f138.j0T (R : Value → Heap → Prop) (A0 : Option Addr) (n0 : Nat) (c0 : Nat) (x1 : Int) (h : Heap) : Prop :=
  splitB (decide ((IntKind.wrap .i64 (x1 - (IntKind.wrap .i64 (((c0 : Nat) : Int) - ((n0 : Nat) : Int))))) > (0 : Int))) (0 ≤ (0 : Int) ∧ (0 : Int) ≤ ((c0 : Nat) : Int) ∧ ((c0 : Nat) : Int) ≤ ((c0 : Nat) : Int) ∧ (AppZ 88 3 24 #[(Value.int .i64 (0 : Int)), (Value.int .i64 (0 : Int)), (Value.int .i64 (0 : Int))] (sliceA A0 (Int.toNat (0 : Int)) c0 3) (Int.toNat ((c0 : Nat) : Int) - Int.toNat (0 : Int)) (c0 - Int.toNat (0 : Int)) (Value.int .i64 (IntKind.wrap .i64 (x1 - (IntKind.wrap .i64 (((c0 : Nat) : Int) - ((n0 : Nat) : Int)))))) h fun v1_ h2_ => ∃ A3_, ∃ n3_, ∃ c3_, v1_ = (Value.slice A3_ n3_ c3_) ∧ 0 ≤ (0 : Int) ∧ (0 : Int) ≤ ((n0 : Nat) : Int) ∧ ((n0 : Nat) : Int) ≤ ((c3_ : Nat) : Int) ∧ (R (Value.slice (sliceA A3_ (Int.toNat (0 : Int)) c3_ 3) (Int.toNat ((n0 : Nat) : Int) - Int.toNat (0 : Int)) (c3_ - Int.toNat (0 : Int))) h2_))) (R (Value.slice A0 n0 c0) h)
set_option maxRecDepth 100000 in
theorem f138.j0_in {R : Value → Heap → Prop} {A0 : Option Addr} {n0 : Nat} {c0 : Nat} {x1 : Int} {h : Heap} (H : f138.j0T R A0 n0 c0 x1 h) : f138.j0 R A0 n0 c0 x1 h :=
  pt_intro mixed f138.good (Eq.mpr (show (Fwd Try.prog f138.T f138.kp Try.f138 R [true, true] (mkFr [(0, (Value.slice A0 n0 c0)), (1, (Value.int .i64 x1))]) h) = (f138.j0T R A0 n0 c0 x1 h) by kernel_rfl) H)
set_option maxRecDepth 100000 in
def f138.runT (R : Value → Heap → Prop) (A0 : Option Addr) (n0 : Nat) (c0 : Nat) (x1 : Int) (h : Heap) : Prop :=
  splitB (decide (x1 < (0 : Int))) (Gen Try.prog (Instr.makeInterface 9 (Value.string (ByteArray.mk #[99, 97, 110, 110, 111, 116, 32, 98, 101, 32, 110, 101, 103, 97, 116, 105, 118, 101]))) h fun v1_ h2_ => False) (f138.j0 R A0 n0 c0 x1 h)
set_option maxRecDepth 100000 in
theorem f138.run {R : Value → Heap → Prop} {A0 : Option Addr} {n0 : Nat} {c0 : Nat} {x1 : Int} {h : Heap} (H : f138.runT R A0 n0 c0 x1 h) : Run Try.prog 138 #[(Value.slice A0 n0 c0), (Value.int .i64 x1)] h R :=
  run_of mixed Try.func138 (by kernel_rfl) (by kernel_rfl) f138.good (Eq.mpr (show (Fwd Try.prog f138.T f138.kp Try.f138 R [] (mkFr (argL [(Value.slice A0 n0 c0), (Value.int .i64 x1)] 0)) h) = (f138.runT R A0 n0 c0 x1 h) by kernel_rfl) H)
def f101.T : Tab := { sh := tSh, tup := tTup, keep := [], plan := [] }
def f101.kp : Keep := [([false, false, true, false, true, true], [0, 3, 9, 10, 11]), ([false, false, true, false, true, true, true, true], [6, 25, 26, 27])]
theorem f101.good : goodCode Try.prog f101.T (rootOf Try.f101) = true := by kernel_rfl
def f101.l0 (R : Value → Heap → Prop) (A0 : Option Addr) (n0 : Nat) (c0 : Nat) (x3 : Int) (A9 : Option Addr) (n9 : Nat) (c9 : Nat) (x10 : Int) (x11 : Int) (h : Heap) : Prop := Pt Try.prog Try.f101 R [false, false, true, false, true, true] (mkFr [(0, (Value.slice A0 n0 c0)), (3, (Value.int .i64 x3)), (9, (Value.slice A9 n9 c9)), (10, (Value.int .i64 x10)), (11, (Value.int .i64 x11))]) h
def f101.l1 (R : Value → Heap → Prop) (A6 : Option Addr) (n6 : Nat) (c6 : Nat) (A25 : Option Addr) (n25 : Nat) (c25 : Nat) (x26 : Int) (x27 : Int) (h : Heap) : Prop := Pt Try.prog Try.f101 R [false, false, true, false, true, true, true, true] (mkFr [(6, (Value.slice A6 n6 c6)), (25, (Value.slice A25 n25 c25)), (26, (Value.int .i64 x26)), (27, (Value.int .i64 x27))]) h
set_option maxRecDepth 100000 in
def f101.l0T (R : Value → Heap → Prop) (A0 : Option Addr) (n0 : Nat) (c0 : Nat) (x3 : Int) (A9 : Option Addr) (n9 : Nat) (c9 : Nat) (x10 : Int) (x11 : Int) (h : Heap) : Prop :=
  splitB (decide (x11 < x10)) (ptrOk A9 fun a1_ => 0 ≤ x11 ∧ x11 < ((n9 : Nat) : Int) ∧ (∃ v2_, ldv false 1 h (Addr.add a1_ (Int.toNat x11 * 1)) = some v2_ ∧ ∃ A3_, ∃ n3_, ∃ c3_, v2_ = (Value.slice A3_ n3_ c3_) ∧ splitB (decide ((IntKind.wrap .i64 (x3 + ((n3_ : Nat) : Int))) < (0 : Int))) (Gen Try.prog (Instr.makeInterface 9 (Value.string (ByteArray.mk #[108, 101, 110, 32, 111, 117, 116, 32, 111, 102, 32, 114, 97, 110, 103, 101]))) h fun v4_ h5_ => False) (f101.l0 R A0 n0 c0 (IntKind.wrap .i64 (x3 + ((n3_ : Nat) : Int))) A9 n9 c9 x10 (IntKind.wrap .i64 (x11 + (1 : Int))) h))) (Run Try.prog 138 #[(Value.slice none 0 0), (Value.int .i64 x3)] h fun v6_ h7_ => ∃ A8_, ∃ n8_, ∃ c8_, v6_ = (Value.slice A8_ n8_ c8_) ∧ f101.l1 R A8_ n8_ c8_ A0 n0 c0 ((n0 : Nat) : Int) (0 : Int) h7_)
set_option maxRecDepth 100000 in
theorem f101.l0_in {R : Value → Heap → Prop} {A0 : Option Addr} {n0 : Nat} {c0 : Nat} {x3 : Int} {A9 : Option Addr} {n9 : Nat} {c9 : Nat} {x10 : Int} {x11 : Int} {h : Heap} (H : f101.l0T R A0 n0 c0 x3 A9 n9 c9 x10 x11 h) : f101.l0 R A0 n0 c0 x3 A9 n9 c9 x10 x11 h :=
  pt_intro mixed f101.good (Eq.mpr (show (Fwd Try.prog f101.T f101.kp Try.f101 R [false, false, true, false, true, true] (mkFr [(0, (Value.slice A0 n0 c0)), (3, (Value.int .i64 x3)), (9, (Value.slice A9 n9 c9)), (10, (Value.int .i64 x10)), (11, (Value.int .i64 x11))]) h) = (f101.l0T R A0 n0 c0 x3 A9 n9 c9 x10 x11 h) by kernel_rfl) H)
set_option maxRecDepth 100000 in
def f101.l1T (R : Value → Heap → Prop) (A6 : Option Addr) (n6 : Nat) (c6 : Nat) (A25 : Option Addr) (n25 : Nat) (c25 : Nat) (x26 : Int) (x27 : Int) (h : Heap) : Prop :=
  splitB (decide (x27 < x26)) (ptrOk A25 fun a1_ => 0 ≤ x27 ∧ x27 < ((n25 : Nat) : Int) ∧ (∃ v2_, ldv false 1 h (Addr.add a1_ (Int.toNat x27 * 1)) = some v2_ ∧ ∃ A3_, ∃ n3_, ∃ c3_, v2_ = (Value.slice A3_ n3_ c3_) ∧ AppW 88 3 24 #[(Value.int .i64 (0 : Int)), (Value.int .i64 (0 : Int)), (Value.int .i64 (0 : Int))] A6 n6 c6 (Value.slice A3_ n3_ c3_) h fun v4_ h5_ => ∃ A6_, ∃ n6_, ∃ c6_, v4_ = (Value.slice A6_ n6_ c6_) ∧ f101.l1 R A6_ n6_ c6_ A25 n25 c25 x26 (IntKind.wrap .i64 (x27 + (1 : Int))) h5_)) (R (Value.slice A6 n6 c6) h)
set_option maxRecDepth 100000 in
theorem f101.l1_in {R : Value → Heap → Prop} {A6 : Option Addr} {n6 : Nat} {c6 : Nat} {A25 : Option Addr} {n25 : Nat} {c25 : Nat} {x26 : Int} {x27 : Int} {h : Heap} (H : f101.l1T R A6 n6 c6 A25 n25 c25 x26 x27 h) : f101.l1 R A6 n6 c6 A25 n25 c25 x26 x27 h :=
  pt_intro mixed f101.good (Eq.mpr (show (Fwd Try.prog f101.T f101.kp Try.f101 R [false, false, true, false, true, true, true, true] (mkFr [(6, (Value.slice A6 n6 c6)), (25, (Value.slice A25 n25 c25)), (26, (Value.int .i64 x26)), (27, (Value.int .i64 x27))]) h) = (f101.l1T R A6 n6 c6 A25 n25 c25 x26 x27 h) by kernel_rfl) H)
set_option maxRecDepth 100000 in
def f101.runT (R : Value → Heap → Prop) (A0 : Option Addr) (n0 : Nat) (c0 : Nat) (h : Heap) : Prop :=
  f101.l0 R A0 n0 c0 (0 : Int) A0 n0 c0 ((n0 : Nat) : Int) (0 : Int) h
set_option maxRecDepth 100000 in
theorem f101.run {R : Value → Heap → Prop} {A0 : Option Addr} {n0 : Nat} {c0 : Nat} {h : Heap} (H : f101.runT R A0 n0 c0 h) : Run Try.prog 101 #[(Value.slice A0 n0 c0)] h R :=
  run_of mixed Try.func101 (by kernel_rfl) (by kernel_rfl) f101.good (Eq.mpr (show (Fwd Try.prog f101.T f101.kp Try.f101 R [] (mkFr (argL [(Value.slice A0 n0 c0)] 0)) h) = (f101.runT R A0 n0 c0 h) by kernel_rfl) H)
def f45.T : Tab := { sh := tSh, tup := tTup, keep := [], plan := [(11, (.take 0 (.take 1 (.split 1 (.take 2 (.take 3 (.take 4 (.take 6 (.take 7 (.take 8 (.take 5 (.take 9 (.eff false 10 (.take 11 (.take 12 (.take 13 .done)))))))))))))))), (13, (.take 0 (.take 1 (.split 1 (.take 2 (.take 3 (.take 4 (.take 5 (.take 7 (.take 8 (.take 9 (.take 10 (.take 6 (.take 11 (.take 12 (.take 13 .done)))))))))))))))), (16, (.take 0 (.take 1 (.take 2 (.take 5 (.take 6 (.take 7 (.take 8 (.take 9 (.take 10 (.take 11 (.take 3 (.alt false 4 (.eff true 12 (.eff true 13 (.eff true 14 (.eff false 15 (.take 16 .done))))) (.eff true 12 (.alt false 4 (.eff true 13 (.eff true 14 (.eff false 15 (.take 16 .done)))) (.eff true 13 (.alt false 4 (.eff true 14 (.eff false 15 (.take 16 .done))) (.eff true 14 (.eff false 4 (.eff false 15 (.take 16 .done)))))))))))))))))))))] }
def f45.kp : Keep := [([false, false, true, false, true, true, true], [0, 3, 11, 12]), ([false, false, true, false, true, true, false, false, true, true, false, false, true, false, true, true, true], [0, 3, 4, 5, 11, 12, 15, 16]), ([true, true, true, true, false, false, true, true, false, false, true, false, true, true, true], [0, 3, 4, 11, 12, 46])]
theorem f45.good : goodCode Try.prog f45.T (rootOf Try.f45) = true := by kernel_rfl
def f45.l0 (R : Value → Heap → Prop) (A0 : Option Addr) (n0 : Nat) (c0 : Nat) (x3 : Int) (x11 : Int) (x12 : Int) (h : Heap) : Prop := Pt Try.prog Try.f45 R [false, false, true, false, true, true, true] (mkFr [(0, (Value.slice A0 n0 c0)), (3, (Value.int .i64 x3)), (11, (Value.int .i64 x11)), (12, (Value.int .i64 x12))]) h
def f45.l1 (R : Value → Heap → Prop) (A0 : Option Addr) (n0 : Nat) (c0 : Nat) (x3 : Int) (x4 : Int) (b5 : Bool) (x11 : Int) (x12 : Int) (x15 : Int) (x16 : Int) (h : Heap) : Prop := Pt Try.prog Try.f45 R [false, false, true, false, true, true, false, false, true, true, false, false, true, false, true, true, true] (mkFr [(0, (Value.slice A0 n0 c0)), (3, (Value.int .i64 x3)), (4, (Value.int .i64 x4)), (5, (Value.bool b5)), (11, (Value.int .i64 x11)), (12, (Value.int .i64 x12)), (15, (Value.int .i64 x15)), (16, (Value.int .i64 x16))]) h
def f45.j0 (R : Value → Heap → Prop) (A0 : Option Addr) (n0 : Nat) (c0 : Nat) (x3 : Int) (x4 : Int) (x11 : Int) (x12 : Int) (b46 : Bool) (h : Heap) : Prop := Pt Try.prog Try.f45 R [true, true, true, true, false, false, true, true, false, false, true, false, true, true, true] (mkFr [(0, (Value.slice A0 n0 c0)), (3, (Value.int .i64 x3)), (4, (Value.int .i64 x4)), (11, (Value.int .i64 x11)), (12, (Value.int .i64 x12)), (46, (Value.bool b46))]) h
set_option maxRecDepth 100000 in
def f45.l0T (R : Value → Heap → Prop) (A0 : Option Addr) (n0 : Nat) (c0 : Nat) (x3 : Int) (x11 : Int) (x12 : Int) (h : Heap) : Prop :=
  splitB (decide (x12 < x11)) (f45.l1 R A0 n0 c0 x3 x12 true x11 x12 x12 (0 : Int) h) (ptrOk A0 fun a1_ => 0 ≤ x3 ∧ x3 < ((n0 : Nat) : Int) ∧ (0 ≤ (0 : Int) ∧ (0 : Int) ≤ x3 ∧ x3 ≤ ((c0 : Nat) : Int) ∧ (0 ≤ (IntKind.wrap .i64 (x3 + (1 : Int))) ∧ (IntKind.wrap .i64 (x3 + (1 : Int))) ≤ ((n0 : Nat) : Int) ∧ ((n0 : Nat) : Int) ≤ ((c0 : Nat) : Int) ∧ (∃ v2_, ldv true 3 h (Addr.add a1_ (Int.toNat x3 * 3)) = some v2_ ∧ (∃ l3_ : List Value, v2_ = Value.agg l3_.toArray ∧ l3_.length = 3 ∧ (newH h (Obj.cells ((List.take 0 ([(Value.int .i64 (0 : Int)), (Value.int .i64 (0 : Int)), (Value.int .i64 (0 : Int))]) ++ l3_ ++ List.drop 3 ([(Value.int .i64 (0 : Int)), (Value.int .i64 (0 : Int)), (Value.int .i64 (0 : Int))])).toArray) 88) fun h4_ => newH h4_ (Obj.cells #[(Value.slice (sliceA A0 (Int.toNat (0 : Int)) c0 3) (Int.toNat x3 - Int.toNat (0 : Int)) (c0 - Int.toNat (0 : Int))), (Value.slice (sliceA A0 (Int.toNat (IntKind.wrap .i64 (x3 + (1 : Int)))) c0 3) (Int.toNat ((n0 : Nat) : Int) - Int.toNat (IntKind.wrap .i64 (x3 + (1 : Int)))) (c0 - Int.toNat (IntKind.wrap .i64 (x3 + (1 : Int)))))] 67) fun h5_ => Ext h4_ h5_ ∧ (Run Try.prog 101 #[(Value.slice (some ⟨Array.size h4_, 0, none⟩) 2 2)] h5_ fun v6_ h7_ => ∃ A8_, ∃ n8_, ∃ c8_, v6_ = (Value.slice A8_ n8_ c8_) ∧ Ext h5_ h7_ ∧ (Run Try.prog 45 #[(Value.slice A8_ n8_ c8_)] h7_ fun v9_ h10_ => ∃ A11_, ∃ n11_, ∃ c11_, v9_ = (Value.slice A11_ n11_ c11_) ∧ Ext h7_ h10_ ∧ (AppW 88 3 24 #[(Value.int .i64 (0 : Int)), (Value.int .i64 (0 : Int)), (Value.int .i64 (0 : Int))] (some ⟨Array.size h, 0, none⟩) 1 1 (Value.slice A11_ n11_ c11_) h10_ fun v12_ h13_ => ∃ A14_, ∃ n14_, ∃ c14_, v12_ = (Value.slice A14_ n14_ c14_) ∧ R (Value.slice A14_ n14_ c14_) h13_))))) ∧ (newH h (Obj.cells #[(Value.slice (sliceA A0 (Int.toNat (0 : Int)) c0 3) (Int.toNat x3 - Int.toNat (0 : Int)) (c0 - Int.toNat (0 : Int))), (Value.slice (sliceA A0 (Int.toNat (IntKind.wrap .i64 (x3 + (1 : Int)))) c0 3) (Int.toNat ((n0 : Nat) : Int) - Int.toNat (IntKind.wrap .i64 (x3 + (1 : Int)))) (c0 - Int.toNat (IntKind.wrap .i64 (x3 + (1 : Int)))))] 67) fun h15_ => Ext h h15_ ∧ ((∃ l16_ : List Value, v2_ = Value.agg l16_.toArray ∧ l16_.length = 3 ∧ (newH h15_ (Obj.cells ((List.take 0 ([(Value.int .i64 (0 : Int)), (Value.int .i64 (0 : Int)), (Value.int .i64 (0 : Int))]) ++ l16_ ++ List.drop 3 ([(Value.int .i64 (0 : Int)), (Value.int .i64 (0 : Int)), (Value.int .i64 (0 : Int))])).toArray) 88) fun h17_ => Run Try.prog 101 #[(Value.slice (some ⟨Array.size h, 0, none⟩) 2 2)] h17_ fun v18_ h19_ => ∃ A20_, ∃ n20_, ∃ c20_, v18_ = (Value.slice A20_ n20_ c20_) ∧ Ext h17_ h19_ ∧ (Run Try.prog 45 #[(Value.slice A20_ n20_ c20_)] h19_ fun v21_ h22_ => ∃ A23_, ∃ n23_, ∃ c23_, v21_ = (Value.slice A23_ n23_ c23_) ∧ Ext h19_ h22_ ∧ (AppW 88 3 24 #[(Value.int .i64 (0 : Int)), (Value.int .i64 (0 : Int)), (Value.int .i64 (0 : Int))] (some ⟨Array.size h15_, 0, none⟩) 1 1 (Value.slice A23_ n23_ c23_) h22_ fun v24_ h25_ => ∃ A26_, ∃ n26_, ∃ c26_, v24_ = (Value.slice A26_ n26_ c26_) ∧ R (Value.slice A26_ n26_ c26_) h25_)))) ∧ (Run Try.prog 101 #[(Value.slice (some ⟨Array.size h, 0, none⟩) 2 2)] h15_ fun v27_ h28_ => ∃ A29_, ∃ n29_, ∃ c29_, v27_ = (Value.slice A29_ n29_ c29_) ∧ Ext h15_ h28_ ∧ ((∃ l30_ : List Value, v2_ = Value.agg l30_.toArray ∧ l30_.length = 3 ∧ (newH h28_ (Obj.cells ((List.take 0 ([(Value.int .i64 (0 : Int)), (Value.int .i64 (0 : Int)), (Value.int .i64 (0 : Int))]) ++ l30_ ++ List.drop 3 ([(Value.int .i64 (0 : Int)), (Value.int .i64 (0 : Int)), (Value.int .i64 (0 : Int))])).toArray) 88) fun h31_ => Run Try.prog 45 #[(Value.slice A29_ n29_ c29_)] h31_ fun v32_ h33_ => ∃ A34_, ∃ n34_, ∃ c34_, v32_ = (Value.slice A34_ n34_ c34_) ∧ Ext h31_ h33_ ∧ (AppW 88 3 24 #[(Value.int .i64 (0 : Int)), (Value.int .i64 (0 : Int)), (Value.int .i64 (0 : Int))] (some ⟨Array.size h28_, 0, none⟩) 1 1 (Value.slice A34_ n34_ c34_) h33_ fun v35_ h36_ => ∃ A37_, ∃ n37_, ∃ c37_, v35_ = (Value.slice A37_ n37_ c37_) ∧ R (Value.slice A37_ n37_ c37_) h36_))) ∧ (Run Try.prog 45 #[(Value.slice A29_ n29_ c29_)] h28_ fun v38_ h39_ => ∃ A40_, ∃ n40_, ∃ c40_, v38_ = (Value.slice A40_ n40_ c40_) ∧ Ext h28_ h39_ ∧ (∃ l41_ : List Value, v2_ = Value.agg l41_.toArray ∧ l41_.length = 3 ∧ (newH h39_ (Obj.cells ((List.take 0 ([(Value.int .i64 (0 : Int)), (Value.int .i64 (0 : Int)), (Value.int .i64 (0 : Int))]) ++ l41_ ++ List.drop 3 ([(Value.int .i64 (0 : Int)), (Value.int .i64 (0 : Int)), (Value.int .i64 (0 : Int))])).toArray) 88) fun h42_ => AppW 88 3 24 #[(Value.int .i64 (0 : Int)), (Value.int .i64 (0 : Int)), (Value.int .i64 (0 : Int))] (some ⟨Array.size h39_, 0, none⟩) 1 1 (Value.slice A40_ n40_ c40_) h42_ fun v43_ h44_ => ∃ A45_, ∃ n45_, ∃ c45_, v43_ = (Value.slice A45_ n45_ c45_) ∧ R (Value.slice A45_ n45_ c45_) h44_)))))))))))
set_option maxRecDepth 100000 in
theorem f45.l0_in {R : Value → Heap → Prop} {A0 : Option Addr} {n0 : Nat} {c0 : Nat} {x3 : Int} {x11 : Int} {x12 : Int} {h : Heap} (H : f45.l0T R A0 n0 c0 x3 x11 x12 h) : f45.l0 R A0 n0 c0 x3 x11 x12 h :=
  pt_intro mixed f45.good (Eq.mpr (show (Fwd Try.prog f45.T f45.kp Try.f45 R [false, false, true, false, true, true, true] (mkFr [(0, (Value.slice A0 n0 c0)), (3, (Value.int .i64 x3)), (11, (Value.int .i64 x11)), (12, (Value.int .i64 x12))]) h) = (f45.l0T R A0 n0 c0 x3 x11 x12 h) by kernel_rfl) H)
set_option maxRecDepth 100000 in
def f45.l1T (R : Value → Heap → Prop) (A0 : Option Addr) (n0 : Nat) (c0 : Nat) (x3 : Int) (x4 : Int) (b5 : Bool) (x11 : Int) (x12 : Int) (x15 : Int) (x16 : Int) (h : Heap) : Prop :=
  splitB (decide (x16 < x15)) (splitB b5 (ptrOk A0 fun a1_ => 0 ≤ x16 ∧ x16 < ((n0 : Nat) : Int) ∧ (ptrOk A0 fun a2_ => 0 ≤ x4 ∧ x4 < ((n0 : Nat) : Int) ∧ (∃ v3_, ldv true 3 h (Addr.add a1_ (Int.toNat x16 * 3)) = some v3_ ∧ ∃ v4_, ldv true 3 h (Addr.add a2_ (Int.toNat x4 * 3)) = some v4_ ∧ Run Try.prog 46 #[v3_, v4_] h fun v5_ h6_ => ∃ b7_, v5_ = (Value.bool b7_) ∧ f45.l1 R A0 n0 c0 x3 x4 (!b7_) x11 x12 x15 (IntKind.wrap .i64 (x16 + (1 : Int))) h6_))) (f45.l1 R A0 n0 c0 x3 x4 false x11 x12 x15 (IntKind.wrap .i64 (x16 + (1 : Int))) h)) (splitB b5 (ptrOk A0 fun a8_ => 0 ≤ x4 ∧ x4 < ((n0 : Nat) : Int) ∧ (ptrOk A0 fun a9_ => 0 ≤ x3 ∧ x3 < ((n0 : Nat) : Int) ∧ (∃ v10_, ldv false 1 h (Addr.add a8_ (Int.toNat x4 * 3)) = some v10_ ∧ ∃ x11_, v10_ = (Value.int .i64 x11_) ∧ ∃ v12_, ldv false 1 h (Addr.add a9_ (Int.toNat x3 * 3)) = some v12_ ∧ ∃ x13_, v12_ = (Value.int .i64 x13_) ∧ f45.j0 R A0 n0 c0 x3 x4 x11 x12 (decide (x11_ < x13_)) h))) (f45.j0 R A0 n0 c0 x3 x4 x11 x12 false h))
set_option maxRecDepth 100000 in
theorem f45.l1_in {R : Value → Heap → Prop} {A0 : Option Addr} {n0 : Nat} {c0 : Nat} {x3 : Int} {x4 : Int} {b5 : Bool} {x11 : Int} {x12 : Int} {x15 : Int} {x16 : Int} {h : Heap} (H : f45.l1T R A0 n0 c0 x3 x4 b5 x11 x12 x15 x16 h) : f45.l1 R A0 n0 c0 x3 x4 b5 x11 x12 x15 x16 h :=
  pt_intro mixed f45.good (Eq.mpr (show (Fwd Try.prog f45.T f45.kp Try.f45 R [false, false, true, false, true, true, false, false, true, true, false, false, true, false, true, true, true] (mkFr [(0, (Value.slice A0 n0 c0)), (3, (Value.int .i64 x3)), (4, (Value.int .i64 x4)), (5, (Value.bool b5)), (11, (Value.int .i64 x11)), (12, (Value.int .i64 x12)), (15, (Value.int .i64 x15)), (16, (Value.int .i64 x16))]) h) = (f45.l1T R A0 n0 c0 x3 x4 b5 x11 x12 x15 x16 h) by kernel_rfl) H)
set_option maxRecDepth 100000 in
def f45.j0T (R : Value → Heap → Prop) (A0 : Option Addr) (n0 : Nat) (c0 : Nat) (x3 : Int) (x4 : Int) (x11 : Int) (x12 : Int) (b46 : Bool) (h : Heap) : Prop :=
  splitB b46 (f45.l0 R A0 n0 c0 x4 x11 (IntKind.wrap .i64 (x12 + (1 : Int))) h) (f45.l0 R A0 n0 c0 x3 x11 (IntKind.wrap .i64 (x12 + (1 : Int))) h)
set_option maxRecDepth 100000 in
theorem f45.j0_in {R : Value → Heap → Prop} {A0 : Option Addr} {n0 : Nat} {c0 : Nat} {x3 : Int} {x4 : Int} {x11 : Int} {x12 : Int} {b46 : Bool} {h : Heap} (H : f45.j0T R A0 n0 c0 x3 x4 x11 x12 b46 h) : f45.j0 R A0 n0 c0 x3 x4 x11 x12 b46 h :=
  pt_intro mixed f45.good (Eq.mpr (show (Fwd Try.prog f45.T f45.kp Try.f45 R [true, true, true, true, false, false, true, true, false, false, true, false, true, true, true] (mkFr [(0, (Value.slice A0 n0 c0)), (3, (Value.int .i64 x3)), (4, (Value.int .i64 x4)), (11, (Value.int .i64 x11)), (12, (Value.int .i64 x12)), (46, (Value.bool b46))]) h) = (f45.j0T R A0 n0 c0 x3 x4 x11 x12 b46 h) by kernel_rfl) H)
set_option maxRecDepth 100000 in
def f45.runT (R : Value → Heap → Prop) (A0 : Option Addr) (n0 : Nat) (c0 : Nat) (h : Heap) : Prop :=
  splitB (((n0 : Nat) : Int) == (0 : Int)) (R (Value.slice none 0 0) h) (f45.l0 R A0 n0 c0 (0 : Int) ((n0 : Nat) : Int) (0 : Int) h)
set_option maxRecDepth 100000 in
theorem f45.run {R : Value → Heap → Prop} {A0 : Option Addr} {n0 : Nat} {c0 : Nat} {h : Heap} (H : f45.runT R A0 n0 c0 h) : Run Try.prog 45 #[(Value.slice A0 n0 c0)] h R :=
  run_of mixed Try.func45 (by kernel_rfl) (by kernel_rfl) f45.good (Eq.mpr (show (Fwd Try.prog f45.T f45.kp Try.f45 R [] (mkFr (argL [(Value.slice A0 n0 c0)] 0)) h) = (f45.runT R A0 n0 c0 h) by kernel_rfl) H)
def f47.T : Tab := { sh := tSh, tup := tTup, keep := [], plan := [] }
def f47.kp : Keep := []
theorem f47.good : goodCode Try.prog f47.T (rootOf Try.f47) = true := by kernel_rfl
set_option maxRecDepth 100000 in
theorem f47.ok : calleeOk Try.prog 47 = true := by kernel_rfl
set_option maxRecDepth 100000 in
def f47.runT (R : Value → Heap → Prop) (A0 : Option Addr) (n0 : Nat) (c0 : Nat) (A1 : Option Addr) (n1 : Nat) (c1 : Nat) (h : Heap) : Prop :=
  Run Try.prog 44 #[(Value.slice A0 n0 c0), (Value.slice A1 n1 c1)] h fun v1_ h2_ => ∃ b3_, v1_ = (Value.bool b3_) ∧ R (Value.bool b3_) h2_
set_option maxRecDepth 100000 in
theorem f47.run {R : Value → Heap → Prop} {A0 : Option Addr} {n0 : Nat} {c0 : Nat} {A1 : Option Addr} {n1 : Nat} {c1 : Nat} {h : Heap} (H : f47.runT R A0 n0 c0 A1 n1 c1 h) : Run Try.prog 47 #[(Value.slice A0 n0 c0), (Value.slice A1 n1 c1)] h R :=
  run_of mixed Try.func47 (by kernel_rfl) (by kernel_rfl) f47.good (Eq.mpr (show (Fwd Try.prog f47.T f47.kp Try.f47 R [] (mkFr (argL [(Value.slice A0 n0 c0), (Value.slice A1 n1 c1)] 0)) h) = (f47.runT R A0 n0 c0 A1 n1 c1 h) by kernel_rfl) H)
end Go.Proofs.Ythnlhffpmlgmfad.Fw

end
section
namespace Go.Proofs.Ythnlhffpmlgmfad.Fw
open Go Go.Hw Go.Proofs
set_option linter.unusedVariables false
def f6.T : Tab := { sh := tSh, tup := tTup, keep := [], plan := [(23, (.take 0 (.take 1 (.take 2 (.take 4 (.take 5 (.take 6 (.take 3 (.take 7 (.eff false 8 (.take 9 (.take 10 (.take 11 (.take 12 (.take 13 .done))))))))))))))), (24, (.take 0 (.take 1 (.take 2 (.split 2 (.take 3 (.take 4 (.take 5 (.take 6 (.take 8 (.take 9 (.take 10 (.take 7 (.take 11 (.eff false 12 (.take 13 (.take 14 .done)))))))))))))))))] }
def f6.kp : Keep := [([true, true], [0, 1]), ([true, true, true, true, true, true, true, true, true, true, true], [0, 1, 7, 11, 12, 15]), ([false, false, true, false, true, true, true, true, true, true, true, true, true, true, true, true], [0, 1, 7, 11, 12, 15, 18, 130, 131]), ([false, false, true, true, false, false, true, true, false, false, true, false, true, true, true, true, true, true, true, true, true, true, true, true], [0, 1, 7, 11, 12, 15, 18, 19, 130, 131, 134, 135]), ([true, true, true, false, false, true, true, false, false, true, true, false, false, true, true, false, false, true, false, true, true, true, true, true, true, true, true, true, true, true, true], [0, 1, 7, 11, 12, 15, 18, 19, 21, 130, 131, 134, 135])]
theorem f6.good : goodCode Try.prog f6.T (rootOf Try.f6) = true := by kernel_rfl
def f6.j0 (R : Value → Heap → Prop) (A0 : Option Addr) (n0 : Nat) (c0 : Nat) (A1 : Option Addr) (n1 : Nat) (c1 : Nat) (h : Heap) : Prop := Pt Try.prog Try.f6 R [true, true] (mkFr [(0, (Value.slice A0 n0 c0)), (1, (Value.slice A1 n1 c1))]) h
def f6.j1 (R : Value → Heap → Prop) (A0 : Option Addr) (n0 : Nat) (c0 : Nat) (A1 : Option Addr) (n1 : Nat) (c1 : Nat) (A7 : Option Addr) (n7 : Nat) (c7 : Nat) (b11 : Bool) (x12 : Int) (x15 : Int) (h : Heap) : Prop := Pt Try.prog Try.f6 R [true, true, true, true, true, true, true, true, true, true, true] (mkFr [(0, (Value.slice A0 n0 c0)), (1, (Value.slice A1 n1 c1)), (7, (Value.slice A7 n7 c7)), (11, (Value.bool b11)), (12, (Value.int .i64 x12)), (15, (Value.int .i64 x15))]) h
def f6.l0 (R : Value → Heap → Prop) (A0 : Option Addr) (n0 : Nat) (c0 : Nat) (A1 : Option Addr) (n1 : Nat) (c1 : Nat) (A7 : Option Addr) (n7 : Nat) (c7 : Nat) (b11 : Bool) (x12 : Int) (x15 : Int) (x18 : Int) (x130 : Int) (x131 : Int) (h : Heap) : Prop := Pt Try.prog Try.f6 R [false, false, true, false, true, true, true, true, true, true, true, true, true, true, true, true] (mkFr [(0, (Value.slice A0 n0 c0)), (1, (Value.slice A1 n1 c1)), (7, (Value.slice A7 n7 c7)), (11, (Value.bool b11)), (12, (Value.int .i64 x12)), (15, (Value.int .i64 x15)), (18, (Value.int .i64 x18)), (130, (Value.int .i64 x130)), (131, (Value.int .i64 x131))]) h
def f6.l1 (R : Value → Heap → Prop) (A0 : Option Addr) (n0 : Nat) (c0 : Nat) (A1 : Option Addr) (n1 : Nat) (c1 : Nat) (A7 : Option Addr) (n7 : Nat) (c7 : Nat) (b11 : Bool) (x12 : Int) (x15 : Int) (x18 : Int) (x19 : Int) (x130 : Int) (x131 : Int) (x134 : Int) (x135 : Int) (h : Heap) : Prop := Pt Try.prog Try.f6 R [false, false, true, true, false, false, true, true, false, false, true, false, true, true, true, true, true, true, true, true, true, true, true, true] (mkFr [(0, (Value.slice A0 n0 c0)), (1, (Value.slice A1 n1 c1)), (7, (Value.slice A7 n7 c7)), (11, (Value.bool b11)), (12, (Value.int .i64 x12)), (15, (Value.int .i64 x15)), (18, (Value.int .i64 x18)), (19, (Value.int .i64 x19)), (130, (Value.int .i64 x130)), (131, (Value.int .i64 x131)), (134, (Value.int .i64 x134)), (135, (Value.int .i64 x135))]) h
def f6.j2 (R : Value → Heap → Prop) (A0 : Option Addr) (n0 : Nat) (c0 : Nat) (A1 : Option Addr) (n1 : Nat) (c1 : Nat) (A7 : Option Addr) (n7 : Nat) (c7 : Nat) (b11 : Bool) (x12 : Int) (x15 : Int) (x18 : Int) (x19 : Int) (b21 : Bool) (x130 : Int) (x131 : Int) (x134 : Int) (x135 : Int) (h : Heap) : Prop := Pt Try.prog Try.f6 R [true, true, true, false, false, true, true, false, false, true, true, false, false, true, true, false, false, true, false, true, true, true, true, true, true, true, true, true, true, true, true] (mkFr [(0, (Value.slice A0 n0 c0)), (1, (Value.slice A1 n1 c1)), (7, (Value.slice A7 n7 c7)), (11, (Value.bool b11)), (12, (Value.int .i64 x12)), (15, (Value.int .i64 x15)), (18, (Value.int .i64 x18)), (19, (Value.int .i64 x19)), (21, (Value.bool b21)), (130, (Value.int .i64 x130)), (131, (Value.int .i64 x131)), (134, (Value.int .i64 x134)), (135, (Value.int .i64 x135))]) h
set_option maxRecDepth 100000 in
def f6.j0T (R : Value → Heap → Prop) (A0 : Option Addr) (n0 : Nat) (c0 : Nat) (A1 : Option Addr) (n1 : Nat) (c1 : Nat) (h : Heap) : Prop :=
  Run Try.prog 34 #[(Value.slice A0 n0 c0)] h fun v1_ h2_ => ∃ A3_, ∃ n3_, ∃ c3_, v1_ = (Value.slice A3_ n3_ c3_) ∧ Run Try.prog 34 #[(Value.slice A1 n1 c1)] h2_ fun v4_ h5_ => ∃ A6_, ∃ n6_, ∃ c6_, v4_ = (Value.slice A6_ n6_ c6_) ∧ Run Try.prog 35 #[(Value.slice A3_ n3_ c3_)] h5_ fun v7_ h8_ => ∃ A9_, ∃ n9_, ∃ c9_, ∃ x10_, v7_ = (Value.tuple #[(Value.slice A9_ n9_ c9_), (Value.int .i64 x10_)]) ∧ Run Try.prog 36 #[(Value.slice A3_ n3_ c3_), (Value.slice A6_ n6_ c6_)] h8_ fun v11_ h12_ => ∃ b13_, ∃ x14_, v11_ = (Value.tuple #[(Value.bool b13_), (Value.int .i64 x14_)]) ∧ Run Try.prog 37 #[(Value.slice A3_ n3_ c3_)] h12_ fun v15_ h16_ => ∃ A17_, ∃ n17_, ∃ c17_, ∃ x18_, v15_ = (Value.tuple #[(Value.slice A17_ n17_ c17_), (Value.int .i64 x18_)]) ∧ Run Try.prog 38 #[(Value.slice A3_ n3_ c3_)] h16_ fun v19_ h20_ => ∃ x21_, ∃ x22_, v19_ = (Value.tuple #[(Value.int .i64 x21_), (Value.int .i64 x22_)]) ∧ Run Try.prog 39 #[(Value.slice A0 n0 c0)] h20_ fun v23_ h24_ => ∃ x25_, v23_ = (Value.int .i64 x25_) ∧ Run Try.prog 40 #[(Value.slice A3_ n3_ c3_)] h24_ fun v26_ h27_ => ∃ x28_, v26_ = (Value.int .i64 x28_) ∧ splitB (x28_ != x25_) (R (Value.bool false) h27_) (splitB (x25_ != (0 : Int)) (splitB (x10_ == x25_) (splitB (x14_ == x25_) (splitB (x18_ == x25_) (splitB (x22_ == x25_) (splitB (((n9_ : Nat) : Int) == (0 : Int)) (splitB (!b13_) (splitB (((n17_ : Nat) : Int) == (0 : Int)) (R (Value.bool (x21_ == (0 : Int))) h27_) (R (Value.bool false) h27_)) (R (Value.bool false) h27_)) (R (Value.bool false) h27_)) (R (Value.bool false) h27_)) (R (Value.bool false) h27_)) (R (Value.bool false) h27_)) (R (Value.bool false) h27_)) (splitB (x10_ != (0 : Int)) (R (Value.bool false) h27_) (splitB (x18_ != (0 : Int)) (R (Value.bool false) h27_) (splitB (x22_ != (0 : Int)) (R (Value.bool false) h27_) (Run Try.prog 42 #[(Value.slice A0 n0 c0)] h27_ fun v29_ h30_ => ∃ A31_, ∃ n31_, ∃ c31_, v29_ = (Value.slice A31_ n31_ c31_) ∧ Run Try.prog 41 #[(Value.slice A9_ n9_ c9_), (Value.slice A31_ n31_ c31_), (Value.func (.func 43) #[] #[])] h30_ fun v32_ h33_ => ∃ b34_, v32_ = (Value.bool b34_) ∧ splitB (!b34_) (R (Value.bool false) h33_) (Run Try.prog 45 #[(Value.slice A0 n0 c0)] h33_ fun v35_ h36_ => ∃ A37_, ∃ n37_, ∃ c37_, v35_ = (Value.slice A37_ n37_ c37_) ∧ Run Try.prog 34 #[(Value.slice A37_ n37_ c37_)] h36_ fun v38_ h39_ => ∃ A40_, ∃ n40_, ∃ c40_, v38_ = (Value.slice A40_ n40_ c40_) ∧ Run Try.prog 44 #[(Value.slice A17_ n17_ c17_), (Value.slice A40_ n40_ c40_)] h39_ fun v41_ h42_ => ∃ b43_, v41_ = (Value.bool b43_) ∧ splitB (!b43_) (R (Value.bool false) h42_) (f6.j1 R A0 n0 c0 A1 n1 c1 A3_ n3_ c3_ b13_ x14_ x21_ h42_)))))))
set_option maxRecDepth 100000 in
theorem f6.j0_in {R : Value → Heap → Prop} {A0 : Option Addr} {n0 : Nat} {c0 : Nat} {A1 : Option Addr} {n1 : Nat} {c1 : Nat} {h : Heap} (H : f6.j0T R A0 n0 c0 A1 n1 c1 h) : f6.j0 R A0 n0 c0 A1 n1 c1 h :=
  pt_intro mixed f6.good (Eq.mpr (show (Fwd Try.prog f6.T f6.kp Try.f6 R [true, true] (mkFr [(0, (Value.slice A0 n0 c0)), (1, (Value.slice A1 n1 c1))]) h) = (f6.j0T R A0 n0 c0 A1 n1 c1 h) by kernel_rfl) H)
set_option maxRecDepth 100000 in
def f6.j1T (R : Value → Heap → Prop) (A0 : Option Addr) (n0 : Nat) (c0 : Nat) (A1 : Option Addr) (n1 : Nat) (c1 : Nat) (A7 : Option Addr) (n7 : Nat) (c7 : Nat) (b11 : Bool) (x12 : Int) (x15 : Int) (h : Heap) : Prop :=
  f6.l0 R A0 n0 c0 A1 n1 c1 A7 n7 c7 b11 x12 x15 (0 : Int) ((n0 : Nat) : Int) (0 : Int) h
set_option maxRecDepth 100000 in
theorem f6.j1_in {R : Value → Heap → Prop} {A0 : Option Addr} {n0 : Nat} {c0 : Nat} {A1 : Option Addr} {n1 : Nat} {c1 : Nat} {A7 : Option Addr} {n7 : Nat} {c7 : Nat} {b11 : Bool} {x12 : Int} {x15 : Int} {h : Heap} (H : f6.j1T R A0 n0 c0 A1 n1 c1 A7 n7 c7 b11 x12 x15 h) : f6.j1 R A0 n0 c0 A1 n1 c1 A7 n7 c7 b11 x12 x15 h :=
  pt_intro mixed f6.good (Eq.mpr (show (Fwd Try.prog f6.T f6.kp Try.f6 R [true, true, true, true, true, true, true, true, true, true, true] (mkFr [(0, (Value.slice A0 n0 c0)), (1, (Value.slice A1 n1 c1)), (7, (Value.slice A7 n7 c7)), (11, (Value.bool b11)), (12, (Value.int .i64 x12)), (15, (Value.int .i64 x15))]) h) = (f6.j1T R A0 n0 c0 A1 n1 c1 A7 n7 c7 b11 x12 x15 h) by kernel_rfl) H)
set_option maxRecDepth 100000 in
def f6.l0T (R : Value → Heap → Prop) (A0 : Option Addr) (n0 : Nat) (c0 : Nat) (A1 : Option Addr) (n1 : Nat) (c1 : Nat) (A7 : Option Addr) (n7 : Nat) (c7 : Nat) (b11 : Bool) (x12 : Int) (x15 : Int) (x18 : Int) (x130 : Int) (x131 : Int) (h : Heap) : Prop :=
  splitB (decide (x131 < x130)) (f6.l1 R A0 n0 c0 A1 n1 c1 A7 n7 c7 b11 x12 x15 x18 x131 x130 x131 x131 (0 : Int) h) (splitB (x15 != x18) (R (Value.bool false) h) (Run Try.prog 39 #[(Value.slice A1 n1 c1)] h fun v1_ h2_ => ∃ x3_, v1_ = (Value.int .i64 x3_) ∧ splitB (x3_ != (0 : Int)) (splitB (x12 == x3_) (R (Value.bool (!b11)) h2_) (R (Value.bool false) h2_)) (splitB (x12 == (0 : Int)) (Run Try.prog 42 #[(Value.slice A0 n0 c0)] h2_ fun v4_ h5_ => ∃ A6_, ∃ n6_, ∃ c6_, v4_ = (Value.slice A6_ n6_ c6_) ∧ Run Try.prog 42 #[(Value.slice A1 n1 c1)] h5_ fun v7_ h8_ => ∃ A9_, ∃ n9_, ∃ c9_, v7_ = (Value.slice A9_ n9_ c9_) ∧ Run Try.prog 41 #[(Value.slice A6_ n6_ c6_), (Value.slice A9_ n9_ c9_), (Value.func (.func 47) #[] #[])] h8_ fun v10_ h11_ => ∃ b12_, v10_ = (Value.bool b12_) ∧ R (Value.bool (b11 == b12_)) h11_) (R (Value.bool false) h2_))))
set_option maxRecDepth 100000 in
theorem f6.l0_in {R : Value → Heap → Prop} {A0 : Option Addr} {n0 : Nat} {c0 : Nat} {A1 : Option Addr} {n1 : Nat} {c1 : Nat} {A7 : Option Addr} {n7 : Nat} {c7 : Nat} {b11 : Bool} {x12 : Int} {x15 : Int} {x18 : Int} {x130 : Int} {x131 : Int} {h : Heap} (H : f6.l0T R A0 n0 c0 A1 n1 c1 A7 n7 c7 b11 x12 x15 x18 x130 x131 h) : f6.l0 R A0 n0 c0 A1 n1 c1 A7 n7 c7 b11 x12 x15 x18 x130 x131 h :=
  pt_intro mixed f6.good (Eq.mpr (show (Fwd Try.prog f6.T f6.kp Try.f6 R [false, false, true, false, true, true, true, true, true, true, true, true, true, true, true, true] (mkFr [(0, (Value.slice A0 n0 c0)), (1, (Value.slice A1 n1 c1)), (7, (Value.slice A7 n7 c7)), (11, (Value.bool b11)), (12, (Value.int .i64 x12)), (15, (Value.int .i64 x15)), (18, (Value.int .i64 x18)), (130, (Value.int .i64 x130)), (131, (Value.int .i64 x131))]) h) = (f6.l0T R A0 n0 c0 A1 n1 c1 A7 n7 c7 b11 x12 x15 x18 x130 x131 h) by kernel_rfl) H)
set_option maxRecDepth 100000 in
def f6.l1T (R : Value → Heap → Prop) (A0 : Option Addr) (n0 : Nat) (c0 : Nat) (A1 : Option Addr) (n1 : Nat) (c1 : Nat) (A7 : Option Addr) (n7 : Nat) (c7 : Nat) (b11 : Bool) (x12 : Int) (x15 : Int) (x18 : Int) (x19 : Int) (x130 : Int) (x131 : Int) (x134 : Int) (x135 : Int) (h : Heap) : Prop :=
  splitB (decide (x135 < x134)) (ptrOk A7 fun a1_ => 0 ≤ x135 ∧ x135 < ((n7 : Nat) : Int) ∧ (ptrOk A7 fun a2_ => 0 ≤ x19 ∧ x19 < ((n7 : Nat) : Int) ∧ (∃ v3_, ldv true 3 h (Addr.add a1_ (Int.toNat x135 * 3)) = some v3_ ∧ ∃ v4_, ldv true 3 h (Addr.add a2_ (Int.toNat x19 * 3)) = some v4_ ∧ Run Try.prog 33 #[v3_, v4_] h fun v5_ h6_ => ∃ b7_, ∃ x8_, v5_ = (Value.tuple #[(Value.bool b7_), (Value.int .i64 x8_)]) ∧ splitB (x8_ != (0 : Int)) (R (Value.bool false) h6_) (ptrOk A0 fun a9_ => 0 ≤ x135 ∧ x135 < ((n0 : Nat) : Int) ∧ (ptrOk A0 fun a10_ => 0 ≤ x19 ∧ x19 < ((n0 : Nat) : Int) ∧ (∃ v11_, ldv true 3 h6_ (Addr.add a9_ (Int.toNat x135 * 3)) = some v11_ ∧ ∃ v12_, ldv true 3 h6_ (Addr.add a10_ (Int.toNat x19 * 3)) = some v12_ ∧ Run Try.prog 46 #[v11_, v12_] h6_ fun v13_ h14_ => ∃ b15_, v13_ = (Value.bool b15_) ∧ splitB (!(b7_ == b15_)) (R (Value.bool false) h14_) (f6.j2 R A0 n0 c0 A1 n1 c1 A7 n7 c7 b11 x12 x15 x18 x19 b7_ x130 x131 x134 x135 h14_))))))) (f6.l0 R A0 n0 c0 A1 n1 c1 A7 n7 c7 b11 x12 x15 x18 x130 (IntKind.wrap .i64 (x131 + (1 : Int))) h)
set_option maxRecDepth 100000 in
theorem f6.l1_in {R : Value → Heap → Prop} {A0 : Option Addr} {n0 : Nat} {c0 : Nat} {A1 : Option Addr} {n1 : Nat} {c1 : Nat} {A7 : Option Addr} {n7 : Nat} {c7 : Nat} {b11 : Bool} {x12 : Int} {x15 : Int} {x18 : Int} {x19 : Int} {x130 : Int} {x131 : Int} {x134 : Int} {x135 : Int} {h : Heap} (H : f6.l1T R A0 n0 c0 A1 n1 c1 A7 n7 c7 b11 x12 x15 x18 x19 x130 x131 x134 x135 h) : f6.l1 R A0 n0 c0 A1 n1 c1 A7 n7 c7 b11 x12 x15 x18 x19 x130 x131 x134 x135 h :=
  pt_intro mixed f6.good (Eq.mpr (show (Fwd Try.prog f6.T f6.kp Try.f6 R [false, false, true, true, false, false, true, true, false, false, true, false, true, true, true, true, true, true, true, true, true, true, true, true] (mkFr [(0, (Value.slice A0 n0 c0)), (1, (Value.slice A1 n1 c1)), (7, (Value.slice A7 n7 c7)), (11, (Value.bool b11)), (12, (Value.int .i64 x12)), (15, (Value.int .i64 x15)), (18, (Value.int .i64 x18)), (19, (Value.int .i64 x19)), (130, (Value.int .i64 x130)), (131, (Value.int .i64 x131)), (134, (Value.int .i64 x134)), (135, (Value.int .i64 x135))]) h) = (f6.l1T R A0 n0 c0 A1 n1 c1 A7 n7 c7 b11 x12 x15 x18 x19 x130 x131 x134 x135 h) by kernel_rfl) H)
set_option maxRecDepth 100000 in
def f6.j2T (R : Value → Heap → Prop) (A0 : Option Addr) (n0 : Nat) (c0 : Nat) (A1 : Option Addr) (n1 : Nat) (c1 : Nat) (A7 : Option Addr) (n7 : Nat) (c7 : Nat) (b11 : Bool) (x12 : Int) (x15 : Int) (x18 : Int) (x19 : Int) (b21 : Bool) (x130 : Int) (x131 : Int) (x134 : Int) (x135 : Int) (h : Heap) : Prop :=
  splitB (!b21) (f6.l1 R A0 n0 c0 A1 n1 c1 A7 n7 c7 b11 x12 x15 (IntKind.wrap .i64 (x18 + (1 : Int))) x19 x130 x131 x134 (IntKind.wrap .i64 (x135 + (1 : Int))) h) (f6.l1 R A0 n0 c0 A1 n1 c1 A7 n7 c7 b11 x12 x15 x18 x19 x130 x131 x134 (IntKind.wrap .i64 (x135 + (1 : Int))) h)
set_option maxRecDepth 100000 in
theorem f6.j2_in {R : Value → Heap → Prop} {A0 : Option Addr} {n0 : Nat} {c0 : Nat} {A1 : Option Addr} {n1 : Nat} {c1 : Nat} {A7 : Option Addr} {n7 : Nat} {c7 : Nat} {b11 : Bool} {x12 : Int} {x15 : Int} {x18 : Int} {x19 : Int} {b21 : Bool} {x130 : Int} {x131 : Int} {x134 : Int} {x135 : Int} {h : Heap} (H : f6.j2T R A0 n0 c0 A1 n1 c1 A7 n7 c7 b11 x12 x15 x18 x19 b21 x130 x131 x134 x135 h) : f6.j2 R A0 n0 c0 A1 n1 c1 A7 n7 c7 b11 x12 x15 x18 x19 b21 x130 x131 x134 x135 h :=
  pt_intro mixed f6.good (Eq.mpr (show (Fwd Try.prog f6.T f6.kp Try.f6 R [true, true, true, false, false, true, true, false, false, true, true, false, false, true, true, false, false, true, false, true, true, true, true, true, true, true, true, true, true, true, true] (mkFr [(0, (Value.slice A0 n0 c0)), (1, (Value.slice A1 n1 c1)), (7, (Value.slice A7 n7 c7)), (11, (Value.bool b11)), (12, (Value.int .i64 x12)), (15, (Value.int .i64 x15)), (18, (Value.int .i64 x18)), (19, (Value.int .i64 x19)), (21, (Value.bool b21)), (130, (Value.int .i64 x130)), (131, (Value.int .i64 x131)), (134, (Value.int .i64 x134)), (135, (Value.int .i64 x135))]) h) = (f6.j2T R A0 n0 c0 A1 n1 c1 A7 n7 c7 b11 x12 x15 x18 x19 b21 x130 x131 x134 x135 h) by kernel_rfl) H)
set_option maxRecDepth 100000 in
def f6.runT (R : Value → Heap → Prop) (A0 : Option Addr) (n0 : Nat) (c0 : Nat) (A1 : Option Addr) (n1 : Nat) (c1 : Nat) (h : Heap) : Prop :=
  Run Try.prog 33 #[(Value.agg #[(Value.int .i64 (1 : Int)), (Value.int .i64 (0 : Int)), (Value.int .i64 (1 : Int))]), (Value.agg #[(Value.int .i64 (2 : Int)), (Value.int .i64 (1 : Int)), (Value.int .i64 (0 : Int))])] h fun v1_ h2_ => ∃ b3_, ∃ x4_, v1_ = (Value.tuple #[(Value.bool b3_), (Value.int .i64 x4_)]) ∧ splitB (x4_ != (0 : Int)) (R (Value.bool false) h2_) (splitB (!b3_) (R (Value.bool false) h2_) (f6.j0 R A0 n0 c0 A1 n1 c1 h2_))
set_option maxRecDepth 100000 in
theorem f6.run {R : Value → Heap → Prop} {A0 : Option Addr} {n0 : Nat} {c0 : Nat} {A1 : Option Addr} {n1 : Nat} {c1 : Nat} {h : Heap} (H : f6.runT R A0 n0 c0 A1 n1 c1 h) : Run Try.prog 6 #[(Value.slice A0 n0 c0), (Value.slice A1 n1 c1)] h R :=
  run_of mixed Try.func6 (by kernel_rfl) (by kernel_rfl) f6.good (Eq.mpr (show (Fwd Try.prog f6.T f6.kp Try.f6 R [] (mkFr (argL [(Value.slice A0 n0 c0), (Value.slice A1 n1 c1)] 0)) h) = (f6.runT R A0 n0 c0 A1 n1 c1 h) by kernel_rfl) H)
end Go.Proofs.Ythnlhffpmlgmfad.Fw

end
section
namespace Go.Hw
open Go
section tests
variable {A B : Prop}
theorem split_dec {p : Prop} [Decidable p] (hA : p → A) (hB : ¬ p → B) : splitB (decide p) A B := by
  by_cases h : p
  · rw [decide_eq_true h]; exact hA h
  · rw [decide_eq_false h]; exact hB h
theorem split_eq {x y : Int} (hA : x = y → A) (hB : x ≠ y → B) : splitB (x == y) A B := by
  by_cases h : x = y
  · rw [show (x == y) = true from beq_iff_eq.2 h]; exact hA h
  · rw [show (x == y) = false from beq_eq_false_iff_ne.2 h]; exact hB h
theorem split_not {b : Bool} (h : splitB b B A) : splitB (!b) A B := by cases b <;> exact h
theorem split_t (h : A) : splitB true A B := h
theorem split_f (h : B) : splitB false A B := h
end tests
theorem wrap_in {n : Int} (h0 : -9223372036854775808 ≤ n) (h1 : n ≤ 9223372036854775807) : IntKind.wrap .i64 n = n := by
  rcases Int.le_total 0 n with h | h
  · exact wrap_nat h h1
  · rcases (show n = 0 ∨ n < 0 by omega) with h2 | h2
    · subst h2; rfl
    have e : n % (2 ^ 64 : Int) = n + 2 ^ 64 := by omega
    simp only [IntKind.wrap, IntKind.signed, IntKind.bits, e, Bool.true_and]
    rw [if_pos (by simp only [decide_eq_true_eq]; omega)]
    omega
theorem add_add (a : Addr) (m n : Nat) : (a.add m).add n = a.add (m + n) := by
  unfold Addr.add
  by_cases h1 : m = 0
  · subst h1; simp
  · by_cases h2 : n = 0
    · subst h2; simp
    · have h3 : m + n ≠ 0 := by omega
      simp only [if_neg h1, if_neg h2, if_neg h3]
      rw [Nat.add_assoc]
theorem add_block (a : Addr) (n : Nat) : (a.add n).block = a.block := by unfold Addr.add; split <;> rfl
theorem add_off (a : Addr) (n : Nat) : (a.add n).off = a.off + n := by
  unfold Addr.add
  split
  · rename_i h; subst h; rfl
  · rfl
theorem add_spot {a : Addr} (n : Nat) (h : a.spot = none) : (a.add n).spot = none := by unfold Addr.add; split; exact h; rfl
def Blk (h : Heap) (b : Nat) (c : List Value) (t : TypeId) : Prop := h[b]? = some (.cells c.toArray t (0, 0))
def Only (h h' : Heap) (b : Nat) : Prop := h'.size = h.size ∧ ∀ i, i ≠ b → h'[i]? = h[i]?
section
variable {h h' : Heap} {b : Nat} {c : List Value} {t : TypeId}
theorem Blk.lt (hb : Blk h b c t) : b < h.size := (Array.getElem?_eq_some_iff.1 hb).1
theorem Blk.cell (hb : Blk h b c t) {a : Addr} {v : Value} (h1 : a.block = b) (h2 : a.spot = none) (h3 : c[a.off]? = some v) : cellH h a = some v := by
  unfold cellH Blk at *
  rw [h1, hb, h2]
  simpa using h3
theorem Blk.cells (hb : Blk h b c t) {a : Addr} (h1 : a.block = b) (h2 : a.spot = none) : ∀ (n i : Nat), a.off + i + n ≤ c.length → cellsH h a i n = some ((c.drop (a.off + i)).take n) := by
  intro n
  induction n with
  | zero => intro i _; simp [cellsH]
  | succ n ih =>
    intro i hle
    have hlt : a.off + i < c.length := by omega
    have h3 : c[(a.add i).off]? = some c[a.off + i] := by rw [add_off]; exact List.getElem?_eq_getElem hlt
    simp only [cellsH, hb.cell (a := a.add i) (by rw [add_block]; exact h1) (add_spot i h2) h3, ih (i + 1) (by omega)]
    rw [List.drop_eq_getElem_cons hlt, List.take_succ_cons]
    rfl
theorem Blk.st (hb : Blk h b c t) {a : Addr} {v : Value} (h1 : a.block = b) (h2 : a.spot = none) (h3 : a.off < c.length) (h4 : oneCell v True) :
    ∃ h', st1 h a v = some h' ∧ Blk h' b (c.set a.off v) t ∧ Only h h' b := by
  have hc : cellH h a = some c[a.off] := hb.cell h1 h2 (List.getElem?_eq_getElem h3)
  have hf : frozenH h a = false := by
    unfold frozenH
    rw [h1, show h[b]? = some (.cells c.toArray t (0, 0)) from hb]
    simp
  refine ⟨setH h a v, ?_, ?_, ?_⟩
  · cases v <;> simp_all [st1, oneCell]
  · unfold Blk setH
    rw [Array.getElem?_modify, if_pos h1.symm.symm, show h[b]? = some (.cells c.toArray t (0, 0)) from hb]
    simp [h2]
  · refine ⟨by simp [setH], fun i hi => ?_⟩
    unfold setH
    rw [Array.getElem?_modify, if_neg (by rw [h1]; exact fun e => hi e.symm)]
theorem Blk.new (h : Heap) (c : Array Value) (t : TypeId) : Blk (h.push (.cells c t)) h.size c.toList t := by
  unfold Blk; simp
theorem Ext.push (h : Heap) (o : Obj) : Ext h (h.push o) := ⟨by simp, fun i hi => by rw [Array.getElem?_push, if_neg (by omega)]⟩
theorem Only.refl (h : Heap) (b : Nat) : Only h h b := ⟨rfl, fun _ _ => rfl⟩
theorem Only.trans {h'' : Heap} {b : Nat} (o : Only h h' b) (p : Only h' h'' b) : Only h h'' b := ⟨p.1.trans o.1, fun i hi => (p.2 i hi).trans (o.2 i hi)⟩
end
def Rd {α : Type} (sz : Nat) (E : Heap → α → List Value → Prop) (h : Heap) (A : Option Addr) (l : List α) : Prop :=
  ∀ i (hi : i < l.length), ∃ a cs, A = some a ∧ cellsH h (a.add (i * sz)) 0 sz = some cs ∧ E h l[i] cs
def eInt (k : IntKind) (_ : Heap) (x : Int) (cs : List Value) : Prop := cs = [.int k x]
def eRow {α : Type} (sz : Nat) (E : Heap → α → List Value → Prop) (h : Heap) (l : List α) (cs : List Value) : Prop := ∃ A c, cs = [.slice A l.length c] ∧ l.length ≤ c ∧ Rd sz E h A l
section
variable {α : Type} {sz : Nat} {E : Heap → α → List Value → Prop} {h h' : Heap} {A : Option Addr} {l : List α}
theorem Rd.nil : Rd sz E h A ([] : List α) := fun i hi => by cases hi
end
theorem CallF.of {P : Program} {f : FuncId} {first captured : Array Value} {args : List Value} {h : Heap} {R : Value → Heap → Prop} (l : List Value) (hc : calleeOk P f = true) (hl : first.toList ++ args ++ captured.toList = l) (hr : Run P f l.toArray h R) :
    CallF P (.func (.func f) first captured) args h R := by
  unfold CallF
  simp only [hc, hl]
  exact hr
theorem newH_in {h : Heap} {c : Array Value} {t : TypeId} {K : Heap → Prop} (H : ∀ h', Blk h' h.size c.toList t → Ext h h' → h'.size = h.size + 1 → K h') : newH h (.cells c t) K :=
  H _ (Blk.new _ _ _) (Ext.push _ _) (by simp)
theorem CallF.mono {P : Program} {v : Value} {args : List Value} {h : Heap} {R R' : Value → Heap → Prop} (hh : CallF P v args h R) (hr : ∀ v h, R v h → R' v h) : CallF P v args h R' := by
  unfold CallF at hh ⊢
  split at hh
  · split at hh
    · exact hh.mono hr
    · exact ExtF.mono hh hr
  · exact hh.elim
def idxOf {α : Type} (p : α → Bool) (l : List α) : Int := match l.findIdx? p with | some i => i | none => -1
theorem idxOf_ge {α : Type} (p : α → Bool) (l : List α) : decide (idxOf p l ≥ 0) = l.any p := by
  unfold idxOf
  cases h : l.findIdx? p with
  | none =>
    rw [List.findIdx?_eq_none_iff] at h
    have : l.any p = false := by simpa using h
    simp [this]
  | some i =>
    have hs : (l.findIdx? p).isSome = true := by rw [h]; rfl
    rw [List.findIdx?_isSome] at hs
    simp [hs]
end Go.Hw

end
section
namespace Go.Hw
open Go Go.RowKit
theorem below_of {W W' : World} (e : Ext W.heap W'.heap) (s : Same W W') : Below W.heap.size W W' := ⟨s.os, s.tape, s.output, e.1, e.2⟩
section
variable {H : Type} {enc : TypeId × Value → H} {P : Program} {W : World}
theorem cells_of {base : Nat} {a : Addr} {n : Nat} {cs : List Value} (hc : W.cells? base a n = some cs) : cellsH W.heap a 0 n = some cs := by
  obtain ⟨_, hlen, hget⟩ := World.cells?_some hc
  have key : ∀ (m i : Nat), i + m = n → cellsH W.heap a i m = some (cs.drop i) := by
    intro m
    induction m with
    | zero =>
      intro i hi
      rw [List.drop_eq_nil_of_le (by omega)]
      rfl
    | succ m ih =>
      intro i hi
      have hlt : i < cs.length := by omega
      have h1 : cellH W.heap (a.add i) = some cs[i] := (hget i (by omega)).trans (List.getElem?_eq_getElem hlt)
      simp only [cellsH, h1, ih (i + 1) (by omega)]
      rw [List.drop_eq_getElem_cons hlt]
  simpa using key n 0 (by omega)
def Tells {α : Type} (enc : TypeId × Value → H) (P : Program) (W : World) (t : TypeId) (E : Heap → α → List Value → Prop) (Q : α → Prop) : Prop :=
  ∀ (fuel : Nat) (cs : List Value) (x : DataW H × List MemPlace), DataW.trod enc P W 0 (fun _ => true) true fuel t cs = some x → (x.1.weights P t).all (· ≤ reachBytes) = true → ∃ a, E W.heap a cs ∧ Q a
theorem tells_int {t : TypeId} {k : IntKind} (hu : P.underlying t = some (.int k)) : Tells enc P W t (eInt k) (fun x => (Lit.int k x).wf = true) := by
  intro fuel cs x h _
  obtain ⟨n, h1, _, h3⟩ := DataW.trod_int hu h
  exact ⟨n, h1, h3⟩
theorem weightsAll_all {e : TypeId} : ∀ (l : List (DataW H)), (DataW.weightsAll P e l).all (· ≤ reachBytes) = true → ∀ d ∈ l, (d.weights P e).all (· ≤ reachBytes) = true := by
  intro l
  induction l with
  | nil => intro _ d hd; cases hd
  | cons x l ih =>
    intro h d hd
    simp only [DataW.weightsAll, List.all_append, Bool.and_eq_true] at h
    rcases List.mem_cons.1 hd with rfl | hd
    · exact h.1
    · exact ih h.2 d hd
theorem list_choose {α : Type} {n : Nat} {p : Nat → α → Prop} (h : ∀ i, i < n → ∃ x, p i x) : ∃ l : List α, l.length = n ∧ ∀ i (hi : i < l.length), p i l[i] := by
  induction n with
  | zero => exact ⟨[], rfl, fun i hi => by cases hi⟩
  | succ n ih =>
    obtain ⟨l, h1, h2⟩ := ih fun i hi => h i (by omega)
    obtain ⟨x, hx⟩ := h n (by omega)
    refine ⟨l ++ [x], by simp [h1], fun i hi => ?_⟩
    rw [List.length_append, List.length_singleton] at hi
    by_cases hin : i < l.length
    · rw [List.getElem_append_left hin]; exact h2 i hin
    · have : i = l.length := by omega
      subst this
      rw [List.getElem_append_right (Nat.le_refl _)]
      simp only [Nat.sub_self, List.getElem_cons_zero]
      rw [h1]; exact hx
theorem tells_slice {α : Type} {t e : TypeId} {sz B : Nat} {E : Heap → α → List Value → Prop} {Q : α → Prop} (hu : P.underlying t = some (.slice e)) (hc : P.cellsOf e = sz) (hB : P.bytesOf e = B) (he : Tells enc P W e E Q) :
    Tells enc P W t (eRow sz E) (fun l => l.length * B ≤ reachBytes ∧ ∀ a ∈ l, Q a) := by
  intro fuel cs x h hw
  rcases DataW.trod_slice hu h with ⟨h1, h2⟩ | ⟨a, len, cap, elems, rest, n, _, h1, h2, _, hl, hm, hlen, hel, _, _⟩
  · exact ⟨[], ⟨none, 0, h1, Nat.le_refl _, Rd.nil⟩, by simp, fun a ha => by cases ha⟩
  · rw [h2] at hw
    simp only [DataW.weights, hu, List.all_cons, List.all_append, Bool.and_eq_true, decide_eq_true_eq] at hw
    obtain ⟨hw1, hw2, _⟩ := hw
    have hall := weightsAll_all _ hw2
    obtain ⟨l, h3, h4⟩ := list_choose (n := len) (p := fun i x => (∃ cs', cellsH W.heap (a.add (i * sz)) 0 sz = some cs' ∧ E W.heap x cs') ∧ Q x) (fun i hi => by
      have h5 := hel i hi
      have hlt : i < elems.length := by omega
      rw [List.getElem?_eq_getElem hlt] at h5
      obtain ⟨cs', h6, h7⟩ := Option.bind_eq_some_iff.1 h5
      obtain ⟨x, h8, h9⟩ := he _ _ _ h7 (hall _ (List.mem_map.2 ⟨_, List.getElem_mem hlt, rfl⟩))
      rw [hc] at h6
      exact ⟨x, ⟨cs', cells_of h6, h8⟩, h9⟩)
    refine ⟨l, ⟨some a, cap, by rw [h1, h3], by omega, fun i hi => ?_⟩, ?_, fun x hx => ?_⟩
    · obtain ⟨⟨cs', h5, h6⟩, _⟩ := h4 i hi
      exact ⟨a, cs', rfl, h5, h6⟩
    · rw [hB] at hw1
      have : l.length ≤ (List.map (·.1) elems).length + (List.map (·.1) rest).length := by simp; omega
      exact Nat.le_trans (Nat.mul_le_mul_right _ this) hw1
    · obtain ⟨i, hi, rfl⟩ := List.getElem_of_mem hx
      exact (h4 i hi).2
end
theorem wf_i64 {x : Int} (h : (Lit.int .i64 x).wf = true) : -9223372036854775808 ≤ x ∧ x ≤ 9223372036854775807 := by
  simpa [Lit.wf, IntKind.min, IntKind.max, IntKind.signed, IntKind.bits] using h
end Go.Hw

end
section
namespace Go.Hw
open Go
theorem cellsH_length {h : Heap} {a : Addr} : ∀ {n i : Nat} {cs : List Value}, cellsH h a i n = some cs → cs.length = n := by
  intro n
  induction n with
  | zero => intro i cs hc; simp only [cellsH, Option.some.injEq] at hc; subst hc; rfl
  | succ n ih =>
    intro i cs hc
    simp only [cellsH] at hc
    split at hc
    · split at hc
      · rename_i vs hv; cases hc; simp [ih hv]
      · cases hc
    · cases hc
def Flat (v : Value) : Prop := oneCell v True
theorem Blk.stH {b : Nat} {t : TypeId} : ∀ (xs : List Value) {h : Heap} {p q r : List Value} {a : Addr} {i : Nat}, Blk h b (p ++ q ++ r) t → a.block = b → a.spot = none → a.off + i = p.length → q.length = xs.length → (∀ v ∈ xs, Flat v) →
    ∃ h', stH h a xs i = some h' ∧ Blk h' b (p ++ xs ++ r) t ∧ Only h h' b := by
  intro xs
  induction xs with
  | nil =>
    intro h p q r a i hb h1 h2 h3 h4 h5
    rw [List.length_eq_zero_iff.1 h4] at hb
    exact ⟨h, rfl, hb, .refl _ _⟩
  | cons v xs ih =>
    intro h p q r a i hb h1 h2 h3 h4 h5
    obtain ⟨u, q', rfl⟩ : ∃ u q', q = u :: q' := by cases q with | nil => cases h4 | cons u q' => exact ⟨u, q', rfl⟩
    have hoff : (a.add i).off = p.length := by rw [add_off, h3]
    obtain ⟨h', s1, b1, o1⟩ := hb.st (a := a.add i) (v := v) (by rw [add_block, h1]) (add_spot _ h2) (by rw [hoff]; simp) (h5 v (List.mem_cons_self ..))
    rw [hoff] at b1
    have e : (p ++ u :: q' ++ r).set p.length v = (p ++ [v]) ++ q' ++ r := by
      rw [List.append_assoc, List.set_append_right _ _ (Nat.le_refl _)]; simp
    rw [e] at b1
    obtain ⟨h'', s2, b2, o2⟩ := ih (p := p ++ [v]) (q := q') (r := r) (a := a) (i := i + 1) b1 h1 h2 (by simp; omega) (by simpa using h4) (fun x hx => h5 x (List.mem_cons_of_mem _ hx))
    refine ⟨h'', ?_, by simpa using b2, o1.trans o2⟩
    simp only [Go.Hw.stH, s1, s2]
theorem zcells_size (z : Array Value) (n : Nat) : (zcells z n).size = n * z.size := by
  unfold zcells Builtin.zeroCells
  simp
end Go.Hw

end
section
namespace Go.Hw
open Go Go.RowKit
theorem cellsH_get {h : Heap} {a : Addr} : ∀ {n i : Nat} {cs : List Value} {k : Nat} {v : Value}, cellsH h a i n = some cs → cs[k]? = some v → cellH h (a.add (i + k)) = some v := by
  intro n
  induction n with
  | zero => intro i cs k v hc hv; simp only [cellsH, Option.some.injEq] at hc; subst hc; cases hv
  | succ n ih =>
    intro i cs k v hc hv
    simp only [cellsH] at hc
    split at hc
    · rename_i u hu
      split at hc
      · rename_i vs hvs
        cases hc
        cases k with
        | zero => cases hv; exact hu
        | succ k => rw [show i + (k + 1) = i + 1 + k by omega]; exact ih hvs (by simpa using hv)
      · cases hc
    · cases hc
section
variable {α : Type} {sz : Nat} {E : Heap → α → List Value → Prop} {h h' : Heap} {A : Option Addr} {l : List α}
theorem cellsH_append {h : Heap} {a : Addr} : ∀ {m i n : Nat} {cs ds : List Value}, cellsH h a i m = some cs → cellsH h a (i + m) n = some ds → cellsH h a i (m + n) = some (cs ++ ds) := by
  intro m
  induction m with
  | zero => intro i n cs ds h1 h2; simp only [cellsH, Option.some.injEq] at h1; subst h1; simpa using h2
  | succ m ih =>
    intro i n cs ds h1 h2
    simp only [cellsH] at h1
    split at h1
    · rename_i u hu
      split at h1
      · rename_i vs hvs
        cases h1
        rw [show m + 1 + n = (m + n) + 1 by omega]
        have h3 := ih hvs (n := n) (ds := ds) (by rw [show i + 1 + m = i + (m + 1) by omega]; exact h2)
        simp only [cellsH, hu, h3, List.cons_append]
      · cases h1
    · cases h1
theorem cellsH_shift {h : Heap} {a : Addr} {j : Nat} : ∀ {n i : Nat}, cellsH h (a.add j) i n = cellsH h a (j + i) n := by
  intro n
  induction n with
  | zero => intro i; rfl
  | succ n ih =>
    intro i
    simp only [cellsH, add_add]
    rw [ih, Nat.add_assoc]
end
theorem Blk.stAll {h : Heap} {b : Nat} {c : List Value} {t : TypeId} (hb : Blk h b c t) (l : List Value) (hn : l.length = c.length) (hf : ∀ v ∈ l, Flat v) :
    ∃ h', Go.Hw.stH h ⟨b, 0, none⟩ l 0 = some h' ∧ Blk h' b l t ∧ Only h h' b := by
  obtain ⟨h', s1, b1, o1⟩ := Blk.stH l (p := []) (q := c) (r := []) (a := ⟨b, 0, none⟩) (i := 0) (by simpa using hb) rfl rfl rfl hn.symm hf
  exact ⟨h', s1, by simpa using b1, o1⟩
def EqF (P : Program) (d : Nat) (t : TypeId) (x y : Value) (b : Bool) : Prop := ∀ h (K : Bool → Heap → Prop), K b h → Hwp P (Op.equalIn d t x y) h K
section
variable {P : Program} {d : Nat} {t : TypeId}
theorem eqf_int {k k1 : IntKind} {a b : Int} (hu : P.underlying t = some (.int k1)) : EqF P (d + 1) t (.int k a) (.int k b) (a == b) := by
  intro h K hk
  unfold Op.equalIn
  refine hwp_bind (hwp_underlying hu ?_)
  simp only [if_true]
  exact hk
theorem eqf_bool {a b : Bool} (hu : P.underlying t = some .bool) : EqF P (d + 1) t (.bool a) (.bool b) (a == b) := by
  intro h K hk
  unfold Op.equalIn
  refine hwp_bind (hwp_underlying hu ?_)
  exact hk
theorem eqf_str {a b : ByteArray} (hu : P.underlying t = some .string) : EqF P (d + 1) t (.string a) (.string b) (a == b) := by
  intro h K hk
  unfold Op.equalIn
  refine hwp_bind (hwp_underlying hu ?_)
  exact hk
theorem hwp_part_flat {cs : Array Value} {off : Nat} {v : Value} {h : Heap} {D : TypeDesc} {K : Value → Heap → Prop} (hu : P.underlying t = some D) (hd : isAggD D = false) (hv : cs[off]? = some v) (hk : K v h) : Hwp P (part t cs off) h K := by
  unfold part
  refine hwp_bind (hwp_isAgg hu ?_)
  rw [hd]
  simp only [Bool.false_eq_true, if_false, hv]
  exact hk
def flatB (P : Program) (t : TypeId) (x y : Value) : Option Bool :=
  match P.underlying t, x, y with
  | some (.int _), .int k a, .int k' b => match kindB k k' with | true => some (a == b) | false => none
  | some .bool, .bool a, .bool b => some (a == b)
  | some .string, .string a, .string b => some (a == b)
  | _, _, _ => none
def flatsB (P : Program) (xs ys : Array Value) : List Field → Option Bool
  | [] => some true
  | f :: fs => match decide (f.name ≠ "_") with
    | false => flatsB P xs ys fs
    | true => match xs[f.offset]?, ys[f.offset]? with
      | some x, some y => match flatB P f.type x y with
        | some b => match flatsB P xs ys fs with
          | some c => some (b && c)
          | none => none
        | none => none
      | _, _ => none
def arrB (P : Program) (e : TypeId) (s : Nat) (xs ys : Array Value) : List Nat → Option Bool
  | [] => some true
  | i :: r => match xs[i * s]?, ys[i * s]? with
    | some x, some y => match flatB P e x y with
      | some b => match arrB P e s xs ys r with
        | some c => some (b && c)
        | none => none
      | none => none
    | _, _ => none
def aggB (P : Program) (t : TypeId) (xs ys : Array Value) : Option Bool :=
  match P.eqGuardType P.depth t, P.stoodInHeld t, P.underlying t with
  | false, false, some (.struct fs) => flatsB P xs ys fs.toList
  | false, _, some (.array n e) => match P.info? e with | some i => arrB P e i.size xs ys (List.range' 0 n) | none => none
  | _, _, _ => none
theorem flatB_spec {x y : Value} {b : Bool} (hb : flatB P t x y = some b) : EqF P (d + 1) t x y b ∧ ∃ D, P.underlying t = some D ∧ isAggD D = false := by
  unfold flatB at hb
  split at hb
  · rename_i k1 k a k' b' hu
    split at hb
    · rename_i hk
      cases hb
      have : k = k' := kindB_spec hk
      subst this
      exact ⟨eqf_int hu, _, hu, rfl⟩
    · cases hb
  · rename_i a b' hu; cases hb; exact ⟨eqf_bool hu, _, hu, rfl⟩
  · rename_i a b' hu; cases hb; exact ⟨eqf_str hu, _, hu, rfl⟩
  · cases hb
theorem eqf_struct {fs : Array Field} {xs ys : Array Value} {b : Bool} (hu : P.underlying t = some (.struct fs)) (hp : P.stoodInHeld t = false) (hb : flatsB P xs ys fs.toList = some b) : EqF P (d + 2) t (.agg xs) (.agg ys) b := by
  intro h K hk
  unfold Op.equalIn
  refine hwp_bind (hwp_underlying hu ?_)
  refine hwp_bind (hwp_program ?_)
  rw [hp]
  simp only [Bool.false_eq_true, if_false]
  rw [← Array.forIn_toList]
  clear hu
  generalize fs.toList = l at *
  refine hwp_bind ?_
  induction l generalizing b with
  | nil => cases hb; exact hk
  | cons f l ih =>
    rw [List.forIn_cons]
    unfold flatsB at hb
    by_cases hn : f.name ≠ "_"
    · rw [decide_eq_true hn] at hb
      rw [if_pos hn]
      simp only at hb
      split at hb
      · rename_i x y hx hy
        split at hb
        · rename_i b1 h1
          split at hb
          · rename_i c hc
            cases hb
            obtain ⟨he, D, hD, hDa⟩ := flatB_spec (d := d) h1
            refine hwp_bind (hwp_bind (hwp_part_flat hD hDa hx (hwp_bind (hwp_part_flat hD hDa hy (hwp_bind (he _ _ ?_))))))
            cases b1 with
            | false => exact hk
            | true => exact ih hk hc
          · cases hb
        · cases hb
      · cases hb
    · rw [decide_eq_false hn] at hb
      rw [if_neg hn]
      exact hwp_bind (hwp_pure (P := P) (ih hk hb))
theorem eqf_array {n : Nat} {e : TypeId} {i : TypeInfo} {xs ys : Array Value} {b : Bool} (hu : P.underlying t = some (.array n e)) (hi : P.info? e = some i) (hb : arrB P e i.size xs ys (List.range' 0 n) = some b) : EqF P (d + 2) t (.agg xs) (.agg ys) b := by
  intro h K hk
  unfold Op.equalIn
  refine hwp_bind (hwp_underlying hu ?_)
  refine hwp_bind (hwp_sizeOf hi ?_)
  simp only [Std.Legacy.Range.forIn_eq_forIn_range', Std.Legacy.Range.size, Nat.sub_zero, Nat.add_sub_cancel, Nat.div_one]
  clear hu
  generalize List.range' 0 n = l at *
  refine hwp_bind ?_
  induction l generalizing b with
  | nil => cases hb; exact hk
  | cons f l ih =>
    rw [List.forIn_cons]
    unfold arrB at hb
    split at hb
    · rename_i x y hx hy
      split at hb
      · rename_i b1 h1
        split at hb
        · rename_i c hc
          cases hb
          obtain ⟨he, D, hD, hDa⟩ := flatB_spec (d := d) h1
          refine hwp_bind (hwp_bind (hwp_part_flat hD hDa hx (hwp_bind (hwp_part_flat hD hDa hy (hwp_bind (he _ _ ?_))))))
          cases b1 with
          | false => exact hk
          | true => exact ih hk hc
        · cases hb
      · cases hb
    · cases hb
theorem equal_agg {xs ys : Array Value} {b : Bool} {h : Heap} {K : Bool → Heap → Prop} (hb : aggB P t xs ys = some b) (hk : K b h) : Hwp P (Op.equal t (.agg xs) (.agg ys)) h K := by
  unfold aggB at hb
  split at hb
  · rename_i fs h1 h2 hu
    exact eqf_struct (d := 9998) hu h2 hb h K hk
  · rename_i n e h1 hu
    split at hb
    · rename_i i hi
      exact eqf_array (d := 9998) hu hi hb h K hk
    · cases hb
  · cases hb
theorem guard_agg {xs ys : Array Value} {b : Bool} {h : Heap} {op : BinOp} {xo yo : Operand} {K : Unit → Heap → Prop} (hb : aggB P t xs ys = some b) (hk : K () h) : Hwp P (eqGuard op t xo yo (.agg xs) (.agg ys)) h K := by
  have h1 : P.eqGuardType P.depth t = false := by
    unfold aggB at hb
    split at hb
    · assumption
    · assumption
    · cases hb
  cases op <;> first | exact hk | (unfold eqGuard; refine hwp_bind (hwp_program (hwp_bind (hwp_program ?_))); rw [h1]; exact hk)
theorem gen_neq {xs ys : Array Value} {b : Bool} {h : Heap} {xo yo : Operand} {K : Value → Heap → Prop} (hb : aggB P t xs ys = some b) (hk : K (.bool (!b)) h) :
    Gen P (do eqGuard .neq t xo yo (.agg xs) (.agg ys); binOp .neq t (.agg xs) (.agg ys)) h K := hwp_bind (guard_agg hb (hwp_bind (equal_agg hb hk)))
end
section
variable {H : Type} {enc : TypeId × Value → H} {P : Program} {W : World}
def TellsF {α : Type} (enc : TypeId × Value → H) (P : Program) (W : World) (T o : Nat) (fs : List (TypeId × Nat)) (F : Heap → α → List Value → Prop) (Q : α → Prop) : Prop :=
  ∀ (n : Nat) (cs : List Value) (xs : List (DataW H × List MemPlace)), cs.length = T → xs.length = fs.length → (∀ (i : Nat) (f : TypeId × Nat), fs[i]? = some f → DataW.trod enc P W 0 (fun _ => true) true n f.1 ((cs.drop f.2).take (P.cellsOf f.1)) = xs[i]?) →
    (DataW.weightsEach P (fs.map (·.1)) (xs.map (·.1))).all (· ≤ reachBytes) = true → ∃ b, F W.heap b (cs.drop o) ∧ Q b
def eNil (_ : Heap) (_ : Unit) (cs : List Value) : Prop := cs = []
def eCons {α β : Type} (E : Heap → α → List Value → Prop) (F : Heap → β → List Value → Prop) (h : Heap) (x : α × β) (cs : List Value) : Prop := ∃ c1 c2, cs = c1 ++ c2 ∧ E h x.1 c1 ∧ F h x.2 c2
theorem tf_nil {T : Nat} : TellsF enc P W T T [] eNil (fun _ => True) := fun n cs xs hl _ _ _ => ⟨(), by unfold eNil; rw [List.drop_eq_nil_of_le (by omega)], trivial⟩
theorem tf_cons {α β : Type} {E : Heap → α → List Value → Prop} {F : Heap → β → List Value → Prop} {Q : α → Prop} {Q' : β → Prop} {T o s : Nat} {f : TypeId} {fs : List (TypeId × Nat)} (hs : P.cellsOf f = s)
    (he : Tells enc P W f E Q) (hf : TellsF enc P W T (o + s) fs F Q') : TellsF enc P W T o ((f, o) :: fs) (eCons E F) (fun x => Q x.1 ∧ Q' x.2) := by
  intro n cs xs hl hx hi hw
  cases xs with
  | nil => cases hx
  | cons x xs =>
    have h0 := hi 0 (f, o) rfl
    simp only [hs] at h0
    simp only [List.map_cons, DataW.weightsEach, List.all_append, Bool.and_eq_true] at hw
    obtain ⟨a, ha, qa⟩ := he n _ _ h0 hw.1
    obtain ⟨b, hb, qb⟩ := hf n cs xs hl (by simpa using hx) (fun i g hg => by simpa using hi (i + 1) g hg) hw.2
    exact ⟨(a, b), ⟨_, _, by rw [← List.drop_drop, List.take_append_drop], ha, hb⟩, qa, qb⟩
def shapeOf (P : Program) (t : TypeId) : Option (List (TypeId × Nat)) := match P.underlying t with | some (.struct fs) => some (fs.toList.map fun f => (f.type, f.offset)) | _ => none
theorem tells_struct {α : Type} {F : Heap → α → List Value → Prop} {Q : α → Prop} {t : TypeId} {fs : List (TypeId × Nat)} {T : Nat} (hs : shapeOf P t = some fs) (hc : P.cellsOf t = T) (hf : TellsF enc P W T 0 fs F Q) : Tells enc P W t F Q := by
  intro fuel cs x h hw
  unfold shapeOf at hs
  split at hs
  · rename_i fa hu
    cases hs
    obtain ⟨xs, n, _, rfl, hl, hlen, hi⟩ := DataW.trod_struct hu h
    simp only [DataW.weights, hu] at hw
    obtain ⟨b, hb, qb⟩ := hf n cs xs (by rw [hl, hc]) (by simpa using hlen) (fun i f hif => by
      rw [List.getElem?_map, Option.map_eq_some_iff] at hif
      obtain ⟨g, hg, rfl⟩ := hif
      exact hi i g (by simpa using hg)) (by rw [List.map_map]; exact hw)
    exact ⟨b, by simpa using hb, qb⟩
  · cases hs
theorem tells_map {α β : Type} {E : Heap → α → List Value → Prop} {F : Heap → β → List Value → Prop} {Q : α → Prop} {Q' : β → Prop} {t : TypeId} (he : Tells enc P W t E Q) (hm : ∀ a cs, E W.heap a cs → Q a → ∃ b, F W.heap b cs ∧ Q' b) : Tells enc P W t F Q' :=
  fun fuel cs x h hw => let ⟨a, ha, qa⟩ := he fuel cs x h hw; hm a cs ha qa
end
end Go.Hw

end
section
namespace Go.Hw
open Go
end Go.Hw

end
section
namespace Go.Hw
open Go
end Go.Hw

end
section
namespace Go.Hw
open Go
end Go.Hw

end
