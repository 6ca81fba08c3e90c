/- Part 2: what the law TraitSays needs, put together out of texts of this session. -/
import Derived.ProofKit
import Derived.OpenShut
import Derived.ShutString
import Derived.ChangeOld
import Derived.Below
import Derived.SizedLaws
import Derived.ChangeArms
import Derived.Laws.StructEq
import Derived.Test.YtkbhpagogmmgnaaDoorZTraitSaysa
section
namespace Go.Proofs.YtkbhpagogmmgnaaDoor.Fw
open Go Go.Hw Go.Proofs
set_option linter.unusedVariables false
set_option maxRecDepth 100000
def f68.T : Tab := { sh := tSh, tup := tTup, keep := [], plan := [] }
def f68.kp : Keep := [([false, false, true, false, true, true], [1, 2, 15, 16, 17])]
theorem f68.good : goodCode Tryd.prog f68.T (rootOf Tryd.f68) = true := by kernel_rfl
def f68.l0 (R A1 n1 c1 v2 A15 n15 c15 x16 x17 h) := Pt Tryd.prog Tryd.f68 R [false, false, true, false, true, true] (mkFr [(1, (Value.slice A1 n1 c1)), (2, v2), (15, (Value.slice A15 n15 c15)), (16, (Value.int .i64 x16)), (17, (Value.int .i64 x17))]) h
def f68.l0T (R : VP) (A1 : Option Addr) (n1 c1 : Nat) (v2 : Value) (A15 : Option Addr) (n15 c15 : Nat) (x16 x17 : Int) (h : Heap) : Prop :=
  splitB (decide (x17 < x16)) (ptrOk A15 fun a1_ => 0 ≤ x17 ∧ x17 < ((n15 : Nat) : Int) ∧ (∃ v2_, ldv true 3 h (Addr.add a1_ (Int.toNat x17 * 3)) = some v2_ ∧ newH h (Obj.cells #[(Value.int .i64 (0 : Int)), (Value.string (ByteArray.mk #[])), (Value.slice none 0 0)] 32) fun h3_ => ∃ l5_ : List Value, v2_ = Value.agg l5_.toArray ∧ l5_.length = 3 ∧ ∃ h4_, stH h3_ (⟨Array.size h, 0, none⟩) l5_ 0 = some h4_ ∧ ptrOk A1 fun a6_ => 0 ≤ x17 ∧ x17 < ((n1 : Nat) : Int) ∧ (∃ v7_, ldv true 3 h4_ (Addr.add a6_ (Int.toNat x17 * 3)) = some v7_ ∧ newH h4_ (Obj.cells #[(Value.int .i64 (0 : Int)), (Value.string (ByteArray.mk #[])), (Value.slice none 0 0)] 32) fun h8_ => ∃ l10_ : List Value, v7_ = Value.agg l10_.toArray ∧ l10_.length = 3 ∧ ∃ h9_, stH h8_ (⟨Array.size h4_, 0, none⟩) l10_ 0 = some h9_ ∧ ∃ v11_, ldv true 3 h9_ (⟨Array.size h, 0, none⟩) = some v11_ ∧ ∃ v12_, ldv true 3 h9_ (⟨Array.size h4_, 0, none⟩) = some v12_ ∧ CallF Tryd.prog v2 [v11_, v12_] h9_ fun v13_ h14_ => ∃ b15_, v13_ = (Value.bool b15_) ∧ splitB (!b15_) (R (Value.bool false) h14_) (f68.l0 R A1 n1 c1 v2 A15 n15 c15 x16 (IntKind.wrap .i64 (x17 + (1 : Int))) h14_)))) (R (Value.bool true) h)
theorem f68.l0_in {R A1 n1 c1 v2 A15 n15 c15 x16 x17 h} (H : f68.l0T R A1 n1 c1 v2 A15 n15 c15 x16 x17 h) : f68.l0 R A1 n1 c1 v2 A15 n15 c15 x16 x17 h := pt_in (kp := f68.kp) mixed f68.good (by kernel_rfl) H
def f68.runT (R : VP) (A0 : Option Addr) (n0 c0 : Nat) (A1 : Option Addr) (n1 c1 : Nat) (v2 : Value) (h : Heap) : Prop :=
  splitB (((n0 : Nat) : Int) != ((n1 : Nat) : Int)) (R (Value.bool false) h) (f68.l0 R A1 n1 c1 v2 A0 n0 c0 ((n0 : Nat) : Int) (0 : Int) h)
theorem f68.run {R : VP} {A0 : Option Addr} {n0 c0 : Nat} {A1 : Option Addr} {n1 c1 : Nat} {v2 : Value} {h : Heap} (H : f68.runT R A0 n0 c0 A1 n1 c1 v2 h) : Run Tryd.prog 68 #[(Value.slice A0 n0 c0), (Value.slice A1 n1 c1), v2] h R := run_in (kp := f68.kp) mixed Tryd.func68 (by kernel_rfl) (by kernel_rfl) f68.good (by kernel_rfl) H
def f41.T : Tab := { sh := tSh, tup := tTup, keep := [], plan := [] }
def f41.kp : Keep := []
theorem f41.good : goodCode Tryd.prog f41.T (rootOf Tryd.f41) = true := by kernel_rfl
theorem f41.ok : calleeOk Tryd.prog 41 = true := by kernel_rfl
def f41.runT (R : VP) (v0 v1 : Value) (h : Heap) : Prop :=
  newH h (Obj.cells ((v0).cells) 32) fun h1_ => newH h1_ (Obj.cells ((v1).cells) 32) fun h2_ => ∃ v3_, ldv false 1 h2_ (⟨Array.size h, 0, none⟩) = some v3_ ∧ ∃ x4_, v3_ = (Value.int .i64 x4_) ∧ ∃ v5_, ldv false 1 h2_ (⟨Array.size h1_, 0, none⟩) = some v5_ ∧ ∃ x6_, v5_ = (Value.int .i64 x6_) ∧ splitB (x4_ == x6_) (∃ v7_, ldv false 1 h2_ (Addr.add (⟨Array.size h, 0, none⟩) 1) = some v7_ ∧ ∃ s8_, v7_ = (Value.string s8_) ∧ ∃ v9_, ldv false 1 h2_ (Addr.add (⟨Array.size h1_, 0, none⟩) 1) = some v9_ ∧ ∃ s10_, v9_ = (Value.string s10_) ∧ splitB (ByteArray.toList s8_ == ByteArray.toList s10_) (∃ v11_, ldv false 1 h2_ (Addr.add (⟨Array.size h, 0, none⟩) 2) = some v11_ ∧ ∃ A12_, ∃ n12_, ∃ c12_, v11_ = (Value.slice A12_ n12_ c12_) ∧ ∃ v13_, ldv false 1 h2_ (Addr.add (⟨Array.size h1_, 0, none⟩) 2) = some v13_ ∧ ∃ A14_, ∃ n14_, ∃ c14_, v13_ = (Value.slice A14_ n14_ c14_) ∧ Run Tryd.prog 68 #[(Value.slice A12_ n12_ c12_), (Value.slice A14_ n14_ c14_), (Value.func (.func 41) #[] #[])] h2_ fun v15_ h16_ => ∃ b17_, v15_ = (Value.bool b17_) ∧ R (Value.bool b17_) h16_) (R (Value.bool false) h2_)) (R (Value.bool false) h2_)
theorem f41.run {R : VP} {v0 v1 : Value} {h : Heap} (H : f41.runT R v0 v1 h) : Run Tryd.prog 41 #[v0, v1] h R := run_in (kp := f41.kp) mixed Tryd.func41 (by kernel_rfl) (by kernel_rfl) f41.good (by kernel_rfl) H
def f53.T : Tab := { sh := tSh, tup := tTup, keep := [], plan := [] }
def f53.kp : Keep := [([false, false, true, false, true], [0, 1, 7, 8])]
theorem f53.good : goodCode Tryd.prog f53.T (rootOf Tryd.f53) = true := by kernel_rfl
def f53.l0 (R A0 n0 c0 s1 x7 x8 h) := Pt Tryd.prog Tryd.f53 R [false, false, true, false, true] (mkFr [(0, (Value.slice A0 n0 c0)), (1, (Value.string s1)), (7, (Value.int .i64 x7)), (8, (Value.int .i64 x8))]) h
def f53.l0T (R : VP) (A0 : Option Addr) (n0 c0 : Nat) (s1 : ByteArray) (x7 x8 : Int) (h : Heap) : Prop :=
  splitB (decide (x8 < x7)) (ptrOk A0 fun a1_ => 0 ≤ x8 ∧ x8 < ((n0 : Nat) : Int) ∧ (∃ v2_, ldv false 1 h (Addr.add a1_ (Int.toNat x8 * 1)) = some v2_ ∧ ∃ s3_, v2_ = (Value.string s3_) ∧ splitB (ByteArray.toList s1 == ByteArray.toList s3_) (R (Value.int .i64 x8) h) (f53.l0 R A0 n0 c0 s1 x7 (IntKind.wrap .i64 (x8 + (1 : Int))) h))) (R (Value.int .i64 (-1 : Int)) h)
theorem f53.l0_in {R A0 n0 c0 s1 x7 x8 h} (H : f53.l0T R A0 n0 c0 s1 x7 x8 h) : f53.l0 R A0 n0 c0 s1 x7 x8 h := pt_in (kp := f53.kp) mixed f53.good (by kernel_rfl) H
def f53.runT (R : VP) (A0 : Option Addr) (n0 c0 : Nat) (s1 : ByteArray) (h : Heap) : Prop :=
  f53.l0 R A0 n0 c0 s1 ((n0 : Nat) : Int) (0 : Int) h
theorem f53.run {R : VP} {A0 : Option Addr} {n0 c0 : Nat} {s1 : ByteArray} {h : Heap} (H : f53.runT R A0 n0 c0 s1 h) : Run Tryd.prog 53 #[(Value.slice A0 n0 c0), (Value.string s1)] h R := run_in (kp := f53.kp) mixed Tryd.func53 (by kernel_rfl) (by kernel_rfl) f53.good (by kernel_rfl) H
def f22.T : Tab := { sh := tSh, tup := tTup, keep := [], plan := [] }
def f22.kp : Keep := []
theorem f22.good : goodCode Tryd.prog f22.T (rootOf Tryd.f22) = true := by kernel_rfl
def f22.runT (R : VP) (A0 : Option Addr) (n0 c0 : Nat) (s1 : ByteArray) (h : Heap) : Prop :=
  Run Tryd.prog 53 #[(Value.slice A0 n0 c0), (Value.string s1)] h fun v1_ h2_ => ∃ x3_, v1_ = (Value.int .i64 x3_) ∧ R (Value.bool (decide (x3_ ≥ (0 : Int)))) h2_
theorem f22.run {R : VP} {A0 : Option Addr} {n0 c0 : Nat} {s1 : ByteArray} {h : Heap} (H : f22.runT R A0 n0 c0 s1 h) : Run Tryd.prog 22 #[(Value.slice A0 n0 c0), (Value.string s1)] h R := run_in (kp := f22.kp) mixed Tryd.func22 (by kernel_rfl) (by kernel_rfl) f22.good (by kernel_rfl) H
def f42.T : Tab := { sh := tSh, tup := tTup, keep := [], plan := [] }
def f42.kp : Keep := [([false, false, true, false, true], [0, 5, 6, 7])]
theorem f42.good : goodCode Tryd.prog f42.T (rootOf Tryd.f42) = true := by kernel_rfl
def f42.l0 (R A0 n0 c0 A5 n5 c5 x6 x7 h) := Pt Tryd.prog Tryd.f42 R [false, false, true, false, true] (mkFr [(0, (Value.slice A0 n0 c0)), (5, (Value.slice A5 n5 c5)), (6, (Value.int .i64 x6)), (7, (Value.int .i64 x7))]) h
def f42.l0T (R : VP) (A0 : Option Addr) (n0 c0 : Nat) (A5 : Option Addr) (n5 c5 : Nat) (x6 x7 : Int) (h : Heap) : Prop :=
  splitB (decide (x7 < x6)) (ptrOk A5 fun a1_ => 0 ≤ x7 ∧ x7 < ((n5 : Nat) : Int) ∧ (∃ v2_, ldv false 1 h (Addr.add a1_ (Int.toNat x7 * 1)) = some v2_ ∧ ∃ s3_, v2_ = (Value.string s3_) ∧ 0 ≤ (0 : Int) ∧ (0 : Int) ≤ x7 ∧ x7 ≤ ((c0 : Nat) : Int) ∧ (Run Tryd.prog 22 #[(Value.slice (sliceA A0 (Int.toNat (0 : Int)) c0 1) (Int.toNat x7 - Int.toNat (0 : Int)) (c0 - Int.toNat (0 : Int))), (Value.string s3_)] h fun v4_ h5_ => ∃ b6_, v4_ = (Value.bool b6_) ∧ splitB b6_ (R (Value.bool true) h5_) (f42.l0 R A0 n0 c0 A5 n5 c5 x6 (IntKind.wrap .i64 (x7 + (1 : Int))) h5_)))) (R (Value.bool false) h)
theorem f42.l0_in {R A0 n0 c0 A5 n5 c5 x6 x7 h} (H : f42.l0T R A0 n0 c0 A5 n5 c5 x6 x7 h) : f42.l0 R A0 n0 c0 A5 n5 c5 x6 x7 h := pt_in (kp := f42.kp) mixed f42.good (by kernel_rfl) H
def f42.runT (R : VP) (A0 : Option Addr) (n0 c0 : Nat) (h : Heap) : Prop :=
  f42.l0 R A0 n0 c0 A0 n0 c0 ((n0 : Nat) : Int) (0 : Int) h
theorem f42.run {R : VP} {A0 : Option Addr} {n0 c0 : Nat} {h : Heap} (H : f42.runT R A0 n0 c0 h) : Run Tryd.prog 42 #[(Value.slice A0 n0 c0)] h R := run_in (kp := f42.kp) mixed Tryd.func42 (by kernel_rfl) (by kernel_rfl) f42.good (by kernel_rfl) H
def f15.T : Tab := { sh := tSh, tup := tTup, keep := [], plan := [] }
def f15.kp : Keep := [([false, false, true, false, true, true], [3, 7, 8, 9])]
theorem f15.good : goodCode Tryd.prog f15.T (rootOf Tryd.f15) = true := by kernel_rfl
def f15.l0 (R A3 n3 c3 A7 n7 c7 x8 x9 h) := Pt Tryd.prog Tryd.f15 R [false, false, true, false, true, true] (mkFr [(3, (Value.slice A3 n3 c3)), (7, (Value.slice A7 n7 c7)), (8, (Value.int .i64 x8)), (9, (Value.int .i64 x9))]) h
def f15.l0T (R : VP) (A3 : Option Addr) (n3 c3 : Nat) (A7 : Option Addr) (n7 c7 : Nat) (x8 x9 : Int) (h : Heap) : Prop :=
  splitB (decide (x9 < x8)) (ptrOk A7 fun a1_ => 0 ≤ x9 ∧ x9 < ((n7 : Nat) : Int) ∧ (∃ v2_, ldv true 15 h (Addr.add a1_ (Int.toNat x9 * 15)) = some v2_ ∧ newH h (Obj.cells #[(Value.string (ByteArray.mk #[])), (Value.slice none 0 0), (Value.slice none 0 0), (Value.slice none 0 0), (Value.int .i64 (0 : Int)), (Value.string (ByteArray.mk #[])), (Value.slice none 0 0), (Value.int .i64 (0 : Int)), (Value.int .i64 (0 : Int)), (Value.string (ByteArray.mk #[])), (Value.slice none 0 0), (Value.slice none 0 0), (Value.slice none 0 0), (Value.slice none 0 0), (Value.int .i64 (0 : Int))] 56) fun h3_ => ∃ l5_ : List Value, v2_ = Value.agg l5_.toArray ∧ l5_.length = 15 ∧ ∃ h4_, stH h3_ (⟨Array.size h, 0, none⟩) l5_ 0 = some h4_ ∧ ∃ v6_, ldv false 1 h4_ (⟨Array.size h, 0, none⟩) = some v6_ ∧ ∃ s7_, v6_ = (Value.string s7_) ∧ newH h4_ (Obj.cells #[(Value.string s7_)] 9) fun h8_ => AppW 9 1 16 #[(Value.string (ByteArray.mk #[]))] A3 n3 c3 (Value.slice (some ⟨Array.size h4_, 0, none⟩) 1 1) h8_ fun v9_ h10_ => ∃ A11_, ∃ n11_, ∃ c11_, v9_ = (Value.slice A11_ n11_ c11_) ∧ ∃ v12_, ldv false 1 h10_ (Addr.add (⟨Array.size h, 0, none⟩) 3) = some v12_ ∧ ∃ A13_, ∃ n13_, ∃ c13_, v12_ = (Value.slice A13_ n13_ c13_) ∧ splitB (((n13_ : Nat) : Int) == (0 : Int)) (R (Value.int .i64 (12 : Int)) h10_) (∃ v14_, ldv false 1 h10_ (Addr.add (⟨Array.size h, 0, none⟩) 3) = some v14_ ∧ ∃ A15_, ∃ n15_, ∃ c15_, v14_ = (Value.slice A15_ n15_ c15_) ∧ ptrOk A15_ fun a16_ => 0 ≤ (0 : Int) ∧ (0 : Int) < ((n15_ : Nat) : Int) ∧ (∃ v17_, ldv true 3 h10_ (Addr.add a16_ (Int.toNat (0 : Int) * 3)) = some v17_ ∧ Run Tryd.prog 41 #[v17_, (Value.agg #[(Value.int .i64 (5 : Int)), (Value.string (ByteArray.mk #[115, 101, 108, 102])), (Value.slice none 0 0)])] h10_ fun v18_ h19_ => ∃ b20_, v18_ = (Value.bool b20_) ∧ splitB (!b20_) (R (Value.int .i64 (12 : Int)) h19_) (f15.l0 R A11_ n11_ c11_ A7 n7 c7 x8 (IntKind.wrap .i64 (x9 + (1 : Int))) h19_))))) (Run Tryd.prog 42 #[(Value.slice A3 n3 c3)] h fun v21_ h22_ => ∃ b23_, v21_ = (Value.bool b23_) ∧ splitB b23_ (R (Value.int .i64 (11 : Int)) h22_) (R (Value.int .i64 (0 : Int)) h22_))
theorem f15.l0_in {R A3 n3 c3 A7 n7 c7 x8 x9 h} (H : f15.l0T R A3 n3 c3 A7 n7 c7 x8 x9 h) : f15.l0 R A3 n3 c3 A7 n7 c7 x8 x9 h := pt_in (kp := f15.kp) mixed f15.good (by kernel_rfl) H
def f15.runT (R : VP) (v0 : Value) (h : Heap) : Prop :=
  newH h (Obj.cells ((v0).cells) 37) fun h1_ => ∃ v2_, ldv false 1 h1_ (Addr.add (⟨Array.size h, 0, none⟩) 1) = some v2_ ∧ ∃ A3_, ∃ n3_, ∃ c3_, v2_ = (Value.slice A3_ n3_ c3_) ∧ f15.l0 R none 0 0 A3_ n3_ c3_ ((n3_ : Nat) : Int) (0 : Int) h1_
theorem f15.run {R : VP} {v0 : Value} {h : Heap} (H : f15.runT R v0 h) : Run Tryd.prog 15 #[v0] h R := run_in (kp := f15.kp) mixed Tryd.func15 (by kernel_rfl) (by kernel_rfl) f15.good (by kernel_rfl) H
def f12.T : Tab := { sh := tSh, tup := tTup, keep := [], plan := [] }
def f12.kp : Keep := [([false, false, true, false, true], [0, 1, 7, 8])]
theorem f12.good : goodCode Tryd.prog f12.T (rootOf Tryd.f12) = true := by kernel_rfl
def f12.l0 (R A0 n0 c0 v1 x7 x8 h) := Pt Tryd.prog Tryd.f12 R [false, false, true, false, true] (mkFr [(0, (Value.slice A0 n0 c0)), (1, v1), (7, (Value.int .i64 x7)), (8, (Value.int .i64 x8))]) h
def f12.l0T (R : VP) (A0 : Option Addr) (n0 c0 : Nat) (v1 : Value) (x7 x8 : Int) (h : Heap) : Prop :=
  splitB (decide (x8 < x7)) (ptrOk A0 fun a1_ => 0 ≤ x8 ∧ x8 < ((n0 : Nat) : Int) ∧ (∃ v2_, ldv true 3 h (Addr.add a1_ (Int.toNat x8 * 3)) = some v2_ ∧ CallF Tryd.prog v1 [v2_] h fun v3_ h4_ => ∃ b5_, v3_ = (Value.bool b5_) ∧ splitB b5_ (R (Value.int .i64 x8) h4_) (f12.l0 R A0 n0 c0 v1 x7 (IntKind.wrap .i64 (x8 + (1 : Int))) h4_))) (R (Value.int .i64 (-1 : Int)) h)
theorem f12.l0_in {R A0 n0 c0 v1 x7 x8 h} (H : f12.l0T R A0 n0 c0 v1 x7 x8 h) : f12.l0 R A0 n0 c0 v1 x7 x8 h := pt_in (kp := f12.kp) mixed f12.good (by kernel_rfl) H
def f12.runT (R : VP) (A0 : Option Addr) (n0 c0 : Nat) (v1 : Value) (h : Heap) : Prop :=
  f12.l0 R A0 n0 c0 v1 ((n0 : Nat) : Int) (0 : Int) h
theorem f12.run {R : VP} {A0 : Option Addr} {n0 c0 : Nat} {v1 : Value} {h : Heap} (H : f12.runT R A0 n0 c0 v1 h) : Run Tryd.prog 12 #[(Value.slice A0 n0 c0), v1] h R := run_in (kp := f12.kp) mixed Tryd.func12 (by kernel_rfl) (by kernel_rfl) f12.good (by kernel_rfl) H
def f33.T : Tab := { sh := tSh, tup := tTup, keep := [], plan := [] }
def f33.kp : Keep := []
theorem f33.good : goodCode Tryd.prog f33.T (rootOf Tryd.f33) = true := by kernel_rfl
def f33.runT (R : VP) (A0 : Option Addr) (n0 c0 : Nat) (v1 : Value) (h : Heap) : Prop :=
  Run Tryd.prog 12 #[(Value.slice A0 n0 c0), v1] h fun v1_ h2_ => ∃ x3_, v1_ = (Value.int .i64 x3_) ∧ R (Value.bool (decide (x3_ ≥ (0 : Int)))) h2_
theorem f33.run {R : VP} {A0 : Option Addr} {n0 c0 : Nat} {v1 : Value} {h : Heap} (H : f33.runT R A0 n0 c0 v1 h) : Run Tryd.prog 33 #[(Value.slice A0 n0 c0), v1] h R := run_in (kp := f33.kp) mixed Tryd.func33 (by kernel_rfl) (by kernel_rfl) f33.good (by kernel_rfl) H
def f34.T : Tab := { sh := tSh, tup := tTup, keep := [], plan := [] }
def f34.kp : Keep := []
theorem f34.good : goodCode Tryd.prog f34.T (rootOf Tryd.f34) = true := by kernel_rfl
theorem f34.ok : calleeOk Tryd.prog 34 = true := by kernel_rfl
def f34.runT (R : VP) (v0 : Value) (a1 : Addr) (h : Heap) : Prop :=
  newH h (Obj.cells ((v0).cells) 45) fun h1_ => ∃ v2_, ldv false 1 h1_ (⟨Array.size h, 0, none⟩) = some v2_ ∧ ∃ s3_, v2_ = (Value.string s3_) ∧ ∃ v4_, ldv false 1 h1_ a1 = some v4_ ∧ ∃ s5_, v4_ = (Value.string s5_) ∧ splitB (ByteArray.toList s3_ == ByteArray.toList s5_) (∃ v6_, ldv false 1 h1_ (Addr.add (⟨Array.size h, 0, none⟩) 1) = some v6_ ∧ ∃ s7_, v6_ = (Value.string s7_) ∧ ∃ v8_, ldv false 1 h1_ (Addr.add a1 1) = some v8_ ∧ ∃ s9_, v8_ = (Value.string s9_) ∧ R (Value.bool (ByteArray.toList s7_ == ByteArray.toList s9_)) h1_) (R (Value.bool false) h1_)
theorem f34.run {R : VP} {v0 : Value} {a1 : Addr} {h : Heap} (H : f34.runT R v0 a1 h) : Run Tryd.prog 34 #[v0, (Value.pointer (some a1))] h R := run_in (kp := f34.kp) mixed Tryd.func34 (by kernel_rfl) (by kernel_rfl) f34.good (by kernel_rfl) H
def f10.T : Tab := { sh := tSh, tup := tTup, keep := [], plan := [] }
def f10.kp : Keep := [([false, false, true, false, true], [1, 4, 9, 10, 11])]
theorem f10.good : goodCode Tryd.prog f10.T (rootOf Tryd.f10) = true := by kernel_rfl
def f10.l0 (R s1 a4 A9 n9 c9 x10 x11 h) := Pt Tryd.prog Tryd.f10 R [false, false, true, false, true] (mkFr [(1, (Value.string s1)), (4, (Value.pointer (some a4))), (9, (Value.slice A9 n9 c9)), (10, (Value.int .i64 x10)), (11, (Value.int .i64 x11))]) h
def f10.l0T (R : VP) (s1 : ByteArray) (a4 : Addr) (A9 : Option Addr) (n9 c9 : Nat) (x10 x11 : Int) (h : Heap) : Prop :=
  splitB (decide (x11 < x10)) (ptrOk A9 fun a1_ => 0 ≤ x11 ∧ x11 < ((n9 : Nat) : Int) ∧ (∃ v2_, ldv true 2 h (Addr.add a1_ (Int.toNat x11 * 2)) = some v2_ ∧ newH h (Obj.cells #[(Value.string (ByteArray.mk #[])), (Value.slice none 0 0)] 37) fun h3_ => ∃ l5_ : List Value, v2_ = Value.agg l5_.toArray ∧ l5_.length = 2 ∧ ∃ h4_, stH h3_ (⟨Array.size h, 0, none⟩) l5_ 0 = some h4_ ∧ ∃ v6_, ldv false 1 h4_ (⟨Array.size h, 0, none⟩) = some v6_ ∧ ∃ s7_, v6_ = (Value.string s7_) ∧ splitB (ByteArray.toList s7_ == ByteArray.toList s1) (∃ v8_, ldv true 2 h4_ (⟨Array.size h, 0, none⟩) = some v8_ ∧ ∃ l10_ : List Value, v8_ = Value.agg l10_.toArray ∧ l10_.length = 2 ∧ ∃ h9_, stH h4_ a4 l10_ 0 = some h9_ ∧ ∃ v11_, ldv true 2 h9_ a4 = some v11_ ∧ R (Value.tuple #[v11_, (Value.int .i64 (0 : Int))]) h9_) (f10.l0 R s1 a4 A9 n9 c9 x10 (IntKind.wrap .i64 (x11 + (1 : Int))) h4_))) (∃ l13_ : List Value, (Value.agg #[(Value.string (ByteArray.mk #[])), (Value.slice none 0 0)]) = Value.agg l13_.toArray ∧ l13_.length = 2 ∧ ∃ h12_, stH h a4 l13_ 0 = some h12_ ∧ ∃ v14_, ldv true 2 h12_ a4 = some v14_ ∧ R (Value.tuple #[v14_, (Value.int .i64 (11 : Int))]) h12_)
theorem f10.l0_in {R s1 a4 A9 n9 c9 x10 x11 h} (H : f10.l0T R s1 a4 A9 n9 c9 x10 x11 h) : f10.l0 R s1 a4 A9 n9 c9 x10 x11 h := pt_in (kp := f10.kp) mixed f10.good (by kernel_rfl) H
def f10.runT (R : VP) (v0 : Value) (s1 : ByteArray) (h : Heap) : Prop :=
  newH h (Obj.cells ((v0).cells) 29) fun h1_ => newH h1_ (Obj.cells #[(Value.string (ByteArray.mk #[])), (Value.slice none 0 0)] 37) fun h2_ => ∃ v3_, ldv false 1 h2_ (Addr.add (⟨Array.size h, 0, none⟩) 4) = some v3_ ∧ ∃ A4_, ∃ n4_, ∃ c4_, v3_ = (Value.slice A4_ n4_ c4_) ∧ f10.l0 R s1 (⟨Array.size h1_, 0, none⟩) A4_ n4_ c4_ ((n4_ : Nat) : Int) (0 : Int) h2_
theorem f10.run {R : VP} {v0 : Value} {s1 : ByteArray} {h : Heap} (H : f10.runT R v0 s1 h) : Run Tryd.prog 10 #[v0, (Value.string s1)] h R := run_in (kp := f10.kp) mixed Tryd.func10 (by kernel_rfl) (by kernel_rfl) f10.good (by kernel_rfl) H
def f32.T : Tab := { sh := tSh, tup := tTup, keep := [], plan := [(6, (.take 0 (.take 1 (.take 2 (.take 4 (.take 5 (.take 6 (.take 3 (.take 7 (.take 8 .done))))))))))] }
def f32.kp : Keep := [([false, false, true, false, true, true], [0, 1, 12, 13])]
theorem f32.good : goodCode Tryd.prog f32.T (rootOf Tryd.f32) = true := by kernel_rfl
def f32.l0 (R A0 n0 c0 A1 n1 c1 x12 x13 h) := Pt Tryd.prog Tryd.f32 R [false, false, true, false, true, true] (mkFr [(0, (Value.slice A0 n0 c0)), (1, (Value.slice A1 n1 c1)), (12, (Value.int .i64 x12)), (13, (Value.int .i64 x13))]) h
def f32.l0T (R : VP) (A0 : Option Addr) (n0 c0 : Nat) (A1 : Option Addr) (n1 c1 : Nat) (x12 x13 : Int) (h : Heap) : Prop :=
  splitB (decide (x13 < x12)) (ptrOk A0 fun a1_ => 0 ≤ x13 ∧ x13 < ((n0 : Nat) : Int) ∧ (ptrOk A1 fun a2_ => 0 ≤ x13 ∧ x13 < ((n1 : Nat) : Int) ∧ (∃ v3_, ldv false 1 h (Addr.add a1_ (Int.toNat x13 * 1)) = some v3_ ∧ ∃ s4_, v3_ = (Value.string s4_) ∧ ∃ v5_, ldv false 1 h (Addr.add a2_ (Int.toNat x13 * 1)) = some v5_ ∧ ∃ s6_, v5_ = (Value.string s6_) ∧ splitB (!(ByteArray.toList s4_ == ByteArray.toList s6_)) (R (Value.bool false) h) (f32.l0 R A0 n0 c0 A1 n1 c1 x12 (IntKind.wrap .i64 (x13 + (1 : Int))) h)))) (R (Value.bool true) h)
theorem f32.l0_in {R A0 n0 c0 A1 n1 c1 x12 x13 h} (H : f32.l0T R A0 n0 c0 A1 n1 c1 x12 x13 h) : f32.l0 R A0 n0 c0 A1 n1 c1 x12 x13 h := pt_in (kp := f32.kp) mixed f32.good (by kernel_rfl) H
def f32.runT (R : VP) (A0 : Option Addr) (n0 c0 : Nat) (A1 : Option Addr) (n1 c1 : Nat) (h : Heap) : Prop :=
  splitB (((n0 : Nat) : Int) != ((n1 : Nat) : Int)) (R (Value.bool false) h) (f32.l0 R A0 n0 c0 A1 n1 c1 ((n0 : Nat) : Int) (0 : Int) h)
theorem f32.run {R : VP} {A0 : Option Addr} {n0 c0 : Nat} {A1 : Option Addr} {n1 c1 : Nat} {h : Heap} (H : f32.runT R A0 n0 c0 A1 n1 c1 h) : Run Tryd.prog 32 #[(Value.slice A0 n0 c0), (Value.slice A1 n1 c1)] h R := run_in (kp := f32.kp) mixed Tryd.func32 (by kernel_rfl) (by kernel_rfl) f32.good (by kernel_rfl) H
def f39.T : Tab := { sh := tSh, tup := tTup, keep := [], plan := [] }
def f39.kp : Keep := []
theorem f39.good : goodCode Tryd.prog f39.T (rootOf Tryd.f39) = true := by kernel_rfl
def f39.runT (R : VP) (v0 : Value) (h : Heap) : Prop :=
  newH h (Obj.cells ((v0).cells) 32) fun h1_ => ∃ v2_, ldv false 1 h1_ (⟨Array.size h, 0, none⟩) = some v2_ ∧ ∃ x3_, v2_ = (Value.int .i64 x3_) ∧ splitB (x3_ == (1 : Int)) (R (Value.string (ByteArray.mk #[105, 110, 116])) h1_) (splitB (x3_ == (2 : Int)) (R (Value.string (ByteArray.mk #[98, 111, 111, 108])) h1_) (splitB (x3_ == (3 : Int)) (R (Value.string (ByteArray.mk #[116, 101, 120, 116])) h1_) (splitB (x3_ == (4 : Int)) (R (Value.string (ByteArray.mk #[117, 110, 105, 116])) h1_) (splitB (x3_ == (6 : Int)) (∃ v4_, ldv false 1 h1_ (Addr.add (⟨Array.size h, 0, none⟩) 1) = some v4_ ∧ ∃ s5_, v4_ = (Value.string s5_) ∧ R (Value.string s5_) h1_) (R (Value.string (ByteArray.mk #[])) h1_)))))
theorem f39.run {R : VP} {v0 : Value} {h : Heap} (H : f39.runT R v0 h) : Run Tryd.prog 39 #[v0] h R := run_in (kp := f39.kp) mixed Tryd.func39 (by kernel_rfl) (by kernel_rfl) f39.good (by kernel_rfl) H
def f44.T : Tab := { sh := tSh, tup := tTup, keep := [], plan := [] }
def f44.kp : Keep := [([false, false, true, false, true, true], [1, 2, 6, 10, 11, 12])]
theorem f44.good : goodCode Tryd.prog f44.T (rootOf Tryd.f44) = true := by kernel_rfl
def f44.l0 (R s1 a2 A6 n6 c6 A10 n10 c10 x11 x12 h) := Pt Tryd.prog Tryd.f44 R [false, false, true, false, true, true] (mkFr [(1, (Value.string s1)), (2, (Value.pointer (some a2))), (6, (Value.slice A6 n6 c6)), (10, (Value.slice A10 n10 c10)), (11, (Value.int .i64 x11)), (12, (Value.int .i64 x12))]) h
def f44.l0T (R : VP) (s1 : ByteArray) (a2 : Addr) (A6 : Option Addr) (n6 c6 : Nat) (A10 : Option Addr) (n10 c10 : Nat) (x11 x12 : Int) (h : Heap) : Prop :=
  splitB (decide (x12 < x11)) (ptrOk A10 fun a1_ => 0 ≤ x12 ∧ x12 < ((n10 : Nat) : Int) ∧ (∃ v2_, ldv true 3 h (Addr.add a1_ (Int.toNat x12 * 3)) = some v2_ ∧ newH h (Obj.cells #[(Value.int .i64 (0 : Int)), (Value.string (ByteArray.mk #[])), (Value.slice none 0 0)] 32) fun h3_ => ∃ l5_ : List Value, v2_ = Value.agg l5_.toArray ∧ l5_.length = 3 ∧ ∃ h4_, stH h3_ (⟨Array.size h, 0, none⟩) l5_ 0 = some h4_ ∧ ∃ v6_, ldv false 1 h4_ (⟨Array.size h, 0, none⟩) = some v6_ ∧ ∃ x7_, v6_ = (Value.int .i64 x7_) ∧ splitB (x7_ != (5 : Int)) (R (Value.tuple #[(Value.slice none 0 0), (Value.bool false)]) h4_) (∃ v8_, ldv false 1 h4_ (Addr.add (⟨Array.size h, 0, none⟩) 1) = some v8_ ∧ ∃ s9_, v8_ = (Value.string s9_) ∧ newH h4_ (Obj.cells #[(Value.string s9_)] 9) fun h10_ => AppW 9 1 16 #[(Value.string (ByteArray.mk #[]))] A6 n6 c6 (Value.slice (some ⟨Array.size h4_, 0, none⟩) 1 1) h10_ fun v11_ h12_ => ∃ A13_, ∃ n13_, ∃ c13_, v11_ = (Value.slice A13_ n13_ c13_) ∧ f44.l0 R s1 a2 A13_ n13_ c13_ A10 n10 c10 x11 (IntKind.wrap .i64 (x12 + (1 : Int))) h12_))) (∃ v14_, ldv true 3 h a2 = some v14_ ∧ Run Tryd.prog 39 #[v14_] h fun v15_ h16_ => ∃ s17_, v15_ = (Value.string s17_) ∧ splitB (ByteArray.toList s17_ == ByteArray.toList s1) (Run Tryd.prog 42 #[(Value.slice A6 n6 c6)] h16_ fun v18_ h19_ => ∃ b20_, v18_ = (Value.bool b20_) ∧ R (Value.tuple #[(Value.slice A6 n6 c6), (Value.bool (!b20_))]) h19_) (R (Value.tuple #[(Value.slice A6 n6 c6), (Value.bool false)]) h16_))
theorem f44.l0_in {R s1 a2 A6 n6 c6 A10 n10 c10 x11 x12 h} (H : f44.l0T R s1 a2 A6 n6 c6 A10 n10 c10 x11 x12 h) : f44.l0 R s1 a2 A6 n6 c6 A10 n10 c10 x11 x12 h := pt_in (kp := f44.kp) mixed f44.good (by kernel_rfl) H
def f44.runT (R : VP) (v0 : Value) (s1 : ByteArray) (h : Heap) : Prop :=
  newH h (Obj.cells ((v0).cells) 32) fun h1_ => ∃ v2_, ldv false 1 h1_ (Addr.add (⟨Array.size h, 0, none⟩) 2) = some v2_ ∧ ∃ A3_, ∃ n3_, ∃ c3_, v2_ = (Value.slice A3_ n3_ c3_) ∧ f44.l0 R s1 (⟨Array.size h, 0, none⟩) none 0 0 A3_ n3_ c3_ ((n3_ : Nat) : Int) (0 : Int) h1_
theorem f44.run {R : VP} {v0 : Value} {s1 : ByteArray} {h : Heap} (H : f44.runT R v0 s1 h) : Run Tryd.prog 44 #[v0, (Value.string s1)] h R := run_in (kp := f44.kp) mixed Tryd.func44 (by kernel_rfl) (by kernel_rfl) f44.good (by kernel_rfl) H
def f72.T : Tab := { sh := tSh, tup := tTup, keep := [], plan := [] }
def f72.kp : Keep := []
theorem f72.good : goodCode Tryd.prog f72.T (rootOf Tryd.f72) = true := by kernel_rfl
def f72.runT (R : VP) (v0 : Value) (h : Heap) : Prop :=
  newH h (Obj.cells ((v0).cells) 32) fun h1_ => newH h1_ (Obj.cells #[(Value.int .i64 (0 : Int)), (Value.string (ByteArray.mk #[])), (Value.slice none 0 0)] 32) fun h2_ => ∃ v3_, ldv true 3 h2_ (⟨Array.size h, 0, none⟩) = some v3_ ∧ Run Tryd.prog 45 #[v3_, (Value.slice none 0 0), (Value.slice none 0 0)] h2_ fun v4_ h5_ => ∃ l7_ : List Value, v4_ = Value.agg l7_.toArray ∧ l7_.length = 3 ∧ ∃ h6_, stH h5_ (⟨Array.size h1_, 0, none⟩) l7_ 0 = some h6_ ∧ ∃ v8_, ldv true 3 h6_ (⟨Array.size h1_, 0, none⟩) = some v8_ ∧ R v8_ h6_
theorem f72.run {R : VP} {v0 : Value} {h : Heap} (H : f72.runT R v0 h) : Run Tryd.prog 72 #[v0] h R := run_in (kp := f72.kp) mixed Tryd.func72 (by kernel_rfl) (by kernel_rfl) f72.good (by kernel_rfl) H
def f73.T : Tab := { sh := tSh, tup := tTup, keep := [], plan := [] }
def f73.kp : Keep := []
theorem f73.good : goodCode Tryd.prog f73.T (rootOf Tryd.f73) = true := by kernel_rfl
def f73.runT (R : VP) (A0 : Option Addr) (n0 c0 : Nat) (h : Heap) : Prop :=
  splitB (Option.isNone A0) (R (Value.slice none 0 0) h) (newH h (Obj.cells #[] 32) fun h1_ => AppW 32 3 48 #[(Value.int .i64 (0 : Int)), (Value.string (ByteArray.mk #[])), (Value.slice none 0 0)] (some ⟨Array.size h, 0, none⟩) 0 0 (Value.slice A0 n0 c0) h1_ fun v2_ h3_ => ∃ A4_, ∃ n4_, ∃ c4_, v2_ = (Value.slice A4_ n4_ c4_) ∧ R (Value.slice A4_ n4_ c4_) h3_)
theorem f73.run {R : VP} {A0 : Option Addr} {n0 c0 : Nat} {h : Heap} (H : f73.runT R A0 n0 c0 h) : Run Tryd.prog 73 #[(Value.slice A0 n0 c0)] h R := run_in (kp := f73.kp) mixed Tryd.func73 (by kernel_rfl) (by kernel_rfl) f73.good (by kernel_rfl) H
def f45.T : Tab := { sh := tSh, tup := tTup, keep := [], plan := [(5, (.take 0 (.take 2 (.take 4 (.take 1 (.take 3 (.take 5 (.eff false true [] 6 (.eff false false [] 7 (.eff false false [] 8 .done)))))))))), (9, (.take 0 (.take 2 (.take 4 (.take 5 (.take 3 (.frame 1 (.eff false false [1] 6 (.take 7 (.eff false false [] 8 .done))))))))))] }
def f45.kp : Keep := [([true, true, false, true, false, true], [1, 2, 3, 6, 7, 24]), ([true, true], [1, 2, 3, 6]), ([false, false, true, false, true, true, true], [1, 2, 3, 6, 39, 40, 41])]
theorem f45.good : goodCode Tryd.prog f45.T (rootOf Tryd.f45) = true := by kernel_rfl
def f45.j1 (R A1 n1 c1 A2 n2 c2 a3 a6 x7 b24 h) := Pt Tryd.prog Tryd.f45 R [true, true, false, true, false, true] (mkFr [(1, (Value.slice A1 n1 c1)), (2, (Value.slice A2 n2 c2)), (3, (Value.pointer (some a3))), (6, (Value.pointer (some a6))), (7, (Value.int .i64 x7)), (24, (Value.bool b24))]) h
def f45.j0 (R A1 n1 c1 A2 n2 c2 a3 a6 h) := Pt Tryd.prog Tryd.f45 R [true, true] (mkFr [(1, (Value.slice A1 n1 c1)), (2, (Value.slice A2 n2 c2)), (3, (Value.pointer (some a3))), (6, (Value.pointer (some a6)))]) h
def f45.l0 (R A1 n1 c1 A2 n2 c2 a3 a6 A39 n39 c39 x40 x41 h) := Pt Tryd.prog Tryd.f45 R [false, false, true, false, true, true, true] (mkFr [(1, (Value.slice A1 n1 c1)), (2, (Value.slice A2 n2 c2)), (3, (Value.pointer (some a3))), (6, (Value.pointer (some a6))), (39, (Value.slice A39 n39 c39)), (40, (Value.int .i64 x40)), (41, (Value.int .i64 x41))]) h
def f45.j1T (R : VP) (A1 : Option Addr) (n1 c1 : Nat) (A2 : Option Addr) (n2 c2 : Nat) (a3 a6 : Addr) (x7 : Int) (b24 : Bool) (h : Heap) : Prop :=
  splitB b24 (ptrOk A2 fun a1_ => 0 ≤ x7 ∧ x7 < ((n2 : Nat) : Int) ∧ (∃ v2_, ldv true 3 h (Addr.add a1_ (Int.toNat x7 * 3)) = some v2_ ∧ Run Tryd.prog 72 #[v2_] h fun v3_ h4_ => ∃ l6_ : List Value, v3_ = Value.agg l6_.toArray ∧ l6_.length = 3 ∧ ∃ h5_, stH h4_ a6 l6_ 0 = some h5_ ∧ ∃ v7_, ldv true 3 h5_ a6 = some v7_ ∧ R v7_ h5_)) (f45.j0 R A1 n1 c1 A2 n2 c2 a3 a6 h)
theorem f45.j1_in {R A1 n1 c1 A2 n2 c2 a3 a6 x7 b24 h} (H : f45.j1T R A1 n1 c1 A2 n2 c2 a3 a6 x7 b24 h) : f45.j1 R A1 n1 c1 A2 n2 c2 a3 a6 x7 b24 h := pt_in (kp := f45.kp) mixed f45.good (by kernel_rfl) H
def f45.j0T (R : VP) (A1 : Option Addr) (n1 c1 : Nat) (A2 : Option Addr) (n2 c2 : Nat) (a3 a6 : Addr) (h : Heap) : Prop :=
  ∃ v1_, ldv false 1 h a3 = some v1_ ∧ ∃ x2_, v1_ = (Value.int .i64 x2_) ∧ ∃ v3_, ldv false 1 h (Addr.add a3 1) = some v3_ ∧ ∃ s4_, v3_ = (Value.string s4_) ∧ ∃ v5_, ldv false 1 h (Addr.add a3 2) = some v5_ ∧ ∃ A6_, ∃ n6_, ∃ c6_, v5_ = (Value.slice A6_ n6_ c6_) ∧ Run Tryd.prog 73 #[(Value.slice A6_ n6_ c6_)] h fun v7_ h8_ => ∃ A9_, ∃ n9_, ∃ c9_, v7_ = (Value.slice A9_ n9_ c9_) ∧ Ext h h8_ ∧ (∃ l11_ : List Value, (Value.agg #[(Value.int .i64 x2_), (Value.string s4_), (Value.slice A9_ n9_ c9_)]) = Value.agg l11_.toArray ∧ l11_.length = 3 ∧ ∃ h10_, stH h8_ a3 l11_ 0 = some h10_ ∧ ∃ v12_, ldv false 1 h10_ (Addr.add a3 2) = some v12_ ∧ ∃ A13_, ∃ n13_, ∃ c13_, v12_ = (Value.slice A13_ n13_ c13_) ∧ f45.l0 R A1 n1 c1 A2 n2 c2 a3 a6 A13_ n13_ c13_ ((n13_ : Nat) : Int) (0 : Int) h10_)
theorem f45.j0_in {R A1 n1 c1 A2 n2 c2 a3 a6 h} (H : f45.j0T R A1 n1 c1 A2 n2 c2 a3 a6 h) : f45.j0 R A1 n1 c1 A2 n2 c2 a3 a6 h := pt_in (kp := f45.kp) mixed f45.good (by kernel_rfl) H
def f45.l0T (R : VP) (A1 : Option Addr) (n1 c1 : Nat) (A2 : Option Addr) (n2 c2 : Nat) (a3 a6 : Addr) (A39 : Option Addr) (n39 c39 : Nat) (x40 x41 : Int) (h : Heap) : Prop :=
  splitB (decide (x41 < x40)) (ptrOk A39 fun a1_ => 0 ≤ x41 ∧ x41 < ((n39 : Nat) : Int) ∧ (∃ v2_, ldv true 3 h (Addr.add a1_ (Int.toNat x41 * 3)) = some v2_ ∧ newH h (Obj.cells #[(Value.int .i64 (0 : Int)), (Value.string (ByteArray.mk #[])), (Value.slice none 0 0)] 32) fun h3_ => ∃ l5_ : List Value, v2_ = Value.agg l5_.toArray ∧ l5_.length = 3 ∧ ∃ h4_, stH h3_ (⟨Array.size h, 0, none⟩) l5_ 0 = some h4_ ∧ ∃ v6_, ldv true 3 h4_ (⟨Array.size h, 0, none⟩) = some v6_ ∧ ∃ v7_, ldv false 1 h4_ (Addr.add a3 2) = some v7_ ∧ ∃ A8_, ∃ n8_, ∃ c8_, v7_ = (Value.slice A8_ n8_ c8_) ∧ Run Tryd.prog 45 #[v6_, (Value.slice A1 n1 c1), (Value.slice A2 n2 c2)] h4_ fun v9_ h10_ => ldv false 1 h10_ (Addr.add a3 2) = some v7_ ∧ (ptrOk A8_ fun a11_ => 0 ≤ x41 ∧ x41 < ((n8_ : Nat) : Int) ∧ (∃ l13_ : List Value, v9_ = Value.agg l13_.toArray ∧ l13_.length = 3 ∧ ∃ h12_, stH h10_ (Addr.add a11_ (Int.toNat x41 * 3)) l13_ 0 = some h12_ ∧ f45.l0 R A1 n1 c1 A2 n2 c2 a3 a6 A39 n39 c39 x40 (IntKind.wrap .i64 (x41 + (1 : Int))) h12_)))) (∃ v14_, ldv true 3 h a3 = some v14_ ∧ ∃ l16_ : List Value, v14_ = Value.agg l16_.toArray ∧ l16_.length = 3 ∧ ∃ h15_, stH h a6 l16_ 0 = some h15_ ∧ ∃ v17_, ldv true 3 h15_ a6 = some v17_ ∧ R v17_ h15_)
theorem f45.l0_in {R A1 n1 c1 A2 n2 c2 a3 a6 A39 n39 c39 x40 x41 h} (H : f45.l0T R A1 n1 c1 A2 n2 c2 a3 a6 A39 n39 c39 x40 x41 h) : f45.l0 R A1 n1 c1 A2 n2 c2 a3 a6 A39 n39 c39 x40 x41 h := pt_in (kp := f45.kp) mixed f45.good (by kernel_rfl) H
def f45.runT (R : VP) (v0 : Value) (A1 : Option Addr) (n1 c1 : Nat) (A2 : Option Addr) (n2 c2 : Nat) (h : Heap) : Prop :=
  newH h (Obj.cells ((v0).cells) 32) fun h1_ => newH h1_ (Obj.cells #[(Value.int .i64 (0 : Int)), (Value.string (ByteArray.mk #[])), (Value.slice none 0 0)] 32) fun h2_ => ∃ v3_, ldv false 1 h2_ (⟨Array.size h, 0, none⟩) = some v3_ ∧ ∃ x4_, v3_ = (Value.int .i64 x4_) ∧ splitB (x4_ == (5 : Int)) (∃ v5_, ldv false 1 h2_ (Addr.add (⟨Array.size h, 0, none⟩) 1) = some v5_ ∧ ∃ s6_, v5_ = (Value.string s6_) ∧ Run Tryd.prog 53 #[(Value.slice A1 n1 c1), (Value.string s6_)] h2_ fun v7_ h8_ => ∃ x9_, v7_ = (Value.int .i64 x9_) ∧ splitB (decide (x9_ ≥ (0 : Int))) (f45.j1 R A1 n1 c1 A2 n2 c2 (⟨Array.size h, 0, none⟩) (⟨Array.size h1_, 0, none⟩) x9_ (decide (x9_ < ((n2 : Nat) : Int))) h8_) (f45.j1 R A1 n1 c1 A2 n2 c2 (⟨Array.size h, 0, none⟩) (⟨Array.size h1_, 0, none⟩) x9_ false h8_)) (f45.j0 R A1 n1 c1 A2 n2 c2 (⟨Array.size h, 0, none⟩) (⟨Array.size h1_, 0, none⟩) h2_)
theorem f45.run {R : VP} {v0 : Value} {A1 : Option Addr} {n1 c1 : Nat} {A2 : Option Addr} {n2 c2 : Nat} {h : Heap} (H : f45.runT R v0 A1 n1 c1 A2 n2 c2 h) : Run Tryd.prog 45 #[v0, (Value.slice A1 n1 c1), (Value.slice A2 n2 c2)] h R := run_in (kp := f45.kp) mixed Tryd.func45 (by kernel_rfl) (by kernel_rfl) f45.good (by kernel_rfl) H
def f17.T : Tab := { sh := tSh, tup := tTup, keep := [], plan := [(3, (.take 0 (.take 4 (.take 1 (.take 2 (.take 3 (.take 5 (.eff false false [] 6 (.take 7 (.take 8 (.take 9 (.take 10 (.take 11 .done))))))))))))), (4, (.take 0 (.take 1 (.take 2 (.split 2 (.take 3 (.take 5 (.take 6 (.take 7 (.frame 4 (.eff false false [4] 8 (.eff false false [] 9 (.take 10 (.take 11 (.take 12 (.split 12 (.take 13 (.take 14 (.eff false false [] 15 (.take 16 .done)))))))))))))))))))), (6, (.take 1 (.take 2 (.take 3 (.take 4 (.alt false true [] 0 (.take 6 (.eff false false [] 5 (.take 7 .done))) (.eff false false [] 5 (.eff false true [] 0 (.take 6 (.take 7 .done)))))))))), (10, (.take 0 (.take 2 (.take 6 (.take 7 (.take 5 (.frame 1 (.take 3 (.frame 4 (.eff false false [1, 4] 8 (.eff false false [] 9 (.take 10 .done)))))))))))), (13, (.take 0 (.take 2 (.take 4 (.take 5 (.take 3 (.frame 1 (.eff false false [1] 6 (.eff false false [] 7 (.take 8 .done))))))))))] }
def f17.kp : Keep := [([true, true], [3, 4, 5]), ([true, true, true, true], [4, 5]), ([true, true, true, true, true], [4, 5, 9, 10]), ([false, false, true, false, true, true, true, true, true], [4, 5, 9, 10, 60, 61, 62])]
theorem f17.good : goodCode Tryd.prog f17.T (rootOf Tryd.f17) = true := by kernel_rfl
def f17.j0 (R a3 a4 a5 h) := Pt Tryd.prog Tryd.f17 R [true, true] (mkFr [(3, (Value.pointer (some a3))), (4, (Value.pointer (some a4))), (5, (Value.pointer (some a5)))]) h
def f17.j1 (R a4 a5 h) := Pt Tryd.prog Tryd.f17 R [true, true, true, true] (mkFr [(4, (Value.pointer (some a4))), (5, (Value.pointer (some a5)))]) h
def f17.j2 (R a4 a5 A9 n9 c9 A10 n10 c10 h) := Pt Tryd.prog Tryd.f17 R [true, true, true, true, true] (mkFr [(4, (Value.pointer (some a4))), (5, (Value.pointer (some a5))), (9, (Value.slice A9 n9 c9)), (10, (Value.slice A10 n10 c10))]) h
def f17.l0 (R a4 a5 A9 n9 c9 A10 n10 c10 A60 n60 c60 x61 x62 h) := Pt Tryd.prog Tryd.f17 R [false, false, true, false, true, true, true, true, true] (mkFr [(4, (Value.pointer (some a4))), (5, (Value.pointer (some a5))), (9, (Value.slice A9 n9 c9)), (10, (Value.slice A10 n10 c10)), (60, (Value.slice A60 n60 c60)), (61, (Value.int .i64 x61)), (62, (Value.int .i64 x62))]) h
def f17.j0T (R : VP) (a3 a4 a5 : Addr) (h : Heap) : Prop :=
  ∃ v1_, ldv false 1 h (Addr.add a4 3) = some v1_ ∧ ∃ A2_, ∃ n2_, ∃ c2_, v1_ = (Value.slice A2_ n2_ c2_) ∧ ptrOk A2_ fun a3_ => 0 ≤ (0 : Int) ∧ (0 : Int) < ((n2_ : Nat) : Int) ∧ (∃ v4_, ldv true 3 h (Addr.add a3_ (Int.toNat (0 : Int) * 3)) = some v4_ ∧ ∃ v5_, ldv false 1 h (Addr.add a3 1) = some v5_ ∧ ∃ s6_, v5_ = (Value.string s6_) ∧ Run Tryd.prog 44 #[v4_, (Value.string s6_)] h fun v7_ h8_ => ∃ A9_, ∃ n9_, ∃ c9_, ∃ b10_, v7_ = (Value.tuple #[(Value.slice A9_ n9_ c9_), (Value.bool b10_)]) ∧ splitB (!b10_) (True ∧ (R (Value.int .i64 (12 : Int)) h8_)) (∃ v11_, ldv false 1 h8_ (Addr.add a5 1) = some v11_ ∧ ∃ A12_, ∃ n12_, ∃ c12_, v11_ = (Value.slice A12_ n12_ c12_) ∧ ∃ v13_, ldv false 1 h8_ (Addr.add a4 1) = some v13_ ∧ ∃ A14_, ∃ n14_, ∃ c14_, v13_ = (Value.slice A14_ n14_ c14_) ∧ AppW 9 1 16 #[(Value.string (ByteArray.mk #[]))] A9_ n9_ c9_ (Value.slice A12_ n12_ c12_) h8_ fun v15_ h16_ => ∃ A17_, ∃ n17_, ∃ c17_, v15_ = (Value.slice A17_ n17_ c17_) ∧ ldv false 1 h16_ (Addr.add a4 1) = some v13_ ∧ (Run Tryd.prog 32 #[(Value.slice A14_ n14_ c14_), (Value.slice A17_ n17_ c17_)] h16_ fun v18_ h19_ => ∃ b20_, v18_ = (Value.bool b20_) ∧ splitB (!b20_) (R (Value.int .i64 (12 : Int)) h19_) (∃ v21_, ldv false 1 h19_ (Addr.add a4 1) = some v21_ ∧ ∃ A22_, ∃ n22_, ∃ c22_, v21_ = (Value.slice A22_ n22_ c22_) ∧ Run Tryd.prog 42 #[(Value.slice A22_ n22_ c22_)] h19_ fun v23_ h24_ => ∃ b25_, v23_ = (Value.bool b25_) ∧ splitB b25_ (R (Value.int .i64 (12 : Int)) h24_) (f17.j1 R a4 a5 h24_)))))
theorem f17.j0_in {R a3 a4 a5 h} (H : f17.j0T R a3 a4 a5 h) : f17.j0 R a3 a4 a5 h := pt_in (kp := f17.kp) mixed f17.good (by kernel_rfl) H
def f17.j1T (R : VP) (a4 a5 : Addr) (h : Heap) : Prop :=
  ∃ v1_, ldv false 1 h (Addr.add a4 3) = some v1_ ∧ ∃ A2_, ∃ n2_, ∃ c2_, v1_ = (Value.slice A2_ n2_ c2_) ∧ ptrOk A2_ fun a3_ => 0 ≤ (0 : Int) ∧ (0 : Int) < ((n2_ : Nat) : Int) ∧ (∃ v4_, ldv true 3 h (Addr.add a3_ (Int.toNat (0 : Int) * 3)) = some v4_ ∧ (newH h (Obj.cells #[(Value.string (ByteArray.mk #[115, 101, 108, 102]))] 9) fun h5_ => Ext h h5_ ∧ (∃ l6_ : List Value, v4_ = Value.agg l6_.toArray ∧ l6_.length = 3 ∧ (newH h5_ (Obj.cells ((List.take 0 ([(Value.int .i64 (0 : Int)), (Value.string (ByteArray.mk #[])), (Value.slice none 0 0)]) ++ l6_ ++ List.drop 3 ([(Value.int .i64 (0 : Int)), (Value.string (ByteArray.mk #[])), (Value.slice none 0 0)])).toArray) 32) fun h7_ => f17.j2 R a4 a5 (some ⟨Array.size h, 0, none⟩) 1 1 (some ⟨Array.size h5_, 0, none⟩) 1 1 h7_))) ∧ (∃ l8_ : List Value, v4_ = Value.agg l8_.toArray ∧ l8_.length = 3 ∧ (newH h (Obj.cells ((List.take 0 ([(Value.int .i64 (0 : Int)), (Value.string (ByteArray.mk #[])), (Value.slice none 0 0)]) ++ l8_ ++ List.drop 3 ([(Value.int .i64 (0 : Int)), (Value.string (ByteArray.mk #[])), (Value.slice none 0 0)])).toArray) 32) fun h9_ => newH h9_ (Obj.cells #[(Value.string (ByteArray.mk #[115, 101, 108, 102]))] 9) fun h10_ => Ext h h10_ ∧ (f17.j2 R a4 a5 (some ⟨Array.size h9_, 0, none⟩) 1 1 (some ⟨Array.size h, 0, none⟩) 1 1 h10_))))
theorem f17.j1_in {R a4 a5 h} (H : f17.j1T R a4 a5 h) : f17.j1 R a4 a5 h := pt_in (kp := f17.kp) mixed f17.good (by kernel_rfl) H
def f17.j2T (R : VP) (a4 a5 : Addr) (A9 : Option Addr) (n9 c9 : Nat) (A10 : Option Addr) (n10 c10 : Nat) (h : Heap) : Prop :=
  ∃ v1_, ldv false 1 h (Addr.add a5 3) = some v1_ ∧ ∃ A2_, ∃ n2_, ∃ c2_, v1_ = (Value.slice A2_ n2_ c2_) ∧ f17.l0 R a4 a5 A9 n9 c9 A10 n10 c10 A2_ n2_ c2_ ((n2_ : Nat) : Int) (0 : Int) h
theorem f17.j2_in {R a4 a5 A9 n9 c9 A10 n10 c10 h} (H : f17.j2T R a4 a5 A9 n9 c9 A10 n10 c10 h) : f17.j2 R a4 a5 A9 n9 c9 A10 n10 c10 h := pt_in (kp := f17.kp) mixed f17.good (by kernel_rfl) H
def f17.l0T (R : VP) (a4 a5 : Addr) (A9 : Option Addr) (n9 c9 : Nat) (A10 : Option Addr) (n10 c10 : Nat) (A60 : Option Addr) (n60 c60 : Nat) (x61 x62 : Int) (h : Heap) : Prop :=
  splitB (decide (x62 < x61)) (ptrOk A60 fun a1_ => 0 ≤ x62 ∧ x62 < ((n60 : Nat) : Int) ∧ (∃ v2_, ldv true 3 h (Addr.add a1_ (Int.toNat x62 * 3)) = some v2_ ∧ newH h (Obj.cells #[(Value.int .i64 (0 : Int)), (Value.string (ByteArray.mk #[])), (Value.slice none 0 0)] 32) fun h3_ => ∃ l5_ : List Value, v2_ = Value.agg l5_.toArray ∧ l5_.length = 3 ∧ ∃ h4_, stH h3_ (⟨Array.size h, 0, none⟩) l5_ 0 = some h4_ ∧ ∃ v6_, ldv true 3 h4_ (⟨Array.size h, 0, none⟩) = some v6_ ∧ ∃ v7_, ldv false 1 h4_ (Addr.add a4 3) = some v7_ ∧ ∃ A8_, ∃ n8_, ∃ c8_, v7_ = (Value.slice A8_ n8_ c8_) ∧ ptrOk A8_ fun a9_ => 0 ≤ x62 ∧ x62 < ((n8_ : Nat) : Int) ∧ (∃ v10_, ldv true 3 h4_ (Addr.add a9_ (Int.toNat x62 * 3)) = some v10_ ∧ Run Tryd.prog 45 #[v6_, (Value.slice A9 n9 c9), (Value.slice A10 n10 c10)] h4_ fun v11_ h12_ => ldv false 1 h12_ (Addr.add a4 3) = some v7_ ∧ (ldv true 3 h12_ (Addr.add a9_ (Int.toNat x62 * 3)) = some v10_ ∧ (Run Tryd.prog 41 #[v10_, v11_] h12_ fun v13_ h14_ => ∃ b15_, v13_ = (Value.bool b15_) ∧ splitB (!b15_) (R (Value.int .i64 (12 : Int)) h14_) (f17.l0 R a4 a5 A9 n9 c9 A10 n10 c10 A60 n60 c60 x61 (IntKind.wrap .i64 (x62 + (1 : Int))) h14_)))))) (∃ v16_, ldv true 3 h (Addr.add a5 4) = some v16_ ∧ ∃ v17_, ldv true 3 h (Addr.add a4 4) = some v17_ ∧ Run Tryd.prog 45 #[v16_, (Value.slice A9 n9 c9), (Value.slice A10 n10 c10)] h fun v18_ h19_ => ldv true 3 h19_ (Addr.add a4 4) = some v17_ ∧ (Run Tryd.prog 41 #[v17_, v18_] h19_ fun v20_ h21_ => ∃ b22_, v20_ = (Value.bool b22_) ∧ splitB (!b22_) (R (Value.int .i64 (12 : Int)) h21_) (R (Value.int .i64 (0 : Int)) h21_)))
theorem f17.l0_in {R a4 a5 A9 n9 c9 A10 n10 c10 A60 n60 c60 x61 x62 h} (H : f17.l0T R a4 a5 A9 n9 c9 A10 n10 c10 A60 n60 c60 x61 x62 h) : f17.l0 R a4 a5 A9 n9 c9 A10 n10 c10 A60 n60 c60 x61 x62 h := pt_in (kp := f17.kp) mixed f17.good (by kernel_rfl) H
def f17.runT (R : VP) (v0 v1 v2 : Value) (h : Heap) : Prop :=
  newH h (Obj.cells ((v0).cells) 45) fun h1_ => newH h1_ (Obj.cells ((v1).cells) 56) fun h2_ => newH h2_ (Obj.cells ((v2).cells) 56) fun h3_ => ∃ v4_, ldv false 1 h3_ (Addr.add (⟨Array.size h1_, 0, none⟩) 3) = some v4_ ∧ ∃ A5_, ∃ n5_, ∃ c5_, v4_ = (Value.slice A5_ n5_ c5_) ∧ ∃ v6_, ldv false 1 h3_ (Addr.add (⟨Array.size h2_, 0, none⟩) 3) = some v6_ ∧ ∃ A7_, ∃ n7_, ∃ c7_, v6_ = (Value.slice A7_ n7_ c7_) ∧ splitB (((n5_ : Nat) : Int) != ((n7_ : Nat) : Int)) (R (Value.int .i64 (12 : Int)) h3_) (∃ v8_, ldv false 1 h3_ (Addr.add (⟨Array.size h1_, 0, none⟩) 3) = some v8_ ∧ ∃ A9_, ∃ n9_, ∃ c9_, v8_ = (Value.slice A9_ n9_ c9_) ∧ splitB (((n9_ : Nat) : Int) == (0 : Int)) (R (Value.int .i64 (12 : Int)) h3_) (f17.j0 R (⟨Array.size h, 0, none⟩) (⟨Array.size h1_, 0, none⟩) (⟨Array.size h2_, 0, none⟩) h3_))
theorem f17.run {R : VP} {v0 v1 v2 : Value} {h : Heap} (H : f17.runT R v0 v1 v2 h) : Run Tryd.prog 17 #[v0, v1, v2] h R := run_in (kp := f17.kp) mixed Tryd.func17 (by kernel_rfl) (by kernel_rfl) f17.good (by kernel_rfl) H
def f63.T : Tab := { sh := tSh, tup := tTup, keep := [], plan := [] }
def f63.kp : Keep := [([false, false, true, false, true], [1, 4, 9, 10, 11])]
theorem f63.good : goodCode Tryd.prog f63.T (rootOf Tryd.f63) = true := by kernel_rfl
def f63.l0 (R s1 a4 A9 n9 c9 x10 x11 h) := Pt Tryd.prog Tryd.f63 R [false, false, true, false, true] (mkFr [(1, (Value.string s1)), (4, (Value.pointer (some a4))), (9, (Value.slice A9 n9 c9)), (10, (Value.int .i64 x10)), (11, (Value.int .i64 x11))]) h
def f63.l0T (R : VP) (s1 : ByteArray) (a4 : Addr) (A9 : Option Addr) (n9 c9 : Nat) (x10 x11 : Int) (h : Heap) : Prop :=
  splitB (decide (x11 < x10)) (ptrOk A9 fun a1_ => 0 ≤ x11 ∧ x11 < ((n9 : Nat) : Int) ∧ (∃ v2_, ldv true 3 h (Addr.add a1_ (Int.toNat x11 * 3)) = some v2_ ∧ newH h (Obj.cells #[(Value.string (ByteArray.mk #[])), (Value.slice none 0 0), (Value.slice none 0 0)] 104) fun h3_ => ∃ l5_ : List Value, v2_ = Value.agg l5_.toArray ∧ l5_.length = 3 ∧ ∃ h4_, stH h3_ (⟨Array.size h, 0, none⟩) l5_ 0 = some h4_ ∧ ∃ v6_, ldv false 1 h4_ (⟨Array.size h, 0, none⟩) = some v6_ ∧ ∃ s7_, v6_ = (Value.string s7_) ∧ splitB (ByteArray.toList s7_ == ByteArray.toList s1) (∃ v8_, ldv true 3 h4_ (⟨Array.size h, 0, none⟩) = some v8_ ∧ ∃ l10_ : List Value, v8_ = Value.agg l10_.toArray ∧ l10_.length = 3 ∧ ∃ h9_, stH h4_ a4 l10_ 0 = some h9_ ∧ ∃ v11_, ldv true 3 h9_ a4 = some v11_ ∧ R (Value.tuple #[v11_, (Value.int .i64 (0 : Int))]) h9_) (f63.l0 R s1 a4 A9 n9 c9 x10 (IntKind.wrap .i64 (x11 + (1 : Int))) h4_))) (∃ l13_ : List Value, (Value.agg #[(Value.string (ByteArray.mk #[])), (Value.slice none 0 0), (Value.slice none 0 0)]) = Value.agg l13_.toArray ∧ l13_.length = 3 ∧ ∃ h12_, stH h a4 l13_ 0 = some h12_ ∧ ∃ v14_, ldv true 3 h12_ a4 = some v14_ ∧ R (Value.tuple #[v14_, (Value.int .i64 (11 : Int))]) h12_)
theorem f63.l0_in {R s1 a4 A9 n9 c9 x10 x11 h} (H : f63.l0T R s1 a4 A9 n9 c9 x10 x11 h) : f63.l0 R s1 a4 A9 n9 c9 x10 x11 h := pt_in (kp := f63.kp) mixed f63.good (by kernel_rfl) H
def f63.runT (R : VP) (v0 : Value) (s1 : ByteArray) (h : Heap) : Prop :=
  newH h (Obj.cells ((v0).cells) 29) fun h1_ => newH h1_ (Obj.cells #[(Value.string (ByteArray.mk #[])), (Value.slice none 0 0), (Value.slice none 0 0)] 104) fun h2_ => ∃ v3_, ldv false 1 h2_ (Addr.add (⟨Array.size h, 0, none⟩) 3) = some v3_ ∧ ∃ A4_, ∃ n4_, ∃ c4_, v3_ = (Value.slice A4_ n4_ c4_) ∧ f63.l0 R s1 (⟨Array.size h1_, 0, none⟩) A4_ n4_ c4_ ((n4_ : Nat) : Int) (0 : Int) h2_
theorem f63.run {R : VP} {v0 : Value} {s1 : ByteArray} {h : Heap} (H : f63.runT R v0 s1 h) : Run Tryd.prog 63 #[v0, (Value.string s1)] h R := run_in (kp := f63.kp) mixed Tryd.func63 (by kernel_rfl) (by kernel_rfl) f63.good (by kernel_rfl) H
def f35.T : Tab := { sh := tSh, tup := tTup, keep := [], plan := [(12, (.take 0 (.take 2 (.take 4 (.take 1 (.take 3 (.take 5 (.take 6 (.take 7 (.take 8 .done)))))))))), (14, (.take 2 (.take 4 (.take 0 (.take 1 (.take 3 (.take 5 (.take 6 (.eff false false [] 7 (.take 8 .done))))))))))] }
def f35.kp : Keep := [([true, true, false, true, true, true], [3, 5, 8, 37]), ([true, true, true, true], [3, 5]), ([false, false, true, false, true, true, true, true, true], [3, 5, 47, 48, 49])]
theorem f35.good : goodCode Tryd.prog f35.T (rootOf Tryd.f35) = true := by kernel_rfl
def f35.j1 (R a3 a5 x8 b37 h) := Pt Tryd.prog Tryd.f35 R [true, true, false, true, true, true] (mkFr [(3, (Value.pointer (some a3))), (5, (Value.pointer (some a5))), (8, (Value.int .i64 x8)), (37, (Value.bool b37))]) h
def f35.j0 (R a3 a5 h) := Pt Tryd.prog Tryd.f35 R [true, true, true, true] (mkFr [(3, (Value.pointer (some a3))), (5, (Value.pointer (some a5)))]) h
def f35.l0 (R a3 a5 A47 n47 c47 x48 x49 h) := Pt Tryd.prog Tryd.f35 R [false, false, true, false, true, true, true, true, true] (mkFr [(3, (Value.pointer (some a3))), (5, (Value.pointer (some a5))), (47, (Value.slice A47 n47 c47)), (48, (Value.int .i64 x48)), (49, (Value.int .i64 x49))]) h
def f35.j1T (R : VP) (a3 a5 : Addr) (x8 : Int) (b37 : Bool) (h : Heap) : Prop :=
  splitB b37 (R (Value.int .i64 x8) h) (f35.j0 R a3 a5 h)
theorem f35.j1_in {R a3 a5 x8 b37 h} (H : f35.j1T R a3 a5 x8 b37 h) : f35.j1 R a3 a5 x8 b37 h := pt_in (kp := f35.kp) mixed f35.good (by kernel_rfl) H
def f35.j0T (R : VP) (a3 a5 : Addr) (h : Heap) : Prop :=
  ∃ v1_, ldv false 1 h (Addr.add a3 2) = some v1_ ∧ ∃ A2_, ∃ n2_, ∃ c2_, v1_ = (Value.slice A2_ n2_ c2_) ∧ ∃ v3_, ldv false 1 h (Addr.add a5 1) = some v3_ ∧ ∃ A4_, ∃ n4_, ∃ c4_, v3_ = (Value.slice A4_ n4_ c4_) ∧ splitB (((n2_ : Nat) : Int) != ((n4_ : Nat) : Int)) (R (Value.int .i64 (16 : Int)) h) (∃ v5_, ldv false 1 h (Addr.add a3 2) = some v5_ ∧ ∃ A6_, ∃ n6_, ∃ c6_, v5_ = (Value.slice A6_ n6_ c6_) ∧ f35.l0 R a3 a5 A6_ n6_ c6_ ((n6_ : Nat) : Int) (0 : Int) h)
theorem f35.j0_in {R a3 a5 h} (H : f35.j0T R a3 a5 h) : f35.j0 R a3 a5 h := pt_in (kp := f35.kp) mixed f35.good (by kernel_rfl) H
def f35.l0T (R : VP) (a3 a5 : Addr) (A47 : Option Addr) (n47 c47 : Nat) (x48 x49 : Int) (h : Heap) : Prop :=
  splitB (decide (x49 < x48)) (ptrOk A47 fun a1_ => 0 ≤ x49 ∧ x49 < ((n47 : Nat) : Int) ∧ (∃ v2_, ldv true 15 h (Addr.add a1_ (Int.toNat x49 * 15)) = some v2_ ∧ newH h (Obj.cells #[(Value.string (ByteArray.mk #[])), (Value.slice none 0 0), (Value.slice none 0 0), (Value.slice none 0 0), (Value.int .i64 (0 : Int)), (Value.string (ByteArray.mk #[])), (Value.slice none 0 0), (Value.int .i64 (0 : Int)), (Value.int .i64 (0 : Int)), (Value.string (ByteArray.mk #[])), (Value.slice none 0 0), (Value.slice none 0 0), (Value.slice none 0 0), (Value.slice none 0 0), (Value.int .i64 (0 : Int))] 56) fun h3_ => ∃ l5_ : List Value, v2_ = Value.agg l5_.toArray ∧ l5_.length = 15 ∧ ∃ h4_, stH h3_ (⟨Array.size h, 0, none⟩) l5_ 0 = some h4_ ∧ ∃ v6_, ldv false 1 h4_ (⟨Array.size h, 0, none⟩) = some v6_ ∧ ∃ s7_, v6_ = (Value.string s7_) ∧ ∃ v8_, ldv false 1 h4_ (Addr.add a5 1) = some v8_ ∧ ∃ A9_, ∃ n9_, ∃ c9_, v8_ = (Value.slice A9_ n9_ c9_) ∧ ptrOk A9_ fun a10_ => 0 ≤ x49 ∧ x49 < ((n9_ : Nat) : Int) ∧ (∃ v11_, ldv false 1 h4_ (Addr.add a10_ (Int.toNat x49 * 15)) = some v11_ ∧ ∃ s12_, v11_ = (Value.string s12_) ∧ splitB (!(ByteArray.toList s7_ == ByteArray.toList s12_)) (R (Value.int .i64 (16 : Int)) h4_) (∃ v13_, ldv true 3 h4_ a3 = some v13_ ∧ ∃ v14_, ldv true 15 h4_ (⟨Array.size h, 0, none⟩) = some v14_ ∧ ∃ v15_, ldv false 1 h4_ (Addr.add a5 1) = some v15_ ∧ ∃ A16_, ∃ n16_, ∃ c16_, v15_ = (Value.slice A16_ n16_ c16_) ∧ ptrOk A16_ fun a17_ => 0 ≤ x49 ∧ x49 < ((n16_ : Nat) : Int) ∧ (∃ v18_, ldv true 15 h4_ (Addr.add a17_ (Int.toNat x49 * 15)) = some v18_ ∧ Run Tryd.prog 17 #[v13_, v14_, v18_] h4_ fun v19_ h20_ => ∃ x21_, v19_ = (Value.int .i64 x21_) ∧ splitB (x21_ != (0 : Int)) (R (Value.int .i64 x21_) h20_) (f35.l0 R a3 a5 A47 n47 c47 x48 (IntKind.wrap .i64 (x49 + (1 : Int))) h20_)))))) (R (Value.int .i64 (0 : Int)) h)
theorem f35.l0_in {R a3 a5 A47 n47 c47 x48 x49 h} (H : f35.l0T R a3 a5 A47 n47 c47 x48 x49 h) : f35.l0 R a3 a5 A47 n47 c47 x48 x49 h := pt_in (kp := f35.kp) mixed f35.good (by kernel_rfl) H
def f35.runT (R : VP) (v0 v1 : Value) (h : Heap) : Prop :=
  newH h (Obj.cells ((v0).cells) 29) fun h1_ => newH h1_ (Obj.cells ((v1).cells) 45) fun h2_ => ∃ v3_, ldv true 8 h2_ (⟨Array.size h, 0, none⟩) = some v3_ ∧ ∃ v4_, ldv false 1 h2_ (⟨Array.size h1_, 0, none⟩) = some v4_ ∧ ∃ s5_, v4_ = (Value.string s5_) ∧ Run Tryd.prog 10 #[v3_, (Value.string s5_)] h2_ fun v6_ h7_ => ∃ v8_, ∃ x9_, v6_ = (Value.tuple #[v8_, (Value.int .i64 x9_)]) ∧ newH h7_ (Obj.cells #[(Value.string (ByteArray.mk #[])), (Value.slice none 0 0)] 37) fun h10_ => ∃ l12_ : List Value, v8_ = Value.agg l12_.toArray ∧ l12_.length = 2 ∧ ∃ h11_, stH h10_ (⟨Array.size h7_, 0, none⟩) l12_ 0 = some h11_ ∧ splitB (x9_ != (0 : Int)) (R (Value.int .i64 x9_) h11_) (∃ v13_, ldv true 8 h11_ (⟨Array.size h, 0, none⟩) = some v13_ ∧ ∃ v14_, ldv false 1 h11_ (Addr.add (⟨Array.size h1_, 0, none⟩) 1) = some v14_ ∧ ∃ s15_, v14_ = (Value.string s15_) ∧ Run Tryd.prog 63 #[v13_, (Value.string s15_)] h11_ fun v16_ h17_ => ∃ v18_, ∃ x19_, v16_ = (Value.tuple #[v18_, (Value.int .i64 x19_)]) ∧ newH h17_ (Obj.cells #[(Value.string (ByteArray.mk #[])), (Value.slice none 0 0), (Value.slice none 0 0)] 104) fun h20_ => ∃ l22_ : List Value, v18_ = Value.agg l22_.toArray ∧ l22_.length = 3 ∧ ∃ h21_, stH h20_ (⟨Array.size h17_, 0, none⟩) l22_ 0 = some h21_ ∧ splitB (x19_ != (0 : Int)) (newH h21_ (Obj.cells #[(Value.string (ByteArray.mk #[105, 110, 116])), (Value.string (ByteArray.mk #[98, 111, 111, 108])), (Value.string (ByteArray.mk #[116, 101, 120, 116])), (Value.string (ByteArray.mk #[117, 110, 105, 116]))] 9) fun h23_ => ∃ v24_, ldv false 1 h23_ (Addr.add (⟨Array.size h1_, 0, none⟩) 1) = some v24_ ∧ ∃ s25_, v24_ = (Value.string s25_) ∧ Run Tryd.prog 22 #[(Value.slice (some ⟨Array.size h21_, 0, none⟩) 4 4), (Value.string s25_)] h23_ fun v26_ h27_ => ∃ b28_, v26_ = (Value.bool b28_) ∧ f35.j1 R (⟨Array.size h1_, 0, none⟩) (⟨Array.size h7_, 0, none⟩) x19_ (!b28_) h27_) (f35.j1 R (⟨Array.size h1_, 0, none⟩) (⟨Array.size h7_, 0, none⟩) x19_ false h21_))
theorem f35.run {R : VP} {v0 v1 : Value} {h : Heap} (H : f35.runT R v0 v1 h) : Run Tryd.prog 35 #[v0, v1] h R := run_in (kp := f35.kp) mixed Tryd.func35 (by kernel_rfl) (by kernel_rfl) f35.good (by kernel_rfl) H
def f6.T : Tab := { sh := tSh, tup := tTup, keep := [], plan := [] }
def f6.kp : Keep := [([false, false, true, false, true], [1, 10, 11, 12]), ([false, false, true, false, true, true], [1, 23, 24, 25])]
theorem f6.good : goodCode Tryd.prog f6.T (rootOf Tryd.f6) = true := by kernel_rfl
def f6.l0 (R a1 A10 n10 c10 x11 x12 h) := Pt Tryd.prog Tryd.f6 R [false, false, true, false, true] (mkFr [(1, (Value.pointer (some a1))), (10, (Value.slice A10 n10 c10)), (11, (Value.int .i64 x11)), (12, (Value.int .i64 x12))]) h
def f6.l1 (R a1 A23 n23 c23 x24 x25 h) := Pt Tryd.prog Tryd.f6 R [false, false, true, false, true, true] (mkFr [(1, (Value.pointer (some a1))), (23, (Value.slice A23 n23 c23)), (24, (Value.int .i64 x24)), (25, (Value.int .i64 x25))]) h
def f6.l0T (R : VP) (a1 : Addr) (A10 : Option Addr) (n10 c10 : Nat) (x11 x12 : Int) (h : Heap) : Prop :=
  splitB (decide (x12 < x11)) (ptrOk A10 fun a1_ => 0 ≤ x12 ∧ x12 < ((n10 : Nat) : Int) ∧ (∃ v2_, ldv true 2 h (Addr.add a1_ (Int.toNat x12 * 2)) = some v2_ ∧ newH h (Obj.cells #[(Value.string (ByteArray.mk #[])), (Value.slice none 0 0)] 37) fun h3_ => ∃ l5_ : List Value, v2_ = Value.agg l5_.toArray ∧ l5_.length = 2 ∧ ∃ h4_, stH h3_ (⟨Array.size h, 0, none⟩) l5_ 0 = some h4_ ∧ ∃ v6_, ldv true 2 h4_ (⟨Array.size h, 0, none⟩) = some v6_ ∧ Run Tryd.prog 15 #[v6_] h4_ fun v7_ h8_ => ∃ x9_, v7_ = (Value.int .i64 x9_) ∧ splitB (x9_ != (0 : Int)) (R (Value.int .i64 x9_) h8_) (f6.l0 R a1 A10 n10 c10 x11 (IntKind.wrap .i64 (x12 + (1 : Int))) h8_))) (∃ v10_, ldv false 1 h (Addr.add a1 5) = some v10_ ∧ ∃ A11_, ∃ n11_, ∃ c11_, v10_ = (Value.slice A11_ n11_ c11_) ∧ f6.l1 R a1 A11_ n11_ c11_ ((n11_ : Nat) : Int) (0 : Int) h)
theorem f6.l0_in {R a1 A10 n10 c10 x11 x12 h} (H : f6.l0T R a1 A10 n10 c10 x11 x12 h) : f6.l0 R a1 A10 n10 c10 x11 x12 h := pt_in (kp := f6.kp) mixed f6.good (by kernel_rfl) H
def f6.l1T (R : VP) (a1 : Addr) (A23 : Option Addr) (n23 c23 : Nat) (x24 x25 : Int) (h : Heap) : Prop :=
  splitB (decide (x25 < x24)) (ptrOk A23 fun a1_ => 0 ≤ x25 ∧ x25 < ((n23 : Nat) : Int) ∧ (∃ v2_, ldv true 3 h (Addr.add a1_ (Int.toNat x25 * 3)) = some v2_ ∧ newH h (Obj.cells #[(Value.string (ByteArray.mk #[])), (Value.string (ByteArray.mk #[])), (Value.slice none 0 0)] 45) fun h3_ => ∃ l5_ : List Value, v2_ = Value.agg l5_.toArray ∧ l5_.length = 3 ∧ ∃ h4_, stH h3_ (⟨Array.size h, 0, none⟩) l5_ 0 = some h4_ ∧ ∃ v6_, ldv false 1 h4_ (Addr.add a1 5) = some v6_ ∧ ∃ A7_, ∃ n7_, ∃ c7_, v6_ = (Value.slice A7_ n7_ c7_) ∧ 0 ≤ (0 : Int) ∧ (0 : Int) ≤ x25 ∧ x25 ≤ ((c7_ : Nat) : Int) ∧ (Run Tryd.prog 33 #[(Value.slice (sliceA A7_ (Int.toNat (0 : Int)) c7_ 3) (Int.toNat x25 - Int.toNat (0 : Int)) (c7_ - Int.toNat (0 : Int))), (Value.func (.func 34) #[] #[(Value.pointer (some ⟨Array.size h, 0, none⟩))])] h4_ fun v8_ h9_ => ∃ b10_, v8_ = (Value.bool b10_) ∧ splitB b10_ (R (Value.int .i64 (5 : Int)) h9_) (∃ v11_, ldv true 8 h9_ a1 = some v11_ ∧ ∃ v12_, ldv true 3 h9_ (⟨Array.size h, 0, none⟩) = some v12_ ∧ Run Tryd.prog 35 #[v11_, v12_] h9_ fun v13_ h14_ => ∃ x15_, v13_ = (Value.int .i64 x15_) ∧ splitB (x15_ != (0 : Int)) (R (Value.int .i64 x15_) h14_) (f6.l1 R a1 A23 n23 c23 x24 (IntKind.wrap .i64 (x25 + (1 : Int))) h14_))))) (R (Value.int .i64 (0 : Int)) h)
theorem f6.l1_in {R a1 A23 n23 c23 x24 x25 h} (H : f6.l1T R a1 A23 n23 c23 x24 x25 h) : f6.l1 R a1 A23 n23 c23 x24 x25 h := pt_in (kp := f6.kp) mixed f6.good (by kernel_rfl) H
def f6.runT (R : VP) (v0 : Value) (h : Heap) : Prop :=
  newH h (Obj.cells ((v0).cells) 29) fun h1_ => ∃ v2_, ldv false 1 h1_ (Addr.add (⟨Array.size h, 0, none⟩) 4) = some v2_ ∧ ∃ A3_, ∃ n3_, ∃ c3_, v2_ = (Value.slice A3_ n3_ c3_) ∧ f6.l0 R (⟨Array.size h, 0, none⟩) A3_ n3_ c3_ ((n3_ : Nat) : Int) (0 : Int) h1_
theorem f6.run {R : VP} {v0 : Value} {h : Heap} (H : f6.runT R v0 h) : Run Tryd.prog 6 #[v0] h R := run_in (kp := f6.kp) mixed Tryd.func6 (by kernel_rfl) (by kernel_rfl) f6.good (by kernel_rfl) H
def f8.T : Tab := { sh := tSh, tup := tTup, keep := [], plan := [] }
def f8.kp : Keep := [([false, false, true, false, true], [0, 1, 7, 8])]
theorem f8.good : goodCode Tryd.prog f8.T (rootOf Tryd.f8) = true := by kernel_rfl
def f8.l0 (R A0 n0 c0 v1 x7 x8 h) := Pt Tryd.prog Tryd.f8 R [false, false, true, false, true] (mkFr [(0, (Value.slice A0 n0 c0)), (1, v1), (7, (Value.int .i64 x7)), (8, (Value.int .i64 x8))]) h
def f8.l0T (R : VP) (A0 : Option Addr) (n0 c0 : Nat) (v1 : Value) (x7 x8 : Int) (h : Heap) : Prop :=
  splitB (decide (x8 < x7)) (ptrOk A0 fun a1_ => 0 ≤ x8 ∧ x8 < ((n0 : Nat) : Int) ∧ (∃ v2_, ldv true 2 h (Addr.add a1_ (Int.toNat x8 * 2)) = some v2_ ∧ CallF Tryd.prog v1 [v2_] h fun v3_ h4_ => ∃ b5_, v3_ = (Value.bool b5_) ∧ splitB b5_ (R (Value.int .i64 x8) h4_) (f8.l0 R A0 n0 c0 v1 x7 (IntKind.wrap .i64 (x8 + (1 : Int))) h4_))) (R (Value.int .i64 (-1 : Int)) h)
theorem f8.l0_in {R A0 n0 c0 v1 x7 x8 h} (H : f8.l0T R A0 n0 c0 v1 x7 x8 h) : f8.l0 R A0 n0 c0 v1 x7 x8 h := pt_in (kp := f8.kp) mixed f8.good (by kernel_rfl) H
def f8.runT (R : VP) (A0 : Option Addr) (n0 c0 : Nat) (v1 : Value) (h : Heap) : Prop :=
  f8.l0 R A0 n0 c0 v1 ((n0 : Nat) : Int) (0 : Int) h
theorem f8.run {R : VP} {A0 : Option Addr} {n0 c0 : Nat} {v1 : Value} {h : Heap} (H : f8.runT R A0 n0 c0 v1 h) : Run Tryd.prog 8 #[(Value.slice A0 n0 c0), v1] h R := run_in (kp := f8.kp) mixed Tryd.func8 (by kernel_rfl) (by kernel_rfl) f8.good (by kernel_rfl) H
def f69.T : Tab := { sh := tSh, tup := tTup, keep := [], plan := [] }
def f69.kp : Keep := []
theorem f69.good : goodCode Tryd.prog f69.T (rootOf Tryd.f69) = true := by kernel_rfl
def f69.runT (R : VP) (A0 : Option Addr) (n0 c0 : Nat) (h : Heap) : Prop :=
  splitB (Option.isNone A0) (R (Value.slice none 0 0) h) (newH h (Obj.cells #[] 9) fun h1_ => AppW 9 1 16 #[(Value.string (ByteArray.mk #[]))] (some ⟨Array.size h, 0, none⟩) 0 0 (Value.slice A0 n0 c0) h1_ fun v2_ h3_ => ∃ A4_, ∃ n4_, ∃ c4_, v2_ = (Value.slice A4_ n4_ c4_) ∧ R (Value.slice A4_ n4_ c4_) h3_)
theorem f69.run {R : VP} {A0 : Option Addr} {n0 c0 : Nat} {h : Heap} (H : f69.runT R A0 n0 c0 h) : Run Tryd.prog 69 #[(Value.slice A0 n0 c0)] h R := run_in (kp := f69.kp) mixed Tryd.func69 (by kernel_rfl) (by kernel_rfl) f69.good (by kernel_rfl) H
def f131.T : Tab := { sh := tSh, tup := tTup, keep := [], plan := [] }
def f131.kp : Keep := []
theorem f131.good : goodCode Tryd.prog f131.T (rootOf Tryd.f131) = true := by kernel_rfl
def f131.runT (R : VP) (s0 : ByteArray) (h : Heap) : Prop :=
  R (Value.bool (!(ByteArray.toList s0 == ByteArray.toList s0))) h
theorem f131.run {R : VP} {s0 : ByteArray} {h : Heap} (H : f131.runT R s0 h) : Run Tryd.prog 131 #[(Value.string s0)] h R := run_in (kp := f131.kp) mixed Tryd.func131 (by kernel_rfl) (by kernel_rfl) f131.good (by kernel_rfl) H
def f110.T : Tab := { sh := tSh, tup := tTup, keep := [], plan := [] }
def f110.kp : Keep := []
theorem f110.good : goodCode Tryd.prog f110.T (rootOf Tryd.f110) = true := by kernel_rfl
def f110.runT (R : VP) (s0 s1 : ByteArray) (h : Heap) : Prop :=
  Run Tryd.prog 131 #[(Value.string s0)] h fun v1_ h2_ => ∃ b3_, v1_ = (Value.bool b3_) ∧ splitB b3_ (Run Tryd.prog 131 #[(Value.string s1)] h2_ fun v4_ h5_ => ∃ b6_, v4_ = (Value.bool b6_) ∧ splitB (!b6_) (R (Value.bool true) h5_) (R (Value.bool (Op.bytesLess (ByteArray.toList s0) (ByteArray.toList s1))) h5_)) (R (Value.bool (Op.bytesLess (ByteArray.toList s0) (ByteArray.toList s1))) h2_)
theorem f110.run {R : VP} {s0 s1 : ByteArray} {h : Heap} (H : f110.runT R s0 s1 h) : Run Tryd.prog 110 #[(Value.string s0), (Value.string s1)] h R := run_in (kp := f110.kp) mixed Tryd.func110 (by kernel_rfl) (by kernel_rfl) f110.good (by kernel_rfl) H
def f104.T : Tab := { sh := tSh, tup := tTup, keep := [], plan := [(4, (.take 0 (.take 1 (.take 2 (.take 3 (.split 3 (.take 4 (.take 5 (.take 6 (.take 8 (.take 9 (.take 10 (.take 11 (.take 7 (.take 12 (.eff false false [] 13 (.take 14 .done))))))))))))))))), (6, (.take 0 (.take 1 (.take 2 (.take 3 (.take 4 (.take 5 (.take 6 (.take 7 (.take 8 (.take 10 (.take 11 (.take 12 (.take 9 (.take 13 (.take 14 (.eff false false [] 15 (.take 16 (.eff false false [] 17 .done)))))))))))))))))))] }
def f104.kp : Keep := [([false, false, true], [0, 1, 2, 6]), ([false, false, true, false, false, true, false, false, true], [0, 1, 2, 6, 7]), ([true, false, false, true, false, false, true, false, false, true], [0, 1, 2, 6, 7]), ([true, true, false, false, true], [0, 1, 2, 6])]
theorem f104.good : goodCode Tryd.prog f104.T (rootOf Tryd.f104) = true := by kernel_rfl
def f104.l0 (R A0 n0 c0 x1 x2 x6 h) := Pt Tryd.prog Tryd.f104 R [false, false, true] (mkFr [(0, (Value.slice A0 n0 c0)), (1, (Value.int .i64 x1)), (2, (Value.int .i64 x2)), (6, (Value.int .i64 x6))]) h
def f104.l1 (R A0 n0 c0 x1 x2 x6 x7 h) := Pt Tryd.prog Tryd.f104 R [false, false, true, false, false, true, false, false, true] (mkFr [(0, (Value.slice A0 n0 c0)), (1, (Value.int .i64 x1)), (2, (Value.int .i64 x2)), (6, (Value.int .i64 x6)), (7, (Value.int .i64 x7))]) h
def f104.j1 (R A0 n0 c0 x1 x2 x6 x7 h) := Pt Tryd.prog Tryd.f104 R [true, false, false, true, false, false, true, false, false, true] (mkFr [(0, (Value.slice A0 n0 c0)), (1, (Value.int .i64 x1)), (2, (Value.int .i64 x2)), (6, (Value.int .i64 x6)), (7, (Value.int .i64 x7))]) h
def f104.j0 (R A0 n0 c0 x1 x2 x6 h) := Pt Tryd.prog Tryd.f104 R [true, true, false, false, true] (mkFr [(0, (Value.slice A0 n0 c0)), (1, (Value.int .i64 x1)), (2, (Value.int .i64 x2)), (6, (Value.int .i64 x6))]) h
def f104.l0T (R : VP) (A0 : Option Addr) (n0 c0 : Nat) (x1 x2 x6 : Int) (h : Heap) : Prop :=
  splitB (decide (x6 < x2)) (f104.l1 R A0 n0 c0 x1 x2 x6 x6 h) (R (Value.tuple #[]) h)
theorem f104.l0_in {R A0 n0 c0 x1 x2 x6 h} (H : f104.l0T R A0 n0 c0 x1 x2 x6 h) : f104.l0 R A0 n0 c0 x1 x2 x6 h := pt_in (kp := f104.kp) mixed f104.good (by kernel_rfl) H
def f104.l1T (R : VP) (A0 : Option Addr) (n0 c0 : Nat) (x1 x2 x6 x7 : Int) (h : Heap) : Prop :=
  splitB (decide (x7 > x1)) (ptrOk A0 fun a1_ => 0 ≤ x7 ∧ x7 < ((n0 : Nat) : Int) ∧ (ptrOk A0 fun a2_ => 0 ≤ (IntKind.wrap .i64 (x7 - (1 : Int))) ∧ (IntKind.wrap .i64 (x7 - (1 : Int))) < ((n0 : Nat) : Int) ∧ (∃ v3_, ldv false 1 h (Addr.add a1_ (Int.toNat x7 * 1)) = some v3_ ∧ ∃ s4_, v3_ = (Value.string s4_) ∧ ∃ v5_, ldv false 1 h (Addr.add a2_ (Int.toNat (IntKind.wrap .i64 (x7 - (1 : Int))) * 1)) = some v5_ ∧ ∃ s6_, v5_ = (Value.string s6_) ∧ Run Tryd.prog 110 #[(Value.string s4_), (Value.string s6_)] h fun v7_ h8_ => ∃ b9_, v7_ = (Value.bool b9_) ∧ splitB b9_ (f104.j1 R A0 n0 c0 x1 x2 x6 x7 h8_) (f104.j0 R A0 n0 c0 x1 x2 x6 h8_)))) (f104.j0 R A0 n0 c0 x1 x2 x6 h)
theorem f104.l1_in {R A0 n0 c0 x1 x2 x6 x7 h} (H : f104.l1T R A0 n0 c0 x1 x2 x6 x7 h) : f104.l1 R A0 n0 c0 x1 x2 x6 x7 h := pt_in (kp := f104.kp) mixed f104.good (by kernel_rfl) H
def f104.j1T (R : VP) (A0 : Option Addr) (n0 c0 : Nat) (x1 x2 x6 x7 : Int) (h : Heap) : Prop :=
  ptrOk A0 fun a1_ => 0 ≤ (IntKind.wrap .i64 (x7 - (1 : Int))) ∧ (IntKind.wrap .i64 (x7 - (1 : Int))) < ((n0 : Nat) : Int) ∧ (ptrOk A0 fun a2_ => 0 ≤ x7 ∧ x7 < ((n0 : Nat) : Int) ∧ (∃ v3_, ldv false 1 h (Addr.add a1_ (Int.toNat (IntKind.wrap .i64 (x7 - (1 : Int))) * 1)) = some v3_ ∧ ∃ s4_, v3_ = (Value.string s4_) ∧ ∃ v5_, ldv false 1 h (Addr.add a2_ (Int.toNat x7 * 1)) = some v5_ ∧ ∃ s6_, v5_ = (Value.string s6_) ∧ ptrOk A0 fun a7_ => 0 ≤ x7 ∧ x7 < ((n0 : Nat) : Int) ∧ (∃ h8_, st1 h (Addr.add a7_ (Int.toNat x7 * 1)) (Value.string s4_) = some h8_ ∧ ptrOk A0 fun a9_ => 0 ≤ (IntKind.wrap .i64 (x7 - (1 : Int))) ∧ (IntKind.wrap .i64 (x7 - (1 : Int))) < ((n0 : Nat) : Int) ∧ (∃ h10_, st1 h8_ (Addr.add a9_ (Int.toNat (IntKind.wrap .i64 (x7 - (1 : Int))) * 1)) (Value.string s6_) = some h10_ ∧ f104.l1 R A0 n0 c0 x1 x2 x6 (IntKind.wrap .i64 (x7 - (1 : Int))) h10_))))
theorem f104.j1_in {R A0 n0 c0 x1 x2 x6 x7 h} (H : f104.j1T R A0 n0 c0 x1 x2 x6 x7 h) : f104.j1 R A0 n0 c0 x1 x2 x6 x7 h := pt_in (kp := f104.kp) mixed f104.good (by kernel_rfl) H
def f104.j0T (R : VP) (A0 : Option Addr) (n0 c0 : Nat) (x1 x2 x6 : Int) (h : Heap) : Prop :=
  f104.l0 R A0 n0 c0 x1 x2 (IntKind.wrap .i64 (x6 + (1 : Int))) h
theorem f104.j0_in {R A0 n0 c0 x1 x2 x6 h} (H : f104.j0T R A0 n0 c0 x1 x2 x6 h) : f104.j0 R A0 n0 c0 x1 x2 x6 h := pt_in (kp := f104.kp) mixed f104.good (by kernel_rfl) H
def f104.runT (R : VP) (A0 : Option Addr) (n0 c0 : Nat) (x1 x2 : Int) (h : Heap) : Prop :=
  f104.l0 R A0 n0 c0 x1 x2 (IntKind.wrap .i64 (x1 + (1 : Int))) h
theorem f104.run {R : VP} {A0 : Option Addr} {n0 c0 : Nat} {x1 x2 : Int} {h : Heap} (H : f104.runT R A0 n0 c0 x1 x2 h) : Run Tryd.prog 104 #[(Value.slice A0 n0 c0), (Value.int .i64 x1), (Value.int .i64 x2)] h R := run_in (kp := f104.kp) mixed Tryd.func104 (by kernel_rfl) (by kernel_rfl) f104.good (by kernel_rfl) H
def f126.T : Tab := { sh := tSh, tup := tTup, keep := [], plan := [(3, (.take 0 (.take 1 (.take 2 (.take 3 (.take 4 (.split 4 (.take 5 (.take 6 (.take 7 (.take 8 (.take 9 (.take 11 (.take 12 (.take 13 (.take 14 (.take 15 (.take 16 (.take 10 (.take 17 (.eff false false [] 18 (.take 19 .done)))))))))))))))))))))), (5, (.take 0 (.take 1 (.take 2 (.take 3 (.take 4 (.take 6 (.take 7 (.take 8 (.take 9 (.take 10 (.take 5 (.take 11 (.eff false false [] 12 (.take 13 .done))))))))))))))), (6, (.take 0 (.take 1 (.take 2 (.take 3 (.take 4 (.take 5 (.take 6 (.take 7 (.take 8 (.take 9 (.take 10 (.take 11 (.take 12 (.take 14 (.take 15 (.take 16 (.take 17 (.take 18 (.take 13 (.take 19 (.take 20 (.eff false false [] 21 (.take 22 (.eff false false [] 23 .done)))))))))))))))))))))))))] }
def f126.kp : Keep := [([false, false, true], [0, 2, 3, 8]), ([true, false, true, true, false, false, false, true], [0, 2, 3, 8, 9, 36]), ([true, true, true, false, false, false, true], [0, 2, 3, 8, 9])]
theorem f126.good : goodCode Tryd.prog f126.T (rootOf Tryd.f126) = true := by kernel_rfl
def f126.l0 (R A0 n0 c0 x2 x3 x8 h) := Pt Tryd.prog Tryd.f126 R [false, false, true] (mkFr [(0, (Value.slice A0 n0 c0)), (2, (Value.int .i64 x2)), (3, (Value.int .i64 x3)), (8, (Value.int .i64 x8))]) h
def f126.j1 (R A0 n0 c0 x2 x3 x8 x9 b36 h) := Pt Tryd.prog Tryd.f126 R [true, false, true, true, false, false, false, true] (mkFr [(0, (Value.slice A0 n0 c0)), (2, (Value.int .i64 x2)), (3, (Value.int .i64 x3)), (8, (Value.int .i64 x8)), (9, (Value.int .i64 x9)), (36, (Value.bool b36))]) h
def f126.j0 (R A0 n0 c0 x2 x3 x8 x9 h) := Pt Tryd.prog Tryd.f126 R [true, true, true, false, false, false, true] (mkFr [(0, (Value.slice A0 n0 c0)), (2, (Value.int .i64 x2)), (3, (Value.int .i64 x3)), (8, (Value.int .i64 x8)), (9, (Value.int .i64 x9))]) h
def f126.l0T (R : VP) (A0 : Option Addr) (n0 c0 : Nat) (x2 x3 x8 : Int) (h : Heap) : Prop :=
  splitB (decide ((IntKind.wrap .i64 ((IntKind.wrap .i64 ((2 : Int) * x8)) + (1 : Int))) ≥ x2)) (R (Value.tuple #[]) h) (splitB (decide ((IntKind.wrap .i64 ((IntKind.wrap .i64 ((IntKind.wrap .i64 ((2 : Int) * x8)) + (1 : Int))) + (1 : Int))) < x2)) (ptrOk A0 fun a1_ => 0 ≤ (IntKind.wrap .i64 (x3 + (IntKind.wrap .i64 ((IntKind.wrap .i64 ((2 : Int) * x8)) + (1 : Int))))) ∧ (IntKind.wrap .i64 (x3 + (IntKind.wrap .i64 ((IntKind.wrap .i64 ((2 : Int) * x8)) + (1 : Int))))) < ((n0 : Nat) : Int) ∧ (ptrOk A0 fun a2_ => 0 ≤ (IntKind.wrap .i64 ((IntKind.wrap .i64 (x3 + (IntKind.wrap .i64 ((IntKind.wrap .i64 ((2 : Int) * x8)) + (1 : Int))))) + (1 : Int))) ∧ (IntKind.wrap .i64 ((IntKind.wrap .i64 (x3 + (IntKind.wrap .i64 ((IntKind.wrap .i64 ((2 : Int) * x8)) + (1 : Int))))) + (1 : Int))) < ((n0 : Nat) : Int) ∧ (∃ v3_, ldv false 1 h (Addr.add a1_ (Int.toNat (IntKind.wrap .i64 (x3 + (IntKind.wrap .i64 ((IntKind.wrap .i64 ((2 : Int) * x8)) + (1 : Int))))) * 1)) = some v3_ ∧ ∃ s4_, v3_ = (Value.string s4_) ∧ ∃ v5_, ldv false 1 h (Addr.add a2_ (Int.toNat (IntKind.wrap .i64 ((IntKind.wrap .i64 (x3 + (IntKind.wrap .i64 ((IntKind.wrap .i64 ((2 : Int) * x8)) + (1 : Int))))) + (1 : Int))) * 1)) = some v5_ ∧ ∃ s6_, v5_ = (Value.string s6_) ∧ Run Tryd.prog 110 #[(Value.string s4_), (Value.string s6_)] h fun v7_ h8_ => ∃ b9_, v7_ = (Value.bool b9_) ∧ f126.j1 R A0 n0 c0 x2 x3 x8 (IntKind.wrap .i64 ((IntKind.wrap .i64 ((2 : Int) * x8)) + (1 : Int))) b9_ h8_))) (f126.j1 R A0 n0 c0 x2 x3 x8 (IntKind.wrap .i64 ((IntKind.wrap .i64 ((2 : Int) * x8)) + (1 : Int))) false h))
theorem f126.l0_in {R A0 n0 c0 x2 x3 x8 h} (H : f126.l0T R A0 n0 c0 x2 x3 x8 h) : f126.l0 R A0 n0 c0 x2 x3 x8 h := pt_in (kp := f126.kp) mixed f126.good (by kernel_rfl) H
def f126.j1T (R : VP) (A0 : Option Addr) (n0 c0 : Nat) (x2 x3 x8 x9 : Int) (b36 : Bool) (h : Heap) : Prop :=
  splitB b36 (f126.j0 R A0 n0 c0 x2 x3 x8 (IntKind.wrap .i64 (x9 + (1 : Int))) h) (f126.j0 R A0 n0 c0 x2 x3 x8 x9 h)
theorem f126.j1_in {R A0 n0 c0 x2 x3 x8 x9 b36 h} (H : f126.j1T R A0 n0 c0 x2 x3 x8 x9 b36 h) : f126.j1 R A0 n0 c0 x2 x3 x8 x9 b36 h := pt_in (kp := f126.kp) mixed f126.good (by kernel_rfl) H
def f126.j0T (R : VP) (A0 : Option Addr) (n0 c0 : Nat) (x2 x3 x8 x9 : Int) (h : Heap) : Prop :=
  ptrOk A0 fun a1_ => 0 ≤ (IntKind.wrap .i64 (x3 + x8)) ∧ (IntKind.wrap .i64 (x3 + x8)) < ((n0 : Nat) : Int) ∧ (ptrOk A0 fun a2_ => 0 ≤ (IntKind.wrap .i64 (x3 + x9)) ∧ (IntKind.wrap .i64 (x3 + x9)) < ((n0 : Nat) : Int) ∧ (∃ v3_, ldv false 1 h (Addr.add a1_ (Int.toNat (IntKind.wrap .i64 (x3 + x8)) * 1)) = some v3_ ∧ ∃ s4_, v3_ = (Value.string s4_) ∧ ∃ v5_, ldv false 1 h (Addr.add a2_ (Int.toNat (IntKind.wrap .i64 (x3 + x9)) * 1)) = some v5_ ∧ ∃ s6_, v5_ = (Value.string s6_) ∧ Run Tryd.prog 110 #[(Value.string s4_), (Value.string s6_)] h fun v7_ h8_ => ∃ b9_, v7_ = (Value.bool b9_) ∧ splitB (!b9_) (R (Value.tuple #[]) h8_) (ptrOk A0 fun a10_ => 0 ≤ (IntKind.wrap .i64 (x3 + x9)) ∧ (IntKind.wrap .i64 (x3 + x9)) < ((n0 : Nat) : Int) ∧ (ptrOk A0 fun a11_ => 0 ≤ (IntKind.wrap .i64 (x3 + x8)) ∧ (IntKind.wrap .i64 (x3 + x8)) < ((n0 : Nat) : Int) ∧ (∃ v12_, ldv false 1 h8_ (Addr.add a10_ (Int.toNat (IntKind.wrap .i64 (x3 + x9)) * 1)) = some v12_ ∧ ∃ s13_, v12_ = (Value.string s13_) ∧ ∃ v14_, ldv false 1 h8_ (Addr.add a11_ (Int.toNat (IntKind.wrap .i64 (x3 + x8)) * 1)) = some v14_ ∧ ∃ s15_, v14_ = (Value.string s15_) ∧ ptrOk A0 fun a16_ => 0 ≤ (IntKind.wrap .i64 (x3 + x8)) ∧ (IntKind.wrap .i64 (x3 + x8)) < ((n0 : Nat) : Int) ∧ (∃ h17_, st1 h8_ (Addr.add a16_ (Int.toNat (IntKind.wrap .i64 (x3 + x8)) * 1)) (Value.string s13_) = some h17_ ∧ ptrOk A0 fun a18_ => 0 ≤ (IntKind.wrap .i64 (x3 + x9)) ∧ (IntKind.wrap .i64 (x3 + x9)) < ((n0 : Nat) : Int) ∧ (∃ h19_, st1 h17_ (Addr.add a18_ (Int.toNat (IntKind.wrap .i64 (x3 + x9)) * 1)) (Value.string s15_) = some h19_ ∧ f126.l0 R A0 n0 c0 x2 x3 x9 h19_)))))))
theorem f126.j0_in {R A0 n0 c0 x2 x3 x8 x9 h} (H : f126.j0T R A0 n0 c0 x2 x3 x8 x9 h) : f126.j0 R A0 n0 c0 x2 x3 x8 x9 h := pt_in (kp := f126.kp) mixed f126.good (by kernel_rfl) H
def f126.runT (R : VP) (A0 : Option Addr) (n0 c0 : Nat) (x1 x2 x3 : Int) (h : Heap) : Prop :=
  f126.l0 R A0 n0 c0 x2 x3 x1 h
theorem f126.run {R : VP} {A0 : Option Addr} {n0 c0 : Nat} {x1 x2 x3 : Int} {h : Heap} (H : f126.runT R A0 n0 c0 x1 x2 x3 h) : Run Tryd.prog 126 #[(Value.slice A0 n0 c0), (Value.int .i64 x1), (Value.int .i64 x2), (Value.int .i64 x3)] h R := run_in (kp := f126.kp) mixed Tryd.func126 (by kernel_rfl) (by kernel_rfl) f126.good (by kernel_rfl) H
def f105.T : Tab := { sh := tSh, tup := tTup, keep := [], plan := [(10, (.take 0 (.take 1 (.take 2 (.take 3 (.take 4 (.take 5 (.take 6 (.take 7 (.take 8 (.take 9 (.take 10 (.take 12 (.take 13 (.take 14 (.take 11 (.take 15 (.take 16 (.eff false false [] 17 (.take 18 (.eff false false [] 19 .done)))))))))))))))))))))] }
def f105.kp : Keep := [([false, false, true, false, true, true, true], [0, 6, 7, 8, 9]), ([false, false, true, true, true, true, true], [0, 6, 7, 10])]
theorem f105.good : goodCode Tryd.prog f105.T (rootOf Tryd.f105) = true := by kernel_rfl
def f105.l0 (R A0 n0 c0 x6 x7 x8 x9 h) := Pt Tryd.prog Tryd.f105 R [false, false, true, false, true, true, true] (mkFr [(0, (Value.slice A0 n0 c0)), (6, (Value.int .i64 x6)), (7, (Value.int .i64 x7)), (8, (Value.int .i64 x8)), (9, (Value.int .i64 x9))]) h
def f105.l1 (R A0 n0 c0 x6 x7 x10 h) := Pt Tryd.prog Tryd.f105 R [false, false, true, true, true, true, true] (mkFr [(0, (Value.slice A0 n0 c0)), (6, (Value.int .i64 x6)), (7, (Value.int .i64 x7)), (10, (Value.int .i64 x10))]) h
def f105.l0T (R : VP) (A0 : Option Addr) (n0 c0 : Nat) (x6 x7 x8 x9 : Int) (h : Heap) : Prop :=
  splitB (decide (x9 ≥ (0 : Int))) (Run Tryd.prog 126 #[(Value.slice A0 n0 c0), (Value.int .i64 x9), (Value.int .i64 x8), (Value.int .i64 x6)] h fun v1_ h2_ => v1_ = (Value.tuple #[]) ∧ f105.l0 R A0 n0 c0 x6 x7 x8 (IntKind.wrap .i64 (x9 - (1 : Int))) h2_) (f105.l1 R A0 n0 c0 x6 x7 (IntKind.wrap .i64 (x8 - (1 : Int))) h)
theorem f105.l0_in {R A0 n0 c0 x6 x7 x8 x9 h} (H : f105.l0T R A0 n0 c0 x6 x7 x8 x9 h) : f105.l0 R A0 n0 c0 x6 x7 x8 x9 h := pt_in (kp := f105.kp) mixed f105.good (by kernel_rfl) H
def f105.l1T (R : VP) (A0 : Option Addr) (n0 c0 : Nat) (x6 x7 x10 : Int) (h : Heap) : Prop :=
  splitB (decide (x10 ≥ (0 : Int))) (ptrOk A0 fun a1_ => 0 ≤ (IntKind.wrap .i64 (x6 + x10)) ∧ (IntKind.wrap .i64 (x6 + x10)) < ((n0 : Nat) : Int) ∧ (ptrOk A0 fun a2_ => 0 ≤ x6 ∧ x6 < ((n0 : Nat) : Int) ∧ (∃ v3_, ldv false 1 h (Addr.add a1_ (Int.toNat (IntKind.wrap .i64 (x6 + x10)) * 1)) = some v3_ ∧ ∃ s4_, v3_ = (Value.string s4_) ∧ ∃ v5_, ldv false 1 h (Addr.add a2_ (Int.toNat x6 * 1)) = some v5_ ∧ ∃ s6_, v5_ = (Value.string s6_) ∧ ptrOk A0 fun a7_ => 0 ≤ x6 ∧ x6 < ((n0 : Nat) : Int) ∧ (∃ h8_, st1 h (Addr.add a7_ (Int.toNat x6 * 1)) (Value.string s4_) = some h8_ ∧ ptrOk A0 fun a9_ => 0 ≤ (IntKind.wrap .i64 (x6 + x10)) ∧ (IntKind.wrap .i64 (x6 + x10)) < ((n0 : Nat) : Int) ∧ (∃ h10_, st1 h8_ (Addr.add a9_ (Int.toNat (IntKind.wrap .i64 (x6 + x10)) * 1)) (Value.string s6_) = some h10_ ∧ Run Tryd.prog 126 #[(Value.slice A0 n0 c0), (Value.int .i64 x7), (Value.int .i64 x10), (Value.int .i64 x6)] h10_ fun v11_ h12_ => v11_ = (Value.tuple #[]) ∧ f105.l1 R A0 n0 c0 x6 x7 (IntKind.wrap .i64 (x10 - (1 : Int))) h12_))))) (R (Value.tuple #[]) h)
theorem f105.l1_in {R A0 n0 c0 x6 x7 x10 h} (H : f105.l1T R A0 n0 c0 x6 x7 x10 h) : f105.l1 R A0 n0 c0 x6 x7 x10 h := pt_in (kp := f105.kp) mixed f105.good (by kernel_rfl) H
def f105.runT (R : VP) (A0 : Option Addr) (n0 c0 : Nat) (x1 x2 : Int) (h : Heap) : Prop :=
  (2 : Int) ≠ 0 ∧ (f105.l0 R A0 n0 c0 x1 (0 : Int) (IntKind.wrap .i64 (x2 - x1)) (IntKind.wrap .i64 (Int.tdiv (IntKind.wrap .i64 ((IntKind.wrap .i64 (x2 - x1)) - (1 : Int))) (2 : Int))) h)
theorem f105.run {R : VP} {A0 : Option Addr} {n0 c0 : Nat} {x1 x2 : Int} {h : Heap} (H : f105.runT R A0 n0 c0 x1 x2 h) : Run Tryd.prog 105 #[(Value.slice A0 n0 c0), (Value.int .i64 x1), (Value.int .i64 x2)] h R := run_in (kp := f105.kp) mixed Tryd.func105 (by kernel_rfl) (by kernel_rfl) f105.good (by kernel_rfl) H
def f114.T : Tab := { sh := tSh, tup := tTup, keep := [], plan := [] }
def f114.kp : Keep := [([true, true], [0, 2]), ([true, true, true], [0, 2]), ([true, true, true, true], [0, 2])]
theorem f114.good : goodCode Tryd.prog f114.T (rootOf Tryd.f114) = true := by kernel_rfl
def f114.j0 (R x0 x2 h) := Pt Tryd.prog Tryd.f114 R [true, true] (mkFr [(0, (Value.int .u64 x0)), (2, (Value.int .i64 x2))]) h
def f114.j1 (R x0 x2 h) := Pt Tryd.prog Tryd.f114 R [true, true, true] (mkFr [(0, (Value.int .u64 x0)), (2, (Value.int .i64 x2))]) h
def f114.j2 (R x0 x2 h) := Pt Tryd.prog Tryd.f114 R [true, true, true, true] (mkFr [(0, (Value.int .u64 x0)), (2, (Value.int .i64 x2))]) h
def f114.j0T (R : VP) (x0 x2 : Int) (h : Heap) : Prop :=
  splitB (decide (x0 ≥ (65536 : Int))) (0 ≤ (16 : Int) ∧ (f114.j1 R (shrI .u64 x0 (16 : Int)) (IntKind.wrap .i64 (x2 + (16 : Int))) h)) (f114.j1 R x0 x2 h)
theorem f114.j0_in {R x0 x2 h} (H : f114.j0T R x0 x2 h) : f114.j0 R x0 x2 h := pt_in (kp := f114.kp) mixed f114.good (by kernel_rfl) H
def f114.j1T (R : VP) (x0 x2 : Int) (h : Heap) : Prop :=
  splitB (decide (x0 ≥ (256 : Int))) (0 ≤ (8 : Int) ∧ (f114.j2 R (shrI .u64 x0 (8 : Int)) (IntKind.wrap .i64 (x2 + (8 : Int))) h)) (f114.j2 R x0 x2 h)
theorem f114.j1_in {R x0 x2 h} (H : f114.j1T R x0 x2 h) : f114.j1 R x0 x2 h := pt_in (kp := f114.kp) mixed f114.good (by kernel_rfl) H
def f114.j2T (R : VP) (x0 x2 : Int) (h : Heap) : Prop :=
  0 ≤ (IntKind.wrap .u8 x0) ∧ ∃ y1_, (ByteArray.mk #[0, 1, 2, 2, 3, 3, 3, 3, 4, 4, 4, 4, 4, 4, 4, 4, 5, 5, 5, 5, 5, 5, 5, 5, 5, 5, 5, 5, 5, 5, 5, 5, 6, 6, 6, 6, 6, 6, 6, 6, 6, 6, 6, 6, 6, 6, 6, 6, 6, 6, 6, 6, 6, 6, 6, 6, 6, 6, 6, 6, 6, 6, 6, 6, 7, 7, 7, 7, 7, 7, 7, 7, 7, 7, 7, 7, 7, 7, 7, 7, 7, 7, 7, 7, 7, 7, 7, 7, 7, 7, 7, 7, 7, 7, 7, 7, 7, 7, 7, 7, 7, 7, 7, 7, 7, 7, 7, 7, 7, 7, 7, 7, 7, 7, 7, 7, 7, 7, 7, 7, 7, 7, 7, 7, 7, 7, 7, 7, 8, 8, 8, 8, 8, 8, 8, 8, 8, 8, 8, 8, 8, 8, 8, 8, 8, 8, 8, 8, 8, 8, 8, 8, 8, 8, 8, 8, 8, 8, 8, 8, 8, 8, 8, 8, 8, 8, 8, 8, 8, 8, 8, 8, 8, 8, 8, 8, 8, 8, 8, 8, 8, 8, 8, 8, 8, 8, 8, 8, 8, 8, 8, 8, 8, 8, 8, 8, 8, 8, 8, 8, 8, 8, 8, 8, 8, 8, 8, 8, 8, 8, 8, 8, 8, 8, 8, 8, 8, 8, 8, 8, 8, 8, 8, 8, 8, 8, 8, 8, 8, 8, 8, 8, 8, 8, 8, 8, 8, 8, 8, 8, 8, 8, 8, 8, 8, 8, 8, 8, 8, 8, 8, 8, 8, 8, 8, 8])[Int.toNat (IntKind.wrap .u8 x0)]? = some y1_ ∧ (R (Value.int .i64 (IntKind.wrap .i64 (x2 + (IntKind.wrap .i64 ((UInt8.toNat y1_ : Nat) : Int))))) h)
theorem f114.j2_in {R x0 x2 h} (H : f114.j2T R x0 x2 h) : f114.j2 R x0 x2 h := pt_in (kp := f114.kp) mixed f114.good (by kernel_rfl) H
def f114.runT (R : VP) (x0 : Int) (h : Heap) : Prop :=
  splitB (decide (x0 ≥ (4294967296 : Int))) (0 ≤ (32 : Int) ∧ (f114.j0 R (shrI .u64 x0 (32 : Int)) (32 : Int) h)) (f114.j0 R x0 (0 : Int) h)
theorem f114.run {R : VP} {x0 : Int} {h : Heap} (H : f114.runT R x0 h) : Run Tryd.prog 114 #[(Value.int .u64 x0)] h R := run_in (kp := f114.kp) mixed Tryd.func114 (by kernel_rfl) (by kernel_rfl) f114.good (by kernel_rfl) H
def f87.T : Tab := { sh := tSh, tup := tTup, keep := [], plan := [] }
def f87.kp : Keep := []
theorem f87.good : goodCode Tryd.prog f87.T (rootOf Tryd.f87) = true := by kernel_rfl
def f87.runT (R : VP) (x0 : Int) (h : Heap) : Prop :=
  Run Tryd.prog 114 #[(Value.int .u64 x0)] h fun v1_ h2_ => ∃ x3_, v1_ = (Value.int .i64 x3_) ∧ R (Value.int .i64 x3_) h2_
theorem f87.run {R : VP} {x0 : Int} {h : Heap} (H : f87.runT R x0 h) : Run Tryd.prog 87 #[(Value.int .u64 x0)] h R := run_in (kp := f87.kp) mixed Tryd.func87 (by kernel_rfl) (by kernel_rfl) f87.good (by kernel_rfl) H
def f127.T : Tab := { sh := tSh, tup := tTup, keep := [], plan := [] }
def f127.kp : Keep := []
theorem f127.good : goodCode Tryd.prog f127.T (rootOf Tryd.f127) = true := by kernel_rfl
def f127.runT (R : VP) (x0 : Int) (h : Heap) : Prop :=
  Run Tryd.prog 87 #[(Value.int .u64 (IntKind.wrap .u64 x0))] h fun v1_ h2_ => ∃ x3_, v1_ = (Value.int .i64 x3_) ∧ 0 ≤ x3_ ∧ (R (Value.int .u64 (shlI .u64 (1 : Int) x3_)) h2_)
theorem f127.run {R : VP} {x0 : Int} {h : Heap} (H : f127.runT R x0 h) : Run Tryd.prog 127 #[(Value.int .i64 x0)] h R := run_in (kp := f127.kp) mixed Tryd.func127 (by kernel_rfl) (by kernel_rfl) f127.good (by kernel_rfl) H
def f128.T : Tab := { sh := tSh, tup := tTup, keep := [], plan := [(1, (.take 0 (.take 1 (.take 3 (.take 4 (.take 2 (.take 5 (.take 6 (.take 7 (.take 8 (.eff false false [] 9 .done))))))))))), (2, (.take 0 (.take 1 (.take 3 (.take 4 (.take 2 (.take 5 (.take 6 (.take 7 (.take 8 (.eff false false [] 9 .done))))))))))), (3, (.take 0 (.take 1 (.take 3 (.take 4 (.take 2 (.take 5 (.take 6 (.take 7 (.take 8 (.eff false false [] 9 .done)))))))))))] }
def f128.kp : Keep := []
theorem f128.good : goodCode Tryd.prog f128.T (rootOf Tryd.f128) = true := by kernel_rfl
def f128.runT (R : VP) (a0 : Addr) (h : Heap) : Prop :=
  ∃ v1_, ldv false 1 h a0 = some v1_ ∧ ∃ x2_, v1_ = (Value.int .u64 x2_) ∧ ∃ v3_, ldv false 1 h a0 = some v3_ ∧ ∃ x4_, v3_ = (Value.int .u64 x4_) ∧ 0 ≤ (13 : Int) ∧ (∃ h5_, st1 h a0 (Value.int .u64 (bitsI .xor .u64 x2_ (shlI .u64 x4_ (13 : Int)))) = some h5_ ∧ ∃ v6_, ldv false 1 h5_ a0 = some v6_ ∧ ∃ x7_, v6_ = (Value.int .u64 x7_) ∧ ∃ v8_, ldv false 1 h5_ a0 = some v8_ ∧ ∃ x9_, v8_ = (Value.int .u64 x9_) ∧ 0 ≤ (7 : Int) ∧ (∃ h10_, st1 h5_ a0 (Value.int .u64 (bitsI .xor .u64 x7_ (shrI .u64 x9_ (7 : Int)))) = some h10_ ∧ ∃ v11_, ldv false 1 h10_ a0 = some v11_ ∧ ∃ x12_, v11_ = (Value.int .u64 x12_) ∧ ∃ v13_, ldv false 1 h10_ a0 = some v13_ ∧ ∃ x14_, v13_ = (Value.int .u64 x14_) ∧ 0 ≤ (17 : Int) ∧ (∃ h15_, st1 h10_ a0 (Value.int .u64 (bitsI .xor .u64 x12_ (shlI .u64 x14_ (17 : Int)))) = some h15_ ∧ ∃ v16_, ldv false 1 h15_ a0 = some v16_ ∧ ∃ x17_, v16_ = (Value.int .u64 x17_) ∧ R (Value.int .u64 x17_) h15_)))
theorem f128.run {R : VP} {a0 : Addr} {h : Heap} (H : f128.runT R a0 h) : Run Tryd.prog 128 #[(Value.pointer (some a0))] h R := run_in (kp := f128.kp) mixed Tryd.func128 (by kernel_rfl) (by kernel_rfl) f128.good (by kernel_rfl) H
def f106.T : Tab := { sh := tSh, tup := tTup, keep := [], plan := [(10, (.take 0 (.take 1 (.take 2 (.take 3 (.take 4 (.take 5 (.take 6 (.take 7 (.take 8 (.take 9 (.take 10 (.take 12 (.take 13 (.take 14 (.take 11 (.take 15 (.take 16 (.eff false false [] 17 (.take 18 (.eff false false [] 19 .done)))))))))))))))))))))] }
def f106.kp : Keep := [([false, false, true, true, true, false, true, true], [0, 1, 6, 7, 8, 9]), ([true, true, false, false, true, false, false, true, true, true, false, true, true], [0, 1, 6, 7, 8, 9, 10]), ([true, true, false, false, true, true, true, false, true, true], [0, 1, 6, 7, 8, 9])]
theorem f106.good : goodCode Tryd.prog f106.T (rootOf Tryd.f106) = true := by kernel_rfl
def f106.l0 (R A0 n0 c0 x1 x6 a7 x8 x9 h) := Pt Tryd.prog Tryd.f106 R [false, false, true, true, true, false, true, true] (mkFr [(0, (Value.slice A0 n0 c0)), (1, (Value.int .i64 x1)), (6, (Value.int .i64 x6)), (7, (Value.pointer (some a7))), (8, (Value.int .u64 x8)), (9, (Value.int .i64 x9))]) h
def f106.j1 (R A0 n0 c0 x1 x6 a7 x8 x9 x10 h) := Pt Tryd.prog Tryd.f106 R [true, true, false, false, true, false, false, true, true, true, false, true, true] (mkFr [(0, (Value.slice A0 n0 c0)), (1, (Value.int .i64 x1)), (6, (Value.int .i64 x6)), (7, (Value.pointer (some a7))), (8, (Value.int .u64 x8)), (9, (Value.int .i64 x9)), (10, (Value.int .i64 x10))]) h
def f106.j0 (R A0 n0 c0 x1 x6 a7 x8 x9 h) := Pt Tryd.prog Tryd.f106 R [true, true, false, false, true, true, true, false, true, true] (mkFr [(0, (Value.slice A0 n0 c0)), (1, (Value.int .i64 x1)), (6, (Value.int .i64 x6)), (7, (Value.pointer (some a7))), (8, (Value.int .u64 x8)), (9, (Value.int .i64 x9))]) h
def f106.l0T (R : VP) (A0 : Option Addr) (n0 c0 : Nat) (x1 x6 : Int) (a7 : Addr) (x8 x9 : Int) (h : Heap) : Prop :=
  (4 : Int) ≠ 0 ∧ (splitB (decide (x9 ≤ (IntKind.wrap .i64 ((IntKind.wrap .i64 (x1 + (IntKind.wrap .i64 ((IntKind.wrap .i64 (Int.tdiv x6 (4 : Int))) * (2 : Int))))) + (1 : Int))))) (Run Tryd.prog 128 #[(Value.pointer (some a7))] h fun v1_ h2_ => ∃ x3_, v1_ = (Value.int .u64 x3_) ∧ splitB (decide ((IntKind.wrap .i64 (bitsI .and .u64 x3_ (IntKind.wrap .u64 (x8 - (1 : Int))))) ≥ x6)) (f106.j1 R A0 n0 c0 x1 x6 a7 x8 x9 (IntKind.wrap .i64 ((IntKind.wrap .i64 (bitsI .and .u64 x3_ (IntKind.wrap .u64 (x8 - (1 : Int))))) - x6)) h2_) (f106.j1 R A0 n0 c0 x1 x6 a7 x8 x9 (IntKind.wrap .i64 (bitsI .and .u64 x3_ (IntKind.wrap .u64 (x8 - (1 : Int))))) h2_)) (R (Value.tuple #[]) h))
theorem f106.l0_in {R A0 n0 c0 x1 x6 a7 x8 x9 h} (H : f106.l0T R A0 n0 c0 x1 x6 a7 x8 x9 h) : f106.l0 R A0 n0 c0 x1 x6 a7 x8 x9 h := pt_in (kp := f106.kp) mixed f106.good (by kernel_rfl) H
def f106.j1T (R : VP) (A0 : Option Addr) (n0 c0 : Nat) (x1 x6 : Int) (a7 : Addr) (x8 x9 x10 : Int) (h : Heap) : Prop :=
  ptrOk A0 fun a1_ => 0 ≤ (IntKind.wrap .i64 (x1 + x10)) ∧ (IntKind.wrap .i64 (x1 + x10)) < ((n0 : Nat) : Int) ∧ (ptrOk A0 fun a2_ => 0 ≤ x9 ∧ x9 < ((n0 : Nat) : Int) ∧ (∃ v3_, ldv false 1 h (Addr.add a1_ (Int.toNat (IntKind.wrap .i64 (x1 + x10)) * 1)) = some v3_ ∧ ∃ s4_, v3_ = (Value.string s4_) ∧ ∃ v5_, ldv false 1 h (Addr.add a2_ (Int.toNat x9 * 1)) = some v5_ ∧ ∃ s6_, v5_ = (Value.string s6_) ∧ ptrOk A0 fun a7_ => 0 ≤ x9 ∧ x9 < ((n0 : Nat) : Int) ∧ (∃ h8_, st1 h (Addr.add a7_ (Int.toNat x9 * 1)) (Value.string s4_) = some h8_ ∧ ptrOk A0 fun a9_ => 0 ≤ (IntKind.wrap .i64 (x1 + x10)) ∧ (IntKind.wrap .i64 (x1 + x10)) < ((n0 : Nat) : Int) ∧ (∃ h10_, st1 h8_ (Addr.add a9_ (Int.toNat (IntKind.wrap .i64 (x1 + x10)) * 1)) (Value.string s6_) = some h10_ ∧ f106.j0 R A0 n0 c0 x1 x6 a7 x8 x9 h10_))))
theorem f106.j1_in {R A0 n0 c0 x1 x6 a7 x8 x9 x10 h} (H : f106.j1T R A0 n0 c0 x1 x6 a7 x8 x9 x10 h) : f106.j1 R A0 n0 c0 x1 x6 a7 x8 x9 x10 h := pt_in (kp := f106.kp) mixed f106.good (by kernel_rfl) H
def f106.j0T (R : VP) (A0 : Option Addr) (n0 c0 : Nat) (x1 x6 : Int) (a7 : Addr) (x8 x9 : Int) (h : Heap) : Prop :=
  f106.l0 R A0 n0 c0 x1 x6 a7 x8 (IntKind.wrap .i64 (x9 + (1 : Int))) h
theorem f106.j0_in {R A0 n0 c0 x1 x6 a7 x8 x9 h} (H : f106.j0T R A0 n0 c0 x1 x6 a7 x8 x9 h) : f106.j0 R A0 n0 c0 x1 x6 a7 x8 x9 h := pt_in (kp := f106.kp) mixed f106.good (by kernel_rfl) H
def f106.runT (R : VP) (A0 : Option Addr) (n0 c0 : Nat) (x1 x2 : Int) (h : Heap) : Prop :=
  splitB (decide ((IntKind.wrap .i64 (x2 - x1)) ≥ (8 : Int))) (newH h (Obj.cells #[(Value.int .u64 (0 : Int))] 185) fun h1_ => ∃ h2_, st1 h1_ (⟨Array.size h, 0, none⟩) (Value.int .u64 (IntKind.wrap .u64 (IntKind.wrap .i64 (x2 - x1)))) = some h2_ ∧ Run Tryd.prog 127 #[(Value.int .i64 (IntKind.wrap .i64 (x2 - x1)))] h2_ fun v3_ h4_ => ∃ x5_, v3_ = (Value.int .u64 x5_) ∧ (4 : Int) ≠ 0 ∧ (f106.l0 R A0 n0 c0 x1 (IntKind.wrap .i64 (x2 - x1)) (⟨Array.size h, 0, none⟩) x5_ (IntKind.wrap .i64 ((IntKind.wrap .i64 (x1 + (IntKind.wrap .i64 ((IntKind.wrap .i64 (Int.tdiv (IntKind.wrap .i64 (x2 - x1)) (4 : Int))) * (2 : Int))))) - (1 : Int))) h4_)) (R (Value.tuple #[]) h)
theorem f106.run {R : VP} {A0 : Option Addr} {n0 c0 : Nat} {x1 x2 : Int} {h : Heap} (H : f106.runT R A0 n0 c0 x1 x2 h) : Run Tryd.prog 106 #[(Value.slice A0 n0 c0), (Value.int .i64 x1), (Value.int .i64 x2)] h R := run_in (kp := f106.kp) mixed Tryd.func106 (by kernel_rfl) (by kernel_rfl) f106.good (by kernel_rfl) H
def f146.T : Tab := { sh := tSh, tup := tTup, keep := [], plan := [(1, (.take 0 (.take 1 (.take 2 (.take 4 (.take 5 (.take 6 (.take 3 (.take 7 (.eff false false [] 8 .done))))))))))] }
def f146.kp : Keep := []
theorem f146.good : goodCode Tryd.prog f146.T (rootOf Tryd.f146) = true := by kernel_rfl
def f146.runT (R : VP) (A0 : Option Addr) (n0 c0 : Nat) (x1 x2 : Int) (a3 : Addr) (h : Heap) : Prop :=
  ptrOk A0 fun a1_ => 0 ≤ x2 ∧ x2 < ((n0 : Nat) : Int) ∧ (ptrOk A0 fun a2_ => 0 ≤ x1 ∧ x1 < ((n0 : Nat) : Int) ∧ (∃ v3_, ldv false 1 h (Addr.add a1_ (Int.toNat x2 * 1)) = some v3_ ∧ ∃ s4_, v3_ = (Value.string s4_) ∧ ∃ v5_, ldv false 1 h (Addr.add a2_ (Int.toNat x1 * 1)) = some v5_ ∧ ∃ s6_, v5_ = (Value.string s6_) ∧ Run Tryd.prog 110 #[(Value.string s4_), (Value.string s6_)] h fun v7_ h8_ => ∃ b9_, v7_ = (Value.bool b9_) ∧ splitB b9_ (∃ v10_, ldv false 1 h8_ a3 = some v10_ ∧ ∃ x11_, v10_ = (Value.int .i64 x11_) ∧ ∃ h12_, st1 h8_ a3 (Value.int .i64 (IntKind.wrap .i64 (x11_ + (1 : Int)))) = some h12_ ∧ R (Value.tuple #[(Value.int .i64 x2), (Value.int .i64 x1)]) h12_) (R (Value.tuple #[(Value.int .i64 x1), (Value.int .i64 x2)]) h8_)))
theorem f146.run {R : VP} {A0 : Option Addr} {n0 c0 : Nat} {x1 x2 : Int} {a3 : Addr} {h : Heap} (H : f146.runT R A0 n0 c0 x1 x2 a3 h) : Run Tryd.prog 146 #[(Value.slice A0 n0 c0), (Value.int .i64 x1), (Value.int .i64 x2), (Value.pointer (some a3))] h R := run_in (kp := f146.kp) mixed Tryd.func146 (by kernel_rfl) (by kernel_rfl) f146.good (by kernel_rfl) H
def f130.T : Tab := { sh := tSh, tup := tTup, keep := [], plan := [] }
def f130.kp : Keep := []
theorem f130.good : goodCode Tryd.prog f130.T (rootOf Tryd.f130) = true := by kernel_rfl
def f130.runT (R : VP) (A0 : Option Addr) (n0 c0 : Nat) (x1 x2 x3 : Int) (a4 : Addr) (h : Heap) : Prop :=
  Run Tryd.prog 146 #[(Value.slice A0 n0 c0), (Value.int .i64 x1), (Value.int .i64 x2), (Value.pointer (some a4))] h fun v1_ h2_ => ∃ x3_, ∃ x4_, v1_ = (Value.tuple #[(Value.int .i64 x3_), (Value.int .i64 x4_)]) ∧ Run Tryd.prog 146 #[(Value.slice A0 n0 c0), (Value.int .i64 x4_), (Value.int .i64 x3), (Value.pointer (some a4))] h2_ fun v5_ h6_ => ∃ x7_, ∃ x8_, v5_ = (Value.tuple #[(Value.int .i64 x7_), (Value.int .i64 x8_)]) ∧ Run Tryd.prog 146 #[(Value.slice A0 n0 c0), (Value.int .i64 x3_), (Value.int .i64 x7_), (Value.pointer (some a4))] h6_ fun v9_ h10_ => ∃ x11_, ∃ x12_, v9_ = (Value.tuple #[(Value.int .i64 x11_), (Value.int .i64 x12_)]) ∧ R (Value.int .i64 x12_) h10_
theorem f130.run {R : VP} {A0 : Option Addr} {n0 c0 : Nat} {x1 x2 x3 : Int} {a4 : Addr} {h : Heap} (H : f130.runT R A0 n0 c0 x1 x2 x3 a4 h) : Run Tryd.prog 130 #[(Value.slice A0 n0 c0), (Value.int .i64 x1), (Value.int .i64 x2), (Value.int .i64 x3), (Value.pointer (some a4))] h R := run_in (kp := f130.kp) mixed Tryd.func130 (by kernel_rfl) (by kernel_rfl) f130.good (by kernel_rfl) H
def f129.T : Tab := { sh := tSh, tup := tTup, keep := [], plan := [] }
def f129.kp : Keep := []
theorem f129.good : goodCode Tryd.prog f129.T (rootOf Tryd.f129) = true := by kernel_rfl
def f129.runT (R : VP) (A0 : Option Addr) (n0 c0 : Nat) (x1 : Int) (a2 : Addr) (h : Heap) : Prop :=
  Run Tryd.prog 130 #[(Value.slice A0 n0 c0), (Value.int .i64 (IntKind.wrap .i64 (x1 - (1 : Int)))), (Value.int .i64 x1), (Value.int .i64 (IntKind.wrap .i64 (x1 + (1 : Int)))), (Value.pointer (some a2))] h fun v1_ h2_ => ∃ x3_, v1_ = (Value.int .i64 x3_) ∧ R (Value.int .i64 x3_) h2_
theorem f129.run {R : VP} {A0 : Option Addr} {n0 c0 : Nat} {x1 : Int} {a2 : Addr} {h : Heap} (H : f129.runT R A0 n0 c0 x1 a2 h) : Run Tryd.prog 129 #[(Value.slice A0 n0 c0), (Value.int .i64 x1), (Value.pointer (some a2))] h R := run_in (kp := f129.kp) mixed Tryd.func129 (by kernel_rfl) (by kernel_rfl) f129.good (by kernel_rfl) H
def f107.T : Tab := { sh := tSh, tup := tTup, keep := [], plan := [] }
def f107.kp : Keep := [([true, false, true, false, true, true, true, true, true, true], [0, 9, 10, 11, 12]), ([true, true, true, true, true, true, true], [9, 11])]
theorem f107.good : goodCode Tryd.prog f107.T (rootOf Tryd.f107) = true := by kernel_rfl
def f107.j1 (R A0 n0 c0 a9 x10 x11 x12 h) := Pt Tryd.prog Tryd.f107 R [true, false, true, false, true, true, true, true, true, true] (mkFr [(0, (Value.slice A0 n0 c0)), (9, (Value.pointer (some a9))), (10, (Value.int .i64 x10)), (11, (Value.int .i64 x11)), (12, (Value.int .i64 x12))]) h
def f107.j0 (R a9 x11 h) := Pt Tryd.prog Tryd.f107 R [true, true, true, true, true, true, true] (mkFr [(9, (Value.pointer (some a9))), (11, (Value.int .i64 x11))]) h
def f107.j1T (R : VP) (A0 : Option Addr) (n0 c0 : Nat) (a9 : Addr) (x10 x11 x12 : Int) (h : Heap) : Prop :=
  Run Tryd.prog 130 #[(Value.slice A0 n0 c0), (Value.int .i64 x10), (Value.int .i64 x11), (Value.int .i64 x12), (Value.pointer (some a9))] h fun v1_ h2_ => ∃ x3_, v1_ = (Value.int .i64 x3_) ∧ f107.j0 R a9 x3_ h2_
theorem f107.j1_in {R A0 n0 c0 a9 x10 x11 x12 h} (H : f107.j1T R A0 n0 c0 a9 x10 x11 x12 h) : f107.j1 R A0 n0 c0 a9 x10 x11 x12 h := pt_in (kp := f107.kp) mixed f107.good (by kernel_rfl) H
def f107.j0T (R : VP) (a9 : Addr) (x11 : Int) (h : Heap) : Prop :=
  ∃ v1_, ldv false 1 h a9 = some v1_ ∧ ∃ x2_, v1_ = (Value.int .i64 x2_) ∧ splitB (x2_ == (0 : Int)) (R (Value.tuple #[(Value.int .i64 x11), (Value.int .i64 (1 : Int))]) h) (splitB (x2_ == (12 : Int)) (R (Value.tuple #[(Value.int .i64 x11), (Value.int .i64 (2 : Int))]) h) (R (Value.tuple #[(Value.int .i64 x11), (Value.int .i64 (0 : Int))]) h))
theorem f107.j0_in {R a9 x11 h} (H : f107.j0T R a9 x11 h) : f107.j0 R a9 x11 h := pt_in (kp := f107.kp) mixed f107.good (by kernel_rfl) H
def f107.runT (R : VP) (A0 : Option Addr) (n0 c0 : Nat) (x1 x2 : Int) (h : Heap) : Prop :=
  newH h (Obj.cells #[(Value.int .i64 (0 : Int))] 3) fun h1_ => (4 : Int) ≠ 0 ∧ ((4 : Int) ≠ 0 ∧ ((4 : Int) ≠ 0 ∧ (splitB (decide ((IntKind.wrap .i64 (x2 - x1)) ≥ (8 : Int))) (splitB (decide ((IntKind.wrap .i64 (x2 - x1)) ≥ (50 : Int))) (Run Tryd.prog 129 #[(Value.slice A0 n0 c0), (Value.int .i64 (IntKind.wrap .i64 (x1 + (IntKind.wrap .i64 ((IntKind.wrap .i64 (Int.tdiv (IntKind.wrap .i64 (x2 - x1)) (4 : Int))) * (1 : Int)))))), (Value.pointer (some ⟨Array.size h, 0, none⟩))] h1_ fun v2_ h3_ => ∃ x4_, v2_ = (Value.int .i64 x4_) ∧ Run Tryd.prog 129 #[(Value.slice A0 n0 c0), (Value.int .i64 (IntKind.wrap .i64 (x1 + (IntKind.wrap .i64 ((IntKind.wrap .i64 (Int.tdiv (IntKind.wrap .i64 (x2 - x1)) (4 : Int))) * (2 : Int)))))), (Value.pointer (some ⟨Array.size h, 0, none⟩))] h3_ fun v5_ h6_ => ∃ x7_, v5_ = (Value.int .i64 x7_) ∧ Run Tryd.prog 129 #[(Value.slice A0 n0 c0), (Value.int .i64 (IntKind.wrap .i64 (x1 + (IntKind.wrap .i64 ((IntKind.wrap .i64 (Int.tdiv (IntKind.wrap .i64 (x2 - x1)) (4 : Int))) * (3 : Int)))))), (Value.pointer (some ⟨Array.size h, 0, none⟩))] h6_ fun v8_ h9_ => ∃ x10_, v8_ = (Value.int .i64 x10_) ∧ f107.j1 R A0 n0 c0 (⟨Array.size h, 0, none⟩) x4_ x7_ x10_ h9_) (f107.j1 R A0 n0 c0 (⟨Array.size h, 0, none⟩) (IntKind.wrap .i64 (x1 + (IntKind.wrap .i64 ((IntKind.wrap .i64 (Int.tdiv (IntKind.wrap .i64 (x2 - x1)) (4 : Int))) * (1 : Int))))) (IntKind.wrap .i64 (x1 + (IntKind.wrap .i64 ((IntKind.wrap .i64 (Int.tdiv (IntKind.wrap .i64 (x2 - x1)) (4 : Int))) * (2 : Int))))) (IntKind.wrap .i64 (x1 + (IntKind.wrap .i64 ((IntKind.wrap .i64 (Int.tdiv (IntKind.wrap .i64 (x2 - x1)) (4 : Int))) * (3 : Int))))) h1_)) (f107.j0 R (⟨Array.size h, 0, none⟩) (IntKind.wrap .i64 (x1 + (IntKind.wrap .i64 ((IntKind.wrap .i64 (Int.tdiv (IntKind.wrap .i64 (x2 - x1)) (4 : Int))) * (2 : Int))))) h1_))))
theorem f107.run {R : VP} {A0 : Option Addr} {n0 c0 : Nat} {x1 x2 : Int} {h : Heap} (H : f107.runT R A0 n0 c0 x1 x2 h) : Run Tryd.prog 107 #[(Value.slice A0 n0 c0), (Value.int .i64 x1), (Value.int .i64 x2)] h R := run_in (kp := f107.kp) mixed Tryd.func107 (by kernel_rfl) (by kernel_rfl) f107.good (by kernel_rfl) H
def f108.T : Tab := { sh := tSh, tup := tTup, keep := [], plan := [(3, (.take 0 (.take 1 (.take 2 (.take 3 (.take 4 (.take 5 (.take 6 (.take 8 (.take 9 (.take 10 (.take 7 (.take 11 (.take 12 (.eff false false [] 13 (.take 14 (.eff false false [] 15 .done)))))))))))))))))] }
def f108.kp : Keep := [([false, false, true, true], [0, 6, 7])]
theorem f108.good : goodCode Tryd.prog f108.T (rootOf Tryd.f108) = true := by kernel_rfl
def f108.l0 (R A0 n0 c0 x6 x7 h) := Pt Tryd.prog Tryd.f108 R [false, false, true, true] (mkFr [(0, (Value.slice A0 n0 c0)), (6, (Value.int .i64 x6)), (7, (Value.int .i64 x7))]) h
def f108.l0T (R : VP) (A0 : Option Addr) (n0 c0 : Nat) (x6 x7 : Int) (h : Heap) : Prop :=
  splitB (decide (x6 < x7)) (ptrOk A0 fun a1_ => 0 ≤ x7 ∧ x7 < ((n0 : Nat) : Int) ∧ (ptrOk A0 fun a2_ => 0 ≤ x6 ∧ x6 < ((n0 : Nat) : Int) ∧ (∃ v3_, ldv false 1 h (Addr.add a1_ (Int.toNat x7 * 1)) = some v3_ ∧ ∃ s4_, v3_ = (Value.string s4_) ∧ ∃ v5_, ldv false 1 h (Addr.add a2_ (Int.toNat x6 * 1)) = some v5_ ∧ ∃ s6_, v5_ = (Value.string s6_) ∧ ptrOk A0 fun a7_ => 0 ≤ x6 ∧ x6 < ((n0 : Nat) : Int) ∧ (∃ h8_, st1 h (Addr.add a7_ (Int.toNat x6 * 1)) (Value.string s4_) = some h8_ ∧ ptrOk A0 fun a9_ => 0 ≤ x7 ∧ x7 < ((n0 : Nat) : Int) ∧ (∃ h10_, st1 h8_ (Addr.add a9_ (Int.toNat x7 * 1)) (Value.string s6_) = some h10_ ∧ f108.l0 R A0 n0 c0 (IntKind.wrap .i64 (x6 + (1 : Int))) (IntKind.wrap .i64 (x7 - (1 : Int))) h10_))))) (R (Value.tuple #[]) h)
theorem f108.l0_in {R A0 n0 c0 x6 x7 h} (H : f108.l0T R A0 n0 c0 x6 x7 h) : f108.l0 R A0 n0 c0 x6 x7 h := pt_in (kp := f108.kp) mixed f108.good (by kernel_rfl) H
def f108.runT (R : VP) (A0 : Option Addr) (n0 c0 : Nat) (x1 x2 : Int) (h : Heap) : Prop :=
  f108.l0 R A0 n0 c0 x1 (IntKind.wrap .i64 (x2 - (1 : Int))) h
theorem f108.run {R : VP} {A0 : Option Addr} {n0 c0 : Nat} {x1 x2 : Int} {h : Heap} (H : f108.runT R A0 n0 c0 x1 x2 h) : Run Tryd.prog 108 #[(Value.slice A0 n0 c0), (Value.int .i64 x1), (Value.int .i64 x2)] h R := run_in (kp := f108.kp) mixed Tryd.func108 (by kernel_rfl) (by kernel_rfl) f108.good (by kernel_rfl) H
def f109.T : Tab := { sh := tSh, tup := tTup, keep := [], plan := [(5, (.take 0 (.take 1 (.take 2 (.take 3 (.split 3 (.take 4 (.take 5 (.take 6 (.take 8 (.take 9 (.take 10 (.take 11 (.take 7 (.take 12 (.eff false false [] 13 (.take 14 (.take 15 .done)))))))))))))))))), (11, (.take 0 (.take 1 (.take 2 (.take 3 (.take 4 (.take 5 (.take 6 (.take 7 (.take 8 (.take 10 (.take 11 (.take 12 (.take 9 (.take 13 (.take 14 (.eff false false [] 15 (.take 16 (.eff false false [] 17 .done))))))))))))))))))), (16, (.take 0 (.take 1 (.take 2 (.take 4 (.take 5 (.take 6 (.take 7 (.take 3 (.take 8 (.eff false false [] 9 (.take 10 .done)))))))))))), (17, (.take 0 (.take 1 (.take 2 (.take 3 (.take 4 (.take 5 (.take 6 (.take 7 (.take 8 (.take 10 (.take 11 (.take 12 (.take 9 (.take 13 (.take 14 (.eff false false [] 15 (.take 16 (.eff false false [] 17 .done))))))))))))))))))), (22, (.take 0 (.take 1 (.take 2 (.take 4 (.take 5 (.take 6 (.take 7 (.take 3 (.take 8 (.eff false false [] 9 (.take 10 .done)))))))))))), (23, (.take 0 (.take 1 (.take 2 (.take 3 (.take 4 (.take 5 (.take 6 (.take 7 (.take 8 (.take 10 (.take 11 (.take 12 (.take 9 (.take 13 (.take 14 (.eff false false [] 15 (.take 16 (.eff false false [] 17 .done)))))))))))))))))))] }
def f109.kp : Keep := [([false, false, true, false, true, true], [0, 1, 2, 7, 8]), ([false, false, false, false, false, true, false, false, true, false, true, true], [0, 1, 2, 7, 8]), ([true, false, false, false, false, false, true, false, false, true, false, true, true], [0, 1, 2, 7, 8]), ([true, false, false, true, false, false, true, false, true, true], [0, 1, 2, 7, 8]), ([false, false, true, false, true, false, true, true, true, true, false, false, true, false, false, true, false, true, true], [0, 1, 2, 7, 8, 9]), ([true, true, true, true, true, false, false, true, false, false, true, false, true, true], [0, 1, 2, 7, 8]), ([false, false, true, false, true, true, true, true, true, true, false, false, true, false, false, true, false, true, true], [0, 1, 2, 7, 8, 10]), ([true, true, false, false, true, false, true, true], [0, 1, 2, 7, 8])]
theorem f109.good : goodCode Tryd.prog f109.T (rootOf Tryd.f109) = true := by kernel_rfl
def f109.l0 (R A0 n0 c0 x1 x2 x7 x8 h) := Pt Tryd.prog Tryd.f109 R [false, false, true, false, true, true] (mkFr [(0, (Value.slice A0 n0 c0)), (1, (Value.int .i64 x1)), (2, (Value.int .i64 x2)), (7, (Value.int .i64 x7)), (8, (Value.int .i64 x8))]) h
def f109.l1 (R A0 n0 c0 x1 x2 x7 x8 h) := Pt Tryd.prog Tryd.f109 R [false, false, false, false, false, true, false, false, true, false, true, true] (mkFr [(0, (Value.slice A0 n0 c0)), (1, (Value.int .i64 x1)), (2, (Value.int .i64 x2)), (7, (Value.int .i64 x7)), (8, (Value.int .i64 x8))]) h
def f109.j2 (R A0 n0 c0 x1 x2 x7 x8 h) := Pt Tryd.prog Tryd.f109 R [true, false, false, false, false, false, true, false, false, true, false, true, true] (mkFr [(0, (Value.slice A0 n0 c0)), (1, (Value.int .i64 x1)), (2, (Value.int .i64 x2)), (7, (Value.int .i64 x7)), (8, (Value.int .i64 x8))]) h
def f109.j1 (R A0 n0 c0 x1 x2 x7 x8 h) := Pt Tryd.prog Tryd.f109 R [true, false, false, true, false, false, true, false, true, true] (mkFr [(0, (Value.slice A0 n0 c0)), (1, (Value.int .i64 x1)), (2, (Value.int .i64 x2)), (7, (Value.int .i64 x7)), (8, (Value.int .i64 x8))]) h
def f109.l2 (R A0 n0 c0 x1 x2 x7 x8 x9 h) := Pt Tryd.prog Tryd.f109 R [false, false, true, false, true, false, true, true, true, true, false, false, true, false, false, true, false, true, true] (mkFr [(0, (Value.slice A0 n0 c0)), (1, (Value.int .i64 x1)), (2, (Value.int .i64 x2)), (7, (Value.int .i64 x7)), (8, (Value.int .i64 x8)), (9, (Value.int .i64 x9))]) h
def f109.j3 (R A0 n0 c0 x1 x2 x7 x8 h) := Pt Tryd.prog Tryd.f109 R [true, true, true, true, true, false, false, true, false, false, true, false, true, true] (mkFr [(0, (Value.slice A0 n0 c0)), (1, (Value.int .i64 x1)), (2, (Value.int .i64 x2)), (7, (Value.int .i64 x7)), (8, (Value.int .i64 x8))]) h
def f109.l3 (R A0 n0 c0 x1 x2 x7 x8 x10 h) := Pt Tryd.prog Tryd.f109 R [false, false, true, false, true, true, true, true, true, true, false, false, true, false, false, true, false, true, true] (mkFr [(0, (Value.slice A0 n0 c0)), (1, (Value.int .i64 x1)), (2, (Value.int .i64 x2)), (7, (Value.int .i64 x7)), (8, (Value.int .i64 x8)), (10, (Value.int .i64 x10))]) h
def f109.j0 (R A0 n0 c0 x1 x2 x7 x8 h) := Pt Tryd.prog Tryd.f109 R [true, true, false, false, true, false, true, true] (mkFr [(0, (Value.slice A0 n0 c0)), (1, (Value.int .i64 x1)), (2, (Value.int .i64 x2)), (7, (Value.int .i64 x7)), (8, (Value.int .i64 x8))]) h
def f109.l0T (R : VP) (A0 : Option Addr) (n0 c0 : Nat) (x1 x2 x7 x8 : Int) (h : Heap) : Prop :=
  splitB (decide (x8 < (5 : Int))) (f109.l1 R A0 n0 c0 x1 x2 x7 x8 h) (R (Value.bool false) h)
theorem f109.l0_in {R A0 n0 c0 x1 x2 x7 x8 h} (H : f109.l0T R A0 n0 c0 x1 x2 x7 x8 h) : f109.l0 R A0 n0 c0 x1 x2 x7 x8 h := pt_in (kp := f109.kp) mixed f109.good (by kernel_rfl) H
def f109.l1T (R : VP) (A0 : Option Addr) (n0 c0 : Nat) (x1 x2 x7 x8 : Int) (h : Heap) : Prop :=
  splitB (decide (x7 < x2)) (ptrOk A0 fun a1_ => 0 ≤ x7 ∧ x7 < ((n0 : Nat) : Int) ∧ (ptrOk A0 fun a2_ => 0 ≤ (IntKind.wrap .i64 (x7 - (1 : Int))) ∧ (IntKind.wrap .i64 (x7 - (1 : Int))) < ((n0 : Nat) : Int) ∧ (∃ v3_, ldv false 1 h (Addr.add a1_ (Int.toNat x7 * 1)) = some v3_ ∧ ∃ s4_, v3_ = (Value.string s4_) ∧ ∃ v5_, ldv false 1 h (Addr.add a2_ (Int.toNat (IntKind.wrap .i64 (x7 - (1 : Int))) * 1)) = some v5_ ∧ ∃ s6_, v5_ = (Value.string s6_) ∧ Run Tryd.prog 110 #[(Value.string s4_), (Value.string s6_)] h fun v7_ h8_ => ∃ b9_, v7_ = (Value.bool b9_) ∧ splitB (!b9_) (f109.j2 R A0 n0 c0 x1 x2 x7 x8 h8_) (f109.j1 R A0 n0 c0 x1 x2 x7 x8 h8_)))) (f109.j1 R A0 n0 c0 x1 x2 x7 x8 h)
theorem f109.l1_in {R A0 n0 c0 x1 x2 x7 x8 h} (H : f109.l1T R A0 n0 c0 x1 x2 x7 x8 h) : f109.l1 R A0 n0 c0 x1 x2 x7 x8 h := pt_in (kp := f109.kp) mixed f109.good (by kernel_rfl) H
def f109.j2T (R : VP) (A0 : Option Addr) (n0 c0 : Nat) (x1 x2 x7 x8 : Int) (h : Heap) : Prop :=
  f109.l1 R A0 n0 c0 x1 x2 (IntKind.wrap .i64 (x7 + (1 : Int))) x8 h
theorem f109.j2_in {R A0 n0 c0 x1 x2 x7 x8 h} (H : f109.j2T R A0 n0 c0 x1 x2 x7 x8 h) : f109.j2 R A0 n0 c0 x1 x2 x7 x8 h := pt_in (kp := f109.kp) mixed f109.good (by kernel_rfl) H
def f109.j1T (R : VP) (A0 : Option Addr) (n0 c0 : Nat) (x1 x2 x7 x8 : Int) (h : Heap) : Prop :=
  splitB (x7 == x2) (R (Value.bool true) h) (splitB (decide ((IntKind.wrap .i64 (x2 - x1)) < (50 : Int))) (R (Value.bool false) h) (ptrOk A0 fun a1_ => 0 ≤ (IntKind.wrap .i64 (x7 - (1 : Int))) ∧ (IntKind.wrap .i64 (x7 - (1 : Int))) < ((n0 : Nat) : Int) ∧ (ptrOk A0 fun a2_ => 0 ≤ x7 ∧ x7 < ((n0 : Nat) : Int) ∧ (∃ v3_, ldv false 1 h (Addr.add a1_ (Int.toNat (IntKind.wrap .i64 (x7 - (1 : Int))) * 1)) = some v3_ ∧ ∃ s4_, v3_ = (Value.string s4_) ∧ ∃ v5_, ldv false 1 h (Addr.add a2_ (Int.toNat x7 * 1)) = some v5_ ∧ ∃ s6_, v5_ = (Value.string s6_) ∧ ptrOk A0 fun a7_ => 0 ≤ x7 ∧ x7 < ((n0 : Nat) : Int) ∧ (∃ h8_, st1 h (Addr.add a7_ (Int.toNat x7 * 1)) (Value.string s4_) = some h8_ ∧ ptrOk A0 fun a9_ => 0 ≤ (IntKind.wrap .i64 (x7 - (1 : Int))) ∧ (IntKind.wrap .i64 (x7 - (1 : Int))) < ((n0 : Nat) : Int) ∧ (∃ h10_, st1 h8_ (Addr.add a9_ (Int.toNat (IntKind.wrap .i64 (x7 - (1 : Int))) * 1)) (Value.string s6_) = some h10_ ∧ splitB (decide ((IntKind.wrap .i64 (x7 - x1)) ≥ (2 : Int))) (f109.l2 R A0 n0 c0 x1 x2 x7 x8 (IntKind.wrap .i64 (x7 - (1 : Int))) h10_) (f109.j3 R A0 n0 c0 x1 x2 x7 x8 h10_)))))))
theorem f109.j1_in {R A0 n0 c0 x1 x2 x7 x8 h} (H : f109.j1T R A0 n0 c0 x1 x2 x7 x8 h) : f109.j1 R A0 n0 c0 x1 x2 x7 x8 h := pt_in (kp := f109.kp) mixed f109.good (by kernel_rfl) H
def f109.l2T (R : VP) (A0 : Option Addr) (n0 c0 : Nat) (x1 x2 x7 x8 x9 : Int) (h : Heap) : Prop :=
  splitB (decide (x9 ≥ (1 : Int))) (ptrOk A0 fun a1_ => 0 ≤ x9 ∧ x9 < ((n0 : Nat) : Int) ∧ (ptrOk A0 fun a2_ => 0 ≤ (IntKind.wrap .i64 (x9 - (1 : Int))) ∧ (IntKind.wrap .i64 (x9 - (1 : Int))) < ((n0 : Nat) : Int) ∧ (∃ v3_, ldv false 1 h (Addr.add a1_ (Int.toNat x9 * 1)) = some v3_ ∧ ∃ s4_, v3_ = (Value.string s4_) ∧ ∃ v5_, ldv false 1 h (Addr.add a2_ (Int.toNat (IntKind.wrap .i64 (x9 - (1 : Int))) * 1)) = some v5_ ∧ ∃ s6_, v5_ = (Value.string s6_) ∧ Run Tryd.prog 110 #[(Value.string s4_), (Value.string s6_)] h fun v7_ h8_ => ∃ b9_, v7_ = (Value.bool b9_) ∧ splitB (!b9_) (f109.j3 R A0 n0 c0 x1 x2 x7 x8 h8_) (ptrOk A0 fun a10_ => 0 ≤ (IntKind.wrap .i64 (x9 - (1 : Int))) ∧ (IntKind.wrap .i64 (x9 - (1 : Int))) < ((n0 : Nat) : Int) ∧ (ptrOk A0 fun a11_ => 0 ≤ x9 ∧ x9 < ((n0 : Nat) : Int) ∧ (∃ v12_, ldv false 1 h8_ (Addr.add a10_ (Int.toNat (IntKind.wrap .i64 (x9 - (1 : Int))) * 1)) = some v12_ ∧ ∃ s13_, v12_ = (Value.string s13_) ∧ ∃ v14_, ldv false 1 h8_ (Addr.add a11_ (Int.toNat x9 * 1)) = some v14_ ∧ ∃ s15_, v14_ = (Value.string s15_) ∧ ptrOk A0 fun a16_ => 0 ≤ x9 ∧ x9 < ((n0 : Nat) : Int) ∧ (∃ h17_, st1 h8_ (Addr.add a16_ (Int.toNat x9 * 1)) (Value.string s13_) = some h17_ ∧ ptrOk A0 fun a18_ => 0 ≤ (IntKind.wrap .i64 (x9 - (1 : Int))) ∧ (IntKind.wrap .i64 (x9 - (1 : Int))) < ((n0 : Nat) : Int) ∧ (∃ h19_, st1 h17_ (Addr.add a18_ (Int.toNat (IntKind.wrap .i64 (x9 - (1 : Int))) * 1)) (Value.string s15_) = some h19_ ∧ f109.l2 R A0 n0 c0 x1 x2 x7 x8 (IntKind.wrap .i64 (x9 - (1 : Int))) h19_)))))))) (f109.j3 R A0 n0 c0 x1 x2 x7 x8 h)
theorem f109.l2_in {R A0 n0 c0 x1 x2 x7 x8 x9 h} (H : f109.l2T R A0 n0 c0 x1 x2 x7 x8 x9 h) : f109.l2 R A0 n0 c0 x1 x2 x7 x8 x9 h := pt_in (kp := f109.kp) mixed f109.good (by kernel_rfl) H
def f109.j3T (R : VP) (A0 : Option Addr) (n0 c0 : Nat) (x1 x2 x7 x8 : Int) (h : Heap) : Prop :=
  splitB (decide ((IntKind.wrap .i64 (x2 - x7)) ≥ (2 : Int))) (f109.l3 R A0 n0 c0 x1 x2 x7 x8 (IntKind.wrap .i64 (x7 + (1 : Int))) h) (f109.j0 R A0 n0 c0 x1 x2 x7 x8 h)
theorem f109.j3_in {R A0 n0 c0 x1 x2 x7 x8 h} (H : f109.j3T R A0 n0 c0 x1 x2 x7 x8 h) : f109.j3 R A0 n0 c0 x1 x2 x7 x8 h := pt_in (kp := f109.kp) mixed f109.good (by kernel_rfl) H
def f109.l3T (R : VP) (A0 : Option Addr) (n0 c0 : Nat) (x1 x2 x7 x8 x10 : Int) (h : Heap) : Prop :=
  splitB (decide (x10 < x2)) (ptrOk A0 fun a1_ => 0 ≤ x10 ∧ x10 < ((n0 : Nat) : Int) ∧ (ptrOk A0 fun a2_ => 0 ≤ (IntKind.wrap .i64 (x10 - (1 : Int))) ∧ (IntKind.wrap .i64 (x10 - (1 : Int))) < ((n0 : Nat) : Int) ∧ (∃ v3_, ldv false 1 h (Addr.add a1_ (Int.toNat x10 * 1)) = some v3_ ∧ ∃ s4_, v3_ = (Value.string s4_) ∧ ∃ v5_, ldv false 1 h (Addr.add a2_ (Int.toNat (IntKind.wrap .i64 (x10 - (1 : Int))) * 1)) = some v5_ ∧ ∃ s6_, v5_ = (Value.string s6_) ∧ Run Tryd.prog 110 #[(Value.string s4_), (Value.string s6_)] h fun v7_ h8_ => ∃ b9_, v7_ = (Value.bool b9_) ∧ splitB (!b9_) (f109.j0 R A0 n0 c0 x1 x2 x7 x8 h8_) (ptrOk A0 fun a10_ => 0 ≤ (IntKind.wrap .i64 (x10 - (1 : Int))) ∧ (IntKind.wrap .i64 (x10 - (1 : Int))) < ((n0 : Nat) : Int) ∧ (ptrOk A0 fun a11_ => 0 ≤ x10 ∧ x10 < ((n0 : Nat) : Int) ∧ (∃ v12_, ldv false 1 h8_ (Addr.add a10_ (Int.toNat (IntKind.wrap .i64 (x10 - (1 : Int))) * 1)) = some v12_ ∧ ∃ s13_, v12_ = (Value.string s13_) ∧ ∃ v14_, ldv false 1 h8_ (Addr.add a11_ (Int.toNat x10 * 1)) = some v14_ ∧ ∃ s15_, v14_ = (Value.string s15_) ∧ ptrOk A0 fun a16_ => 0 ≤ x10 ∧ x10 < ((n0 : Nat) : Int) ∧ (∃ h17_, st1 h8_ (Addr.add a16_ (Int.toNat x10 * 1)) (Value.string s13_) = some h17_ ∧ ptrOk A0 fun a18_ => 0 ≤ (IntKind.wrap .i64 (x10 - (1 : Int))) ∧ (IntKind.wrap .i64 (x10 - (1 : Int))) < ((n0 : Nat) : Int) ∧ (∃ h19_, st1 h17_ (Addr.add a18_ (Int.toNat (IntKind.wrap .i64 (x10 - (1 : Int))) * 1)) (Value.string s15_) = some h19_ ∧ f109.l3 R A0 n0 c0 x1 x2 x7 x8 (IntKind.wrap .i64 (x10 + (1 : Int))) h19_)))))))) (f109.j0 R A0 n0 c0 x1 x2 x7 x8 h)
theorem f109.l3_in {R A0 n0 c0 x1 x2 x7 x8 x10 h} (H : f109.l3T R A0 n0 c0 x1 x2 x7 x8 x10 h) : f109.l3 R A0 n0 c0 x1 x2 x7 x8 x10 h := pt_in (kp := f109.kp) mixed f109.good (by kernel_rfl) H
def f109.j0T (R : VP) (A0 : Option Addr) (n0 c0 : Nat) (x1 x2 x7 x8 : Int) (h : Heap) : Prop :=
  f109.l0 R A0 n0 c0 x1 x2 x7 (IntKind.wrap .i64 (x8 + (1 : Int))) h
theorem f109.j0_in {R A0 n0 c0 x1 x2 x7 x8 h} (H : f109.j0T R A0 n0 c0 x1 x2 x7 x8 h) : f109.j0 R A0 n0 c0 x1 x2 x7 x8 h := pt_in (kp := f109.kp) mixed f109.good (by kernel_rfl) H
def f109.runT (R : VP) (A0 : Option Addr) (n0 c0 : Nat) (x1 x2 : Int) (h : Heap) : Prop :=
  f109.l0 R A0 n0 c0 x1 x2 (IntKind.wrap .i64 (x1 + (1 : Int))) (0 : Int) h
theorem f109.run {R : VP} {A0 : Option Addr} {n0 c0 : Nat} {x1 x2 : Int} {h : Heap} (H : f109.runT R A0 n0 c0 x1 x2 h) : Run Tryd.prog 109 #[(Value.slice A0 n0 c0), (Value.int .i64 x1), (Value.int .i64 x2)] h R := run_in (kp := f109.kp) mixed Tryd.func109 (by kernel_rfl) (by kernel_rfl) f109.good (by kernel_rfl) H
def f111.T : Tab := { sh := tSh, tup := tTup, keep := [], plan := [(1, (.take 0 (.take 1 (.take 2 (.take 3 (.take 4 (.take 5 (.take 6 (.take 8 (.take 9 (.take 10 (.take 7 (.take 11 (.take 12 (.eff false false [] 13 (.take 14 (.eff false false [] 15 .done))))))))))))))))), (3, (.take 0 (.take 1 (.take 2 (.take 3 (.split 3 (.take 4 (.take 5 (.take 6 (.take 8 (.take 9 (.take 10 (.take 7 (.take 11 (.eff false false [] 12 (.take 13 (.take 14 .done))))))))))))))))), (5, (.take 0 (.take 1 (.take 2 (.take 3 (.split 3 (.take 4 (.take 5 (.take 6 (.take 8 (.take 9 (.take 10 (.take 7 (.take 11 (.eff false false [] 12 (.take 13 .done)))))))))))))))), (8, (.take 0 (.take 1 (.take 2 (.take 3 (.take 4 (.take 5 (.take 6 (.take 8 (.take 9 (.take 10 (.take 7 (.take 11 (.take 12 (.eff false false [] 13 (.take 14 (.eff false false [] 15 .done)))))))))))))))))] }
def f111.kp : Keep := [([false, false, false, true, true, true], [0, 1, 9, 10]), ([false, false, false, false, false, false, false, true, true, true], [0, 1, 9, 10]), ([true, false, false, false, false, false, false, false, true, true, true], [0, 1, 9, 10]), ([true, false, false, false, false, true, true, true], [0, 1, 9, 10]), ([false, false, false, true, false, false, false, false, true, true, true], [0, 1, 9, 10]), ([true, false, false, false, true, false, false, false, false, true, true, true], [0, 1, 9, 10]), ([true, true, false, false, false, false, true, true, true], [0, 1, 9, 10])]
theorem f111.good : goodCode Tryd.prog f111.T (rootOf Tryd.f111) = true := by kernel_rfl
def f111.l0 (R A0 n0 c0 x1 x9 x10 h) := Pt Tryd.prog Tryd.f111 R [false, false, false, true, true, true] (mkFr [(0, (Value.slice A0 n0 c0)), (1, (Value.int .i64 x1)), (9, (Value.int .i64 x9)), (10, (Value.int .i64 x10))]) h
def f111.l1 (R A0 n0 c0 x1 x9 x10 h) := Pt Tryd.prog Tryd.f111 R [false, false, false, false, false, false, false, true, true, true] (mkFr [(0, (Value.slice A0 n0 c0)), (1, (Value.int .i64 x1)), (9, (Value.int .i64 x9)), (10, (Value.int .i64 x10))]) h
def f111.j2 (R A0 n0 c0 x1 x9 x10 h) := Pt Tryd.prog Tryd.f111 R [true, false, false, false, false, false, false, false, true, true, true] (mkFr [(0, (Value.slice A0 n0 c0)), (1, (Value.int .i64 x1)), (9, (Value.int .i64 x9)), (10, (Value.int .i64 x10))]) h
def f111.j0 (R A0 n0 c0 x1 x9 x10 h) := Pt Tryd.prog Tryd.f111 R [true, false, false, false, false, true, true, true] (mkFr [(0, (Value.slice A0 n0 c0)), (1, (Value.int .i64 x1)), (9, (Value.int .i64 x9)), (10, (Value.int .i64 x10))]) h
def f111.l2 (R A0 n0 c0 x1 x9 x10 h) := Pt Tryd.prog Tryd.f111 R [false, false, false, true, false, false, false, false, true, true, true] (mkFr [(0, (Value.slice A0 n0 c0)), (1, (Value.int .i64 x1)), (9, (Value.int .i64 x9)), (10, (Value.int .i64 x10))]) h
def f111.j3 (R A0 n0 c0 x1 x9 x10 h) := Pt Tryd.prog Tryd.f111 R [true, false, false, false, true, false, false, false, false, true, true, true] (mkFr [(0, (Value.slice A0 n0 c0)), (1, (Value.int .i64 x1)), (9, (Value.int .i64 x9)), (10, (Value.int .i64 x10))]) h
def f111.j1 (R A0 n0 c0 x1 x9 x10 h) := Pt Tryd.prog Tryd.f111 R [true, true, false, false, false, false, true, true, true] (mkFr [(0, (Value.slice A0 n0 c0)), (1, (Value.int .i64 x1)), (9, (Value.int .i64 x9)), (10, (Value.int .i64 x10))]) h
def f111.l0T (R : VP) (A0 : Option Addr) (n0 c0 : Nat) (x1 x9 x10 : Int) (h : Heap) : Prop :=
  f111.l1 R A0 n0 c0 x1 x9 x10 h
theorem f111.l0_in {R A0 n0 c0 x1 x9 x10 h} (H : f111.l0T R A0 n0 c0 x1 x9 x10 h) : f111.l0 R A0 n0 c0 x1 x9 x10 h := pt_in (kp := f111.kp) mixed f111.good (by kernel_rfl) H
def f111.l1T (R : VP) (A0 : Option Addr) (n0 c0 : Nat) (x1 x9 x10 : Int) (h : Heap) : Prop :=
  splitB (decide (x9 ≤ x10)) (ptrOk A0 fun a1_ => 0 ≤ x1 ∧ x1 < ((n0 : Nat) : Int) ∧ (ptrOk A0 fun a2_ => 0 ≤ x9 ∧ x9 < ((n0 : Nat) : Int) ∧ (∃ v3_, ldv false 1 h (Addr.add a1_ (Int.toNat x1 * 1)) = some v3_ ∧ ∃ s4_, v3_ = (Value.string s4_) ∧ ∃ v5_, ldv false 1 h (Addr.add a2_ (Int.toNat x9 * 1)) = some v5_ ∧ ∃ s6_, v5_ = (Value.string s6_) ∧ Run Tryd.prog 110 #[(Value.string s4_), (Value.string s6_)] h fun v7_ h8_ => ∃ b9_, v7_ = (Value.bool b9_) ∧ splitB (!b9_) (f111.j2 R A0 n0 c0 x1 x9 x10 h8_) (f111.j0 R A0 n0 c0 x1 x9 x10 h8_)))) (f111.j0 R A0 n0 c0 x1 x9 x10 h)
theorem f111.l1_in {R A0 n0 c0 x1 x9 x10 h} (H : f111.l1T R A0 n0 c0 x1 x9 x10 h) : f111.l1 R A0 n0 c0 x1 x9 x10 h := pt_in (kp := f111.kp) mixed f111.good (by kernel_rfl) H
def f111.j2T (R : VP) (A0 : Option Addr) (n0 c0 : Nat) (x1 x9 x10 : Int) (h : Heap) : Prop :=
  f111.l1 R A0 n0 c0 x1 (IntKind.wrap .i64 (x9 + (1 : Int))) x10 h
theorem f111.j2_in {R A0 n0 c0 x1 x9 x10 h} (H : f111.j2T R A0 n0 c0 x1 x9 x10 h) : f111.j2 R A0 n0 c0 x1 x9 x10 h := pt_in (kp := f111.kp) mixed f111.good (by kernel_rfl) H
def f111.j0T (R : VP) (A0 : Option Addr) (n0 c0 : Nat) (x1 x9 x10 : Int) (h : Heap) : Prop :=
  f111.l2 R A0 n0 c0 x1 x9 x10 h
theorem f111.j0_in {R A0 n0 c0 x1 x9 x10 h} (H : f111.j0T R A0 n0 c0 x1 x9 x10 h) : f111.j0 R A0 n0 c0 x1 x9 x10 h := pt_in (kp := f111.kp) mixed f111.good (by kernel_rfl) H
def f111.l2T (R : VP) (A0 : Option Addr) (n0 c0 : Nat) (x1 x9 x10 : Int) (h : Heap) : Prop :=
  splitB (decide (x9 ≤ x10)) (ptrOk A0 fun a1_ => 0 ≤ x1 ∧ x1 < ((n0 : Nat) : Int) ∧ (ptrOk A0 fun a2_ => 0 ≤ x10 ∧ x10 < ((n0 : Nat) : Int) ∧ (∃ v3_, ldv false 1 h (Addr.add a1_ (Int.toNat x1 * 1)) = some v3_ ∧ ∃ s4_, v3_ = (Value.string s4_) ∧ ∃ v5_, ldv false 1 h (Addr.add a2_ (Int.toNat x10 * 1)) = some v5_ ∧ ∃ s6_, v5_ = (Value.string s6_) ∧ Run Tryd.prog 110 #[(Value.string s4_), (Value.string s6_)] h fun v7_ h8_ => ∃ b9_, v7_ = (Value.bool b9_) ∧ splitB b9_ (f111.j3 R A0 n0 c0 x1 x9 x10 h8_) (f111.j1 R A0 n0 c0 x1 x9 x10 h8_)))) (f111.j1 R A0 n0 c0 x1 x9 x10 h)
theorem f111.l2_in {R A0 n0 c0 x1 x9 x10 h} (H : f111.l2T R A0 n0 c0 x1 x9 x10 h) : f111.l2 R A0 n0 c0 x1 x9 x10 h := pt_in (kp := f111.kp) mixed f111.good (by kernel_rfl) H
def f111.j3T (R : VP) (A0 : Option Addr) (n0 c0 : Nat) (x1 x9 x10 : Int) (h : Heap) : Prop :=
  f111.l2 R A0 n0 c0 x1 x9 (IntKind.wrap .i64 (x10 - (1 : Int))) h
theorem f111.j3_in {R A0 n0 c0 x1 x9 x10 h} (H : f111.j3T R A0 n0 c0 x1 x9 x10 h) : f111.j3 R A0 n0 c0 x1 x9 x10 h := pt_in (kp := f111.kp) mixed f111.good (by kernel_rfl) H
def f111.j1T (R : VP) (A0 : Option Addr) (n0 c0 : Nat) (x1 x9 x10 : Int) (h : Heap) : Prop :=
  splitB (decide (x9 > x10)) (R (Value.int .i64 x9) h) (ptrOk A0 fun a1_ => 0 ≤ x10 ∧ x10 < ((n0 : Nat) : Int) ∧ (ptrOk A0 fun a2_ => 0 ≤ x9 ∧ x9 < ((n0 : Nat) : Int) ∧ (∃ v3_, ldv false 1 h (Addr.add a1_ (Int.toNat x10 * 1)) = some v3_ ∧ ∃ s4_, v3_ = (Value.string s4_) ∧ ∃ v5_, ldv false 1 h (Addr.add a2_ (Int.toNat x9 * 1)) = some v5_ ∧ ∃ s6_, v5_ = (Value.string s6_) ∧ ptrOk A0 fun a7_ => 0 ≤ x9 ∧ x9 < ((n0 : Nat) : Int) ∧ (∃ h8_, st1 h (Addr.add a7_ (Int.toNat x9 * 1)) (Value.string s4_) = some h8_ ∧ ptrOk A0 fun a9_ => 0 ≤ x10 ∧ x10 < ((n0 : Nat) : Int) ∧ (∃ h10_, st1 h8_ (Addr.add a9_ (Int.toNat x10 * 1)) (Value.string s6_) = some h10_ ∧ f111.l0 R A0 n0 c0 x1 (IntKind.wrap .i64 (x9 + (1 : Int))) (IntKind.wrap .i64 (x10 - (1 : Int))) h10_)))))
theorem f111.j1_in {R A0 n0 c0 x1 x9 x10 h} (H : f111.j1T R A0 n0 c0 x1 x9 x10 h) : f111.j1 R A0 n0 c0 x1 x9 x10 h := pt_in (kp := f111.kp) mixed f111.good (by kernel_rfl) H
def f111.runT (R : VP) (A0 : Option Addr) (n0 c0 : Nat) (x1 x2 x3 : Int) (h : Heap) : Prop :=
  ptrOk A0 fun a1_ => 0 ≤ x3 ∧ x3 < ((n0 : Nat) : Int) ∧ (ptrOk A0 fun a2_ => 0 ≤ x1 ∧ x1 < ((n0 : Nat) : Int) ∧ (∃ v3_, ldv false 1 h (Addr.add a1_ (Int.toNat x3 * 1)) = some v3_ ∧ ∃ s4_, v3_ = (Value.string s4_) ∧ ∃ v5_, ldv false 1 h (Addr.add a2_ (Int.toNat x1 * 1)) = some v5_ ∧ ∃ s6_, v5_ = (Value.string s6_) ∧ ptrOk A0 fun a7_ => 0 ≤ x1 ∧ x1 < ((n0 : Nat) : Int) ∧ (∃ h8_, st1 h (Addr.add a7_ (Int.toNat x1 * 1)) (Value.string s4_) = some h8_ ∧ ptrOk A0 fun a9_ => 0 ≤ x3 ∧ x3 < ((n0 : Nat) : Int) ∧ (∃ h10_, st1 h8_ (Addr.add a9_ (Int.toNat x3 * 1)) (Value.string s6_) = some h10_ ∧ f111.l0 R A0 n0 c0 x1 (IntKind.wrap .i64 (x1 + (1 : Int))) (IntKind.wrap .i64 (x2 - (1 : Int))) h10_))))
theorem f111.run {R : VP} {A0 : Option Addr} {n0 c0 : Nat} {x1 x2 x3 : Int} {h : Heap} (H : f111.runT R A0 n0 c0 x1 x2 x3 h) : Run Tryd.prog 111 #[(Value.slice A0 n0 c0), (Value.int .i64 x1), (Value.int .i64 x2), (Value.int .i64 x3)] h R := run_in (kp := f111.kp) mixed Tryd.func111 (by kernel_rfl) (by kernel_rfl) f111.good (by kernel_rfl) H
def f112.T : Tab := { sh := tSh, tup := tTup, keep := [], plan := [(1, (.take 0 (.take 1 (.take 2 (.take 3 (.take 4 (.take 5 (.take 6 (.take 8 (.take 9 (.take 10 (.take 7 (.take 11 (.take 12 (.eff false false [] 13 (.take 14 (.eff false false [] 15 .done))))))))))))))))), (3, (.take 0 (.take 1 (.take 2 (.take 3 (.split 3 (.take 4 (.take 5 (.take 6 (.take 8 (.take 9 (.take 10 (.take 7 (.take 11 (.eff false false [] 12 (.take 13 .done)))))))))))))))), (5, (.take 0 (.take 1 (.take 2 (.take 3 (.split 3 (.take 4 (.take 5 (.take 6 (.take 8 (.take 9 (.take 10 (.take 7 (.take 11 (.eff false false [] 12 (.take 13 (.take 14 .done))))))))))))))))), (8, (.take 0 (.take 1 (.take 2 (.take 3 (.take 4 (.take 5 (.take 6 (.take 8 (.take 9 (.take 10 (.take 7 (.take 11 (.take 12 (.eff false false [] 13 (.take 14 (.eff false false [] 15 .done))))))))))))))))), (10, (.take 0 (.take 1 (.take 2 (.take 3 (.take 4 (.take 5 (.take 6 (.take 8 (.take 9 (.take 10 (.take 7 (.take 11 (.take 12 (.eff false false [] 13 (.take 14 (.eff false false [] 15 .done))))))))))))))))), (13, (.take 0 (.take 1 (.take 2 (.take 3 (.split 3 (.take 4 (.take 5 (.take 6 (.take 8 (.take 9 (.take 10 (.take 7 (.take 11 (.eff false false [] 12 (.take 13 .done)))))))))))))))), (15, (.take 0 (.take 1 (.take 2 (.take 3 (.split 3 (.take 4 (.take 5 (.take 6 (.take 8 (.take 9 (.take 10 (.take 7 (.take 11 (.eff false false [] 12 (.take 13 (.take 14 .done))))))))))))))))), (18, (.take 0 (.take 1 (.take 2 (.take 3 (.take 4 (.take 5 (.take 6 (.take 8 (.take 9 (.take 10 (.take 7 (.take 11 (.take 12 (.eff false false [] 13 (.take 14 (.eff false false [] 15 .done))))))))))))))))), (21, (.take 0 (.take 1 (.take 2 (.take 3 (.take 4 (.take 5 (.take 6 (.take 8 (.take 9 (.take 10 (.take 7 (.take 11 (.take 12 (.eff false false [] 13 (.take 14 (.eff false false [] 15 .done)))))))))))))))))] }
def f112.kp : Keep := [([false, false, false, true, true, true], [0, 1, 10, 11]), ([true, false, false, false, true, true, true], [0, 1, 10, 11]), ([true, true, true, true], [0, 1, 10, 11]), ([false, false, false, true, true, true, true], [0, 1, 10, 11]), ([true, false, false, false, true, true, true, true], [0, 1, 10, 11]), ([true, true, true, true, true], [0, 1, 10, 11]), ([false, false, false, true, true, true, true, true, true, true, true, true], [0, 1, 10, 11]), ([false, false, false, false, false, false, false, true, true, true, true, true, true, true, true, true], [0, 1, 10, 11]), ([true, false, false, false, false, false, false, false, true, true, true, true, true, true, true, true, true], [0, 1, 10, 11]), ([true, false, false, false, false, true, true, true, true, true, true, true, true, true], [0, 1, 10, 11]), ([false, false, false, true, false, false, false, false, true, true, true, true, true, true, true, true, true], [0, 1, 10, 11]), ([true, false, false, false, true, false, false, false, false, true, true, true, true, true, true, true, true, true], [0, 1, 10, 11]), ([true, true, false, false, false, false, true, true, true, true, true, true, true, true, true], [0, 1, 10, 11]), ([true, true, true, true, true, true, true, true, true, true], [0, 1, 11])]
theorem f112.good : goodCode Tryd.prog f112.T (rootOf Tryd.f112) = true := by kernel_rfl
def f112.l0 (R A0 n0 c0 x1 x10 x11 h) := Pt Tryd.prog Tryd.f112 R [false, false, false, true, true, true] (mkFr [(0, (Value.slice A0 n0 c0)), (1, (Value.int .i64 x1)), (10, (Value.int .i64 x10)), (11, (Value.int .i64 x11))]) h
def f112.j2 (R A0 n0 c0 x1 x10 x11 h) := Pt Tryd.prog Tryd.f112 R [true, false, false, false, true, true, true] (mkFr [(0, (Value.slice A0 n0 c0)), (1, (Value.int .i64 x1)), (10, (Value.int .i64 x10)), (11, (Value.int .i64 x11))]) h
def f112.j0 (R A0 n0 c0 x1 x10 x11 h) := Pt Tryd.prog Tryd.f112 R [true, true, true, true] (mkFr [(0, (Value.slice A0 n0 c0)), (1, (Value.int .i64 x1)), (10, (Value.int .i64 x10)), (11, (Value.int .i64 x11))]) h
def f112.l1 (R A0 n0 c0 x1 x10 x11 h) := Pt Tryd.prog Tryd.f112 R [false, false, false, true, true, true, true] (mkFr [(0, (Value.slice A0 n0 c0)), (1, (Value.int .i64 x1)), (10, (Value.int .i64 x10)), (11, (Value.int .i64 x11))]) h
def f112.j3 (R A0 n0 c0 x1 x10 x11 h) := Pt Tryd.prog Tryd.f112 R [true, false, false, false, true, true, true, true] (mkFr [(0, (Value.slice A0 n0 c0)), (1, (Value.int .i64 x1)), (10, (Value.int .i64 x10)), (11, (Value.int .i64 x11))]) h
def f112.j1 (R A0 n0 c0 x1 x10 x11 h) := Pt Tryd.prog Tryd.f112 R [true, true, true, true, true] (mkFr [(0, (Value.slice A0 n0 c0)), (1, (Value.int .i64 x1)), (10, (Value.int .i64 x10)), (11, (Value.int .i64 x11))]) h
def f112.l2 (R A0 n0 c0 x1 x10 x11 h) := Pt Tryd.prog Tryd.f112 R [false, false, false, true, true, true, true, true, true, true, true, true] (mkFr [(0, (Value.slice A0 n0 c0)), (1, (Value.int .i64 x1)), (10, (Value.int .i64 x10)), (11, (Value.int .i64 x11))]) h
def f112.l3 (R A0 n0 c0 x1 x10 x11 h) := Pt Tryd.prog Tryd.f112 R [false, false, false, false, false, false, false, true, true, true, true, true, true, true, true, true] (mkFr [(0, (Value.slice A0 n0 c0)), (1, (Value.int .i64 x1)), (10, (Value.int .i64 x10)), (11, (Value.int .i64 x11))]) h
def f112.j7 (R A0 n0 c0 x1 x10 x11 h) := Pt Tryd.prog Tryd.f112 R [true, false, false, false, false, false, false, false, true, true, true, true, true, true, true, true, true] (mkFr [(0, (Value.slice A0 n0 c0)), (1, (Value.int .i64 x1)), (10, (Value.int .i64 x10)), (11, (Value.int .i64 x11))]) h
def f112.j5 (R A0 n0 c0 x1 x10 x11 h) := Pt Tryd.prog Tryd.f112 R [true, false, false, false, false, true, true, true, true, true, true, true, true, true] (mkFr [(0, (Value.slice A0 n0 c0)), (1, (Value.int .i64 x1)), (10, (Value.int .i64 x10)), (11, (Value.int .i64 x11))]) h
def f112.l4 (R A0 n0 c0 x1 x10 x11 h) := Pt Tryd.prog Tryd.f112 R [false, false, false, true, false, false, false, false, true, true, true, true, true, true, true, true, true] (mkFr [(0, (Value.slice A0 n0 c0)), (1, (Value.int .i64 x1)), (10, (Value.int .i64 x10)), (11, (Value.int .i64 x11))]) h
def f112.j8 (R A0 n0 c0 x1 x10 x11 h) := Pt Tryd.prog Tryd.f112 R [true, false, false, false, true, false, false, false, false, true, true, true, true, true, true, true, true, true] (mkFr [(0, (Value.slice A0 n0 c0)), (1, (Value.int .i64 x1)), (10, (Value.int .i64 x10)), (11, (Value.int .i64 x11))]) h
def f112.j6 (R A0 n0 c0 x1 x10 x11 h) := Pt Tryd.prog Tryd.f112 R [true, true, false, false, false, false, true, true, true, true, true, true, true, true, true] (mkFr [(0, (Value.slice A0 n0 c0)), (1, (Value.int .i64 x1)), (10, (Value.int .i64 x10)), (11, (Value.int .i64 x11))]) h
def f112.j4 (R A0 n0 c0 x1 x11 h) := Pt Tryd.prog Tryd.f112 R [true, true, true, true, true, true, true, true, true, true] (mkFr [(0, (Value.slice A0 n0 c0)), (1, (Value.int .i64 x1)), (11, (Value.int .i64 x11))]) h
def f112.l0T (R : VP) (A0 : Option Addr) (n0 c0 : Nat) (x1 x10 x11 : Int) (h : Heap) : Prop :=
  splitB (decide (x10 ≤ x11)) (ptrOk A0 fun a1_ => 0 ≤ x10 ∧ x10 < ((n0 : Nat) : Int) ∧ (ptrOk A0 fun a2_ => 0 ≤ x1 ∧ x1 < ((n0 : Nat) : Int) ∧ (∃ v3_, ldv false 1 h (Addr.add a1_ (Int.toNat x10 * 1)) = some v3_ ∧ ∃ s4_, v3_ = (Value.string s4_) ∧ ∃ v5_, ldv false 1 h (Addr.add a2_ (Int.toNat x1 * 1)) = some v5_ ∧ ∃ s6_, v5_ = (Value.string s6_) ∧ Run Tryd.prog 110 #[(Value.string s4_), (Value.string s6_)] h fun v7_ h8_ => ∃ b9_, v7_ = (Value.bool b9_) ∧ splitB b9_ (f112.j2 R A0 n0 c0 x1 x10 x11 h8_) (f112.j0 R A0 n0 c0 x1 x10 x11 h8_)))) (f112.j0 R A0 n0 c0 x1 x10 x11 h)
theorem f112.l0_in {R A0 n0 c0 x1 x10 x11 h} (H : f112.l0T R A0 n0 c0 x1 x10 x11 h) : f112.l0 R A0 n0 c0 x1 x10 x11 h := pt_in (kp := f112.kp) mixed f112.good (by kernel_rfl) H
def f112.j2T (R : VP) (A0 : Option Addr) (n0 c0 : Nat) (x1 x10 x11 : Int) (h : Heap) : Prop :=
  f112.l0 R A0 n0 c0 x1 (IntKind.wrap .i64 (x10 + (1 : Int))) x11 h
theorem f112.j2_in {R A0 n0 c0 x1 x10 x11 h} (H : f112.j2T R A0 n0 c0 x1 x10 x11 h) : f112.j2 R A0 n0 c0 x1 x10 x11 h := pt_in (kp := f112.kp) mixed f112.good (by kernel_rfl) H
def f112.j0T (R : VP) (A0 : Option Addr) (n0 c0 : Nat) (x1 x10 x11 : Int) (h : Heap) : Prop :=
  f112.l1 R A0 n0 c0 x1 x10 x11 h
theorem f112.j0_in {R A0 n0 c0 x1 x10 x11 h} (H : f112.j0T R A0 n0 c0 x1 x10 x11 h) : f112.j0 R A0 n0 c0 x1 x10 x11 h := pt_in (kp := f112.kp) mixed f112.good (by kernel_rfl) H
def f112.l1T (R : VP) (A0 : Option Addr) (n0 c0 : Nat) (x1 x10 x11 : Int) (h : Heap) : Prop :=
  splitB (decide (x10 ≤ x11)) (ptrOk A0 fun a1_ => 0 ≤ x11 ∧ x11 < ((n0 : Nat) : Int) ∧ (ptrOk A0 fun a2_ => 0 ≤ x1 ∧ x1 < ((n0 : Nat) : Int) ∧ (∃ v3_, ldv false 1 h (Addr.add a1_ (Int.toNat x11 * 1)) = some v3_ ∧ ∃ s4_, v3_ = (Value.string s4_) ∧ ∃ v5_, ldv false 1 h (Addr.add a2_ (Int.toNat x1 * 1)) = some v5_ ∧ ∃ s6_, v5_ = (Value.string s6_) ∧ Run Tryd.prog 110 #[(Value.string s4_), (Value.string s6_)] h fun v7_ h8_ => ∃ b9_, v7_ = (Value.bool b9_) ∧ splitB (!b9_) (f112.j3 R A0 n0 c0 x1 x10 x11 h8_) (f112.j1 R A0 n0 c0 x1 x10 x11 h8_)))) (f112.j1 R A0 n0 c0 x1 x10 x11 h)
theorem f112.l1_in {R A0 n0 c0 x1 x10 x11 h} (H : f112.l1T R A0 n0 c0 x1 x10 x11 h) : f112.l1 R A0 n0 c0 x1 x10 x11 h := pt_in (kp := f112.kp) mixed f112.good (by kernel_rfl) H
def f112.j3T (R : VP) (A0 : Option Addr) (n0 c0 : Nat) (x1 x10 x11 : Int) (h : Heap) : Prop :=
  f112.l1 R A0 n0 c0 x1 x10 (IntKind.wrap .i64 (x11 - (1 : Int))) h
theorem f112.j3_in {R A0 n0 c0 x1 x10 x11 h} (H : f112.j3T R A0 n0 c0 x1 x10 x11 h) : f112.j3 R A0 n0 c0 x1 x10 x11 h := pt_in (kp := f112.kp) mixed f112.good (by kernel_rfl) H
def f112.j1T (R : VP) (A0 : Option Addr) (n0 c0 : Nat) (x1 x10 x11 : Int) (h : Heap) : Prop :=
  splitB (decide (x10 > x11)) (ptrOk A0 fun a1_ => 0 ≤ x1 ∧ x1 < ((n0 : Nat) : Int) ∧ (ptrOk A0 fun a2_ => 0 ≤ x11 ∧ x11 < ((n0 : Nat) : Int) ∧ (∃ v3_, ldv false 1 h (Addr.add a1_ (Int.toNat x1 * 1)) = some v3_ ∧ ∃ s4_, v3_ = (Value.string s4_) ∧ ∃ v5_, ldv false 1 h (Addr.add a2_ (Int.toNat x11 * 1)) = some v5_ ∧ ∃ s6_, v5_ = (Value.string s6_) ∧ ptrOk A0 fun a7_ => 0 ≤ x11 ∧ x11 < ((n0 : Nat) : Int) ∧ (∃ h8_, st1 h (Addr.add a7_ (Int.toNat x11 * 1)) (Value.string s4_) = some h8_ ∧ ptrOk A0 fun a9_ => 0 ≤ x1 ∧ x1 < ((n0 : Nat) : Int) ∧ (∃ h10_, st1 h8_ (Addr.add a9_ (Int.toNat x1 * 1)) (Value.string s6_) = some h10_ ∧ R (Value.tuple #[(Value.int .i64 x11), (Value.bool true)]) h10_))))) (ptrOk A0 fun a11_ => 0 ≤ x11 ∧ x11 < ((n0 : Nat) : Int) ∧ (ptrOk A0 fun a12_ => 0 ≤ x10 ∧ x10 < ((n0 : Nat) : Int) ∧ (∃ v13_, ldv false 1 h (Addr.add a11_ (Int.toNat x11 * 1)) = some v13_ ∧ ∃ s14_, v13_ = (Value.string s14_) ∧ ∃ v15_, ldv false 1 h (Addr.add a12_ (Int.toNat x10 * 1)) = some v15_ ∧ ∃ s16_, v15_ = (Value.string s16_) ∧ ptrOk A0 fun a17_ => 0 ≤ x10 ∧ x10 < ((n0 : Nat) : Int) ∧ (∃ h18_, st1 h (Addr.add a17_ (Int.toNat x10 * 1)) (Value.string s14_) = some h18_ ∧ ptrOk A0 fun a19_ => 0 ≤ x11 ∧ x11 < ((n0 : Nat) : Int) ∧ (∃ h20_, st1 h18_ (Addr.add a19_ (Int.toNat x11 * 1)) (Value.string s16_) = some h20_ ∧ f112.l2 R A0 n0 c0 x1 (IntKind.wrap .i64 (x10 + (1 : Int))) (IntKind.wrap .i64 (x11 - (1 : Int))) h20_)))))
theorem f112.j1_in {R A0 n0 c0 x1 x10 x11 h} (H : f112.j1T R A0 n0 c0 x1 x10 x11 h) : f112.j1 R A0 n0 c0 x1 x10 x11 h := pt_in (kp := f112.kp) mixed f112.good (by kernel_rfl) H
def f112.l2T (R : VP) (A0 : Option Addr) (n0 c0 : Nat) (x1 x10 x11 : Int) (h : Heap) : Prop :=
  f112.l3 R A0 n0 c0 x1 x10 x11 h
theorem f112.l2_in {R A0 n0 c0 x1 x10 x11 h} (H : f112.l2T R A0 n0 c0 x1 x10 x11 h) : f112.l2 R A0 n0 c0 x1 x10 x11 h := pt_in (kp := f112.kp) mixed f112.good (by kernel_rfl) H
def f112.l3T (R : VP) (A0 : Option Addr) (n0 c0 : Nat) (x1 x10 x11 : Int) (h : Heap) : Prop :=
  splitB (decide (x10 ≤ x11)) (ptrOk A0 fun a1_ => 0 ≤ x10 ∧ x10 < ((n0 : Nat) : Int) ∧ (ptrOk A0 fun a2_ => 0 ≤ x1 ∧ x1 < ((n0 : Nat) : Int) ∧ (∃ v3_, ldv false 1 h (Addr.add a1_ (Int.toNat x10 * 1)) = some v3_ ∧ ∃ s4_, v3_ = (Value.string s4_) ∧ ∃ v5_, ldv false 1 h (Addr.add a2_ (Int.toNat x1 * 1)) = some v5_ ∧ ∃ s6_, v5_ = (Value.string s6_) ∧ Run Tryd.prog 110 #[(Value.string s4_), (Value.string s6_)] h fun v7_ h8_ => ∃ b9_, v7_ = (Value.bool b9_) ∧ splitB b9_ (f112.j7 R A0 n0 c0 x1 x10 x11 h8_) (f112.j5 R A0 n0 c0 x1 x10 x11 h8_)))) (f112.j5 R A0 n0 c0 x1 x10 x11 h)
theorem f112.l3_in {R A0 n0 c0 x1 x10 x11 h} (H : f112.l3T R A0 n0 c0 x1 x10 x11 h) : f112.l3 R A0 n0 c0 x1 x10 x11 h := pt_in (kp := f112.kp) mixed f112.good (by kernel_rfl) H
def f112.j7T (R : VP) (A0 : Option Addr) (n0 c0 : Nat) (x1 x10 x11 : Int) (h : Heap) : Prop :=
  f112.l3 R A0 n0 c0 x1 (IntKind.wrap .i64 (x10 + (1 : Int))) x11 h
theorem f112.j7_in {R A0 n0 c0 x1 x10 x11 h} (H : f112.j7T R A0 n0 c0 x1 x10 x11 h) : f112.j7 R A0 n0 c0 x1 x10 x11 h := pt_in (kp := f112.kp) mixed f112.good (by kernel_rfl) H
def f112.j5T (R : VP) (A0 : Option Addr) (n0 c0 : Nat) (x1 x10 x11 : Int) (h : Heap) : Prop :=
  f112.l4 R A0 n0 c0 x1 x10 x11 h
theorem f112.j5_in {R A0 n0 c0 x1 x10 x11 h} (H : f112.j5T R A0 n0 c0 x1 x10 x11 h) : f112.j5 R A0 n0 c0 x1 x10 x11 h := pt_in (kp := f112.kp) mixed f112.good (by kernel_rfl) H
def f112.l4T (R : VP) (A0 : Option Addr) (n0 c0 : Nat) (x1 x10 x11 : Int) (h : Heap) : Prop :=
  splitB (decide (x10 ≤ x11)) (ptrOk A0 fun a1_ => 0 ≤ x11 ∧ x11 < ((n0 : Nat) : Int) ∧ (ptrOk A0 fun a2_ => 0 ≤ x1 ∧ x1 < ((n0 : Nat) : Int) ∧ (∃ v3_, ldv false 1 h (Addr.add a1_ (Int.toNat x11 * 1)) = some v3_ ∧ ∃ s4_, v3_ = (Value.string s4_) ∧ ∃ v5_, ldv false 1 h (Addr.add a2_ (Int.toNat x1 * 1)) = some v5_ ∧ ∃ s6_, v5_ = (Value.string s6_) ∧ Run Tryd.prog 110 #[(Value.string s4_), (Value.string s6_)] h fun v7_ h8_ => ∃ b9_, v7_ = (Value.bool b9_) ∧ splitB (!b9_) (f112.j8 R A0 n0 c0 x1 x10 x11 h8_) (f112.j6 R A0 n0 c0 x1 x10 x11 h8_)))) (f112.j6 R A0 n0 c0 x1 x10 x11 h)
theorem f112.l4_in {R A0 n0 c0 x1 x10 x11 h} (H : f112.l4T R A0 n0 c0 x1 x10 x11 h) : f112.l4 R A0 n0 c0 x1 x10 x11 h := pt_in (kp := f112.kp) mixed f112.good (by kernel_rfl) H
def f112.j8T (R : VP) (A0 : Option Addr) (n0 c0 : Nat) (x1 x10 x11 : Int) (h : Heap) : Prop :=
  f112.l4 R A0 n0 c0 x1 x10 (IntKind.wrap .i64 (x11 - (1 : Int))) h
theorem f112.j8_in {R A0 n0 c0 x1 x10 x11 h} (H : f112.j8T R A0 n0 c0 x1 x10 x11 h) : f112.j8 R A0 n0 c0 x1 x10 x11 h := pt_in (kp := f112.kp) mixed f112.good (by kernel_rfl) H
def f112.j6T (R : VP) (A0 : Option Addr) (n0 c0 : Nat) (x1 x10 x11 : Int) (h : Heap) : Prop :=
  splitB (decide (x10 > x11)) (f112.j4 R A0 n0 c0 x1 x11 h) (ptrOk A0 fun a1_ => 0 ≤ x11 ∧ x11 < ((n0 : Nat) : Int) ∧ (ptrOk A0 fun a2_ => 0 ≤ x10 ∧ x10 < ((n0 : Nat) : Int) ∧ (∃ v3_, ldv false 1 h (Addr.add a1_ (Int.toNat x11 * 1)) = some v3_ ∧ ∃ s4_, v3_ = (Value.string s4_) ∧ ∃ v5_, ldv false 1 h (Addr.add a2_ (Int.toNat x10 * 1)) = some v5_ ∧ ∃ s6_, v5_ = (Value.string s6_) ∧ ptrOk A0 fun a7_ => 0 ≤ x10 ∧ x10 < ((n0 : Nat) : Int) ∧ (∃ h8_, st1 h (Addr.add a7_ (Int.toNat x10 * 1)) (Value.string s4_) = some h8_ ∧ ptrOk A0 fun a9_ => 0 ≤ x11 ∧ x11 < ((n0 : Nat) : Int) ∧ (∃ h10_, st1 h8_ (Addr.add a9_ (Int.toNat x11 * 1)) (Value.string s6_) = some h10_ ∧ f112.l2 R A0 n0 c0 x1 (IntKind.wrap .i64 (x10 + (1 : Int))) (IntKind.wrap .i64 (x11 - (1 : Int))) h10_)))))
theorem f112.j6_in {R A0 n0 c0 x1 x10 x11 h} (H : f112.j6T R A0 n0 c0 x1 x10 x11 h) : f112.j6 R A0 n0 c0 x1 x10 x11 h := pt_in (kp := f112.kp) mixed f112.good (by kernel_rfl) H
def f112.j4T (R : VP) (A0 : Option Addr) (n0 c0 : Nat) (x1 x11 : Int) (h : Heap) : Prop :=
  ptrOk A0 fun a1_ => 0 ≤ x1 ∧ x1 < ((n0 : Nat) : Int) ∧ (ptrOk A0 fun a2_ => 0 ≤ x11 ∧ x11 < ((n0 : Nat) : Int) ∧ (∃ v3_, ldv false 1 h (Addr.add a1_ (Int.toNat x1 * 1)) = some v3_ ∧ ∃ s4_, v3_ = (Value.string s4_) ∧ ∃ v5_, ldv false 1 h (Addr.add a2_ (Int.toNat x11 * 1)) = some v5_ ∧ ∃ s6_, v5_ = (Value.string s6_) ∧ ptrOk A0 fun a7_ => 0 ≤ x11 ∧ x11 < ((n0 : Nat) : Int) ∧ (∃ h8_, st1 h (Addr.add a7_ (Int.toNat x11 * 1)) (Value.string s4_) = some h8_ ∧ ptrOk A0 fun a9_ => 0 ≤ x1 ∧ x1 < ((n0 : Nat) : Int) ∧ (∃ h10_, st1 h8_ (Addr.add a9_ (Int.toNat x1 * 1)) (Value.string s6_) = some h10_ ∧ R (Value.tuple #[(Value.int .i64 x11), (Value.bool false)]) h10_))))
theorem f112.j4_in {R A0 n0 c0 x1 x11 h} (H : f112.j4T R A0 n0 c0 x1 x11 h) : f112.j4 R A0 n0 c0 x1 x11 h := pt_in (kp := f112.kp) mixed f112.good (by kernel_rfl) H
def f112.runT (R : VP) (A0 : Option Addr) (n0 c0 : Nat) (x1 x2 x3 : Int) (h : Heap) : Prop :=
  ptrOk A0 fun a1_ => 0 ≤ x3 ∧ x3 < ((n0 : Nat) : Int) ∧ (ptrOk A0 fun a2_ => 0 ≤ x1 ∧ x1 < ((n0 : Nat) : Int) ∧ (∃ v3_, ldv false 1 h (Addr.add a1_ (Int.toNat x3 * 1)) = some v3_ ∧ ∃ s4_, v3_ = (Value.string s4_) ∧ ∃ v5_, ldv false 1 h (Addr.add a2_ (Int.toNat x1 * 1)) = some v5_ ∧ ∃ s6_, v5_ = (Value.string s6_) ∧ ptrOk A0 fun a7_ => 0 ≤ x1 ∧ x1 < ((n0 : Nat) : Int) ∧ (∃ h8_, st1 h (Addr.add a7_ (Int.toNat x1 * 1)) (Value.string s4_) = some h8_ ∧ ptrOk A0 fun a9_ => 0 ≤ x3 ∧ x3 < ((n0 : Nat) : Int) ∧ (∃ h10_, st1 h8_ (Addr.add a9_ (Int.toNat x3 * 1)) (Value.string s6_) = some h10_ ∧ f112.l0 R A0 n0 c0 x1 (IntKind.wrap .i64 (x1 + (1 : Int))) (IntKind.wrap .i64 (x2 - (1 : Int))) h10_))))
theorem f112.run {R : VP} {A0 : Option Addr} {n0 c0 : Nat} {x1 x2 x3 : Int} {h : Heap} (H : f112.runT R A0 n0 c0 x1 x2 x3 h) : Run Tryd.prog 112 #[(Value.slice A0 n0 c0), (Value.int .i64 x1), (Value.int .i64 x2), (Value.int .i64 x3)] h R := run_in (kp := f112.kp) mixed Tryd.func112 (by kernel_rfl) (by kernel_rfl) f112.good (by kernel_rfl) H
def f86.T : Tab := { sh := tSh, tup := tTup, keep := [], plan := [(17, (.take 0 (.take 1 (.take 2 (.split 2 (.take 3 (.take 4 (.take 5 (.take 6 (.take 8 (.take 9 (.take 10 (.take 7 (.take 11 (.eff false false [] 12 (.take 13 (.take 14 .done)))))))))))))))))] }
def f86.kp : Keep := [([false, false, true, true], [0, 1, 2, 3, 8, 9]), ([true, true, true, true, false, false, false, true, true], [0, 1, 2, 3, 8, 9, 10]), ([true, true, true, true, true, true, false, false, false, true, true], [0, 1, 2, 3, 8, 9, 10, 11, 12]), ([true, false, true, true, true, true, true, true, false, false, false, true, true], [0, 1, 2, 3, 8, 9, 10, 11, 68]), ([true, true, true, true, true, true, true, false, false, false, true, true], [0, 1, 2, 3, 8, 9, 10, 11]), ([true, false, true, true, true, true, true, true, true, false, false, false, true, true], [0, 1, 2, 3, 8, 9, 10, 11, 87]), ([true, true, true, true, true, true, true, true, false, false, false, true, true], [0, 1, 2, 3, 10, 11])]
theorem f86.good : goodCode Tryd.prog f86.T (rootOf Tryd.f86) = true := by kernel_rfl
def f86.l0 (R A0 n0 c0 x1 x2 x3 b8 b9 h) := Pt Tryd.prog Tryd.f86 R [false, false, true, true] (mkFr [(0, (Value.slice A0 n0 c0)), (1, (Value.int .i64 x1)), (2, (Value.int .i64 x2)), (3, (Value.int .i64 x3)), (8, (Value.bool b8)), (9, (Value.bool b9))]) h
def f86.j0 (R A0 n0 c0 x1 x2 x3 b8 b9 x10 h) := Pt Tryd.prog Tryd.f86 R [true, true, true, true, false, false, false, true, true] (mkFr [(0, (Value.slice A0 n0 c0)), (1, (Value.int .i64 x1)), (2, (Value.int .i64 x2)), (3, (Value.int .i64 x3)), (8, (Value.bool b8)), (9, (Value.bool b9)), (10, (Value.int .i64 x10))]) h
def f86.j1 (R A0 n0 c0 x1 x2 x3 b8 b9 x10 x11 x12 h) := Pt Tryd.prog Tryd.f86 R [true, true, true, true, true, true, false, false, false, true, true] (mkFr [(0, (Value.slice A0 n0 c0)), (1, (Value.int .i64 x1)), (2, (Value.int .i64 x2)), (3, (Value.int .i64 x3)), (8, (Value.bool b8)), (9, (Value.bool b9)), (10, (Value.int .i64 x10)), (11, (Value.int .i64 x11)), (12, (Value.int .i64 x12))]) h
def f86.j3 (R A0 n0 c0 x1 x2 x3 b8 b9 x10 x11 b68 h) := Pt Tryd.prog Tryd.f86 R [true, false, true, true, true, true, true, true, false, false, false, true, true] (mkFr [(0, (Value.slice A0 n0 c0)), (1, (Value.int .i64 x1)), (2, (Value.int .i64 x2)), (3, (Value.int .i64 x3)), (8, (Value.bool b8)), (9, (Value.bool b9)), (10, (Value.int .i64 x10)), (11, (Value.int .i64 x11)), (68, (Value.bool b68))]) h
def f86.j2 (R A0 n0 c0 x1 x2 x3 b8 b9 x10 x11 h) := Pt Tryd.prog Tryd.f86 R [true, true, true, true, true, true, true, false, false, false, true, true] (mkFr [(0, (Value.slice A0 n0 c0)), (1, (Value.int .i64 x1)), (2, (Value.int .i64 x2)), (3, (Value.int .i64 x3)), (8, (Value.bool b8)), (9, (Value.bool b9)), (10, (Value.int .i64 x10)), (11, (Value.int .i64 x11))]) h
def f86.j5 (R A0 n0 c0 x1 x2 x3 b8 b9 x10 x11 b87 h) := Pt Tryd.prog Tryd.f86 R [true, false, true, true, true, true, true, true, true, false, false, false, true, true] (mkFr [(0, (Value.slice A0 n0 c0)), (1, (Value.int .i64 x1)), (2, (Value.int .i64 x2)), (3, (Value.int .i64 x3)), (8, (Value.bool b8)), (9, (Value.bool b9)), (10, (Value.int .i64 x10)), (11, (Value.int .i64 x11)), (87, (Value.bool b87))]) h
def f86.j4 (R A0 n0 c0 x1 x2 x3 x10 x11 h) := Pt Tryd.prog Tryd.f86 R [true, true, true, true, true, true, true, true, false, false, false, true, true] (mkFr [(0, (Value.slice A0 n0 c0)), (1, (Value.int .i64 x1)), (2, (Value.int .i64 x2)), (3, (Value.int .i64 x3)), (10, (Value.int .i64 x10)), (11, (Value.int .i64 x11))]) h
def f86.l0T (R : VP) (A0 : Option Addr) (n0 c0 : Nat) (x1 x2 x3 : Int) (b8 b9 : Bool) (h : Heap) : Prop :=
  splitB (decide ((IntKind.wrap .i64 (x2 - x1)) ≤ (12 : Int))) (Run Tryd.prog 104 #[(Value.slice A0 n0 c0), (Value.int .i64 x1), (Value.int .i64 x2)] h fun v1_ h2_ => v1_ = (Value.tuple #[]) ∧ R (Value.tuple #[]) h2_) (splitB (x3 == (0 : Int)) (Run Tryd.prog 105 #[(Value.slice A0 n0 c0), (Value.int .i64 x1), (Value.int .i64 x2)] h fun v3_ h4_ => v3_ = (Value.tuple #[]) ∧ R (Value.tuple #[]) h4_) (splitB (!b8) (Run Tryd.prog 106 #[(Value.slice A0 n0 c0), (Value.int .i64 x1), (Value.int .i64 x2)] h fun v5_ h6_ => v5_ = (Value.tuple #[]) ∧ f86.j0 R A0 n0 c0 x1 x2 (IntKind.wrap .i64 (x3 - (1 : Int))) b8 b9 (IntKind.wrap .i64 (x2 - x1)) h6_) (f86.j0 R A0 n0 c0 x1 x2 x3 b8 b9 (IntKind.wrap .i64 (x2 - x1)) h)))
theorem f86.l0_in {R A0 n0 c0 x1 x2 x3 b8 b9 h} (H : f86.l0T R A0 n0 c0 x1 x2 x3 b8 b9 h) : f86.l0 R A0 n0 c0 x1 x2 x3 b8 b9 h := pt_in (kp := f86.kp) mixed f86.good (by kernel_rfl) H
def f86.j0T (R : VP) (A0 : Option Addr) (n0 c0 : Nat) (x1 x2 x3 : Int) (b8 b9 : Bool) (x10 : Int) (h : Heap) : Prop :=
  Run Tryd.prog 107 #[(Value.slice A0 n0 c0), (Value.int .i64 x1), (Value.int .i64 x2)] h fun v1_ h2_ => ∃ x3_, ∃ x4_, v1_ = (Value.tuple #[(Value.int .i64 x3_), (Value.int .i64 x4_)]) ∧ splitB (x4_ == (2 : Int)) (Run Tryd.prog 108 #[(Value.slice A0 n0 c0), (Value.int .i64 x1), (Value.int .i64 x2)] h2_ fun v5_ h6_ => v5_ = (Value.tuple #[]) ∧ f86.j1 R A0 n0 c0 x1 x2 x3 b8 b9 x10 (IntKind.wrap .i64 ((IntKind.wrap .i64 (x2 - (1 : Int))) - (IntKind.wrap .i64 (x3_ - x1)))) (1 : Int) h6_) (f86.j1 R A0 n0 c0 x1 x2 x3 b8 b9 x10 x3_ x4_ h2_)
theorem f86.j0_in {R A0 n0 c0 x1 x2 x3 b8 b9 x10 h} (H : f86.j0T R A0 n0 c0 x1 x2 x3 b8 b9 x10 h) : f86.j0 R A0 n0 c0 x1 x2 x3 b8 b9 x10 h := pt_in (kp := f86.kp) mixed f86.good (by kernel_rfl) H
def f86.j1T (R : VP) (A0 : Option Addr) (n0 c0 : Nat) (x1 x2 x3 : Int) (b8 b9 : Bool) (x10 x11 x12 : Int) (h : Heap) : Prop :=
  splitB b8 (splitB b9 (f86.j3 R A0 n0 c0 x1 x2 x3 b8 b9 x10 x11 (x12 == (1 : Int)) h) (f86.j3 R A0 n0 c0 x1 x2 x3 b8 b9 x10 x11 false h)) (f86.j3 R A0 n0 c0 x1 x2 x3 b8 b9 x10 x11 false h)
theorem f86.j1_in {R A0 n0 c0 x1 x2 x3 b8 b9 x10 x11 x12 h} (H : f86.j1T R A0 n0 c0 x1 x2 x3 b8 b9 x10 x11 x12 h) : f86.j1 R A0 n0 c0 x1 x2 x3 b8 b9 x10 x11 x12 h := pt_in (kp := f86.kp) mixed f86.good (by kernel_rfl) H
def f86.j3T (R : VP) (A0 : Option Addr) (n0 c0 : Nat) (x1 x2 x3 : Int) (b8 b9 : Bool) (x10 x11 : Int) (b68 : Bool) (h : Heap) : Prop :=
  splitB b68 (Run Tryd.prog 109 #[(Value.slice A0 n0 c0), (Value.int .i64 x1), (Value.int .i64 x2)] h fun v1_ h2_ => ∃ b3_, v1_ = (Value.bool b3_) ∧ splitB b3_ (R (Value.tuple #[]) h2_) (f86.j2 R A0 n0 c0 x1 x2 x3 b8 b9 x10 x11 h2_)) (f86.j2 R A0 n0 c0 x1 x2 x3 b8 b9 x10 x11 h)
theorem f86.j3_in {R A0 n0 c0 x1 x2 x3 b8 b9 x10 x11 b68 h} (H : f86.j3T R A0 n0 c0 x1 x2 x3 b8 b9 x10 x11 b68 h) : f86.j3 R A0 n0 c0 x1 x2 x3 b8 b9 x10 x11 b68 h := pt_in (kp := f86.kp) mixed f86.good (by kernel_rfl) H
def f86.j2T (R : VP) (A0 : Option Addr) (n0 c0 : Nat) (x1 x2 x3 : Int) (b8 b9 : Bool) (x10 x11 : Int) (h : Heap) : Prop :=
  splitB (decide (x1 > (0 : Int))) (ptrOk A0 fun a1_ => 0 ≤ (IntKind.wrap .i64 (x1 - (1 : Int))) ∧ (IntKind.wrap .i64 (x1 - (1 : Int))) < ((n0 : Nat) : Int) ∧ (ptrOk A0 fun a2_ => 0 ≤ x11 ∧ x11 < ((n0 : Nat) : Int) ∧ (∃ v3_, ldv false 1 h (Addr.add a1_ (Int.toNat (IntKind.wrap .i64 (x1 - (1 : Int))) * 1)) = some v3_ ∧ ∃ s4_, v3_ = (Value.string s4_) ∧ ∃ v5_, ldv false 1 h (Addr.add a2_ (Int.toNat x11 * 1)) = some v5_ ∧ ∃ s6_, v5_ = (Value.string s6_) ∧ Run Tryd.prog 110 #[(Value.string s4_), (Value.string s6_)] h fun v7_ h8_ => ∃ b9_, v7_ = (Value.bool b9_) ∧ f86.j5 R A0 n0 c0 x1 x2 x3 b8 b9 x10 x11 (!b9_) h8_))) (f86.j5 R A0 n0 c0 x1 x2 x3 b8 b9 x10 x11 false h)
theorem f86.j2_in {R A0 n0 c0 x1 x2 x3 b8 b9 x10 x11 h} (H : f86.j2T R A0 n0 c0 x1 x2 x3 b8 b9 x10 x11 h) : f86.j2 R A0 n0 c0 x1 x2 x3 b8 b9 x10 x11 h := pt_in (kp := f86.kp) mixed f86.good (by kernel_rfl) H
def f86.j5T (R : VP) (A0 : Option Addr) (n0 c0 : Nat) (x1 x2 x3 : Int) (b8 b9 : Bool) (x10 x11 : Int) (b87 : Bool) (h : Heap) : Prop :=
  splitB b87 (Run Tryd.prog 111 #[(Value.slice A0 n0 c0), (Value.int .i64 x1), (Value.int .i64 x2), (Value.int .i64 x11)] h fun v1_ h2_ => ∃ x3_, v1_ = (Value.int .i64 x3_) ∧ f86.l0 R A0 n0 c0 x3_ x2 x3 b8 b9 h2_) (f86.j4 R A0 n0 c0 x1 x2 x3 x10 x11 h)
theorem f86.j5_in {R A0 n0 c0 x1 x2 x3 b8 b9 x10 x11 b87 h} (H : f86.j5T R A0 n0 c0 x1 x2 x3 b8 b9 x10 x11 b87 h) : f86.j5 R A0 n0 c0 x1 x2 x3 b8 b9 x10 x11 b87 h := pt_in (kp := f86.kp) mixed f86.good (by kernel_rfl) H
def f86.j4T (R : VP) (A0 : Option Addr) (n0 c0 : Nat) (x1 x2 x3 x10 x11 : Int) (h : Heap) : Prop :=
  Run Tryd.prog 112 #[(Value.slice A0 n0 c0), (Value.int .i64 x1), (Value.int .i64 x2), (Value.int .i64 x11)] h fun v1_ h2_ => ∃ x3_, ∃ b4_, v1_ = (Value.tuple #[(Value.int .i64 x3_), (Value.bool b4_)]) ∧ (8 : Int) ≠ 0 ∧ (splitB (decide ((IntKind.wrap .i64 (x3_ - x1)) < (IntKind.wrap .i64 (x2 - x3_)))) (Run Tryd.prog 86 #[(Value.slice A0 n0 c0), (Value.int .i64 x1), (Value.int .i64 x3_), (Value.int .i64 x3)] h2_ fun v5_ h6_ => v5_ = (Value.tuple #[]) ∧ f86.l0 R A0 n0 c0 (IntKind.wrap .i64 (x3_ + (1 : Int))) x2 x3 (decide ((IntKind.wrap .i64 (x3_ - x1)) ≥ (IntKind.wrap .i64 (Int.tdiv x10 (8 : Int))))) b4_ h6_) (Run Tryd.prog 86 #[(Value.slice A0 n0 c0), (Value.int .i64 (IntKind.wrap .i64 (x3_ + (1 : Int)))), (Value.int .i64 x2), (Value.int .i64 x3)] h2_ fun v7_ h8_ => v7_ = (Value.tuple #[]) ∧ f86.l0 R A0 n0 c0 x1 x3_ x3 (decide ((IntKind.wrap .i64 (x2 - x3_)) ≥ (IntKind.wrap .i64 (Int.tdiv x10 (8 : Int))))) b4_ h8_))
theorem f86.j4_in {R A0 n0 c0 x1 x2 x3 x10 x11 h} (H : f86.j4T R A0 n0 c0 x1 x2 x3 x10 x11 h) : f86.j4 R A0 n0 c0 x1 x2 x3 x10 x11 h := pt_in (kp := f86.kp) mixed f86.good (by kernel_rfl) H
def f86.runT (R : VP) (A0 : Option Addr) (n0 c0 : Nat) (x1 x2 x3 : Int) (h : Heap) : Prop :=
  f86.l0 R A0 n0 c0 x1 x2 x3 true true h
theorem f86.run {R : VP} {A0 : Option Addr} {n0 c0 : Nat} {x1 x2 x3 : Int} {h : Heap} (H : f86.runT R A0 n0 c0 x1 x2 x3 h) : Run Tryd.prog 86 #[(Value.slice A0 n0 c0), (Value.int .i64 x1), (Value.int .i64 x2), (Value.int .i64 x3)] h R := run_in (kp := f86.kp) mixed Tryd.func86 (by kernel_rfl) (by kernel_rfl) f86.good (by kernel_rfl) H
def f70.T : Tab := { sh := tSh, tup := tTup, keep := [], plan := [] }
def f70.kp : Keep := []
theorem f70.good : goodCode Tryd.prog f70.T (rootOf Tryd.f70) = true := by kernel_rfl
def f70.runT (R : VP) (A0 : Option Addr) (n0 c0 : Nat) (h : Heap) : Prop :=
  Run Tryd.prog 87 #[(Value.int .u64 (IntKind.wrap .u64 ((n0 : Nat) : Int)))] h fun v1_ h2_ => ∃ x3_, v1_ = (Value.int .i64 x3_) ∧ Run Tryd.prog 86 #[(Value.slice A0 n0 c0), (Value.int .i64 (0 : Int)), (Value.int .i64 ((n0 : Nat) : Int)), (Value.int .i64 x3_)] h2_ fun v4_ h5_ => v4_ = (Value.tuple #[]) ∧ R (Value.tuple #[]) h5_
theorem f70.run {R : VP} {A0 : Option Addr} {n0 c0 : Nat} {h : Heap} (H : f70.runT R A0 n0 c0 h) : Run Tryd.prog 70 #[(Value.slice A0 n0 c0)] h R := run_in (kp := f70.kp) mixed Tryd.func70 (by kernel_rfl) (by kernel_rfl) f70.good (by kernel_rfl) H
def f71.T : Tab := { sh := tSh, tup := tTup, keep := [], plan := [(6, (.take 0 (.take 1 (.take 2 (.take 4 (.take 5 (.take 6 (.take 7 (.take 3 (.take 8 (.take 9 .done))))))))))), (11, (.take 0 (.take 1 (.take 2 (.take 4 (.take 5 (.take 6 (.take 7 (.take 3 (.take 8 (.take 9 .done)))))))))))] }
def f71.kp : Keep := [([false, false, true, false, true, true], [0, 3]), ([false, false, true, false, true, false, true, false, false, true, false, false, true, false, true, true], [0, 3, 4, 5]), ([true, true, false, false, true, false, true, false, true, false, false, true, false, false, true, false, true, true], [0, 3, 4, 5])]
theorem f71.good : goodCode Tryd.prog f71.T (rootOf Tryd.f71) = true := by kernel_rfl
def f71.l0 (R A0 n0 c0 x3 h) := Pt Tryd.prog Tryd.f71 R [false, false, true, false, true, true] (mkFr [(0, (Value.slice A0 n0 c0)), (3, (Value.int .i64 x3))]) h
def f71.l1 (R A0 n0 c0 x3 A4 n4 c4 x5 h) := Pt Tryd.prog Tryd.f71 R [false, false, true, false, true, false, true, false, false, true, false, false, true, false, true, true] (mkFr [(0, (Value.slice A0 n0 c0)), (3, (Value.int .i64 x3)), (4, (Value.slice A4 n4 c4)), (5, (Value.int .i64 x5))]) h
def f71.j0 (R A0 n0 c0 x3 A4 n4 c4 x5 h) := Pt Tryd.prog Tryd.f71 R [true, true, false, false, true, false, true, false, true, false, false, true, false, false, true, false, true, true] (mkFr [(0, (Value.slice A0 n0 c0)), (3, (Value.int .i64 x3)), (4, (Value.slice A4 n4 c4)), (5, (Value.int .i64 x5))]) h
def f71.l0T (R : VP) (A0 : Option Addr) (n0 c0 : Nat) (x3 : Int) (h : Heap) : Prop :=
  splitB (decide (x3 < ((n0 : Nat) : Int))) (ptrOk A0 fun a1_ => 0 ≤ x3 ∧ x3 < ((n0 : Nat) : Int) ∧ (ptrOk A0 fun a2_ => 0 ≤ (IntKind.wrap .i64 (x3 - (1 : Int))) ∧ (IntKind.wrap .i64 (x3 - (1 : Int))) < ((n0 : Nat) : Int) ∧ (∃ v3_, ldv false 1 h (Addr.add a1_ (Int.toNat x3 * 1)) = some v3_ ∧ ∃ s4_, v3_ = (Value.string s4_) ∧ ∃ v5_, ldv false 1 h (Addr.add a2_ (Int.toNat (IntKind.wrap .i64 (x3 - (1 : Int))) * 1)) = some v5_ ∧ ∃ s6_, v5_ = (Value.string s6_) ∧ splitB (ByteArray.toList s4_ == ByteArray.toList s6_) (0 ≤ x3 ∧ x3 ≤ ((n0 : Nat) : Int) ∧ ((n0 : Nat) : Int) ≤ ((c0 : Nat) : Int) ∧ (f71.l1 R A0 n0 c0 x3 (sliceA A0 (Int.toNat x3) c0 1) (Int.toNat ((n0 : Nat) : Int) - Int.toNat x3) (c0 - Int.toNat x3) (1 : Int) h)) (f71.l0 R A0 n0 c0 (IntKind.wrap .i64 (x3 + (1 : Int))) h)))) (R (Value.slice A0 n0 c0) h)
theorem f71.l0_in {R A0 n0 c0 x3 h} (H : f71.l0T R A0 n0 c0 x3 h) : f71.l0 R A0 n0 c0 x3 h := pt_in (kp := f71.kp) mixed f71.good (by kernel_rfl) H
def f71.l1T (R : VP) (A0 : Option Addr) (n0 c0 : Nat) (x3 : Int) (A4 : Option Addr) (n4 c4 : Nat) (x5 : Int) (h : Heap) : Prop :=
  splitB (decide (x5 < ((n4 : Nat) : Int))) (ptrOk A4 fun a1_ => 0 ≤ x5 ∧ x5 < ((n4 : Nat) : Int) ∧ (ptrOk A4 fun a2_ => 0 ≤ (IntKind.wrap .i64 (x5 - (1 : Int))) ∧ (IntKind.wrap .i64 (x5 - (1 : Int))) < ((n4 : Nat) : Int) ∧ (∃ v3_, ldv false 1 h (Addr.add a1_ (Int.toNat x5 * 1)) = some v3_ ∧ ∃ s4_, v3_ = (Value.string s4_) ∧ ∃ v5_, ldv false 1 h (Addr.add a2_ (Int.toNat (IntKind.wrap .i64 (x5 - (1 : Int))) * 1)) = some v5_ ∧ ∃ s6_, v5_ = (Value.string s6_) ∧ splitB (!(ByteArray.toList s4_ == ByteArray.toList s6_)) (ptrOk A4 fun a7_ => 0 ≤ x5 ∧ x5 < ((n4 : Nat) : Int) ∧ (∃ v8_, ldv false 1 h (Addr.add a7_ (Int.toNat x5 * 1)) = some v8_ ∧ ∃ s9_, v8_ = (Value.string s9_) ∧ ptrOk A0 fun a10_ => 0 ≤ x3 ∧ x3 < ((n0 : Nat) : Int) ∧ (∃ h11_, st1 h (Addr.add a10_ (Int.toNat x3 * 1)) (Value.string s9_) = some h11_ ∧ f71.j0 R A0 n0 c0 (IntKind.wrap .i64 (x3 + (1 : Int))) A4 n4 c4 x5 h11_))) (f71.j0 R A0 n0 c0 x3 A4 n4 c4 x5 h)))) (0 ≤ x3 ∧ x3 ≤ ((n0 : Nat) : Int) ∧ ((n0 : Nat) : Int) ≤ ((c0 : Nat) : Int) ∧ (Gen Tryd.prog (Builtin.clear_ #[50] 0 #[(Value.slice (sliceA A0 (Int.toNat x3) c0 1) (Int.toNat ((n0 : Nat) : Int) - Int.toNat x3) (c0 - Int.toNat x3))]) h fun v12_ h13_ => v12_ = (Value.tuple #[]) ∧ 0 ≤ (0 : Int) ∧ (0 : Int) ≤ x3 ∧ x3 ≤ ((c0 : Nat) : Int) ∧ (R (Value.slice (sliceA A0 (Int.toNat (0 : Int)) c0 1) (Int.toNat x3 - Int.toNat (0 : Int)) (c0 - Int.toNat (0 : Int))) h13_)))
theorem f71.l1_in {R A0 n0 c0 x3 A4 n4 c4 x5 h} (H : f71.l1T R A0 n0 c0 x3 A4 n4 c4 x5 h) : f71.l1 R A0 n0 c0 x3 A4 n4 c4 x5 h := pt_in (kp := f71.kp) mixed f71.good (by kernel_rfl) H
def f71.j0T (R : VP) (A0 : Option Addr) (n0 c0 : Nat) (x3 : Int) (A4 : Option Addr) (n4 c4 : Nat) (x5 : Int) (h : Heap) : Prop :=
  f71.l1 R A0 n0 c0 x3 A4 n4 c4 (IntKind.wrap .i64 (x5 + (1 : Int))) h
theorem f71.j0_in {R A0 n0 c0 x3 A4 n4 c4 x5 h} (H : f71.j0T R A0 n0 c0 x3 A4 n4 c4 x5 h) : f71.j0 R A0 n0 c0 x3 A4 n4 c4 x5 h := pt_in (kp := f71.kp) mixed f71.good (by kernel_rfl) H
def f71.runT (R : VP) (A0 : Option Addr) (n0 c0 : Nat) (h : Heap) : Prop :=
  splitB (decide (((n0 : Nat) : Int) < (2 : Int))) (R (Value.slice A0 n0 c0) h) (f71.l0 R A0 n0 c0 (1 : Int) h)
theorem f71.run {R : VP} {A0 : Option Addr} {n0 c0 : Nat} {h : Heap} (H : f71.runT R A0 n0 c0 h) : Run Tryd.prog 71 #[(Value.slice A0 n0 c0)] h R := run_in (kp := f71.kp) mixed Tryd.func71 (by kernel_rfl) (by kernel_rfl) f71.good (by kernel_rfl) H
def f43.T : Tab := { sh := tSh, tup := tTup, keep := [], plan := [] }
def f43.kp : Keep := []
theorem f43.good : goodCode Tryd.prog f43.T (rootOf Tryd.f43) = true := by kernel_rfl
def f43.runT (R : VP) (A0 : Option Addr) (n0 c0 : Nat) (h : Heap) : Prop :=
  Run Tryd.prog 69 #[(Value.slice A0 n0 c0)] h fun v1_ h2_ => ∃ A3_, ∃ n3_, ∃ c3_, v1_ = (Value.slice A3_ n3_ c3_) ∧ Run Tryd.prog 70 #[(Value.slice A3_ n3_ c3_)] h2_ fun v4_ h5_ => v4_ = (Value.tuple #[]) ∧ Run Tryd.prog 71 #[(Value.slice A3_ n3_ c3_)] h5_ fun v6_ h7_ => ∃ A8_, ∃ n8_, ∃ c8_, v6_ = (Value.slice A8_ n8_ c8_) ∧ R (Value.bool (decide (((n8_ : Nat) : Int) < ((n0 : Nat) : Int)))) h7_
theorem f43.run {R : VP} {A0 : Option Addr} {n0 c0 : Nat} {h : Heap} (H : f43.runT R A0 n0 c0 h) : Run Tryd.prog 43 #[(Value.slice A0 n0 c0)] h R := run_in (kp := f43.kp) mixed Tryd.func43 (by kernel_rfl) (by kernel_rfl) f43.good (by kernel_rfl) H
def f16.T : Tab := { sh := tSh, tup := tTup, keep := [], plan := [] }
def f16.kp : Keep := [([false, false, true, false, true, true], [3, 7, 8, 9]), ([true, true, false, false, true, true, false, false, true, false, true, true], [3, 5, 7, 8, 9])]
theorem f16.good : goodCode Tryd.prog f16.T (rootOf Tryd.f16) = true := by kernel_rfl
def f16.l0 (R A3 n3 c3 A7 n7 c7 x8 x9 h) := Pt Tryd.prog Tryd.f16 R [false, false, true, false, true, true] (mkFr [(3, (Value.slice A3 n3 c3)), (7, (Value.slice A7 n7 c7)), (8, (Value.int .i64 x8)), (9, (Value.int .i64 x9))]) h
def f16.j0 (R A3 n3 c3 a5 A7 n7 c7 x8 x9 h) := Pt Tryd.prog Tryd.f16 R [true, true, false, false, true, true, false, false, true, false, true, true] (mkFr [(3, (Value.slice A3 n3 c3)), (5, (Value.pointer (some a5))), (7, (Value.slice A7 n7 c7)), (8, (Value.int .i64 x8)), (9, (Value.int .i64 x9))]) h
def f16.l0T (R : VP) (A3 : Option Addr) (n3 c3 : Nat) (A7 : Option Addr) (n7 c7 : Nat) (x8 x9 : Int) (h : Heap) : Prop :=
  splitB (decide (x9 < x8)) (ptrOk A7 fun a1_ => 0 ≤ x9 ∧ x9 < ((n7 : Nat) : Int) ∧ (∃ v2_, ldv true 15 h (Addr.add a1_ (Int.toNat x9 * 15)) = some v2_ ∧ newH h (Obj.cells #[(Value.string (ByteArray.mk #[])), (Value.slice none 0 0), (Value.slice none 0 0), (Value.slice none 0 0), (Value.int .i64 (0 : Int)), (Value.string (ByteArray.mk #[])), (Value.slice none 0 0), (Value.int .i64 (0 : Int)), (Value.int .i64 (0 : Int)), (Value.string (ByteArray.mk #[])), (Value.slice none 0 0), (Value.slice none 0 0), (Value.slice none 0 0), (Value.slice none 0 0), (Value.int .i64 (0 : Int))] 56) fun h3_ => ∃ l5_ : List Value, v2_ = Value.agg l5_.toArray ∧ l5_.length = 15 ∧ ∃ h4_, stH h3_ (⟨Array.size h, 0, none⟩) l5_ 0 = some h4_ ∧ ∃ v6_, ldv false 1 h4_ (Addr.add (⟨Array.size h, 0, none⟩) 3) = some v6_ ∧ ∃ A7_, ∃ n7_, ∃ c7_, v6_ = (Value.slice A7_ n7_ c7_) ∧ splitB (((n7_ : Nat) : Int) == (0 : Int)) (R (Value.int .i64 (12 : Int)) h4_) (∃ v8_, ldv false 1 h4_ (Addr.add (⟨Array.size h, 0, none⟩) 3) = some v8_ ∧ ∃ A9_, ∃ n9_, ∃ c9_, v8_ = (Value.slice A9_ n9_ c9_) ∧ ptrOk A9_ fun a10_ => 0 ≤ (0 : Int) ∧ (0 : Int) < ((n9_ : Nat) : Int) ∧ (∃ v11_, ldv false 1 h4_ (Addr.add a10_ (Int.toNat (0 : Int) * 3)) = some v11_ ∧ ∃ x12_, v11_ = (Value.int .i64 x12_) ∧ splitB (x12_ != (5 : Int)) (R (Value.int .i64 (12 : Int)) h4_) (∃ v13_, ldv false 1 h4_ (Addr.add (⟨Array.size h, 0, none⟩) 3) = some v13_ ∧ ∃ A14_, ∃ n14_, ∃ c14_, v13_ = (Value.slice A14_ n14_ c14_) ∧ ptrOk A14_ fun a15_ => 0 ≤ (0 : Int) ∧ (0 : Int) < ((n14_ : Nat) : Int) ∧ (∃ v16_, ldv false 1 h4_ (Addr.add (Addr.add a15_ (Int.toNat (0 : Int) * 3)) 1) = some v16_ ∧ ∃ s17_, v16_ = (Value.string s17_) ∧ splitB (!(ByteArray.toList s17_ == ByteArray.toList (ByteArray.mk #[115, 101, 108, 102]))) (R (Value.int .i64 (12 : Int)) h4_) (∃ v18_, ldv false 1 h4_ (Addr.add (⟨Array.size h, 0, none⟩) 3) = some v18_ ∧ ∃ A19_, ∃ n19_, ∃ c19_, v18_ = (Value.slice A19_ n19_ c19_) ∧ ptrOk A19_ fun a20_ => 0 ≤ (0 : Int) ∧ (0 : Int) < ((n19_ : Nat) : Int) ∧ (∃ v21_, ldv false 1 h4_ (Addr.add (Addr.add a20_ (Int.toNat (0 : Int) * 3)) 2) = some v21_ ∧ ∃ A22_, ∃ n22_, ∃ c22_, v21_ = (Value.slice A22_ n22_ c22_) ∧ splitB (decide (((n22_ : Nat) : Int) > (0 : Int))) (R (Value.int .i64 (12 : Int)) h4_) (f16.j0 R A3 n3 c3 (⟨Array.size h, 0, none⟩) A7 n7 c7 x8 x9 h4_))))))))) (Run Tryd.prog 43 #[(Value.slice A3 n3 c3)] h fun v23_ h24_ => ∃ b25_, v23_ = (Value.bool b25_) ∧ splitB b25_ (R (Value.int .i64 (11 : Int)) h24_) (R (Value.int .i64 (0 : Int)) h24_))
theorem f16.l0_in {R A3 n3 c3 A7 n7 c7 x8 x9 h} (H : f16.l0T R A3 n3 c3 A7 n7 c7 x8 x9 h) : f16.l0 R A3 n3 c3 A7 n7 c7 x8 x9 h := pt_in (kp := f16.kp) mixed f16.good (by kernel_rfl) H
def f16.j0T (R : VP) (A3 : Option Addr) (n3 c3 : Nat) (a5 : Addr) (A7 : Option Addr) (n7 c7 : Nat) (x8 x9 : Int) (h : Heap) : Prop :=
  ∃ v1_, ldv false 1 h a5 = some v1_ ∧ ∃ s2_, v1_ = (Value.string s2_) ∧ newH h (Obj.cells #[(Value.string s2_)] 9) fun h3_ => AppW 9 1 16 #[(Value.string (ByteArray.mk #[]))] A3 n3 c3 (Value.slice (some ⟨Array.size h, 0, none⟩) 1 1) h3_ fun v4_ h5_ => ∃ A6_, ∃ n6_, ∃ c6_, v4_ = (Value.slice A6_ n6_ c6_) ∧ f16.l0 R A6_ n6_ c6_ A7 n7 c7 x8 (IntKind.wrap .i64 (x9 + (1 : Int))) h5_
theorem f16.j0_in {R A3 n3 c3 a5 A7 n7 c7 x8 x9 h} (H : f16.j0T R A3 n3 c3 a5 A7 n7 c7 x8 x9 h) : f16.j0 R A3 n3 c3 a5 A7 n7 c7 x8 x9 h := pt_in (kp := f16.kp) mixed f16.good (by kernel_rfl) H
def f16.runT (R : VP) (v0 : Value) (h : Heap) : Prop :=
  newH h (Obj.cells ((v0).cells) 37) fun h1_ => ∃ v2_, ldv false 1 h1_ (Addr.add (⟨Array.size h, 0, none⟩) 1) = some v2_ ∧ ∃ A3_, ∃ n3_, ∃ c3_, v2_ = (Value.slice A3_ n3_ c3_) ∧ f16.l0 R none 0 0 A3_ n3_ c3_ ((n3_ : Nat) : Int) (0 : Int) h1_
theorem f16.run {R : VP} {v0 : Value} {h : Heap} (H : f16.runT R v0 h) : Run Tryd.prog 16 #[v0] h R := run_in (kp := f16.kp) mixed Tryd.func16 (by kernel_rfl) (by kernel_rfl) f16.good (by kernel_rfl) H
def f14.T : Tab := { sh := tSh, tup := tTup, keep := [], plan := [(4, (.take 1 (.frame 2 (.take 3 (.eff false false [2] 0 (.take 4 (.take 5 (.take 6 .done))))))))] }
def f14.kp : Keep := [([true, false, true, true], [1, 15])]
theorem f14.good : goodCode Tryd.prog f14.T (rootOf Tryd.f14) = true := by kernel_rfl
def f14.j0 (R a1 b15 h) := Pt Tryd.prog Tryd.f14 R [true, false, true, true] (mkFr [(1, (Value.pointer (some a1))), (15, (Value.bool b15))]) h
def f14.j0T (R : VP) (a1 : Addr) (b15 : Bool) (h : Heap) : Prop :=
  splitB b15 (∃ v1_, ldv false 1 h a1 = some v1_ ∧ ∃ x2_, v1_ = (Value.int .i64 x2_) ∧ Run Tryd.prog 40 #[(Value.string (ByteArray.mk #[105, 110, 116, 32, 98, 111, 111, 108, 32, 116, 101, 120, 116, 32, 117, 110, 105, 116]))] h fun v3_ h4_ => ∃ A5_, ∃ n5_, ∃ c5_, v3_ = (Value.slice A5_ n5_ c5_) ∧ ldv false 1 h4_ a1 = some v1_ ∧ (ptrOk A5_ fun a6_ => 0 ≤ (IntKind.wrap .i64 (x2_ - (1 : Int))) ∧ (IntKind.wrap .i64 (x2_ - (1 : Int))) < ((n5_ : Nat) : Int) ∧ (∃ v7_, ldv false 1 h4_ (Addr.add a6_ (Int.toNat (IntKind.wrap .i64 (x2_ - (1 : Int))) * 1)) = some v7_ ∧ ∃ s8_, v7_ = (Value.string s8_) ∧ R (Value.string s8_) h4_))) (R (Value.string (ByteArray.mk #[])) h)
theorem f14.j0_in {R a1 b15 h} (H : f14.j0T R a1 b15 h) : f14.j0 R a1 b15 h := pt_in (kp := f14.kp) mixed f14.good (by kernel_rfl) H
def f14.runT (R : VP) (v0 : Value) (h : Heap) : Prop :=
  newH h (Obj.cells ((v0).cells) 32) fun h1_ => ∃ v2_, ldv false 1 h1_ (⟨Array.size h, 0, none⟩) = some v2_ ∧ ∃ x3_, v2_ = (Value.int .i64 x3_) ∧ splitB (x3_ == (6 : Int)) (∃ v4_, ldv false 1 h1_ (Addr.add (⟨Array.size h, 0, none⟩) 1) = some v4_ ∧ ∃ s5_, v4_ = (Value.string s5_) ∧ R (Value.string s5_) h1_) (∃ v6_, ldv false 1 h1_ (⟨Array.size h, 0, none⟩) = some v6_ ∧ ∃ x7_, v6_ = (Value.int .i64 x7_) ∧ splitB (decide (x7_ ≥ (1 : Int))) (∃ v8_, ldv false 1 h1_ (⟨Array.size h, 0, none⟩) = some v8_ ∧ ∃ x9_, v8_ = (Value.int .i64 x9_) ∧ f14.j0 R (⟨Array.size h, 0, none⟩) (decide (x9_ ≤ (4 : Int))) h1_) (f14.j0 R (⟨Array.size h, 0, none⟩) false h1_))
theorem f14.run {R : VP} {v0 : Value} {h : Heap} (H : f14.runT R v0 h) : Run Tryd.prog 14 #[v0] h R := run_in (kp := f14.kp) mixed Tryd.func14 (by kernel_rfl) (by kernel_rfl) f14.good (by kernel_rfl) H
def f74.T : Tab := { sh := tSh, tup := tTup, keep := [], plan := [] }
def f74.kp : Keep := [([true, true], [0, 1])]
theorem f74.good : goodCode Tryd.prog f74.T (rootOf Tryd.f74) = true := by kernel_rfl
def f74.j0 (R A0 n0 c0 x1 h) := Pt Tryd.prog Tryd.f74 R [true, true] (mkFr [(0, (Value.slice A0 n0 c0)), (1, (Value.int .i64 x1))]) h
def f74.j0T (R : VP) (A0 : Option Addr) (n0 c0 : Nat) (x1 : Int) (h : Heap) : Prop :=
  splitB (decide ((IntKind.wrap .i64 (x1 - (IntKind.wrap .i64 (((c0 : Nat) : Int) - ((n0 : Nat) : Int))))) > (0 : Int))) (0 ≤ (0 : Int) ∧ (0 : Int) ≤ ((c0 : Nat) : Int) ∧ ((c0 : Nat) : Int) ≤ ((c0 : Nat) : Int) ∧ (AppZ 9 1 16 #[(Value.string (ByteArray.mk #[]))] (sliceA A0 (Int.toNat (0 : Int)) c0 1) (Int.toNat ((c0 : Nat) : Int) - Int.toNat (0 : Int)) (c0 - Int.toNat (0 : Int)) (Value.int .i64 (IntKind.wrap .i64 (x1 - (IntKind.wrap .i64 (((c0 : Nat) : Int) - ((n0 : Nat) : Int)))))) h fun v1_ h2_ => ∃ A3_, ∃ n3_, ∃ c3_, v1_ = (Value.slice A3_ n3_ c3_) ∧ 0 ≤ (0 : Int) ∧ (0 : Int) ≤ ((n0 : Nat) : Int) ∧ ((n0 : Nat) : Int) ≤ ((c3_ : Nat) : Int) ∧ (R (Value.slice (sliceA A3_ (Int.toNat (0 : Int)) c3_ 1) (Int.toNat ((n0 : Nat) : Int) - Int.toNat (0 : Int)) (c3_ - Int.toNat (0 : Int))) h2_))) (R (Value.slice A0 n0 c0) h)
theorem f74.j0_in {R A0 n0 c0 x1 h} (H : f74.j0T R A0 n0 c0 x1 h) : f74.j0 R A0 n0 c0 x1 h := pt_in (kp := f74.kp) mixed f74.good (by kernel_rfl) H
def f74.runT (R : VP) (A0 : Option Addr) (n0 c0 : Nat) (x1 : Int) (h : Heap) : Prop :=
  splitB (decide (x1 < (0 : Int))) (Gen Tryd.prog (Instr.makeInterface 9 (Value.string (ByteArray.mk #[99, 97, 110, 110, 111, 116, 32, 98, 101, 32, 110, 101, 103, 97, 116, 105, 118, 101]))) h fun v1_ h2_ => False) (f74.j0 R A0 n0 c0 x1 h)
theorem f74.run {R : VP} {A0 : Option Addr} {n0 c0 : Nat} {x1 : Int} {h : Heap} (H : f74.runT R A0 n0 c0 x1 h) : Run Tryd.prog 74 #[(Value.slice A0 n0 c0), (Value.int .i64 x1)] h R := run_in (kp := f74.kp) mixed Tryd.func74 (by kernel_rfl) (by kernel_rfl) f74.good (by kernel_rfl) H
def f46.T : Tab := { sh := tSh, tup := tTup, keep := [], plan := [] }
def f46.kp : Keep := [([false, false, true, false, true, true], [0, 3, 9, 10, 11]), ([false, false, true, false, true, true, true, true], [6, 25, 26, 27])]
theorem f46.good : goodCode Tryd.prog f46.T (rootOf Tryd.f46) = true := by kernel_rfl
def f46.l0 (R A0 n0 c0 x3 A9 n9 c9 x10 x11 h) := Pt Tryd.prog Tryd.f46 R [false, false, true, false, true, true] (mkFr [(0, (Value.slice A0 n0 c0)), (3, (Value.int .i64 x3)), (9, (Value.slice A9 n9 c9)), (10, (Value.int .i64 x10)), (11, (Value.int .i64 x11))]) h
def f46.l1 (R A6 n6 c6 A25 n25 c25 x26 x27 h) := Pt Tryd.prog Tryd.f46 R [false, false, true, false, true, true, true, true] (mkFr [(6, (Value.slice A6 n6 c6)), (25, (Value.slice A25 n25 c25)), (26, (Value.int .i64 x26)), (27, (Value.int .i64 x27))]) h
def f46.l0T (R : VP) (A0 : Option Addr) (n0 c0 : Nat) (x3 : Int) (A9 : Option Addr) (n9 c9 : Nat) (x10 x11 : Int) (h : Heap) : Prop :=
  splitB (decide (x11 < x10)) (ptrOk A9 fun a1_ => 0 ≤ x11 ∧ x11 < ((n9 : Nat) : Int) ∧ (∃ v2_, ldv false 1 h (Addr.add a1_ (Int.toNat x11 * 1)) = some v2_ ∧ ∃ A3_, ∃ n3_, ∃ c3_, v2_ = (Value.slice A3_ n3_ c3_) ∧ splitB (decide ((IntKind.wrap .i64 (x3 + ((n3_ : Nat) : Int))) < (0 : Int))) (Gen Tryd.prog (Instr.makeInterface 9 (Value.string (ByteArray.mk #[108, 101, 110, 32, 111, 117, 116, 32, 111, 102, 32, 114, 97, 110, 103, 101]))) h fun v4_ h5_ => False) (f46.l0 R A0 n0 c0 (IntKind.wrap .i64 (x3 + ((n3_ : Nat) : Int))) A9 n9 c9 x10 (IntKind.wrap .i64 (x11 + (1 : Int))) h))) (Run Tryd.prog 74 #[(Value.slice none 0 0), (Value.int .i64 x3)] h fun v6_ h7_ => ∃ A8_, ∃ n8_, ∃ c8_, v6_ = (Value.slice A8_ n8_ c8_) ∧ f46.l1 R A8_ n8_ c8_ A0 n0 c0 ((n0 : Nat) : Int) (0 : Int) h7_)
theorem f46.l0_in {R A0 n0 c0 x3 A9 n9 c9 x10 x11 h} (H : f46.l0T R A0 n0 c0 x3 A9 n9 c9 x10 x11 h) : f46.l0 R A0 n0 c0 x3 A9 n9 c9 x10 x11 h := pt_in (kp := f46.kp) mixed f46.good (by kernel_rfl) H
def f46.l1T (R : VP) (A6 : Option Addr) (n6 c6 : Nat) (A25 : Option Addr) (n25 c25 : Nat) (x26 x27 : Int) (h : Heap) : Prop :=
  splitB (decide (x27 < x26)) (ptrOk A25 fun a1_ => 0 ≤ x27 ∧ x27 < ((n25 : Nat) : Int) ∧ (∃ v2_, ldv false 1 h (Addr.add a1_ (Int.toNat x27 * 1)) = some v2_ ∧ ∃ A3_, ∃ n3_, ∃ c3_, v2_ = (Value.slice A3_ n3_ c3_) ∧ AppW 9 1 16 #[(Value.string (ByteArray.mk #[]))] A6 n6 c6 (Value.slice A3_ n3_ c3_) h fun v4_ h5_ => ∃ A6_, ∃ n6_, ∃ c6_, v4_ = (Value.slice A6_ n6_ c6_) ∧ f46.l1 R A6_ n6_ c6_ A25 n25 c25 x26 (IntKind.wrap .i64 (x27 + (1 : Int))) h5_)) (R (Value.slice A6 n6 c6) h)
theorem f46.l1_in {R A6 n6 c6 A25 n25 c25 x26 x27 h} (H : f46.l1T R A6 n6 c6 A25 n25 c25 x26 x27 h) : f46.l1 R A6 n6 c6 A25 n25 c25 x26 x27 h := pt_in (kp := f46.kp) mixed f46.good (by kernel_rfl) H
def f46.runT (R : VP) (A0 : Option Addr) (n0 c0 : Nat) (h : Heap) : Prop :=
  f46.l0 R A0 n0 c0 (0 : Int) A0 n0 c0 ((n0 : Nat) : Int) (0 : Int) h
theorem f46.run {R : VP} {A0 : Option Addr} {n0 c0 : Nat} {h : Heap} (H : f46.runT R A0 n0 c0 h) : Run Tryd.prog 46 #[(Value.slice A0 n0 c0)] h R := run_in (kp := f46.kp) mixed Tryd.func46 (by kernel_rfl) (by kernel_rfl) f46.good (by kernel_rfl) H
def f75.T : Tab := { sh := tSh, tup := tTup, keep := [], plan := [] }
def f75.kp : Keep := [([true, true], [0, 1])]
theorem f75.good : goodCode Tryd.prog f75.T (rootOf Tryd.f75) = true := by kernel_rfl
def f75.j0 (R A0 n0 c0 x1 h) := Pt Tryd.prog Tryd.f75 R [true, true] (mkFr [(0, (Value.slice A0 n0 c0)), (1, (Value.int .i64 x1))]) h
def f75.j0T (R : VP) (A0 : Option Addr) (n0 c0 : Nat) (x1 : Int) (h : Heap) : Prop :=
  splitB (decide ((IntKind.wrap .i64 (x1 - (IntKind.wrap .i64 (((c0 : Nat) : Int) - ((n0 : Nat) : Int))))) > (0 : Int))) (0 ≤ (0 : Int) ∧ (0 : Int) ≤ ((c0 : Nat) : Int) ∧ ((c0 : Nat) : Int) ≤ ((c0 : Nat) : Int) ∧ (AppZ 32 3 48 #[(Value.int .i64 (0 : Int)), (Value.string (ByteArray.mk #[])), (Value.slice none 0 0)] (sliceA A0 (Int.toNat (0 : Int)) c0 3) (Int.toNat ((c0 : Nat) : Int) - Int.toNat (0 : Int)) (c0 - Int.toNat (0 : Int)) (Value.int .i64 (IntKind.wrap .i64 (x1 - (IntKind.wrap .i64 (((c0 : Nat) : Int) - ((n0 : Nat) : Int)))))) h fun v1_ h2_ => ∃ A3_, ∃ n3_, ∃ c3_, v1_ = (Value.slice A3_ n3_ c3_) ∧ 0 ≤ (0 : Int) ∧ (0 : Int) ≤ ((n0 : Nat) : Int) ∧ ((n0 : Nat) : Int) ≤ ((c3_ : Nat) : Int) ∧ (R (Value.slice (sliceA A3_ (Int.toNat (0 : Int)) c3_ 3) (Int.toNat ((n0 : Nat) : Int) - Int.toNat (0 : Int)) (c3_ - Int.toNat (0 : Int))) h2_))) (R (Value.slice A0 n0 c0) h)
theorem f75.j0_in {R A0 n0 c0 x1 h} (H : f75.j0T R A0 n0 c0 x1 h) : f75.j0 R A0 n0 c0 x1 h := pt_in (kp := f75.kp) mixed f75.good (by kernel_rfl) H
def f75.runT (R : VP) (A0 : Option Addr) (n0 c0 : Nat) (x1 : Int) (h : Heap) : Prop :=
  splitB (decide (x1 < (0 : Int))) (Gen Tryd.prog (Instr.makeInterface 9 (Value.string (ByteArray.mk #[99, 97, 110, 110, 111, 116, 32, 98, 101, 32, 110, 101, 103, 97, 116, 105, 118, 101]))) h fun v1_ h2_ => False) (f75.j0 R A0 n0 c0 x1 h)
theorem f75.run {R : VP} {A0 : Option Addr} {n0 c0 : Nat} {x1 : Int} {h : Heap} (H : f75.runT R A0 n0 c0 x1 h) : Run Tryd.prog 75 #[(Value.slice A0 n0 c0), (Value.int .i64 x1)] h R := run_in (kp := f75.kp) mixed Tryd.func75 (by kernel_rfl) (by kernel_rfl) f75.good (by kernel_rfl) H
def f47.T : Tab := { sh := tSh, tup := tTup, keep := [], plan := [] }
def f47.kp : Keep := [([false, false, true, false, true, true], [0, 3, 9, 10, 11]), ([false, false, true, false, true, true, true, true], [6, 25, 26, 27])]
theorem f47.good : goodCode Tryd.prog f47.T (rootOf Tryd.f47) = true := by kernel_rfl
def f47.l0 (R A0 n0 c0 x3 A9 n9 c9 x10 x11 h) := Pt Tryd.prog Tryd.f47 R [false, false, true, false, true, true] (mkFr [(0, (Value.slice A0 n0 c0)), (3, (Value.int .i64 x3)), (9, (Value.slice A9 n9 c9)), (10, (Value.int .i64 x10)), (11, (Value.int .i64 x11))]) h
def f47.l1 (R A6 n6 c6 A25 n25 c25 x26 x27 h) := Pt Tryd.prog Tryd.f47 R [false, false, true, false, true, true, true, true] (mkFr [(6, (Value.slice A6 n6 c6)), (25, (Value.slice A25 n25 c25)), (26, (Value.int .i64 x26)), (27, (Value.int .i64 x27))]) h
def f47.l0T (R : VP) (A0 : Option Addr) (n0 c0 : Nat) (x3 : Int) (A9 : Option Addr) (n9 c9 : Nat) (x10 x11 : Int) (h : Heap) : Prop :=
  splitB (decide (x11 < x10)) (ptrOk A9 fun a1_ => 0 ≤ x11 ∧ x11 < ((n9 : Nat) : Int) ∧ (∃ v2_, ldv false 1 h (Addr.add a1_ (Int.toNat x11 * 1)) = some v2_ ∧ ∃ A3_, ∃ n3_, ∃ c3_, v2_ = (Value.slice A3_ n3_ c3_) ∧ splitB (decide ((IntKind.wrap .i64 (x3 + ((n3_ : Nat) : Int))) < (0 : Int))) (Gen Tryd.prog (Instr.makeInterface 9 (Value.string (ByteArray.mk #[108, 101, 110, 32, 111, 117, 116, 32, 111, 102, 32, 114, 97, 110, 103, 101]))) h fun v4_ h5_ => False) (f47.l0 R A0 n0 c0 (IntKind.wrap .i64 (x3 + ((n3_ : Nat) : Int))) A9 n9 c9 x10 (IntKind.wrap .i64 (x11 + (1 : Int))) h))) (Run Tryd.prog 75 #[(Value.slice none 0 0), (Value.int .i64 x3)] h fun v6_ h7_ => ∃ A8_, ∃ n8_, ∃ c8_, v6_ = (Value.slice A8_ n8_ c8_) ∧ f47.l1 R A8_ n8_ c8_ A0 n0 c0 ((n0 : Nat) : Int) (0 : Int) h7_)
theorem f47.l0_in {R A0 n0 c0 x3 A9 n9 c9 x10 x11 h} (H : f47.l0T R A0 n0 c0 x3 A9 n9 c9 x10 x11 h) : f47.l0 R A0 n0 c0 x3 A9 n9 c9 x10 x11 h := pt_in (kp := f47.kp) mixed f47.good (by kernel_rfl) H
def f47.l1T (R : VP) (A6 : Option Addr) (n6 c6 : Nat) (A25 : Option Addr) (n25 c25 : Nat) (x26 x27 : Int) (h : Heap) : Prop :=
  splitB (decide (x27 < x26)) (ptrOk A25 fun a1_ => 0 ≤ x27 ∧ x27 < ((n25 : Nat) : Int) ∧ (∃ v2_, ldv false 1 h (Addr.add a1_ (Int.toNat x27 * 1)) = some v2_ ∧ ∃ A3_, ∃ n3_, ∃ c3_, v2_ = (Value.slice A3_ n3_ c3_) ∧ AppW 32 3 48 #[(Value.int .i64 (0 : Int)), (Value.string (ByteArray.mk #[])), (Value.slice none 0 0)] A6 n6 c6 (Value.slice A3_ n3_ c3_) h fun v4_ h5_ => ∃ A6_, ∃ n6_, ∃ c6_, v4_ = (Value.slice A6_ n6_ c6_) ∧ f47.l1 R A6_ n6_ c6_ A25 n25 c25 x26 (IntKind.wrap .i64 (x27 + (1 : Int))) h5_)) (R (Value.slice A6 n6 c6) h)
theorem f47.l1_in {R A6 n6 c6 A25 n25 c25 x26 x27 h} (H : f47.l1T R A6 n6 c6 A25 n25 c25 x26 x27 h) : f47.l1 R A6 n6 c6 A25 n25 c25 x26 x27 h := pt_in (kp := f47.kp) mixed f47.good (by kernel_rfl) H
def f47.runT (R : VP) (A0 : Option Addr) (n0 c0 : Nat) (h : Heap) : Prop :=
  f47.l0 R A0 n0 c0 (0 : Int) A0 n0 c0 ((n0 : Nat) : Int) (0 : Int) h
theorem f47.run {R : VP} {A0 : Option Addr} {n0 c0 : Nat} {h : Heap} (H : f47.runT R A0 n0 c0 h) : Run Tryd.prog 47 #[(Value.slice A0 n0 c0)] h R := run_in (kp := f47.kp) mixed Tryd.func47 (by kernel_rfl) (by kernel_rfl) f47.good (by kernel_rfl) H
def f48.T : Tab := { sh := tSh, tup := tTup, keep := [], plan := [(8, (.take 0 (.take 3 (.take 4 (.take 1 (.take 2 (.eff false true [] 5 (.eff false true [] 6 (.eff false false [] 7 (.take 8 (.eff false false [] 9 .done)))))))))))] }
def f48.kp : Keep := [([true, false, true, true], [1, 2, 3, 6, 7, 27]), ([true, true, true], [1, 2, 3, 6]), ([false, false, true, false, true, true, true, true], [1, 2, 6, 8, 39, 40, 41])]
theorem f48.good : goodCode Tryd.prog f48.T (rootOf Tryd.f48) = true := by kernel_rfl
def f48.j1 (R A1 n1 c1 A2 n2 c2 a3 a6 x7 b27 h) := Pt Tryd.prog Tryd.f48 R [true, false, true, true] (mkFr [(1, (Value.slice A1 n1 c1)), (2, (Value.slice A2 n2 c2)), (3, (Value.pointer (some a3))), (6, (Value.pointer (some a6))), (7, (Value.int .i64 x7)), (27, (Value.bool b27))]) h
def f48.j0 (R A1 n1 c1 A2 n2 c2 a3 a6 h) := Pt Tryd.prog Tryd.f48 R [true, true, true] (mkFr [(1, (Value.slice A1 n1 c1)), (2, (Value.slice A2 n2 c2)), (3, (Value.pointer (some a3))), (6, (Value.pointer (some a6)))]) h
def f48.l0 (R A1 n1 c1 A2 n2 c2 a6 a8 A39 n39 c39 x40 x41 h) := Pt Tryd.prog Tryd.f48 R [false, false, true, false, true, true, true, true] (mkFr [(1, (Value.slice A1 n1 c1)), (2, (Value.slice A2 n2 c2)), (6, (Value.pointer (some a6))), (8, (Value.pointer (some a8))), (39, (Value.slice A39 n39 c39)), (40, (Value.int .i64 x40)), (41, (Value.int .i64 x41))]) h
def f48.j1T (R : VP) (A1 : Option Addr) (n1 c1 : Nat) (A2 : Option Addr) (n2 c2 : Nat) (a3 a6 : Addr) (x7 : Int) (b27 : Bool) (h : Heap) : Prop :=
  splitB b27 (ptrOk A2 fun a1_ => 0 ≤ x7 ∧ x7 < ((n2 : Nat) : Int) ∧ (∃ v2_, ldv true 3 h (Addr.add a1_ (Int.toNat x7 * 3)) = some v2_ ∧ Run Tryd.prog 48 #[v2_, (Value.slice none 0 0), (Value.slice none 0 0)] h fun v3_ h4_ => ∃ l6_ : List Value, v3_ = Value.agg l6_.toArray ∧ l6_.length = 3 ∧ ∃ h5_, stH h4_ a6 l6_ 0 = some h5_ ∧ ∃ v7_, ldv true 3 h5_ a6 = some v7_ ∧ R v7_ h5_)) (f48.j0 R A1 n1 c1 A2 n2 c2 a3 a6 h)
theorem f48.j1_in {R A1 n1 c1 A2 n2 c2 a3 a6 x7 b27 h} (H : f48.j1T R A1 n1 c1 A2 n2 c2 a3 a6 x7 b27 h) : f48.j1 R A1 n1 c1 A2 n2 c2 a3 a6 x7 b27 h := pt_in (kp := f48.kp) mixed f48.good (by kernel_rfl) H
def f48.j0T (R : VP) (A1 : Option Addr) (n1 c1 : Nat) (A2 : Option Addr) (n2 c2 : Nat) (a3 a6 : Addr) (h : Heap) : Prop :=
  ∃ v1_, ldv false 1 h a3 = some v1_ ∧ ∃ x2_, v1_ = (Value.int .i64 x2_) ∧ ∃ v3_, ldv false 1 h (Addr.add a3 1) = some v3_ ∧ ∃ s4_, v3_ = (Value.string s4_) ∧ newH h (Obj.cells #[(Value.int .i64 (0 : Int)), (Value.string (ByteArray.mk #[])), (Value.slice none 0 0)] 32) fun h5_ => ∃ l7_ : List Value, (Value.agg #[(Value.int .i64 x2_), (Value.string s4_), (Value.slice none 0 0)]) = Value.agg l7_.toArray ∧ l7_.length = 3 ∧ ∃ h6_, stH h5_ (⟨Array.size h, 0, none⟩) l7_ 0 = some h6_ ∧ ∃ v8_, ldv false 1 h6_ (Addr.add a3 2) = some v8_ ∧ ∃ A9_, ∃ n9_, ∃ c9_, v8_ = (Value.slice A9_ n9_ c9_) ∧ f48.l0 R A1 n1 c1 A2 n2 c2 a6 (⟨Array.size h, 0, none⟩) A9_ n9_ c9_ ((n9_ : Nat) : Int) (0 : Int) h6_
theorem f48.j0_in {R A1 n1 c1 A2 n2 c2 a3 a6 h} (H : f48.j0T R A1 n1 c1 A2 n2 c2 a3 a6 h) : f48.j0 R A1 n1 c1 A2 n2 c2 a3 a6 h := pt_in (kp := f48.kp) mixed f48.good (by kernel_rfl) H
def f48.l0T (R : VP) (A1 : Option Addr) (n1 c1 : Nat) (A2 : Option Addr) (n2 c2 : Nat) (a6 a8 : Addr) (A39 : Option Addr) (n39 c39 : Nat) (x40 x41 : Int) (h : Heap) : Prop :=
  splitB (decide (x41 < x40)) (ptrOk A39 fun a1_ => 0 ≤ x41 ∧ x41 < ((n39 : Nat) : Int) ∧ (∃ v2_, ldv true 3 h (Addr.add a1_ (Int.toNat x41 * 3)) = some v2_ ∧ newH h (Obj.cells #[(Value.int .i64 (0 : Int)), (Value.string (ByteArray.mk #[])), (Value.slice none 0 0)] 32) fun h3_ => ∃ l5_ : List Value, v2_ = Value.agg l5_.toArray ∧ l5_.length = 3 ∧ ∃ h4_, stH h3_ (⟨Array.size h, 0, none⟩) l5_ 0 = some h4_ ∧ ∃ v6_, ldv false 1 h4_ (Addr.add a8 2) = some v6_ ∧ ∃ A7_, ∃ n7_, ∃ c7_, v6_ = (Value.slice A7_ n7_ c7_) ∧ ∃ v8_, ldv true 3 h4_ (⟨Array.size h, 0, none⟩) = some v8_ ∧ Run Tryd.prog 48 #[v8_, (Value.slice A1 n1 c1), (Value.slice A2 n2 c2)] h4_ fun v9_ h10_ => Ext h4_ h10_ ∧ (∃ l11_ : List Value, v9_ = Value.agg l11_.toArray ∧ l11_.length = 3 ∧ (newH h10_ (Obj.cells ((List.take 0 ([(Value.int .i64 (0 : Int)), (Value.string (ByteArray.mk #[])), (Value.slice none 0 0)]) ++ l11_ ++ List.drop 3 ([(Value.int .i64 (0 : Int)), (Value.string (ByteArray.mk #[])), (Value.slice none 0 0)])).toArray) 32) fun h12_ => Ext h4_ h12_ ∧ (AppW 32 3 48 #[(Value.int .i64 (0 : Int)), (Value.string (ByteArray.mk #[])), (Value.slice none 0 0)] A7_ n7_ c7_ (Value.slice (some ⟨Array.size h10_, 0, none⟩) 1 1) h12_ fun v13_ h14_ => ∃ A15_, ∃ n15_, ∃ c15_, v13_ = (Value.slice A15_ n15_ c15_) ∧ ∃ h16_, st1 h14_ (Addr.add a8 2) (Value.slice A15_ n15_ c15_) = some h16_ ∧ f48.l0 R A1 n1 c1 A2 n2 c2 a6 a8 A39 n39 c39 x40 (IntKind.wrap .i64 (x41 + (1 : Int))) h16_))))) (∃ v17_, ldv true 3 h a8 = some v17_ ∧ ∃ l19_ : List Value, v17_ = Value.agg l19_.toArray ∧ l19_.length = 3 ∧ ∃ h18_, stH h a6 l19_ 0 = some h18_ ∧ ∃ v20_, ldv true 3 h18_ a6 = some v20_ ∧ R v20_ h18_)
theorem f48.l0_in {R A1 n1 c1 A2 n2 c2 a6 a8 A39 n39 c39 x40 x41 h} (H : f48.l0T R A1 n1 c1 A2 n2 c2 a6 a8 A39 n39 c39 x40 x41 h) : f48.l0 R A1 n1 c1 A2 n2 c2 a6 a8 A39 n39 c39 x40 x41 h := pt_in (kp := f48.kp) mixed f48.good (by kernel_rfl) H
def f48.runT (R : VP) (v0 : Value) (A1 : Option Addr) (n1 c1 : Nat) (A2 : Option Addr) (n2 c2 : Nat) (h : Heap) : Prop :=
  newH h (Obj.cells ((v0).cells) 32) fun h1_ => newH h1_ (Obj.cells #[(Value.int .i64 (0 : Int)), (Value.string (ByteArray.mk #[])), (Value.slice none 0 0)] 32) fun h2_ => ∃ v3_, ldv false 1 h2_ (Addr.add (⟨Array.size h, 0, none⟩) 1) = some v3_ ∧ ∃ s4_, v3_ = (Value.string s4_) ∧ Run Tryd.prog 53 #[(Value.slice A1 n1 c1), (Value.string s4_)] h2_ fun v5_ h6_ => ∃ x7_, v5_ = (Value.int .i64 x7_) ∧ ∃ v8_, ldv false 1 h6_ (⟨Array.size h, 0, none⟩) = some v8_ ∧ ∃ x9_, v8_ = (Value.int .i64 x9_) ∧ splitB (x9_ == (5 : Int)) (splitB (decide (x7_ ≥ (0 : Int))) (f48.j1 R A1 n1 c1 A2 n2 c2 (⟨Array.size h, 0, none⟩) (⟨Array.size h1_, 0, none⟩) x7_ (decide (x7_ < ((n2 : Nat) : Int))) h6_) (f48.j1 R A1 n1 c1 A2 n2 c2 (⟨Array.size h, 0, none⟩) (⟨Array.size h1_, 0, none⟩) x7_ false h6_)) (f48.j1 R A1 n1 c1 A2 n2 c2 (⟨Array.size h, 0, none⟩) (⟨Array.size h1_, 0, none⟩) x7_ false h6_)
theorem f48.run {R : VP} {v0 : Value} {A1 : Option Addr} {n1 c1 : Nat} {A2 : Option Addr} {n2 c2 : Nat} {h : Heap} (H : f48.runT R v0 A1 n1 c1 A2 n2 c2 h) : Run Tryd.prog 48 #[v0, (Value.slice A1 n1 c1), (Value.slice A2 n2 c2)] h R := run_in (kp := f48.kp) mixed Tryd.func48 (by kernel_rfl) (by kernel_rfl) f48.good (by kernel_rfl) H
def f76.T : Tab := { sh := tSh, tup := tTup, keep := [], plan := [] }
def f76.kp : Keep := [([false, false, true, false, true, true], [3, 6, 7, 8])]
theorem f76.good : goodCode Tryd.prog f76.T (rootOf Tryd.f76) = true := by kernel_rfl
def f76.l0 (R s3 A6 n6 c6 x7 x8 h) := Pt Tryd.prog Tryd.f76 R [false, false, true, false, true, true] (mkFr [(3, (Value.string s3)), (6, (Value.slice A6 n6 c6)), (7, (Value.int .i64 x7)), (8, (Value.int .i64 x8))]) h
def f76.l0T (R : VP) (s3 : ByteArray) (A6 : Option Addr) (n6 c6 : Nat) (x7 x8 : Int) (h : Heap) : Prop :=
  splitB (decide (x8 < x7)) (ptrOk A6 fun a1_ => 0 ≤ x8 ∧ x8 < ((n6 : Nat) : Int) ∧ (∃ v2_, ldv false 1 h (Addr.add a1_ (Int.toNat x8 * 1)) = some v2_ ∧ ∃ x3_, v2_ = (Value.int .i64 x3_) ∧ Run Tryd.prog 88 #[(Value.int .i64 x3_)] h fun v4_ h5_ => ∃ s6_, v4_ = (Value.string s6_) ∧ ByteArray.size s6_ + ByteArray.size (ByteArray.mk #[44]) ≤ 9223372036854775807 ∧ (ByteArray.size s3 + ByteArray.size (s6_ ++ (ByteArray.mk #[44])) ≤ 9223372036854775807 ∧ (f76.l0 R (s3 ++ (s6_ ++ (ByteArray.mk #[44]))) A6 n6 c6 x7 (IntKind.wrap .i64 (x8 + (1 : Int))) h5_)))) (R (Value.string s3) h)
theorem f76.l0_in {R s3 A6 n6 c6 x7 x8 h} (H : f76.l0T R s3 A6 n6 c6 x7 x8 h) : f76.l0 R s3 A6 n6 c6 x7 x8 h := pt_in (kp := f76.kp) mixed f76.good (by kernel_rfl) H
def f76.runT (R : VP) (A0 : Option Addr) (n0 c0 : Nat) (h : Heap) : Prop :=
  f76.l0 R (ByteArray.mk #[]) A0 n0 c0 ((n0 : Nat) : Int) (0 : Int) h
theorem f76.run {R : VP} {A0 : Option Addr} {n0 c0 : Nat} {h : Heap} (H : f76.runT R A0 n0 c0 h) : Run Tryd.prog 76 #[(Value.slice A0 n0 c0)] h R := run_in (kp := f76.kp) mixed Tryd.func76 (by kernel_rfl) (by kernel_rfl) f76.good (by kernel_rfl) H
def f89.T : Tab := { sh := tSh, tup := tTup, keep := [], plan := [] }
def f89.kp : Keep := [([false, false, true, false, true, true], [3, 6, 7, 8])]
theorem f89.good : goodCode Tryd.prog f89.T (rootOf Tryd.f89) = true := by kernel_rfl
def f89.l0 (R s3 A6 n6 c6 x7 x8 h) := Pt Tryd.prog Tryd.f89 R [false, false, true, false, true, true] (mkFr [(3, (Value.string s3)), (6, (Value.slice A6 n6 c6)), (7, (Value.int .i64 x7)), (8, (Value.int .i64 x8))]) h
def f89.l0T (R : VP) (s3 : ByteArray) (A6 : Option Addr) (n6 c6 : Nat) (x7 x8 : Int) (h : Heap) : Prop :=
  splitB (decide (x8 < x7)) (ptrOk A6 fun a1_ => 0 ≤ x8 ∧ x8 < ((n6 : Nat) : Int) ∧ (∃ v2_, ldv false 1 h (Addr.add a1_ (Int.toNat x8 * 1)) = some v2_ ∧ ∃ s3_, v2_ = (Value.string s3_) ∧ newH h (Obj.cells #[(Value.int .i64 ((ByteArray.size s3_ : Nat) : Int))] 3) fun h4_ => Run Tryd.prog 76 #[(Value.slice (some ⟨Array.size h, 0, none⟩) 1 1)] h4_ fun v5_ h6_ => ∃ s7_, v5_ = (Value.string s7_) ∧ ByteArray.size s7_ + ByteArray.size s3_ ≤ 9223372036854775807 ∧ (ByteArray.size s3 + ByteArray.size (s7_ ++ s3_) ≤ 9223372036854775807 ∧ (f89.l0 R (s3 ++ (s7_ ++ s3_)) A6 n6 c6 x7 (IntKind.wrap .i64 (x8 + (1 : Int))) h6_)))) (R (Value.string s3) h)
theorem f89.l0_in {R s3 A6 n6 c6 x7 x8 h} (H : f89.l0T R s3 A6 n6 c6 x7 x8 h) : f89.l0 R s3 A6 n6 c6 x7 x8 h := pt_in (kp := f89.kp) mixed f89.good (by kernel_rfl) H
def f89.runT (R : VP) (A0 : Option Addr) (n0 c0 : Nat) (h : Heap) : Prop :=
  f89.l0 R (ByteArray.mk #[]) A0 n0 c0 ((n0 : Nat) : Int) (0 : Int) h
theorem f89.run {R : VP} {A0 : Option Addr} {n0 c0 : Nat} {h : Heap} (H : f89.runT R A0 n0 c0 h) : Run Tryd.prog 89 #[(Value.slice A0 n0 c0)] h R := run_in (kp := f89.kp) mixed Tryd.func89 (by kernel_rfl) (by kernel_rfl) f89.good (by kernel_rfl) H
def f77.T : Tab := { sh := tSh, tup := tTup, keep := [], plan := [(1, (.take 0 (.take 2 (.take 7 (.take 1 (.take 3 (.take 4 (.frame 8 (.alt false false [8] 5 (.alt false false [8] 6 (.eff false true [] 9 (.eff false false [] 10 (.take 11 (.take 12 .done)))) (.eff false true [] 9 (.eff false false [8] 6 (.eff false false [] 10 (.take 11 (.take 12 .done)))))) (.eff false true [] 9 (.eff false false [8] 5 (.eff false false [8] 6 (.eff false false [] 10 (.take 11 (.take 12 .done)))))))))))))))] }
def f77.kp : Keep := [([true, true], [1, 3]), ([false, false, true, false, true, true], [3, 19, 20, 21])]
theorem f77.good : goodCode Tryd.prog f77.T (rootOf Tryd.f77) = true := by kernel_rfl
def f77.j0 (R a1 s3 h) := Pt Tryd.prog Tryd.f77 R [true, true] (mkFr [(1, (Value.pointer (some a1))), (3, (Value.string s3))]) h
def f77.l0 (R s3 A19 n19 c19 x20 x21 h) := Pt Tryd.prog Tryd.f77 R [false, false, true, false, true, true] (mkFr [(3, (Value.string s3)), (19, (Value.slice A19 n19 c19)), (20, (Value.int .i64 x20)), (21, (Value.int .i64 x21))]) h
def f77.j0T (R : VP) (a1 : Addr) (s3 : ByteArray) (h : Heap) : Prop :=
  ∃ v1_, ldv false 1 h (Addr.add a1 2) = some v1_ ∧ ∃ A2_, ∃ n2_, ∃ c2_, v1_ = (Value.slice A2_ n2_ c2_) ∧ f77.l0 R s3 A2_ n2_ c2_ ((n2_ : Nat) : Int) (0 : Int) h
theorem f77.j0_in {R a1 s3 h} (H : f77.j0T R a1 s3 h) : f77.j0 R a1 s3 h := pt_in (kp := f77.kp) mixed f77.good (by kernel_rfl) H
def f77.l0T (R : VP) (s3 : ByteArray) (A19 : Option Addr) (n19 c19 : Nat) (x20 x21 : Int) (h : Heap) : Prop :=
  splitB (decide (x21 < x20)) (ptrOk A19 fun a1_ => 0 ≤ x21 ∧ x21 < ((n19 : Nat) : Int) ∧ (∃ v2_, ldv true 3 h (Addr.add a1_ (Int.toNat x21 * 3)) = some v2_ ∧ newH h (Obj.cells #[(Value.int .i64 (0 : Int)), (Value.string (ByteArray.mk #[])), (Value.slice none 0 0)] 32) fun h3_ => ∃ l5_ : List Value, v2_ = Value.agg l5_.toArray ∧ l5_.length = 3 ∧ ∃ h4_, stH h3_ (⟨Array.size h, 0, none⟩) l5_ 0 = some h4_ ∧ ∃ v6_, ldv true 3 h4_ (⟨Array.size h, 0, none⟩) = some v6_ ∧ Run Tryd.prog 77 #[v6_] h4_ fun v7_ h8_ => ∃ s9_, v7_ = (Value.string s9_) ∧ ByteArray.size s3 + ByteArray.size s9_ ≤ 9223372036854775807 ∧ (f77.l0 R (s3 ++ s9_) A19 n19 c19 x20 (IntKind.wrap .i64 (x21 + (1 : Int))) h8_))) (R (Value.string s3) h)
theorem f77.l0_in {R s3 A19 n19 c19 x20 x21 h} (H : f77.l0T R s3 A19 n19 c19 x20 x21 h) : f77.l0 R s3 A19 n19 c19 x20 x21 h := pt_in (kp := f77.kp) mixed f77.good (by kernel_rfl) H
def f77.runT (R : VP) (v0 : Value) (h : Heap) : Prop :=
  newH h (Obj.cells ((v0).cells) 32) fun h1_ => ∃ v2_, ldv false 1 h1_ (⟨Array.size h, 0, none⟩) = some v2_ ∧ ∃ x3_, v2_ = (Value.int .i64 x3_) ∧ ∃ v4_, ldv false 1 h1_ (Addr.add (⟨Array.size h, 0, none⟩) 2) = some v4_ ∧ ∃ A5_, ∃ n5_, ∃ c5_, v4_ = (Value.slice A5_ n5_ c5_) ∧ ∃ v6_, ldv false 1 h1_ (Addr.add (⟨Array.size h, 0, none⟩) 1) = some v6_ ∧ ∃ s7_, v6_ = (Value.string s7_) ∧ (newH h1_ (Obj.cells #[(Value.int .i64 x3_), (Value.int .i64 ((n5_ : Nat) : Int))] 3) fun h8_ => ldv false 1 h8_ (Addr.add (⟨Array.size h, 0, none⟩) 1) = some v6_ ∧ ((Run Tryd.prog 76 #[(Value.slice (some ⟨Array.size h1_, 0, none⟩) 2 2)] h8_ fun v9_ h10_ => ∃ s11_, v9_ = (Value.string s11_) ∧ ldv false 1 h10_ (Addr.add (⟨Array.size h, 0, none⟩) 1) = some v6_ ∧ (newH h10_ (Obj.cells #[(Value.string s7_)] 9) fun h12_ => Ext h1_ h12_ ∧ (Run Tryd.prog 89 #[(Value.slice (some ⟨Array.size h10_, 0, none⟩) 1 1)] h12_ fun v13_ h14_ => ∃ s15_, v13_ = (Value.string s15_) ∧ ByteArray.size s11_ + ByteArray.size s15_ ≤ 9223372036854775807 ∧ (f77.j0 R (⟨Array.size h, 0, none⟩) (s11_ ++ s15_) h14_)))) ∧ (newH h8_ (Obj.cells #[(Value.string s7_)] 9) fun h16_ => Ext h1_ h16_ ∧ (Run Tryd.prog 76 #[(Value.slice (some ⟨Array.size h1_, 0, none⟩) 2 2)] h16_ fun v17_ h18_ => ∃ s19_, v17_ = (Value.string s19_) ∧ ldv false 1 h18_ (Addr.add (⟨Array.size h, 0, none⟩) 1) = some v6_ ∧ (Run Tryd.prog 89 #[(Value.slice (some ⟨Array.size h8_, 0, none⟩) 1 1)] h18_ fun v20_ h21_ => ∃ s22_, v20_ = (Value.string s22_) ∧ ByteArray.size s19_ + ByteArray.size s22_ ≤ 9223372036854775807 ∧ (f77.j0 R (⟨Array.size h, 0, none⟩) (s19_ ++ s22_) h21_)))))) ∧ (newH h1_ (Obj.cells #[(Value.string s7_)] 9) fun h23_ => Ext h1_ h23_ ∧ (newH h23_ (Obj.cells #[(Value.int .i64 x3_), (Value.int .i64 ((n5_ : Nat) : Int))] 3) fun h24_ => ldv false 1 h24_ (Addr.add (⟨Array.size h, 0, none⟩) 1) = some v6_ ∧ (Run Tryd.prog 76 #[(Value.slice (some ⟨Array.size h23_, 0, none⟩) 2 2)] h24_ fun v25_ h26_ => ∃ s27_, v25_ = (Value.string s27_) ∧ ldv false 1 h26_ (Addr.add (⟨Array.size h, 0, none⟩) 1) = some v6_ ∧ (Run Tryd.prog 89 #[(Value.slice (some ⟨Array.size h1_, 0, none⟩) 1 1)] h26_ fun v28_ h29_ => ∃ s30_, v28_ = (Value.string s30_) ∧ ByteArray.size s27_ + ByteArray.size s30_ ≤ 9223372036854775807 ∧ (f77.j0 R (⟨Array.size h, 0, none⟩) (s27_ ++ s30_) h29_)))))
theorem f77.run {R : VP} {v0 : Value} {h : Heap} (H : f77.runT R v0 h) : Run Tryd.prog 77 #[v0] h R := run_in (kp := f77.kp) mixed Tryd.func77 (by kernel_rfl) (by kernel_rfl) f77.good (by kernel_rfl) H
def f49.T : Tab := { sh := tSh, tup := tTup, keep := [], plan := [] }
def f49.kp : Keep := [([false, false, true, false, true, true], [3, 10, 11, 12])]
theorem f49.good : goodCode Tryd.prog f49.T (rootOf Tryd.f49) = true := by kernel_rfl
def f49.l0 (R s3 A10 n10 c10 x11 x12 h) := Pt Tryd.prog Tryd.f49 R [false, false, true, false, true, true] (mkFr [(3, (Value.string s3)), (10, (Value.slice A10 n10 c10)), (11, (Value.int .i64 x11)), (12, (Value.int .i64 x12))]) h
def f49.l0T (R : VP) (s3 : ByteArray) (A10 : Option Addr) (n10 c10 : Nat) (x11 x12 : Int) (h : Heap) : Prop :=
  splitB (decide (x12 < x11)) (ptrOk A10 fun a1_ => 0 ≤ x12 ∧ x12 < ((n10 : Nat) : Int) ∧ (∃ v2_, ldv true 3 h (Addr.add a1_ (Int.toNat x12 * 3)) = some v2_ ∧ newH h (Obj.cells #[(Value.int .i64 (0 : Int)), (Value.string (ByteArray.mk #[])), (Value.slice none 0 0)] 32) fun h3_ => ∃ l5_ : List Value, v2_ = Value.agg l5_.toArray ∧ l5_.length = 3 ∧ ∃ h4_, stH h3_ (⟨Array.size h, 0, none⟩) l5_ 0 = some h4_ ∧ ∃ v6_, ldv true 3 h4_ (⟨Array.size h, 0, none⟩) = some v6_ ∧ Run Tryd.prog 77 #[v6_] h4_ fun v7_ h8_ => ∃ s9_, v7_ = (Value.string s9_) ∧ ByteArray.size s3 + ByteArray.size s9_ ≤ 9223372036854775807 ∧ (f49.l0 R (s3 ++ s9_) A10 n10 c10 x11 (IntKind.wrap .i64 (x12 + (1 : Int))) h8_))) (R (Value.string s3) h)
theorem f49.l0_in {R s3 A10 n10 c10 x11 x12 h} (H : f49.l0T R s3 A10 n10 c10 x11 x12 h) : f49.l0 R s3 A10 n10 c10 x11 x12 h := pt_in (kp := f49.kp) mixed f49.good (by kernel_rfl) H
def f49.runT (R : VP) (A0 : Option Addr) (n0 c0 : Nat) (h : Heap) : Prop :=
  newH h (Obj.cells #[(Value.int .i64 ((n0 : Nat) : Int))] 3) fun h1_ => Run Tryd.prog 76 #[(Value.slice (some ⟨Array.size h, 0, none⟩) 1 1)] h1_ fun v2_ h3_ => ∃ s4_, v2_ = (Value.string s4_) ∧ f49.l0 R s4_ A0 n0 c0 ((n0 : Nat) : Int) (0 : Int) h3_
theorem f49.run {R : VP} {A0 : Option Addr} {n0 c0 : Nat} {h : Heap} (H : f49.runT R A0 n0 c0 h) : Run Tryd.prog 49 #[(Value.slice A0 n0 c0)] h R := run_in (kp := f49.kp) mixed Tryd.func49 (by kernel_rfl) (by kernel_rfl) f49.good (by kernel_rfl) H
def f18.T : Tab := { sh := tSh, tup := tTup, keep := [], plan := [(1, (.take 0 (.take 3 (.take 1 (.take 2 (.take 4 (.take 5 (.take 6 (.take 7 (.split 7 (.take 8 (.take 9 (.take 10 (.take 11 (.take 12 (.take 13 (.split 13 (.take 14 (.take 19 (.take 15 (.take 16 (.take 17 (.take 20 (.eff false true [] 18 (.take 21 (.take 22 .done)))))))))))))))))))))))))), (11, (.take 0 (.take 2 (.take 3 (.take 1 (.take 4 (.eff false true [] 5 (.eff false true [] 6 (.eff false false [] 7 (.take 8 (.take 9 (.split 9 (.take 10 (.take 11 (.eff false false [] 12 (.take 13 .done)))))))))))))))), (17, (.take 0 (.take 3 (.take 1 (.take 4 (.take 5 (.eff false true [] 2 (.eff false false [] 6 (.eff false false [] 7 (.eff false false [] 8 (.take 9 .done)))))))))))] }
def f18.kp : Keep := [([true, true], [4, 5]), ([false, false, true, false, true, true, true], [4, 5, 7, 40, 41, 42]), ([true, true, true, true, true], [4, 5]), ([false, false, true, false, true, true, true, true, true, true], [4, 10, 75, 76, 77])]
theorem f18.good : goodCode Tryd.prog f18.T (rootOf Tryd.f18) = true := by kernel_rfl
def f18.j0 (R a4 a5 h) := Pt Tryd.prog Tryd.f18 R [true, true] (mkFr [(4, (Value.pointer (some a4))), (5, (Value.pointer (some a5)))]) h
def f18.l0 (R a4 a5 A7 n7 c7 A40 n40 c40 x41 x42 h) := Pt Tryd.prog Tryd.f18 R [false, false, true, false, true, true, true] (mkFr [(4, (Value.pointer (some a4))), (5, (Value.pointer (some a5))), (7, (Value.slice A7 n7 c7)), (40, (Value.slice A40 n40 c40)), (41, (Value.int .i64 x41)), (42, (Value.int .i64 x42))]) h
def f18.j1 (R a4 a5 h) := Pt Tryd.prog Tryd.f18 R [true, true, true, true, true] (mkFr [(4, (Value.pointer (some a4))), (5, (Value.pointer (some a5)))]) h
def f18.l1 (R a4 A10 n10 c10 A75 n75 c75 x76 x77 h) := Pt Tryd.prog Tryd.f18 R [false, false, true, false, true, true, true, true, true, true] (mkFr [(4, (Value.pointer (some a4))), (10, (Value.slice A10 n10 c10)), (75, (Value.slice A75 n75 c75)), (76, (Value.int .i64 x76)), (77, (Value.int .i64 x77))]) h
def f18.j0T (R : VP) (a4 a5 : Addr) (h : Heap) : Prop :=
  ∃ v1_, ldv false 1 h (Addr.add a4 3) = some v1_ ∧ ∃ A2_, ∃ n2_, ∃ c2_, v1_ = (Value.slice A2_ n2_ c2_) ∧ ptrOk A2_ fun a3_ => 0 ≤ (0 : Int) ∧ (0 : Int) < ((n2_ : Nat) : Int) ∧ (∃ v4_, ldv false 1 h (Addr.add (Addr.add a3_ (Int.toNat (0 : Int) * 3)) 2) = some v4_ ∧ ∃ A5_, ∃ n5_, ∃ c5_, v4_ = (Value.slice A5_ n5_ c5_) ∧ f18.l0 R a4 a5 none 0 0 A5_ n5_ c5_ ((n5_ : Nat) : Int) (0 : Int) h)
theorem f18.j0_in {R a4 a5 h} (H : f18.j0T R a4 a5 h) : f18.j0 R a4 a5 h := pt_in (kp := f18.kp) mixed f18.good (by kernel_rfl) H
def f18.l0T (R : VP) (a4 a5 : Addr) (A7 : Option Addr) (n7 c7 : Nat) (A40 : Option Addr) (n40 c40 : Nat) (x41 x42 : Int) (h : Heap) : Prop :=
  splitB (decide (x42 < x41)) (ptrOk A40 fun a1_ => 0 ≤ x42 ∧ x42 < ((n40 : Nat) : Int) ∧ (∃ v2_, ldv true 3 h (Addr.add a1_ (Int.toNat x42 * 3)) = some v2_ ∧ newH h (Obj.cells #[(Value.int .i64 (0 : Int)), (Value.string (ByteArray.mk #[])), (Value.slice none 0 0)] 32) fun h3_ => ∃ l5_ : List Value, v2_ = Value.agg l5_.toArray ∧ l5_.length = 3 ∧ ∃ h4_, stH h3_ (⟨Array.size h, 0, none⟩) l5_ 0 = some h4_ ∧ ∃ v6_, ldv false 1 h4_ (⟨Array.size h, 0, none⟩) = some v6_ ∧ ∃ x7_, v6_ = (Value.int .i64 x7_) ∧ splitB (x7_ != (5 : Int)) (R (Value.int .i64 (12 : Int)) h4_) (∃ v8_, ldv false 1 h4_ (Addr.add (⟨Array.size h, 0, none⟩) 1) = some v8_ ∧ ∃ s9_, v8_ = (Value.string s9_) ∧ newH h4_ (Obj.cells #[(Value.string s9_)] 9) fun h10_ => AppW 9 1 16 #[(Value.string (ByteArray.mk #[]))] A7 n7 c7 (Value.slice (some ⟨Array.size h4_, 0, none⟩) 1 1) h10_ fun v11_ h12_ => ∃ A13_, ∃ n13_, ∃ c13_, v11_ = (Value.slice A13_ n13_ c13_) ∧ f18.l0 R a4 a5 A13_ n13_ c13_ A40 n40 c40 x41 (IntKind.wrap .i64 (x42 + (1 : Int))) h12_))) (∃ v14_, ldv false 1 h (Addr.add a4 1) = some v14_ ∧ ∃ A15_, ∃ n15_, ∃ c15_, v14_ = (Value.slice A15_ n15_ c15_) ∧ ∃ v16_, ldv false 1 h (Addr.add a5 1) = some v16_ ∧ ∃ A17_, ∃ n17_, ∃ c17_, v16_ = (Value.slice A17_ n17_ c17_) ∧ newH h (Obj.cells #[(Value.slice A7 n7 c7), (Value.slice A17_ n17_ c17_)] 50) fun h18_ => Ext h h18_ ∧ (Run Tryd.prog 46 #[(Value.slice (some ⟨Array.size h, 0, none⟩) 2 2)] h18_ fun v19_ h20_ => ∃ A21_, ∃ n21_, ∃ c21_, v19_ = (Value.slice A21_ n21_ c21_) ∧ Ext h h20_ ∧ (Run Tryd.prog 32 #[(Value.slice A15_ n15_ c15_), (Value.slice A21_ n21_ c21_)] h20_ fun v22_ h23_ => ∃ b24_, v22_ = (Value.bool b24_) ∧ splitB (!b24_) (R (Value.int .i64 (12 : Int)) h23_) (∃ v25_, ldv false 1 h23_ (Addr.add a4 1) = some v25_ ∧ ∃ A26_, ∃ n26_, ∃ c26_, v25_ = (Value.slice A26_ n26_ c26_) ∧ Run Tryd.prog 43 #[(Value.slice A26_ n26_ c26_)] h23_ fun v27_ h28_ => ∃ b29_, v27_ = (Value.bool b29_) ∧ splitB b29_ (R (Value.int .i64 (12 : Int)) h28_) (f18.j1 R a4 a5 h28_)))))
theorem f18.l0_in {R a4 a5 A7 n7 c7 A40 n40 c40 x41 x42 h} (H : f18.l0T R a4 a5 A7 n7 c7 A40 n40 c40 x41 x42 h) : f18.l0 R a4 a5 A7 n7 c7 A40 n40 c40 x41 x42 h := pt_in (kp := f18.kp) mixed f18.good (by kernel_rfl) H
def f18.j1T (R : VP) (a4 a5 : Addr) (h : Heap) : Prop :=
  ∃ v1_, ldv false 1 h (Addr.add a5 3) = some v1_ ∧ ∃ A2_, ∃ n2_, ∃ c2_, v1_ = (Value.slice A2_ n2_ c2_) ∧ ∃ v3_, ldv true 3 h (Addr.add a5 4) = some v3_ ∧ ∃ l4_ : List Value, v3_ = Value.agg l4_.toArray ∧ l4_.length = 3 ∧ (newH h (Obj.cells ((List.take 0 ([(Value.int .i64 (0 : Int)), (Value.string (ByteArray.mk #[])), (Value.slice none 0 0)]) ++ l4_ ++ List.drop 3 ([(Value.int .i64 (0 : Int)), (Value.string (ByteArray.mk #[])), (Value.slice none 0 0)])).toArray) 32) fun h5_ => newH h5_ (Obj.cells #[(Value.slice A2_ n2_ c2_), (Value.slice (some ⟨Array.size h, 0, none⟩) 1 1)] 30) fun h6_ => Run Tryd.prog 47 #[(Value.slice (some ⟨Array.size h5_, 0, none⟩) 2 2)] h6_ fun v7_ h8_ => ∃ A9_, ∃ n9_, ∃ c9_, v7_ = (Value.slice A9_ n9_ c9_) ∧ f18.l1 R a4 none 0 0 A9_ n9_ c9_ ((n9_ : Nat) : Int) (0 : Int) h8_)
theorem f18.j1_in {R a4 a5 h} (H : f18.j1T R a4 a5 h) : f18.j1 R a4 a5 h := pt_in (kp := f18.kp) mixed f18.good (by kernel_rfl) H
def f18.l1T (R : VP) (a4 : Addr) (A10 : Option Addr) (n10 c10 : Nat) (A75 : Option Addr) (n75 c75 : Nat) (x76 x77 : Int) (h : Heap) : Prop :=
  splitB (decide (x77 < x76)) (ptrOk A75 fun a1_ => 0 ≤ x77 ∧ x77 < ((n75 : Nat) : Int) ∧ (∃ v2_, ldv true 3 h (Addr.add a1_ (Int.toNat x77 * 3)) = some v2_ ∧ newH h (Obj.cells #[(Value.int .i64 (0 : Int)), (Value.string (ByteArray.mk #[])), (Value.slice none 0 0)] 32) fun h3_ => ∃ l5_ : List Value, v2_ = Value.agg l5_.toArray ∧ l5_.length = 3 ∧ ∃ h4_, stH h3_ (⟨Array.size h, 0, none⟩) l5_ 0 = some h4_ ∧ ∃ v6_, ldv true 3 h4_ (⟨Array.size h, 0, none⟩) = some v6_ ∧ ∃ v7_, ldv false 1 h4_ (Addr.add a4 3) = some v7_ ∧ ∃ A8_, ∃ n8_, ∃ c8_, v7_ = (Value.slice A8_ n8_ c8_) ∧ 0 ≤ (0 : Int) ∧ (0 : Int) ≤ (1 : Int) ∧ (1 : Int) ≤ ((c8_ : Nat) : Int) ∧ (newH h4_ (Obj.cells #[(Value.string (ByteArray.mk #[115, 101, 108, 102]))] 9) fun h9_ => Ext h4_ h9_ ∧ (Run Tryd.prog 48 #[v6_, (Value.slice (some ⟨Array.size h4_, 0, none⟩) 1 1), (Value.slice (sliceA A8_ (Int.toNat (0 : Int)) c8_ 3) (Int.toNat (1 : Int) - Int.toNat (0 : Int)) (c8_ - Int.toNat (0 : Int)))] h9_ fun v10_ h11_ => ∃ l12_ : List Value, v10_ = Value.agg l12_.toArray ∧ l12_.length = 3 ∧ (newH h11_ (Obj.cells ((List.take 0 ([(Value.int .i64 (0 : Int)), (Value.string (ByteArray.mk #[])), (Value.slice none 0 0)]) ++ l12_ ++ List.drop 3 ([(Value.int .i64 (0 : Int)), (Value.string (ByteArray.mk #[])), (Value.slice none 0 0)])).toArray) 32) fun h13_ => AppW 32 3 48 #[(Value.int .i64 (0 : Int)), (Value.string (ByteArray.mk #[])), (Value.slice none 0 0)] A10 n10 c10 (Value.slice (some ⟨Array.size h11_, 0, none⟩) 1 1) h13_ fun v14_ h15_ => ∃ A16_, ∃ n16_, ∃ c16_, v14_ = (Value.slice A16_ n16_ c16_) ∧ f18.l1 R a4 A16_ n16_ c16_ A75 n75 c75 x76 (IntKind.wrap .i64 (x77 + (1 : Int))) h15_))))) (∃ v17_, ldv false 1 h (Addr.add a4 3) = some v17_ ∧ ∃ A18_, ∃ n18_, ∃ c18_, v17_ = (Value.slice A18_ n18_ c18_) ∧ ∃ v19_, ldv true 3 h (Addr.add a4 4) = some v19_ ∧ ∃ l20_ : List Value, v19_ = Value.agg l20_.toArray ∧ l20_.length = 3 ∧ (newH h (Obj.cells ((List.take 0 ([(Value.int .i64 (0 : Int)), (Value.string (ByteArray.mk #[])), (Value.slice none 0 0)]) ++ l20_ ++ List.drop 3 ([(Value.int .i64 (0 : Int)), (Value.string (ByteArray.mk #[])), (Value.slice none 0 0)])).toArray) 32) fun h21_ => newH h21_ (Obj.cells #[(Value.slice A18_ n18_ c18_), (Value.slice (some ⟨Array.size h, 0, none⟩) 1 1)] 30) fun h22_ => Run Tryd.prog 47 #[(Value.slice (some ⟨Array.size h21_, 0, none⟩) 2 2)] h22_ fun v23_ h24_ => ∃ A25_, ∃ n25_, ∃ c25_, v23_ = (Value.slice A25_ n25_ c25_) ∧ Run Tryd.prog 49 #[(Value.slice A25_ n25_ c25_)] h24_ fun v26_ h27_ => ∃ s28_, v26_ = (Value.string s28_) ∧ Run Tryd.prog 49 #[(Value.slice A10 n10 c10)] h27_ fun v29_ h30_ => ∃ s31_, v29_ = (Value.string s31_) ∧ splitB (!(ByteArray.toList s28_ == ByteArray.toList s31_)) (R (Value.int .i64 (12 : Int)) h30_) (R (Value.int .i64 (0 : Int)) h30_)))
theorem f18.l1_in {R a4 A10 n10 c10 A75 n75 c75 x76 x77 h} (H : f18.l1T R a4 A10 n10 c10 A75 n75 c75 x76 x77 h) : f18.l1 R a4 A10 n10 c10 A75 n75 c75 x76 x77 h := pt_in (kp := f18.kp) mixed f18.good (by kernel_rfl) H
def f18.runT (R : VP) (v0 v1 v2 : Value) (h : Heap) : Prop :=
  newH h (Obj.cells ((v0).cells) 45) fun h1_ => newH h1_ (Obj.cells ((v1).cells) 56) fun h2_ => newH h2_ (Obj.cells ((v2).cells) 56) fun h3_ => ∃ v4_, ldv false 1 h3_ (Addr.add (⟨Array.size h1_, 0, none⟩) 3) = some v4_ ∧ ∃ A5_, ∃ n5_, ∃ c5_, v4_ = (Value.slice A5_ n5_ c5_) ∧ ∃ v6_, ldv false 1 h3_ (Addr.add (⟨Array.size h2_, 0, none⟩) 3) = some v6_ ∧ ∃ A7_, ∃ n7_, ∃ c7_, v6_ = (Value.slice A7_ n7_ c7_) ∧ splitB (((n5_ : Nat) : Int) != ((n7_ : Nat) : Int)) (Ext h3_ h3_ ∧ (R (Value.int .i64 (12 : Int)) h3_)) (∃ v8_, ldv false 1 h3_ (Addr.add (⟨Array.size h1_, 0, none⟩) 3) = some v8_ ∧ ∃ A9_, ∃ n9_, ∃ c9_, v8_ = (Value.slice A9_ n9_ c9_) ∧ splitB (((n9_ : Nat) : Int) == (0 : Int)) (Ext h3_ h3_ ∧ (R (Value.int .i64 (12 : Int)) h3_)) (∃ v10_, ldv false 1 h3_ (Addr.add (⟨Array.size h1_, 0, none⟩) 3) = some v10_ ∧ ∃ A11_, ∃ n11_, ∃ c11_, v10_ = (Value.slice A11_ n11_ c11_) ∧ ptrOk A11_ fun a12_ => 0 ≤ (0 : Int) ∧ (0 : Int) < ((n11_ : Nat) : Int) ∧ (∃ v13_, ldv true 3 h3_ (Addr.add a12_ (Int.toNat (0 : Int) * 3)) = some v13_ ∧ ∃ v14_, ldv false 1 h3_ (Addr.add (⟨Array.size h, 0, none⟩) 1) = some v14_ ∧ ∃ s15_, v14_ = (Value.string s15_) ∧ Run Tryd.prog 14 #[v13_] h3_ fun v16_ h17_ => ∃ s18_, v16_ = (Value.string s18_) ∧ Ext h3_ h17_ ∧ (splitB (!(ByteArray.toList s18_ == ByteArray.toList s15_)) (R (Value.int .i64 (12 : Int)) h17_) (f18.j0 R (⟨Array.size h1_, 0, none⟩) (⟨Array.size h2_, 0, none⟩) h17_)))))
theorem f18.run {R : VP} {v0 v1 v2 : Value} {h : Heap} (H : f18.runT R v0 v1 v2 h) : Run Tryd.prog 18 #[v0, v1, v2] h R := run_in (kp := f18.kp) mixed Tryd.func18 (by kernel_rfl) (by kernel_rfl) f18.good (by kernel_rfl) H
def f36.T : Tab := { sh := tSh, tup := tTup, keep := [], plan := [] }
def f36.kp : Keep := []
theorem f36.good : goodCode Tryd.prog f36.T (rootOf Tryd.f36) = true := by kernel_rfl
theorem f36.ok : calleeOk Tryd.prog 36 = true := by kernel_rfl
def f36.runT (R : VP) (v0 : Value) (a1 : Addr) (h : Heap) : Prop :=
  newH h (Obj.cells ((v0).cells) 37) fun h1_ => ∃ v2_, ldv false 1 h1_ (⟨Array.size h, 0, none⟩) = some v2_ ∧ ∃ s3_, v2_ = (Value.string s3_) ∧ ∃ v4_, ldv false 1 h1_ a1 = some v4_ ∧ ∃ s5_, v4_ = (Value.string s5_) ∧ R (Value.bool (ByteArray.toList s3_ == ByteArray.toList s5_)) h1_
theorem f36.run {R : VP} {v0 : Value} {a1 : Addr} {h : Heap} (H : f36.runT R v0 a1 h) : Run Tryd.prog 36 #[v0, (Value.pointer (some a1))] h R := run_in (kp := f36.kp) mixed Tryd.func36 (by kernel_rfl) (by kernel_rfl) f36.good (by kernel_rfl) H
def f64.T : Tab := { sh := tSh, tup := tTup, keep := [], plan := [] }
def f64.kp : Keep := [([false, false, true, false, true], [0, 1, 7, 8])]
theorem f64.good : goodCode Tryd.prog f64.T (rootOf Tryd.f64) = true := by kernel_rfl
def f64.l0 (R A0 n0 c0 v1 x7 x8 h) := Pt Tryd.prog Tryd.f64 R [false, false, true, false, true] (mkFr [(0, (Value.slice A0 n0 c0)), (1, v1), (7, (Value.int .i64 x7)), (8, (Value.int .i64 x8))]) h
def f64.l0T (R : VP) (A0 : Option Addr) (n0 c0 : Nat) (v1 : Value) (x7 x8 : Int) (h : Heap) : Prop :=
  splitB (decide (x8 < x7)) (ptrOk A0 fun a1_ => 0 ≤ x8 ∧ x8 < ((n0 : Nat) : Int) ∧ (∃ v2_, ldv true 3 h (Addr.add a1_ (Int.toNat x8 * 3)) = some v2_ ∧ CallF Tryd.prog v1 [v2_] h fun v3_ h4_ => ∃ b5_, v3_ = (Value.bool b5_) ∧ splitB b5_ (R (Value.int .i64 x8) h4_) (f64.l0 R A0 n0 c0 v1 x7 (IntKind.wrap .i64 (x8 + (1 : Int))) h4_))) (R (Value.int .i64 (-1 : Int)) h)
theorem f64.l0_in {R A0 n0 c0 v1 x7 x8 h} (H : f64.l0T R A0 n0 c0 v1 x7 x8 h) : f64.l0 R A0 n0 c0 v1 x7 x8 h := pt_in (kp := f64.kp) mixed f64.good (by kernel_rfl) H
def f64.runT (R : VP) (A0 : Option Addr) (n0 c0 : Nat) (v1 : Value) (h : Heap) : Prop :=
  f64.l0 R A0 n0 c0 v1 ((n0 : Nat) : Int) (0 : Int) h
theorem f64.run {R : VP} {A0 : Option Addr} {n0 c0 : Nat} {v1 : Value} {h : Heap} (H : f64.runT R A0 n0 c0 v1 h) : Run Tryd.prog 64 #[(Value.slice A0 n0 c0), v1] h R := run_in (kp := f64.kp) mixed Tryd.func64 (by kernel_rfl) (by kernel_rfl) f64.good (by kernel_rfl) H
def f65.T : Tab := { sh := tSh, tup := tTup, keep := [], plan := [] }
def f65.kp : Keep := []
theorem f65.good : goodCode Tryd.prog f65.T (rootOf Tryd.f65) = true := by kernel_rfl
theorem f65.ok : calleeOk Tryd.prog 65 = true := by kernel_rfl
def f65.runT (R : VP) (v0 : Value) (a1 : Addr) (h : Heap) : Prop :=
  newH h (Obj.cells ((v0).cells) 104) fun h1_ => ∃ v2_, ldv false 1 h1_ (⟨Array.size h, 0, none⟩) = some v2_ ∧ ∃ s3_, v2_ = (Value.string s3_) ∧ ∃ v4_, ldv false 1 h1_ a1 = some v4_ ∧ ∃ s5_, v4_ = (Value.string s5_) ∧ R (Value.bool (ByteArray.toList s3_ == ByteArray.toList s5_)) h1_
theorem f65.run {R : VP} {v0 : Value} {a1 : Addr} {h : Heap} (H : f65.runT R v0 a1 h) : Run Tryd.prog 65 #[v0, (Value.pointer (some a1))] h R := run_in (kp := f65.kp) mixed Tryd.func65 (by kernel_rfl) (by kernel_rfl) f65.good (by kernel_rfl) H
def f37.T : Tab := { sh := tSh, tup := tTup, keep := [], plan := [] }
def f37.kp : Keep := []
theorem f37.good : goodCode Tryd.prog f37.T (rootOf Tryd.f37) = true := by kernel_rfl
def f37.runT (R : VP) (v0 : Value) (s1 : ByteArray) (h : Heap) : Prop :=
  newH h (Obj.cells ((v0).cells) 29) fun h1_ => newH h1_ (Obj.cells #[(Value.string s1)] 9) fun h2_ => ∃ v3_, ldv false 1 h2_ (Addr.add (⟨Array.size h, 0, none⟩) 3) = some v3_ ∧ ∃ A4_, ∃ n4_, ∃ c4_, v3_ = (Value.slice A4_ n4_ c4_) ∧ Run Tryd.prog 64 #[(Value.slice A4_ n4_ c4_), (Value.func (.func 65) #[] #[(Value.pointer (some ⟨Array.size h1_, 0, none⟩))])] h2_ fun v5_ h6_ => ∃ x7_, v5_ = (Value.int .i64 x7_) ∧ R (Value.int .i64 x7_) h6_
theorem f37.run {R : VP} {v0 : Value} {s1 : ByteArray} {h : Heap} (H : f37.runT R v0 s1 h) : Run Tryd.prog 37 #[v0, (Value.string s1)] h R := run_in (kp := f37.kp) mixed Tryd.func37 (by kernel_rfl) (by kernel_rfl) f37.good (by kernel_rfl) H
def f7.T : Tab := { sh := tSh, tup := tTup, keep := [], plan := [(27, (.take 0 (.take 2 (.take 3 (.take 4 (.take 5 (.take 1 (.take 6 (.take 7 .done))))))))), (29, (.take 2 (.take 3 (.take 4 (.take 0 (.take 1 (.take 5 (.eff false false [] 6 (.take 7 .done)))))))))] }
def f7.kp : Keep := [([false, false, true, false, true], [1, 17, 18, 19]), ([false, false, true, false, true, true], [1, 30, 31, 32]), ([true, true, true, false, false, true, true, false, false, true, false, true, true], [1, 6, 7, 8, 9, 30, 31, 32]), ([false, false, true, false, true, true, true, false, false, true, true, false, false, true, false, true, true], [1, 7, 8, 9, 30, 31, 32, 62, 63, 64]), ([true, true, true, true, true, false, false, true, true, false, false, true, false, true, true], [1, 7, 8, 30, 31, 32]), ([false, false, true, true, true, true, true, true, true, true, false, false, true, true, false, false, true, false, true, true], [1, 7, 12, 30, 31, 32, 107, 108, 109])]
theorem f7.good : goodCode Tryd.prog f7.T (rootOf Tryd.f7) = true := by kernel_rfl
def f7.l0 (R a1 A17 n17 c17 x18 x19 h) := Pt Tryd.prog Tryd.f7 R [false, false, true, false, true] (mkFr [(1, (Value.pointer (some a1))), (17, (Value.slice A17 n17 c17)), (18, (Value.int .i64 x18)), (19, (Value.int .i64 x19))]) h
def f7.l1 (R a1 A30 n30 c30 x31 x32 h) := Pt Tryd.prog Tryd.f7 R [false, false, true, false, true, true] (mkFr [(1, (Value.pointer (some a1))), (30, (Value.slice A30 n30 c30)), (31, (Value.int .i64 x31)), (32, (Value.int .i64 x32))]) h
def f7.j0 (R a1 x6 a7 x8 b9 A30 n30 c30 x31 x32 h) := Pt Tryd.prog Tryd.f7 R [true, true, true, false, false, true, true, false, false, true, false, true, true] (mkFr [(1, (Value.pointer (some a1))), (6, (Value.int .i64 x6)), (7, (Value.pointer (some a7))), (8, (Value.int .i64 x8)), (9, (Value.bool b9)), (30, (Value.slice A30 n30 c30)), (31, (Value.int .i64 x31)), (32, (Value.int .i64 x32))]) h
def f7.l2 (R a1 a7 x8 b9 A30 n30 c30 x31 x32 A62 n62 c62 x63 x64 h) := Pt Tryd.prog Tryd.f7 R [false, false, true, false, true, true, true, false, false, true, true, false, false, true, false, true, true] (mkFr [(1, (Value.pointer (some a1))), (7, (Value.pointer (some a7))), (8, (Value.int .i64 x8)), (9, (Value.bool b9)), (30, (Value.slice A30 n30 c30)), (31, (Value.int .i64 x31)), (32, (Value.int .i64 x32)), (62, (Value.slice A62 n62 c62)), (63, (Value.int .i64 x63)), (64, (Value.int .i64 x64))]) h
def f7.j1 (R a1 a7 x8 A30 n30 c30 x31 x32 h) := Pt Tryd.prog Tryd.f7 R [true, true, true, true, true, false, false, true, true, false, false, true, false, true, true] (mkFr [(1, (Value.pointer (some a1))), (7, (Value.pointer (some a7))), (8, (Value.int .i64 x8)), (30, (Value.slice A30 n30 c30)), (31, (Value.int .i64 x31)), (32, (Value.int .i64 x32))]) h
def f7.l3 (R a1 a7 A12 n12 c12 A30 n30 c30 x31 x32 A107 n107 c107 x108 x109 h) := Pt Tryd.prog Tryd.f7 R [false, false, true, true, true, true, true, true, true, true, false, false, true, true, false, false, true, false, true, true] (mkFr [(1, (Value.pointer (some a1))), (7, (Value.pointer (some a7))), (12, (Value.slice A12 n12 c12)), (30, (Value.slice A30 n30 c30)), (31, (Value.int .i64 x31)), (32, (Value.int .i64 x32)), (107, (Value.slice A107 n107 c107)), (108, (Value.int .i64 x108)), (109, (Value.int .i64 x109))]) h
def f7.l0T (R : VP) (a1 : Addr) (A17 : Option Addr) (n17 c17 : Nat) (x18 x19 : Int) (h : Heap) : Prop :=
  splitB (decide (x19 < x18)) (ptrOk A17 fun a1_ => 0 ≤ x19 ∧ x19 < ((n17 : Nat) : Int) ∧ (∃ v2_, ldv true 2 h (Addr.add a1_ (Int.toNat x19 * 2)) = some v2_ ∧ newH h (Obj.cells #[(Value.string (ByteArray.mk #[])), (Value.slice none 0 0)] 37) fun h3_ => ∃ l5_ : List Value, v2_ = Value.agg l5_.toArray ∧ l5_.length = 2 ∧ ∃ h4_, stH h3_ (⟨Array.size h, 0, none⟩) l5_ 0 = some h4_ ∧ ∃ v6_, ldv true 2 h4_ (⟨Array.size h, 0, none⟩) = some v6_ ∧ Run Tryd.prog 16 #[v6_] h4_ fun v7_ h8_ => ∃ x9_, v7_ = (Value.int .i64 x9_) ∧ splitB (x9_ != (0 : Int)) (R (Value.int .i64 x9_) h8_) (f7.l0 R a1 A17 n17 c17 x18 (IntKind.wrap .i64 (x19 + (1 : Int))) h8_))) (∃ v10_, ldv false 1 h (Addr.add a1 5) = some v10_ ∧ ∃ A11_, ∃ n11_, ∃ c11_, v10_ = (Value.slice A11_ n11_ c11_) ∧ f7.l1 R a1 A11_ n11_ c11_ ((n11_ : Nat) : Int) (0 : Int) h)
theorem f7.l0_in {R a1 A17 n17 c17 x18 x19 h} (H : f7.l0T R a1 A17 n17 c17 x18 x19 h) : f7.l0 R a1 A17 n17 c17 x18 x19 h := pt_in (kp := f7.kp) mixed f7.good (by kernel_rfl) H
def f7.l1T (R : VP) (a1 : Addr) (A30 : Option Addr) (n30 c30 : Nat) (x31 x32 : Int) (h : Heap) : Prop :=
  splitB (decide (x32 < x31)) (ptrOk A30 fun a1_ => 0 ≤ x32 ∧ x32 < ((n30 : Nat) : Int) ∧ (∃ v2_, ldv true 3 h (Addr.add a1_ (Int.toNat x32 * 3)) = some v2_ ∧ newH h (Obj.cells #[(Value.string (ByteArray.mk #[])), (Value.string (ByteArray.mk #[])), (Value.slice none 0 0)] 45) fun h3_ => ∃ l5_ : List Value, v2_ = Value.agg l5_.toArray ∧ l5_.length = 3 ∧ ∃ h4_, stH h3_ (⟨Array.size h, 0, none⟩) l5_ 0 = some h4_ ∧ ∃ v6_, ldv false 1 h4_ (Addr.add a1 4) = some v6_ ∧ ∃ A7_, ∃ n7_, ∃ c7_, v6_ = (Value.slice A7_ n7_ c7_) ∧ Run Tryd.prog 8 #[(Value.slice A7_ n7_ c7_), (Value.func (.func 36) #[] #[(Value.pointer (some ⟨Array.size h, 0, none⟩))])] h4_ fun v8_ h9_ => ∃ x10_, v8_ = (Value.int .i64 x10_) ∧ ∃ v11_, ldv false 1 h9_ (Addr.add (⟨Array.size h, 0, none⟩) 1) = some v11_ ∧ ∃ s12_, v11_ = (Value.string s12_) ∧ splitB (ByteArray.toList s12_ == ByteArray.toList (ByteArray.mk #[105, 110, 116])) (f7.j0 R a1 x32 (⟨Array.size h, 0, none⟩) x10_ true A30 n30 c30 x31 x32 h9_) (∃ v13_, ldv false 1 h9_ (Addr.add (⟨Array.size h, 0, none⟩) 1) = some v13_ ∧ ∃ s14_, v13_ = (Value.string s14_) ∧ splitB (ByteArray.toList s14_ == ByteArray.toList (ByteArray.mk #[98, 111, 111, 108])) (f7.j0 R a1 x32 (⟨Array.size h, 0, none⟩) x10_ true A30 n30 c30 x31 x32 h9_) (∃ v15_, ldv false 1 h9_ (Addr.add (⟨Array.size h, 0, none⟩) 1) = some v15_ ∧ ∃ s16_, v15_ = (Value.string s16_) ∧ splitB (ByteArray.toList s16_ == ByteArray.toList (ByteArray.mk #[116, 101, 120, 116])) (f7.j0 R a1 x32 (⟨Array.size h, 0, none⟩) x10_ true A30 n30 c30 x31 x32 h9_) (∃ v17_, ldv false 1 h9_ (Addr.add (⟨Array.size h, 0, none⟩) 1) = some v17_ ∧ ∃ s18_, v17_ = (Value.string s18_) ∧ f7.j0 R a1 x32 (⟨Array.size h, 0, none⟩) x10_ (ByteArray.toList s18_ == ByteArray.toList (ByteArray.mk #[117, 110, 105, 116])) A30 n30 c30 x31 x32 h9_))))) (R (Value.int .i64 (0 : Int)) h)
theorem f7.l1_in {R a1 A30 n30 c30 x31 x32 h} (H : f7.l1T R a1 A30 n30 c30 x31 x32 h) : f7.l1 R a1 A30 n30 c30 x31 x32 h := pt_in (kp := f7.kp) mixed f7.good (by kernel_rfl) H
def f7.j0T (R : VP) (a1 : Addr) (x6 : Int) (a7 : Addr) (x8 : Int) (b9 : Bool) (A30 : Option Addr) (n30 c30 : Nat) (x31 x32 : Int) (h : Heap) : Prop :=
  ∃ v1_, ldv false 1 h (Addr.add a1 5) = some v1_ ∧ ∃ A2_, ∃ n2_, ∃ c2_, v1_ = (Value.slice A2_ n2_ c2_) ∧ 0 ≤ (0 : Int) ∧ (0 : Int) ≤ x6 ∧ x6 ≤ ((c2_ : Nat) : Int) ∧ (f7.l2 R a1 a7 x8 b9 A30 n30 c30 x31 x32 (sliceA A2_ (Int.toNat (0 : Int)) c2_ 3) (Int.toNat x6 - Int.toNat (0 : Int)) (c2_ - Int.toNat (0 : Int)) (((Int.toNat x6 - Int.toNat (0 : Int)) : Nat) : Int) (0 : Int) h)
theorem f7.j0_in {R a1 x6 a7 x8 b9 A30 n30 c30 x31 x32 h} (H : f7.j0T R a1 x6 a7 x8 b9 A30 n30 c30 x31 x32 h) : f7.j0 R a1 x6 a7 x8 b9 A30 n30 c30 x31 x32 h := pt_in (kp := f7.kp) mixed f7.good (by kernel_rfl) H
def f7.l2T (R : VP) (a1 a7 : Addr) (x8 : Int) (b9 : Bool) (A30 : Option Addr) (n30 c30 : Nat) (x31 x32 : Int) (A62 : Option Addr) (n62 c62 : Nat) (x63 x64 : Int) (h : Heap) : Prop :=
  splitB (decide (x64 < x63)) (ptrOk A62 fun a1_ => 0 ≤ x64 ∧ x64 < ((n62 : Nat) : Int) ∧ (∃ v2_, ldv true 3 h (Addr.add a1_ (Int.toNat x64 * 3)) = some v2_ ∧ newH h (Obj.cells #[(Value.string (ByteArray.mk #[])), (Value.string (ByteArray.mk #[])), (Value.slice none 0 0)] 45) fun h3_ => ∃ l5_ : List Value, v2_ = Value.agg l5_.toArray ∧ l5_.length = 3 ∧ ∃ h4_, stH h3_ (⟨Array.size h, 0, none⟩) l5_ 0 = some h4_ ∧ ∃ v6_, ldv false 1 h4_ (⟨Array.size h, 0, none⟩) = some v6_ ∧ ∃ s7_, v6_ = (Value.string s7_) ∧ ∃ v8_, ldv false 1 h4_ a7 = some v8_ ∧ ∃ s9_, v8_ = (Value.string s9_) ∧ splitB (ByteArray.toList s7_ == ByteArray.toList s9_) (∃ v10_, ldv false 1 h4_ (Addr.add (⟨Array.size h, 0, none⟩) 1) = some v10_ ∧ ∃ s11_, v10_ = (Value.string s11_) ∧ ∃ v12_, ldv false 1 h4_ (Addr.add a7 1) = some v12_ ∧ ∃ s13_, v12_ = (Value.string s13_) ∧ splitB (ByteArray.toList s11_ == ByteArray.toList s13_) (R (Value.int .i64 (5 : Int)) h4_) (f7.l2 R a1 a7 x8 b9 A30 n30 c30 x31 x32 A62 n62 c62 x63 (IntKind.wrap .i64 (x64 + (1 : Int))) h4_)) (f7.l2 R a1 a7 x8 b9 A30 n30 c30 x31 x32 A62 n62 c62 x63 (IntKind.wrap .i64 (x64 + (1 : Int))) h4_))) (splitB (decide (x8 < (0 : Int))) (R (Value.int .i64 (11 : Int)) h) (∃ v14_, ldv true 8 h a1 = some v14_ ∧ ∃ v15_, ldv false 1 h (Addr.add a7 1) = some v15_ ∧ ∃ s16_, v15_ = (Value.string s16_) ∧ Run Tryd.prog 37 #[v14_, (Value.string s16_)] h fun v17_ h18_ => ∃ x19_, v17_ = (Value.int .i64 x19_) ∧ splitB (decide (x19_ < (0 : Int))) (splitB (!b9) (R (Value.int .i64 (11 : Int)) h18_) (f7.j1 R a1 a7 x8 A30 n30 c30 x31 x32 h18_)) (f7.j1 R a1 a7 x8 A30 n30 c30 x31 x32 h18_)))
theorem f7.l2_in {R a1 a7 x8 b9 A30 n30 c30 x31 x32 A62 n62 c62 x63 x64 h} (H : f7.l2T R a1 a7 x8 b9 A30 n30 c30 x31 x32 A62 n62 c62 x63 x64 h) : f7.l2 R a1 a7 x8 b9 A30 n30 c30 x31 x32 A62 n62 c62 x63 x64 h := pt_in (kp := f7.kp) mixed f7.good (by kernel_rfl) H
def f7.j1T (R : VP) (a1 a7 : Addr) (x8 : Int) (A30 : Option Addr) (n30 c30 : Nat) (x31 x32 : Int) (h : Heap) : Prop :=
  ∃ v1_, ldv false 1 h (Addr.add a1 4) = some v1_ ∧ ∃ A2_, ∃ n2_, ∃ c2_, v1_ = (Value.slice A2_ n2_ c2_) ∧ ptrOk A2_ fun a3_ => 0 ≤ x8 ∧ x8 < ((n2_ : Nat) : Int) ∧ (∃ v4_, ldv false 1 h (Addr.add (Addr.add a3_ (Int.toNat x8 * 2)) 1) = some v4_ ∧ ∃ A5_, ∃ n5_, ∃ c5_, v4_ = (Value.slice A5_ n5_ c5_) ∧ ∃ v6_, ldv false 1 h (Addr.add a7 2) = some v6_ ∧ ∃ A7_, ∃ n7_, ∃ c7_, v6_ = (Value.slice A7_ n7_ c7_) ∧ splitB (((n5_ : Nat) : Int) != ((n7_ : Nat) : Int)) (R (Value.int .i64 (16 : Int)) h) (∃ v8_, ldv false 1 h (Addr.add a7 2) = some v8_ ∧ ∃ A9_, ∃ n9_, ∃ c9_, v8_ = (Value.slice A9_ n9_ c9_) ∧ f7.l3 R a1 a7 A5_ n5_ c5_ A30 n30 c30 x31 x32 A9_ n9_ c9_ ((n9_ : Nat) : Int) (0 : Int) h))
theorem f7.j1_in {R a1 a7 x8 A30 n30 c30 x31 x32 h} (H : f7.j1T R a1 a7 x8 A30 n30 c30 x31 x32 h) : f7.j1 R a1 a7 x8 A30 n30 c30 x31 x32 h := pt_in (kp := f7.kp) mixed f7.good (by kernel_rfl) H
def f7.l3T (R : VP) (a1 a7 : Addr) (A12 : Option Addr) (n12 c12 : Nat) (A30 : Option Addr) (n30 c30 : Nat) (x31 x32 : Int) (A107 : Option Addr) (n107 c107 : Nat) (x108 x109 : Int) (h : Heap) : Prop :=
  splitB (decide (x109 < x108)) (ptrOk A107 fun a1_ => 0 ≤ x109 ∧ x109 < ((n107 : Nat) : Int) ∧ (∃ v2_, ldv true 15 h (Addr.add a1_ (Int.toNat x109 * 15)) = some v2_ ∧ newH h (Obj.cells #[(Value.string (ByteArray.mk #[])), (Value.slice none 0 0), (Value.slice none 0 0), (Value.slice none 0 0), (Value.int .i64 (0 : Int)), (Value.string (ByteArray.mk #[])), (Value.slice none 0 0), (Value.int .i64 (0 : Int)), (Value.int .i64 (0 : Int)), (Value.string (ByteArray.mk #[])), (Value.slice none 0 0), (Value.slice none 0 0), (Value.slice none 0 0), (Value.slice none 0 0), (Value.int .i64 (0 : Int))] 56) fun h3_ => ∃ l5_ : List Value, v2_ = Value.agg l5_.toArray ∧ l5_.length = 15 ∧ ∃ h4_, stH h3_ (⟨Array.size h, 0, none⟩) l5_ 0 = some h4_ ∧ ptrOk A12 fun a6_ => 0 ≤ x109 ∧ x109 < ((n12 : Nat) : Int) ∧ (∃ v7_, ldv false 1 h4_ (⟨Array.size h, 0, none⟩) = some v7_ ∧ ∃ s8_, v7_ = (Value.string s8_) ∧ ∃ v9_, ldv false 1 h4_ (Addr.add a6_ (Int.toNat x109 * 15)) = some v9_ ∧ ∃ s10_, v9_ = (Value.string s10_) ∧ splitB (!(ByteArray.toList s8_ == ByteArray.toList s10_)) (R (Value.int .i64 (16 : Int)) h4_) (ptrOk A12 fun a11_ => 0 ≤ x109 ∧ x109 < ((n12 : Nat) : Int) ∧ (∃ v12_, ldv true 3 h4_ a7 = some v12_ ∧ ∃ v13_, ldv true 15 h4_ (⟨Array.size h, 0, none⟩) = some v13_ ∧ ∃ v14_, ldv true 15 h4_ (Addr.add a11_ (Int.toNat x109 * 15)) = some v14_ ∧ Run Tryd.prog 18 #[v12_, v13_, v14_] h4_ fun v15_ h16_ => ∃ x17_, v15_ = (Value.int .i64 x17_) ∧ splitB (x17_ != (0 : Int)) (R (Value.int .i64 x17_) h16_) (f7.l3 R a1 a7 A12 n12 c12 A30 n30 c30 x31 x32 A107 n107 c107 x108 (IntKind.wrap .i64 (x109 + (1 : Int))) h16_)))))) (f7.l1 R a1 A30 n30 c30 x31 (IntKind.wrap .i64 (x32 + (1 : Int))) h)
theorem f7.l3_in {R a1 a7 A12 n12 c12 A30 n30 c30 x31 x32 A107 n107 c107 x108 x109 h} (H : f7.l3T R a1 a7 A12 n12 c12 A30 n30 c30 x31 x32 A107 n107 c107 x108 x109 h) : f7.l3 R a1 a7 A12 n12 c12 A30 n30 c30 x31 x32 A107 n107 c107 x108 x109 h := pt_in (kp := f7.kp) mixed f7.good (by kernel_rfl) H
def f7.runT (R : VP) (v0 : Value) (h : Heap) : Prop :=
  newH h (Obj.cells ((v0).cells) 29) fun h1_ => ∃ v2_, ldv false 1 h1_ (Addr.add (⟨Array.size h, 0, none⟩) 4) = some v2_ ∧ ∃ A3_, ∃ n3_, ∃ c3_, v2_ = (Value.slice A3_ n3_ c3_) ∧ f7.l0 R (⟨Array.size h, 0, none⟩) A3_ n3_ c3_ ((n3_ : Nat) : Int) (0 : Int) h1_
theorem f7.run {R : VP} {v0 : Value} {h : Heap} (H : f7.runT R v0 h) : Run Tryd.prog 7 #[v0] h R := run_in (kp := f7.kp) mixed Tryd.func7 (by kernel_rfl) (by kernel_rfl) f7.good (by kernel_rfl) H
end Go.Proofs.YtkbhpagogmmgnaaDoor.Fw

end
section
namespace Go.Proofs.YtkbhpagogmmgnaaDoor.Fw
open Go Go.Hw Go.Proofs
set_option linter.unusedVariables false
set_option maxRecDepth 100000
def f9.T : Tab := { sh := tSh, tup := tTup, keep := [], plan := [] }
def f9.kp : Keep := []
theorem f9.good : goodCode Tryd.prog f9.T (rootOf Tryd.f9) = true := by kernel_rfl
theorem f9.ok : calleeOk Tryd.prog 9 = true := by kernel_rfl
def f9.runT (R : VP) (v0 : Value) (a1 : Addr) (h : Heap) : Prop :=
  newH h (Obj.cells ((v0).cells) 37) fun h1_ => ∃ v2_, ldv false 1 h1_ (⟨Array.size h, 0, none⟩) = some v2_ ∧ ∃ s3_, v2_ = (Value.string s3_) ∧ ∃ v4_, ldv false 1 h1_ a1 = some v4_ ∧ ∃ s5_, v4_ = (Value.string s5_) ∧ R (Value.bool (ByteArray.toList s3_ == ByteArray.toList s5_)) h1_
theorem f9.run {R : VP} {v0 : Value} {a1 : Addr} {h : Heap} (H : f9.runT R v0 a1 h) : Run Tryd.prog 9 #[v0, (Value.pointer (some a1))] h R := run_in (kp := f9.kp) mixed Tryd.func9 (by kernel_rfl) (by kernel_rfl) f9.good (by kernel_rfl) H
def f38.T : Tab := { sh := tSh, tup := tTup, keep := [], plan := [(1, (.take 0 (.take 1 (.take 2 (.take 3 (.take 4 (.split 4 (.take 5 (.take 6 (.take 7 (.eff false true [] 8 (.take 9 (.take 10 (.take 11 .done))))))))))))))] }
def f38.kp : Keep := []
theorem f38.good : goodCode Tryd.prog f38.T (rootOf Tryd.f38) = true := by kernel_rfl
theorem f38.ok : calleeOk Tryd.prog 38 = true := by kernel_rfl
def f38.runT (R : VP) (v0 : Value) (a1 a2 : Addr) (h : Heap) : Prop :=
  newH h (Obj.cells ((v0).cells) 45) fun h1_ => ∃ v2_, ldv false 1 h1_ (⟨Array.size h, 0, none⟩) = some v2_ ∧ ∃ s3_, v2_ = (Value.string s3_) ∧ ∃ v4_, ldv false 1 h1_ a1 = some v4_ ∧ ∃ s5_, v4_ = (Value.string s5_) ∧ splitB (ByteArray.toList s3_ == ByteArray.toList s5_) (∃ v6_, ldv false 1 h1_ (Addr.add (⟨Array.size h, 0, none⟩) 1) = some v6_ ∧ ∃ s7_, v6_ = (Value.string s7_) ∧ ∃ v8_, ldv true 3 h1_ a2 = some v8_ ∧ Run Tryd.prog 39 #[v8_] h1_ fun v9_ h10_ => ∃ s11_, v9_ = (Value.string s11_) ∧ Ext h1_ h10_ ∧ (R (Value.bool (ByteArray.toList s7_ == ByteArray.toList s11_)) h10_)) (Ext h1_ h1_ ∧ (R (Value.bool false) h1_))
theorem f38.run {R : VP} {v0 : Value} {a1 a2 : Addr} {h : Heap} (H : f38.runT R v0 a1 a2 h) : Run Tryd.prog 38 #[v0, (Value.pointer (some a1)), (Value.pointer (some a2))] h R := run_in (kp := f38.kp) mixed Tryd.func38 (by kernel_rfl) (by kernel_rfl) f38.good (by kernel_rfl) H
def f11.T : Tab := { sh := tSh, tup := tTup, keep := [], plan := [] }
def f11.kp : Keep := []
theorem f11.good : goodCode Tryd.prog f11.T (rootOf Tryd.f11) = true := by kernel_rfl
def f11.runT (R : VP) (v0 : Value) (s1 : ByteArray) (v2 : Value) (h : Heap) : Prop :=
  newH h (Obj.cells ((v0).cells) 29) fun h1_ => newH h1_ (Obj.cells #[(Value.string s1)] 9) fun h2_ => newH h2_ (Obj.cells ((v2).cells) 32) fun h3_ => ∃ v4_, ldv false 1 h3_ (Addr.add (⟨Array.size h, 0, none⟩) 5) = some v4_ ∧ ∃ A5_, ∃ n5_, ∃ c5_, v4_ = (Value.slice A5_ n5_ c5_) ∧ Run Tryd.prog 12 #[(Value.slice A5_ n5_ c5_), (Value.func (.func 38) #[] #[(Value.pointer (some ⟨Array.size h1_, 0, none⟩)), (Value.pointer (some ⟨Array.size h2_, 0, none⟩))])] h3_ fun v6_ h7_ => ∃ x8_, v6_ = (Value.int .i64 x8_) ∧ splitB (decide (x8_ < (0 : Int))) (R (Value.tuple #[(Value.int .i64 (0 : Int)), (Value.int .i64 (4 : Int))]) h7_) (R (Value.tuple #[(Value.int .i64 x8_), (Value.int .i64 (0 : Int))]) h7_)
theorem f11.run {R : VP} {v0 : Value} {s1 : ByteArray} {v2 : Value} {h : Heap} (H : f11.runT R v0 s1 v2 h) : Run Tryd.prog 11 #[v0, (Value.string s1), v2] h R := run_in (kp := f11.kp) mixed Tryd.func11 (by kernel_rfl) (by kernel_rfl) f11.good (by kernel_rfl) H
def f13.T : Tab := { sh := tSh, tup := tTup, keep := [], plan := [(1, (.take 0 (.take 1 (.take 2 (.take 3 (.take 4 (.split 4 (.take 5 (.take 6 (.take 7 (.eff false true [] 8 (.take 9 (.take 10 (.take 11 .done))))))))))))))] }
def f13.kp : Keep := []
theorem f13.good : goodCode Tryd.prog f13.T (rootOf Tryd.f13) = true := by kernel_rfl
theorem f13.ok : calleeOk Tryd.prog 13 = true := by kernel_rfl
def f13.runT (R : VP) (v0 : Value) (a1 a2 : Addr) (h : Heap) : Prop :=
  newH h (Obj.cells ((v0).cells) 45) fun h1_ => ∃ v2_, ldv false 1 h1_ (⟨Array.size h, 0, none⟩) = some v2_ ∧ ∃ s3_, v2_ = (Value.string s3_) ∧ ∃ v4_, ldv false 1 h1_ a1 = some v4_ ∧ ∃ s5_, v4_ = (Value.string s5_) ∧ splitB (ByteArray.toList s3_ == ByteArray.toList s5_) (∃ v6_, ldv false 1 h1_ (Addr.add (⟨Array.size h, 0, none⟩) 1) = some v6_ ∧ ∃ s7_, v6_ = (Value.string s7_) ∧ ∃ v8_, ldv true 3 h1_ a2 = some v8_ ∧ Run Tryd.prog 14 #[v8_] h1_ fun v9_ h10_ => ∃ s11_, v9_ = (Value.string s11_) ∧ Ext h1_ h10_ ∧ (R (Value.bool (ByteArray.toList s7_ == ByteArray.toList s11_)) h10_)) (Ext h1_ h1_ ∧ (R (Value.bool false) h1_))
theorem f13.run {R : VP} {v0 : Value} {a1 a2 : Addr} {h : Heap} (H : f13.runT R v0 a1 a2 h) : Run Tryd.prog 13 #[v0, (Value.pointer (some a1)), (Value.pointer (some a2))] h R := run_in (kp := f13.kp) mixed Tryd.func13 (by kernel_rfl) (by kernel_rfl) f13.good (by kernel_rfl) H
def f3.T : Tab := { sh := tSh, tup := tTup, keep := [], plan := [(1, (.take 0 (.frame 2 (.eff false false [2] 1 (.eff false false [] 3 (.take 4 .done)))))), (5, (.take 0 (.take 1 (.take 2 (.split 2 (.take 3 (.take 4 (.take 5 (.split 5 (.take 6 (.take 7 (.take 8 (.take 9 (.take 10 (.split 10 (.take 11 (.take 12 (.take 13 (.take 14 (.take 15 (.take 16 (.take 17 (.split 17 (.take 18 (.take 19 (.take 20 (.split 20 (.take 21 (.take 22 (.take 23 (.split 23 (.take 24 (.take 25 (.take 26 (.take 27 (.take 28 (.take 29 (.split 29 (.take 30 (.take 33 (.take 35 (.take 31 (.take 32 (.take 34 (.take 36 (.take 37 (.take 38 (.take 39 (.take 40 (.take 41 (.take 42 (.take 43 .done)))))))))))))))))))))))))))))))))))))))))))))))))))), (14, (.take 0 (.take 2 (.eff false true [] 1 (.eff false false [] 3 (.take 4 .done)))))), (22, (.take 1 (.take 3 (.take 6 (.take 8 (.take 13 (.take 15 (.take 18 (.take 20 (.take 0 (.take 2 (.take 4 (.take 5 (.take 7 (.take 9 (.take 10 (.frame 12 (.frame 14 (.take 16 (.frame 17 (.frame 19 (.take 21 (.frame 22 (.eff false false [12, 14, 17, 19, 22] 11 (.eff false false [] 23 (.take 24 .done))))))))))))))))))))))))))] }
def f3.kp : Keep := [([true, true, true, true, true], [3, 4, 5]), ([true, true, true, true, true, true, true, true], [3]), ([false, false, true, false, true, true, true, true, true, true, true, true], [3, 112, 113, 114]), ([false, false, true, true, true, false, false, true, true, false, false, true, false, true, true, true, true, true, true, true, true], [3, 14, 112, 113, 114, 124, 125, 126]), ([false, false, true, true, false, false, true, true, false, false, true, true, true, false, false, true, true, false, false, true, false, true, true, true, true, true, true, true, true], [3, 14, 16, 112, 113, 114, 124, 125, 126, 136, 137])]
theorem f3.good : goodCode Tryd.prog f3.T (rootOf Tryd.f3) = true := by kernel_rfl
def f3.j0 (R a3 a4 a5 h) := Pt Tryd.prog Tryd.f3 R [true, true, true, true, true] (mkFr [(3, (Value.pointer (some a3))), (4, (Value.pointer (some a4))), (5, (Value.pointer (some a5)))]) h
def f3.j1 (R a3 h) := Pt Tryd.prog Tryd.f3 R [true, true, true, true, true, true, true, true] (mkFr [(3, (Value.pointer (some a3)))]) h
def f3.l0 (R a3 A112 n112 c112 x113 x114 h) := Pt Tryd.prog Tryd.f3 R [false, false, true, false, true, true, true, true, true, true, true, true] (mkFr [(3, (Value.pointer (some a3))), (112, (Value.slice A112 n112 c112)), (113, (Value.int .i64 x113)), (114, (Value.int .i64 x114))]) h
def f3.l1 (R a3 a14 A112 n112 c112 x113 x114 A124 n124 c124 x125 x126 h) := Pt Tryd.prog Tryd.f3 R [false, false, true, true, true, false, false, true, true, false, false, true, false, true, true, true, true, true, true, true, true] (mkFr [(3, (Value.pointer (some a3))), (14, (Value.pointer (some a14))), (112, (Value.slice A112 n112 c112)), (113, (Value.int .i64 x113)), (114, (Value.int .i64 x114)), (124, (Value.slice A124 n124 c124)), (125, (Value.int .i64 x125)), (126, (Value.int .i64 x126))]) h
def f3.l2 (R a3 a14 a16 A112 n112 c112 x113 x114 A124 n124 c124 x125 x126 x136 x137 h) := Pt Tryd.prog Tryd.f3 R [false, false, true, true, false, false, true, true, false, false, true, true, true, false, false, true, true, false, false, true, false, true, true, true, true, true, true, true, true] (mkFr [(3, (Value.pointer (some a3))), (14, (Value.pointer (some a14))), (16, (Value.pointer (some a16))), (112, (Value.slice A112 n112 c112)), (113, (Value.int .i64 x113)), (114, (Value.int .i64 x114)), (124, (Value.slice A124 n124 c124)), (125, (Value.int .i64 x125)), (126, (Value.int .i64 x126)), (136, (Value.int .i64 x136)), (137, (Value.int .i64 x137))]) h
def f3.j0T (R : VP) (a3 a4 a5 : Addr) (h : Heap) : Prop :=
  ∃ v1_, ldv true 8 h a3 = some v1_ ∧ ∃ v2_, ldv false 1 h a4 = some v2_ ∧ ∃ s3_, v2_ = (Value.string s3_) ∧ ∃ v4_, ldv true 3 h a5 = some v4_ ∧ Run Tryd.prog 11 #[v1_, (Value.string s3_), v4_] h fun v5_ h6_ => ∃ x7_, ∃ x8_, v5_ = (Value.tuple #[(Value.int .i64 x7_), (Value.int .i64 x8_)]) ∧ ∃ v9_, ldv false 1 h6_ (Addr.add a3 5) = some v9_ ∧ ∃ A10_, ∃ n10_, ∃ c10_, v9_ = (Value.slice A10_ n10_ c10_) ∧ Run Tryd.prog 12 #[(Value.slice A10_ n10_ c10_), (Value.func (.func 13) #[] #[(Value.pointer (some a4)), (Value.pointer (some a5))])] h6_ fun v11_ h12_ => ∃ x13_, v11_ = (Value.int .i64 x13_) ∧ splitB (decide (x13_ < (0 : Int))) (splitB (x8_ != (4 : Int)) (R (Value.bool false) h12_) (splitB (x7_ != (0 : Int)) (R (Value.bool false) h12_) (splitB (decide (x13_ ≥ (0 : Int))) (splitB (x8_ != (0 : Int)) (R (Value.bool false) h12_) (splitB (x7_ != x13_) (R (Value.bool false) h12_) (f3.j1 R a3 h12_))) (f3.j1 R a3 h12_)))) (splitB (decide (x13_ ≥ (0 : Int))) (splitB (x8_ != (0 : Int)) (R (Value.bool false) h12_) (splitB (x7_ != x13_) (R (Value.bool false) h12_) (f3.j1 R a3 h12_))) (f3.j1 R a3 h12_))
theorem f3.j0_in {R a3 a4 a5 h} (H : f3.j0T R a3 a4 a5 h) : f3.j0 R a3 a4 a5 h := pt_in (kp := f3.kp) mixed f3.good (by kernel_rfl) H
def f3.j1T (R : VP) (a3 : Addr) (h : Heap) : Prop :=
  ∃ v1_, ldv false 1 h (Addr.add a3 4) = some v1_ ∧ ∃ A2_, ∃ n2_, ∃ c2_, v1_ = (Value.slice A2_ n2_ c2_) ∧ f3.l0 R a3 A2_ n2_ c2_ ((n2_ : Nat) : Int) (0 : Int) h
theorem f3.j1_in {R a3 h} (H : f3.j1T R a3 h) : f3.j1 R a3 h := pt_in (kp := f3.kp) mixed f3.good (by kernel_rfl) H
def f3.l0T (R : VP) (a3 : Addr) (A112 : Option Addr) (n112 c112 : Nat) (x113 x114 : Int) (h : Heap) : Prop :=
  splitB (decide (x114 < x113)) (ptrOk A112 fun a1_ => 0 ≤ x114 ∧ x114 < ((n112 : Nat) : Int) ∧ (∃ v2_, ldv true 2 h (Addr.add a1_ (Int.toNat x114 * 2)) = some v2_ ∧ newH h (Obj.cells #[(Value.string (ByteArray.mk #[])), (Value.slice none 0 0)] 37) fun h3_ => ∃ l5_ : List Value, v2_ = Value.agg l5_.toArray ∧ l5_.length = 2 ∧ ∃ h4_, stH h3_ (⟨Array.size h, 0, none⟩) l5_ 0 = some h4_ ∧ ∃ v6_, ldv true 2 h4_ (⟨Array.size h, 0, none⟩) = some v6_ ∧ ∃ v7_, ldv true 2 h4_ (⟨Array.size h, 0, none⟩) = some v7_ ∧ Run Tryd.prog 15 #[v6_] h4_ fun v8_ h9_ => ∃ x10_, v8_ = (Value.int .i64 x10_) ∧ Ext h4_ h9_ ∧ (Run Tryd.prog 16 #[v7_] h9_ fun v11_ h12_ => ∃ x13_, v11_ = (Value.int .i64 x13_) ∧ splitB (x10_ != x13_) (R (Value.bool false) h12_) (∃ v14_, ldv false 1 h12_ (Addr.add a3 5) = some v14_ ∧ ∃ A15_, ∃ n15_, ∃ c15_, v14_ = (Value.slice A15_ n15_ c15_) ∧ f3.l1 R a3 (⟨Array.size h, 0, none⟩) A112 n112 c112 x113 x114 A15_ n15_ c15_ ((n15_ : Nat) : Int) (0 : Int) h12_)))) (∃ l16_ : List Value, (Value.agg #[(Value.string (ByteArray.mk #[102])), (Value.slice none 0 0), (Value.slice none 0 0), (Value.slice none 0 0), (Value.int .i64 (0 : Int)), (Value.string (ByteArray.mk #[])), (Value.slice none 0 0), (Value.int .i64 (0 : Int)), (Value.int .i64 (0 : Int)), (Value.string (ByteArray.mk #[])), (Value.slice none 0 0), (Value.slice none 0 0), (Value.slice none 0 0), (Value.slice none 0 0), (Value.int .i64 (0 : Int))]) = Value.agg l16_.toArray ∧ l16_.length = 15 ∧ (newH h (Obj.cells ((List.take 0 ([(Value.string (ByteArray.mk #[])), (Value.slice none 0 0), (Value.slice none 0 0), (Value.slice none 0 0), (Value.int .i64 (0 : Int)), (Value.string (ByteArray.mk #[])), (Value.slice none 0 0), (Value.int .i64 (0 : Int)), (Value.int .i64 (0 : Int)), (Value.string (ByteArray.mk #[])), (Value.slice none 0 0), (Value.slice none 0 0), (Value.slice none 0 0), (Value.slice none 0 0), (Value.int .i64 (0 : Int))]) ++ l16_ ++ List.drop 15 ([(Value.string (ByteArray.mk #[])), (Value.slice none 0 0), (Value.slice none 0 0), (Value.slice none 0 0), (Value.int .i64 (0 : Int)), (Value.string (ByteArray.mk #[])), (Value.slice none 0 0), (Value.int .i64 (0 : Int)), (Value.int .i64 (0 : Int)), (Value.string (ByteArray.mk #[])), (Value.slice none 0 0), (Value.slice none 0 0), (Value.slice none 0 0), (Value.slice none 0 0), (Value.int .i64 (0 : Int))])).toArray) 56) fun h17_ => Run Tryd.prog 15 #[(Value.agg #[(Value.string (ByteArray.mk #[84])), (Value.slice (some ⟨Array.size h, 0, none⟩) 1 1)])] h17_ fun v18_ h19_ => ∃ x20_, v18_ = (Value.int .i64 x20_) ∧ R (Value.bool (x20_ == (12 : Int))) h19_))
theorem f3.l0_in {R a3 A112 n112 c112 x113 x114 h} (H : f3.l0T R a3 A112 n112 c112 x113 x114 h) : f3.l0 R a3 A112 n112 c112 x113 x114 h := pt_in (kp := f3.kp) mixed f3.good (by kernel_rfl) H
def f3.l1T (R : VP) (a3 a14 : Addr) (A112 : Option Addr) (n112 c112 : Nat) (x113 x114 : Int) (A124 : Option Addr) (n124 c124 : Nat) (x125 x126 : Int) (h : Heap) : Prop :=
  splitB (decide (x126 < x125)) (ptrOk A124 fun a1_ => 0 ≤ x126 ∧ x126 < ((n124 : Nat) : Int) ∧ (∃ v2_, ldv true 3 h (Addr.add a1_ (Int.toNat x126 * 3)) = some v2_ ∧ newH h (Obj.cells #[(Value.string (ByteArray.mk #[])), (Value.string (ByteArray.mk #[])), (Value.slice none 0 0)] 45) fun h3_ => ∃ l5_ : List Value, v2_ = Value.agg l5_.toArray ∧ l5_.length = 3 ∧ ∃ h4_, stH h3_ (⟨Array.size h, 0, none⟩) l5_ 0 = some h4_ ∧ ∃ v6_, ldv false 1 h4_ (Addr.add (⟨Array.size h, 0, none⟩) 2) = some v6_ ∧ ∃ A7_, ∃ n7_, ∃ c7_, v6_ = (Value.slice A7_ n7_ c7_) ∧ ∃ v8_, ldv false 1 h4_ (Addr.add a14 1) = some v8_ ∧ ∃ A9_, ∃ n9_, ∃ c9_, v8_ = (Value.slice A9_ n9_ c9_) ∧ f3.l2 R a3 a14 (⟨Array.size h, 0, none⟩) A112 n112 c112 x113 x114 A124 n124 c124 x125 x126 (if ((n9_ : Nat) : Int) < ((n7_ : Nat) : Int) then ((n9_ : Nat) : Int) else ((n7_ : Nat) : Int)) (0 : Int) h4_)) (f3.l0 R a3 A112 n112 c112 x113 (IntKind.wrap .i64 (x114 + (1 : Int))) h)
theorem f3.l1_in {R a3 a14 A112 n112 c112 x113 x114 A124 n124 c124 x125 x126 h} (H : f3.l1T R a3 a14 A112 n112 c112 x113 x114 A124 n124 c124 x125 x126 h) : f3.l1 R a3 a14 A112 n112 c112 x113 x114 A124 n124 c124 x125 x126 h := pt_in (kp := f3.kp) mixed f3.good (by kernel_rfl) H
def f3.l2T (R : VP) (a3 a14 a16 : Addr) (A112 : Option Addr) (n112 c112 : Nat) (x113 x114 : Int) (A124 : Option Addr) (n124 c124 : Nat) (x125 x126 x136 x137 : Int) (h : Heap) : Prop :=
  splitB (decide (x137 < x136)) (∃ v1_, ldv true 3 h a16 = some v1_ ∧ ∃ v2_, ldv false 1 h (Addr.add a16 2) = some v2_ ∧ ∃ A3_, ∃ n3_, ∃ c3_, v2_ = (Value.slice A3_ n3_ c3_) ∧ ptrOk A3_ fun a4_ => 0 ≤ x137 ∧ x137 < ((n3_ : Nat) : Int) ∧ (∃ v5_, ldv true 15 h (Addr.add a4_ (Int.toNat x137 * 15)) = some v5_ ∧ ∃ v6_, ldv false 1 h (Addr.add a14 1) = some v6_ ∧ ∃ A7_, ∃ n7_, ∃ c7_, v6_ = (Value.slice A7_ n7_ c7_) ∧ ptrOk A7_ fun a8_ => 0 ≤ x137 ∧ x137 < ((n7_ : Nat) : Int) ∧ (∃ v9_, ldv true 15 h (Addr.add a8_ (Int.toNat x137 * 15)) = some v9_ ∧ ∃ v10_, ldv true 3 h a16 = some v10_ ∧ ∃ v11_, ldv false 1 h (Addr.add a16 2) = some v11_ ∧ ∃ A12_, ∃ n12_, ∃ c12_, v11_ = (Value.slice A12_ n12_ c12_) ∧ ptrOk A12_ fun a13_ => 0 ≤ x137 ∧ x137 < ((n12_ : Nat) : Int) ∧ (∃ v14_, ldv true 15 h (Addr.add a13_ (Int.toNat x137 * 15)) = some v14_ ∧ ∃ v15_, ldv false 1 h (Addr.add a14 1) = some v15_ ∧ ∃ A16_, ∃ n16_, ∃ c16_, v15_ = (Value.slice A16_ n16_ c16_) ∧ ptrOk A16_ fun a17_ => 0 ≤ x137 ∧ x137 < ((n16_ : Nat) : Int) ∧ (∃ v18_, ldv true 15 h (Addr.add a17_ (Int.toNat x137 * 15)) = some v18_ ∧ Run Tryd.prog 17 #[v1_, v5_, v9_] h fun v19_ h20_ => ∃ x21_, v19_ = (Value.int .i64 x21_) ∧ ldv true 3 h20_ a16 = some v10_ ∧ (ldv false 1 h20_ (Addr.add a16 2) = some v11_ ∧ (ldv true 15 h20_ (Addr.add a13_ (Int.toNat x137 * 15)) = some v14_ ∧ (ldv false 1 h20_ (Addr.add a14 1) = some v15_ ∧ (ldv true 15 h20_ (Addr.add a17_ (Int.toNat x137 * 15)) = some v18_ ∧ (Run Tryd.prog 18 #[v10_, v14_, v18_] h20_ fun v22_ h23_ => ∃ x24_, v22_ = (Value.int .i64 x24_) ∧ splitB (x21_ != x24_) (R (Value.bool false) h23_) (f3.l2 R a3 a14 a16 A112 n112 c112 x113 x114 A124 n124 c124 x125 x126 x136 (IntKind.wrap .i64 (x137 + (1 : Int))) h23_))))))))))) (f3.l1 R a3 a14 A112 n112 c112 x113 x114 A124 n124 c124 x125 (IntKind.wrap .i64 (x126 + (1 : Int))) h)
theorem f3.l2_in {R a3 a14 a16 A112 n112 c112 x113 x114 A124 n124 c124 x125 x126 x136 x137 h} (H : f3.l2T R a3 a14 a16 A112 n112 c112 x113 x114 A124 n124 c124 x125 x126 x136 x137 h) : f3.l2 R a3 a14 a16 A112 n112 c112 x113 x114 A124 n124 c124 x125 x126 x136 x137 h := pt_in (kp := f3.kp) mixed f3.good (by kernel_rfl) H
def f3.runT (R : VP) (v0 : Value) (s1 : ByteArray) (v2 : Value) (h : Heap) : Prop :=
  newH h (Obj.cells ((v0).cells) 29) fun h1_ => newH h1_ (Obj.cells #[(Value.string s1)] 9) fun h2_ => newH h2_ (Obj.cells ((v2).cells) 32) fun h3_ => ∃ v4_, ldv true 8 h3_ (⟨Array.size h, 0, none⟩) = some v4_ ∧ ∃ v5_, ldv true 8 h3_ (⟨Array.size h, 0, none⟩) = some v5_ ∧ Run Tryd.prog 6 #[v4_] h3_ fun v6_ h7_ => ∃ x8_, v6_ = (Value.int .i64 x8_) ∧ ldv true 8 h7_ (⟨Array.size h, 0, none⟩) = some v5_ ∧ (Run Tryd.prog 7 #[v5_] h7_ fun v9_ h10_ => ∃ x11_, v9_ = (Value.int .i64 x11_) ∧ splitB (x8_ != x11_) (R (Value.bool false) h10_) (∃ v12_, ldv false 1 h10_ (Addr.add (⟨Array.size h, 0, none⟩) 4) = some v12_ ∧ ∃ A13_, ∃ n13_, ∃ c13_, v12_ = (Value.slice A13_ n13_ c13_) ∧ Run Tryd.prog 8 #[(Value.slice A13_ n13_ c13_), (Value.func (.func 9) #[] #[(Value.pointer (some ⟨Array.size h1_, 0, none⟩))])] h10_ fun v14_ h15_ => ∃ x16_, v14_ = (Value.int .i64 x16_) ∧ ∃ v17_, ldv true 8 h15_ (⟨Array.size h, 0, none⟩) = some v17_ ∧ ∃ v18_, ldv false 1 h15_ (⟨Array.size h1_, 0, none⟩) = some v18_ ∧ ∃ s19_, v18_ = (Value.string s19_) ∧ Run Tryd.prog 10 #[v17_, (Value.string s19_)] h15_ fun v20_ h21_ => ∃ v22_, ∃ x23_, v20_ = (Value.tuple #[v22_, (Value.int .i64 x23_)]) ∧ newH h21_ (Obj.cells #[(Value.string (ByteArray.mk #[])), (Value.slice none 0 0)] 37) fun h24_ => ∃ l26_ : List Value, v22_ = Value.agg l26_.toArray ∧ l26_.length = 2 ∧ ∃ h25_, stH h24_ (⟨Array.size h21_, 0, none⟩) l26_ 0 = some h25_ ∧ splitB (decide (x16_ < (0 : Int))) (splitB (x23_ != (11 : Int)) (R (Value.bool false) h25_) (∃ v27_, ldv false 1 h25_ (⟨Array.size h21_, 0, none⟩) = some v27_ ∧ ∃ s28_, v27_ = (Value.string s28_) ∧ splitB (!(ByteArray.toList s28_ == ByteArray.toList (ByteArray.mk #[]))) (R (Value.bool false) h25_) (∃ v29_, ldv false 1 h25_ (Addr.add (⟨Array.size h21_, 0, none⟩) 1) = some v29_ ∧ ∃ A30_, ∃ n30_, ∃ c30_, v29_ = (Value.slice A30_ n30_ c30_) ∧ splitB (decide (((n30_ : Nat) : Int) > (0 : Int))) (R (Value.bool false) h25_) (splitB (decide (x16_ ≥ (0 : Int))) (splitB (x23_ != (0 : Int)) (R (Value.bool false) h25_) (∃ v31_, ldv false 1 h25_ (⟨Array.size h21_, 0, none⟩) = some v31_ ∧ ∃ s32_, v31_ = (Value.string s32_) ∧ ∃ v33_, ldv false 1 h25_ (⟨Array.size h1_, 0, none⟩) = some v33_ ∧ ∃ s34_, v33_ = (Value.string s34_) ∧ splitB (!(ByteArray.toList s32_ == ByteArray.toList s34_)) (R (Value.bool false) h25_) (∃ v35_, ldv false 1 h25_ (Addr.add (⟨Array.size h21_, 0, none⟩) 1) = some v35_ ∧ ∃ A36_, ∃ n36_, ∃ c36_, v35_ = (Value.slice A36_ n36_ c36_) ∧ ∃ v37_, ldv false 1 h25_ (Addr.add (⟨Array.size h, 0, none⟩) 4) = some v37_ ∧ ∃ A38_, ∃ n38_, ∃ c38_, v37_ = (Value.slice A38_ n38_ c38_) ∧ ptrOk A38_ fun a39_ => 0 ≤ x16_ ∧ x16_ < ((n38_ : Nat) : Int) ∧ (∃ v40_, ldv false 1 h25_ (Addr.add (Addr.add a39_ (Int.toNat x16_ * 2)) 1) = some v40_ ∧ ∃ A41_, ∃ n41_, ∃ c41_, v40_ = (Value.slice A41_ n41_ c41_) ∧ splitB (((n36_ : Nat) : Int) != ((n41_ : Nat) : Int)) (R (Value.bool false) h25_) (f3.j0 R (⟨Array.size h, 0, none⟩) (⟨Array.size h1_, 0, none⟩) (⟨Array.size h2_, 0, none⟩) h25_))))) (f3.j0 R (⟨Array.size h, 0, none⟩) (⟨Array.size h1_, 0, none⟩) (⟨Array.size h2_, 0, none⟩) h25_))))) (splitB (decide (x16_ ≥ (0 : Int))) (splitB (x23_ != (0 : Int)) (R (Value.bool false) h25_) (∃ v42_, ldv false 1 h25_ (⟨Array.size h21_, 0, none⟩) = some v42_ ∧ ∃ s43_, v42_ = (Value.string s43_) ∧ ∃ v44_, ldv false 1 h25_ (⟨Array.size h1_, 0, none⟩) = some v44_ ∧ ∃ s45_, v44_ = (Value.string s45_) ∧ splitB (!(ByteArray.toList s43_ == ByteArray.toList s45_)) (R (Value.bool false) h25_) (∃ v46_, ldv false 1 h25_ (Addr.add (⟨Array.size h21_, 0, none⟩) 1) = some v46_ ∧ ∃ A47_, ∃ n47_, ∃ c47_, v46_ = (Value.slice A47_ n47_ c47_) ∧ ∃ v48_, ldv false 1 h25_ (Addr.add (⟨Array.size h, 0, none⟩) 4) = some v48_ ∧ ∃ A49_, ∃ n49_, ∃ c49_, v48_ = (Value.slice A49_ n49_ c49_) ∧ ptrOk A49_ fun a50_ => 0 ≤ x16_ ∧ x16_ < ((n49_ : Nat) : Int) ∧ (∃ v51_, ldv false 1 h25_ (Addr.add (Addr.add a50_ (Int.toNat x16_ * 2)) 1) = some v51_ ∧ ∃ A52_, ∃ n52_, ∃ c52_, v51_ = (Value.slice A52_ n52_ c52_) ∧ splitB (((n47_ : Nat) : Int) != ((n52_ : Nat) : Int)) (R (Value.bool false) h25_) (f3.j0 R (⟨Array.size h, 0, none⟩) (⟨Array.size h1_, 0, none⟩) (⟨Array.size h2_, 0, none⟩) h25_))))) (f3.j0 R (⟨Array.size h, 0, none⟩) (⟨Array.size h1_, 0, none⟩) (⟨Array.size h2_, 0, none⟩) h25_))))
theorem f3.run {R : VP} {v0 : Value} {s1 : ByteArray} {v2 : Value} {h : Heap} (H : f3.runT R v0 s1 v2 h) : Run Tryd.prog 3 #[v0, (Value.string s1), v2] h R := run_in (kp := f3.kp) mixed Tryd.func3 (by kernel_rfl) (by kernel_rfl) f3.good (by kernel_rfl) H
end Go.Proofs.YtkbhpagogmmgnaaDoor.Fw

end
section
namespace Go.Hw
open Go
section tests
variable {A B : Prop}
theorem split_dec {p : Prop} [Decidable p] (hA : p → A) (hB : ¬ p → B) : splitB (decide p) A B := by
  by_cases h : p
  · rw [decide_eq_true h]; exact hA h
  · rw [decide_eq_false h]; exact hB h
theorem split_not {b : Bool} (h : splitB b B A) : splitB (!b) A B := by cases b <;> exact h
theorem split_t (h : A) : splitB true A B := h
theorem split_f (h : B) : splitB false A B := h
end tests
theorem wrap_in {n : Int} (h0 : -9223372036854775808 ≤ n) (h1 : n ≤ 9223372036854775807) : IntKind.wrap .i64 n = n := by
  rcases Int.le_total 0 n with h | h
  · exact wrap_nat h h1
  · rcases (show n = 0 ∨ n < 0 by omega) with h2 | h2
    · subst h2; rfl
    have e : n % (2 ^ 64 : Int) = n + 2 ^ 64 := by omega
    simp only [IntKind.wrap, IntKind.signed, IntKind.bits, e, Bool.true_and]
    rw [if_pos (by simp only [decide_eq_true_eq]; omega)]
    omega
theorem add_add (a : Addr) (m n : Nat) : (a.add m).add n = a.add (m + n) := by
  unfold Addr.add
  by_cases h1 : m = 0
  · subst h1; simp
  · by_cases h2 : n = 0
    · subst h2; simp
    · have h3 : m + n ≠ 0 := by omega
      simp only [if_neg h1, if_neg h2, if_neg h3]
      rw [Nat.add_assoc]
theorem add_block (a : Addr) (n : Nat) : (a.add n).block = a.block := by unfold Addr.add; split <;> rfl
theorem add_off (a : Addr) (n : Nat) : (a.add n).off = a.off + n := by
  unfold Addr.add
  split
  · rename_i h; subst h; rfl
  · rfl
theorem add_spot {a : Addr} (n : Nat) (h : a.spot = none) : (a.add n).spot = none := by unfold Addr.add; split; exact h; rfl
def Blk (h : Heap) (b : Nat) (c : List Value) (t : TypeId) : Prop := h[b]? = some (.cells c.toArray t (0, 0))
def Only (h h' : Heap) (b : Nat) : Prop := h'.size = h.size ∧ ∀ i, i ≠ b → h'[i]? = h[i]?
section
variable {h h' : Heap} {b : Nat} {c : List Value} {t : TypeId}
theorem Blk.lt (hb : Blk h b c t) : b < h.size := (Array.getElem?_eq_some_iff.1 hb).1
theorem Blk.cell (hb : Blk h b c t) {a : Addr} {v : Value} (h1 : a.block = b) (h2 : a.spot = none) (h3 : c[a.off]? = some v) : cellH h a = some v := by
  unfold cellH Blk at *
  rw [h1, hb, h2]
  simpa using h3
theorem Blk.cells (hb : Blk h b c t) {a : Addr} (h1 : a.block = b) (h2 : a.spot = none) : ∀ (n i : Nat), a.off + i + n ≤ c.length → cellsH h a i n = some ((c.drop (a.off + i)).take n) := by
  intro n
  induction n with
  | zero => intro i _; simp [cellsH]
  | succ n ih =>
    intro i hle
    have hlt : a.off + i < c.length := by omega
    have h3 : c[(a.add i).off]? = some c[a.off + i] := by rw [add_off]; exact List.getElem?_eq_getElem hlt
    simp only [cellsH, hb.cell (a := a.add i) (by rw [add_block]; exact h1) (add_spot i h2) h3, ih (i + 1) (by omega)]
    rw [List.drop_eq_getElem_cons hlt, List.take_succ_cons]
    rfl
theorem Blk.st (hb : Blk h b c t) {a : Addr} {v : Value} (h1 : a.block = b) (h2 : a.spot = none) (h3 : a.off < c.length) (h4 : oneCell v True) :
    ∃ h', st1 h a v = some h' ∧ Blk h' b (c.set a.off v) t ∧ Only h h' b := by
  have hc : cellH h a = some c[a.off] := hb.cell h1 h2 (List.getElem?_eq_getElem h3)
  have hf : frozenH h a = false := by
    unfold frozenH
    rw [h1, show h[b]? = some (.cells c.toArray t (0, 0)) from hb]
    simp
  refine ⟨setH h a v, ?_, ?_, ?_⟩
  · cases v <;> simp_all [st1, oneCell]
  · unfold Blk setH
    rw [Array.getElem?_modify, if_pos h1.symm.symm, show h[b]? = some (.cells c.toArray t (0, 0)) from hb]
    simp [h2]
  · refine ⟨by simp [setH], fun i hi => ?_⟩
    unfold setH
    rw [Array.getElem?_modify, if_neg (by rw [h1]; exact fun e => hi e.symm)]
theorem Blk.new (h : Heap) (c : Array Value) (t : TypeId) : Blk (h.push (.cells c t)) h.size c.toList t := by
  unfold Blk; simp
theorem Ext.push (h : Heap) (o : Obj) : Ext h (h.push o) := ⟨by simp, fun i hi => by rw [Array.getElem?_push, if_neg (by omega)]⟩
theorem Only.refl (h : Heap) (b : Nat) : Only h h b := ⟨rfl, fun _ _ => rfl⟩
theorem Only.trans {h'' : Heap} {b : Nat} (o : Only h h' b) (p : Only h' h'' b) : Only h h'' b := ⟨p.1.trans o.1, fun i hi => (p.2 i hi).trans (o.2 i hi)⟩
end
def Rd {α : Type} (sz : Nat) (E : Heap → α → List Value → Prop) (h : Heap) (A : Option Addr) (l : List α) : Prop :=
  ∀ i (hi : i < l.length), ∃ a cs, A = some a ∧ cellsH h (a.add (i * sz)) 0 sz = some cs ∧ E h l[i] cs
def eInt (k : IntKind) (_ : Heap) (x : Int) (cs : List Value) : Prop := cs = [.int k x]
def eStr (_ : Heap) (x : ByteArray) (cs : List Value) : Prop := cs = [.string x]
def eRow {α : Type} (sz : Nat) (E : Heap → α → List Value → Prop) (h : Heap) (l : List α) (cs : List Value) : Prop := ∃ A c, cs = [.slice A l.length c] ∧ l.length ≤ c ∧ Rd sz E h A l
section
variable {α : Type} {sz : Nat} {E : Heap → α → List Value → Prop} {h h' : Heap} {A : Option Addr} {l : List α}
theorem Rd.nil : Rd sz E h A ([] : List α) := fun i hi => by cases hi
end
theorem CallF.of {P : Program} {f : FuncId} {first captured : Array Value} {args : List Value} {h : Heap} {R : Value → Heap → Prop} (l : List Value) (hc : calleeOk P f = true) (hl : first.toList ++ args ++ captured.toList = l) (hr : Run P f l.toArray h R) :
    CallF P (.func (.func f) first captured) args h R := by
  unfold CallF
  simp only [hc, hl]
  exact hr
theorem newH_in {h : Heap} {c : Array Value} {t : TypeId} {K : Heap → Prop} (H : ∀ h', Blk h' h.size c.toList t → Ext h h' → h'.size = h.size + 1 → K h') : newH h (.cells c t) K :=
  H _ (Blk.new _ _ _) (Ext.push _ _) (by simp)
theorem CallF.mono {P : Program} {v : Value} {args : List Value} {h : Heap} {R R' : Value → Heap → Prop} (hh : CallF P v args h R) (hr : ∀ v h, R v h → R' v h) : CallF P v args h R' := by
  unfold CallF at hh ⊢
  split at hh
  · split at hh
    · exact hh.mono hr
    · exact ExtF.mono hh hr
  · exact hh.elim
def idxOf {α : Type} (p : α → Bool) (l : List α) : Int := match l.findIdx? p with | some i => i | none => -1
theorem idxOf_ge {α : Type} (p : α → Bool) (l : List α) : decide (idxOf p l ≥ 0) = l.any p := by
  unfold idxOf
  cases h : l.findIdx? p with
  | none =>
    rw [List.findIdx?_eq_none_iff] at h
    have : l.any p = false := by simpa using h
    simp [this]
  | some i =>
    have hs : (l.findIdx? p).isSome = true := by rw [h]; rfl
    rw [List.findIdx?_isSome] at hs
    simp [hs]
end Go.Hw

end
section
namespace Go.Hw
open Go Go.RowKit
theorem below_of {W W' : World} (e : Ext W.heap W'.heap) (s : Same W W') : Below W.heap.size W W' := ⟨s.os, s.tape, s.output, e.1, e.2⟩
section
variable {H : Type} {enc : TypeId × Value → H} {P : Program} {W : World}
theorem cells_of {base : Nat} {a : Addr} {n : Nat} {cs : List Value} (hc : W.cells? base a n = some cs) : cellsH W.heap a 0 n = some cs := by
  obtain ⟨_, hlen, hget⟩ := World.cells?_some hc
  have key : ∀ (m i : Nat), i + m = n → cellsH W.heap a i m = some (cs.drop i) := by
    intro m
    induction m with
    | zero =>
      intro i hi
      rw [List.drop_eq_nil_of_le (by omega)]
      rfl
    | succ m ih =>
      intro i hi
      have hlt : i < cs.length := by omega
      have h1 : cellH W.heap (a.add i) = some cs[i] := (hget i (by omega)).trans (List.getElem?_eq_getElem hlt)
      simp only [cellsH, h1, ih (i + 1) (by omega)]
      rw [List.drop_eq_getElem_cons hlt]
  simpa using key n 0 (by omega)
def Tells {α : Type} (enc : TypeId × Value → H) (P : Program) (W : World) (t : TypeId) (E : Heap → α → List Value → Prop) (Q : α → Prop) : Prop :=
  ∀ (fuel : Nat) (cs : List Value) (x : DataW H × List MemPlace), DataW.trod enc P W 0 (fun _ => true) true fuel t cs = some x → (x.1.weights P t).all (· ≤ reachBytes) = true → ∃ a, E W.heap a cs ∧ Q a
theorem tells_int {t : TypeId} {k : IntKind} (hu : P.underlying t = some (.int k)) : Tells enc P W t (eInt k) (fun x => (Lit.int k x).wf = true) := by
  intro fuel cs x h _
  obtain ⟨n, h1, _, h3⟩ := DataW.trod_int hu h
  exact ⟨n, h1, h3⟩
theorem tells_str {t : TypeId} (hu : P.underlying t = some .string) : Tells enc P W t eStr (fun s => s.size ≤ reachBytes) := by
  intro fuel cs x h hw
  obtain ⟨s, h1, h2, _⟩ := DataW.trod_string hu h
  refine ⟨s, h1, ?_⟩
  rw [h2] at hw
  simp only [DataW.weights, List.all_cons, List.all_nil, Bool.and_true, decide_eq_true_eq] at hw
  simpa using hw
theorem weightsAll_all {e : TypeId} : ∀ (l : List (DataW H)), (DataW.weightsAll P e l).all (· ≤ reachBytes) = true → ∀ d ∈ l, (d.weights P e).all (· ≤ reachBytes) = true := by
  intro l
  induction l with
  | nil => intro _ d hd; cases hd
  | cons x l ih =>
    intro h d hd
    simp only [DataW.weightsAll, List.all_append, Bool.and_eq_true] at h
    rcases List.mem_cons.1 hd with rfl | hd
    · exact h.1
    · exact ih h.2 d hd
theorem list_choose {α : Type} {n : Nat} {p : Nat → α → Prop} (h : ∀ i, i < n → ∃ x, p i x) : ∃ l : List α, l.length = n ∧ ∀ i (hi : i < l.length), p i l[i] := by
  induction n with
  | zero => exact ⟨[], rfl, fun i hi => by cases hi⟩
  | succ n ih =>
    obtain ⟨l, h1, h2⟩ := ih fun i hi => h i (by omega)
    obtain ⟨x, hx⟩ := h n (by omega)
    refine ⟨l ++ [x], by simp [h1], fun i hi => ?_⟩
    rw [List.length_append, List.length_singleton] at hi
    by_cases hin : i < l.length
    · rw [List.getElem_append_left hin]; exact h2 i hin
    · have : i = l.length := by omega
      subst this
      rw [List.getElem_append_right (Nat.le_refl _)]
      simp only [Nat.sub_self, List.getElem_cons_zero]
      rw [h1]; exact hx
theorem tells_slice {α : Type} {t e : TypeId} {sz B : Nat} {E : Heap → α → List Value → Prop} {Q : α → Prop} (hu : P.underlying t = some (.slice e)) (hc : P.cellsOf e = sz) (hB : P.bytesOf e = B) (he : Tells enc P W e E Q) :
    Tells enc P W t (eRow sz E) (fun l => l.length * B ≤ reachBytes ∧ ∀ a ∈ l, Q a) := by
  intro fuel cs x h hw
  rcases DataW.trod_slice hu h with ⟨h1, h2⟩ | ⟨a, len, cap, elems, rest, n, _, h1, h2, _, hl, hm, hlen, hel, _, _⟩
  · exact ⟨[], ⟨none, 0, h1, Nat.le_refl _, Rd.nil⟩, by simp, fun a ha => by cases ha⟩
  · rw [h2] at hw
    simp only [DataW.weights, hu, List.all_cons, List.all_append, Bool.and_eq_true, decide_eq_true_eq] at hw
    obtain ⟨hw1, hw2, _⟩ := hw
    have hall := weightsAll_all _ hw2
    obtain ⟨l, h3, h4⟩ := list_choose (n := len) (p := fun i x => (∃ cs', cellsH W.heap (a.add (i * sz)) 0 sz = some cs' ∧ E W.heap x cs') ∧ Q x) (fun i hi => by
      have h5 := hel i hi
      have hlt : i < elems.length := by omega
      rw [List.getElem?_eq_getElem hlt] at h5
      obtain ⟨cs', h6, h7⟩ := Option.bind_eq_some_iff.1 h5
      obtain ⟨x, h8, h9⟩ := he _ _ _ h7 (hall _ (List.mem_map.2 ⟨_, List.getElem_mem hlt, rfl⟩))
      rw [hc] at h6
      exact ⟨x, ⟨cs', cells_of h6, h8⟩, h9⟩)
    refine ⟨l, ⟨some a, cap, by rw [h1, h3], by omega, fun i hi => ?_⟩, ?_, fun x hx => ?_⟩
    · obtain ⟨⟨cs', h5, h6⟩, _⟩ := h4 i hi
      exact ⟨a, cs', rfl, h5, h6⟩
    · rw [hB] at hw1
      have : l.length ≤ (List.map (·.1) elems).length + (List.map (·.1) rest).length := by simp; omega
      exact Nat.le_trans (Nat.mul_le_mul_right _ this) hw1
    · obtain ⟨i, hi, rfl⟩ := List.getElem_of_mem hx
      exact (h4 i hi).2
end
theorem wf_i64 {x : Int} (h : (Lit.int .i64 x).wf = true) : -9223372036854775808 ≤ x ∧ x ≤ 9223372036854775807 := by
  simpa [Lit.wf, IntKind.min, IntKind.max, IntKind.signed, IntKind.bits] using h
end Go.Hw

end
section
namespace Go.Hw
open Go
theorem cellsH_length {h : Heap} {a : Addr} : ∀ {n i : Nat} {cs : List Value}, cellsH h a i n = some cs → cs.length = n := by
  intro n
  induction n with
  | zero => intro i cs hc; simp only [cellsH, Option.some.injEq] at hc; subst hc; rfl
  | succ n ih =>
    intro i cs hc
    simp only [cellsH] at hc
    split at hc
    · split at hc
      · rename_i vs hv; cases hc; simp [ih hv]
      · cases hc
    · cases hc
def Flat (v : Value) : Prop := oneCell v True
theorem Blk.stH {b : Nat} {t : TypeId} : ∀ (xs : List Value) {h : Heap} {p q r : List Value} {a : Addr} {i : Nat}, Blk h b (p ++ q ++ r) t → a.block = b → a.spot = none → a.off + i = p.length → q.length = xs.length → (∀ v ∈ xs, Flat v) →
    ∃ h', stH h a xs i = some h' ∧ Blk h' b (p ++ xs ++ r) t ∧ Only h h' b := by
  intro xs
  induction xs with
  | nil =>
    intro h p q r a i hb h1 h2 h3 h4 h5
    rw [List.length_eq_zero_iff.1 h4] at hb
    exact ⟨h, rfl, hb, .refl _ _⟩
  | cons v xs ih =>
    intro h p q r a i hb h1 h2 h3 h4 h5
    obtain ⟨u, q', rfl⟩ : ∃ u q', q = u :: q' := by cases q with | nil => cases h4 | cons u q' => exact ⟨u, q', rfl⟩
    have hoff : (a.add i).off = p.length := by rw [add_off, h3]
    obtain ⟨h', s1, b1, o1⟩ := hb.st (a := a.add i) (v := v) (by rw [add_block, h1]) (add_spot _ h2) (by rw [hoff]; simp) (h5 v (List.mem_cons_self ..))
    rw [hoff] at b1
    have e : (p ++ u :: q' ++ r).set p.length v = (p ++ [v]) ++ q' ++ r := by
      rw [List.append_assoc, List.set_append_right _ _ (Nat.le_refl _)]; simp
    rw [e] at b1
    obtain ⟨h'', s2, b2, o2⟩ := ih (p := p ++ [v]) (q := q') (r := r) (a := a) (i := i + 1) b1 h1 h2 (by simp; omega) (by simpa using h4) (fun x hx => h5 x (List.mem_cons_of_mem _ hx))
    refine ⟨h'', ?_, by simpa using b2, o1.trans o2⟩
    simp only [Go.Hw.stH, s1, s2]
theorem zcells_size (z : Array Value) (n : Nat) : (zcells z n).size = n * z.size := by
  unfold zcells Builtin.zeroCells
  simp
end Go.Hw

end
section
namespace Go.Hw
open Go Go.RowKit
theorem cellsH_get {h : Heap} {a : Addr} : ∀ {n i : Nat} {cs : List Value} {k : Nat} {v : Value}, cellsH h a i n = some cs → cs[k]? = some v → cellH h (a.add (i + k)) = some v := by
  intro n
  induction n with
  | zero => intro i cs k v hc hv; simp only [cellsH, Option.some.injEq] at hc; subst hc; cases hv
  | succ n ih =>
    intro i cs k v hc hv
    simp only [cellsH] at hc
    split at hc
    · rename_i u hu
      split at hc
      · rename_i vs hvs
        cases hc
        cases k with
        | zero => cases hv; exact hu
        | succ k => rw [show i + (k + 1) = i + 1 + k by omega]; exact ih hvs (by simpa using hv)
      · cases hc
    · cases hc
section
variable {α : Type} {sz : Nat} {E : Heap → α → List Value → Prop} {h h' : Heap} {A : Option Addr} {l : List α}
theorem cellsH_append {h : Heap} {a : Addr} : ∀ {m i n : Nat} {cs ds : List Value}, cellsH h a i m = some cs → cellsH h a (i + m) n = some ds → cellsH h a i (m + n) = some (cs ++ ds) := by
  intro m
  induction m with
  | zero => intro i n cs ds h1 h2; simp only [cellsH, Option.some.injEq] at h1; subst h1; simpa using h2
  | succ m ih =>
    intro i n cs ds h1 h2
    simp only [cellsH] at h1
    split at h1
    · rename_i u hu
      split at h1
      · rename_i vs hvs
        cases h1
        rw [show m + 1 + n = (m + n) + 1 by omega]
        have h3 := ih hvs (n := n) (ds := ds) (by rw [show i + 1 + m = i + (m + 1) by omega]; exact h2)
        simp only [cellsH, hu, h3, List.cons_append]
      · cases h1
    · cases h1
theorem cellsH_shift {h : Heap} {a : Addr} {j : Nat} : ∀ {n i : Nat}, cellsH h (a.add j) i n = cellsH h a (j + i) n := by
  intro n
  induction n with
  | zero => intro i; rfl
  | succ n ih =>
    intro i
    simp only [cellsH, add_add]
    rw [ih, Nat.add_assoc]
end
theorem Blk.stAll {h : Heap} {b : Nat} {c : List Value} {t : TypeId} (hb : Blk h b c t) (l : List Value) (hn : l.length = c.length) (hf : ∀ v ∈ l, Flat v) :
    ∃ h', Go.Hw.stH h ⟨b, 0, none⟩ l 0 = some h' ∧ Blk h' b l t ∧ Only h h' b := by
  obtain ⟨h', s1, b1, o1⟩ := Blk.stH l (p := []) (q := c) (r := []) (a := ⟨b, 0, none⟩) (i := 0) (by simpa using hb) rfl rfl rfl hn.symm hf
  exact ⟨h', s1, by simpa using b1, o1⟩
section
variable {P : Program} {d : Nat} {t : TypeId}
def flatB (P : Program) (t : TypeId) (x y : Value) : Option Bool :=
  match P.underlying t, x, y with
  | some (.int _), .int k a, .int k' b => match kindB k k' with | true => some (a == b) | false => none
  | some .bool, .bool a, .bool b => some (a == b)
  | some .string, .string a, .string b => some (a == b)
  | _, _, _ => none
end
section
variable {H : Type} {enc : TypeId × Value → H} {P : Program} {W : World}
def TellsF {α : Type} (enc : TypeId × Value → H) (P : Program) (W : World) (T o : Nat) (fs : List (TypeId × Nat)) (F : Heap → α → List Value → Prop) (Q : α → Prop) : Prop :=
  ∀ (n : Nat) (cs : List Value) (xs : List (DataW H × List MemPlace)), cs.length = T → xs.length = fs.length → (∀ (i : Nat) (f : TypeId × Nat), fs[i]? = some f → DataW.trod enc P W 0 (fun _ => true) true n f.1 ((cs.drop f.2).take (P.cellsOf f.1)) = xs[i]?) →
    (DataW.weightsEach P (fs.map (·.1)) (xs.map (·.1))).all (· ≤ reachBytes) = true → ∃ b, F W.heap b (cs.drop o) ∧ Q b
def eNil (_ : Heap) (_ : Unit) (cs : List Value) : Prop := cs = []
def eCons {α β : Type} (E : Heap → α → List Value → Prop) (F : Heap → β → List Value → Prop) (h : Heap) (x : α × β) (cs : List Value) : Prop := ∃ c1 c2, cs = c1 ++ c2 ∧ E h x.1 c1 ∧ F h x.2 c2
theorem tf_nil {T : Nat} : TellsF enc P W T T [] eNil (fun _ => True) := fun n cs xs hl _ _ _ => ⟨(), by unfold eNil; rw [List.drop_eq_nil_of_le (by omega)], trivial⟩
theorem tf_cons {α β : Type} {E : Heap → α → List Value → Prop} {F : Heap → β → List Value → Prop} {Q : α → Prop} {Q' : β → Prop} {T o s : Nat} {f : TypeId} {fs : List (TypeId × Nat)} (hs : P.cellsOf f = s)
    (he : Tells enc P W f E Q) (hf : TellsF enc P W T (o + s) fs F Q') : TellsF enc P W T o ((f, o) :: fs) (eCons E F) (fun x => Q x.1 ∧ Q' x.2) := by
  intro n cs xs hl hx hi hw
  cases xs with
  | nil => cases hx
  | cons x xs =>
    have h0 := hi 0 (f, o) rfl
    simp only [hs] at h0
    simp only [List.map_cons, DataW.weightsEach, List.all_append, Bool.and_eq_true] at hw
    obtain ⟨a, ha, qa⟩ := he n _ _ h0 hw.1
    obtain ⟨b, hb, qb⟩ := hf n cs xs hl (by simpa using hx) (fun i g hg => by simpa using hi (i + 1) g hg) hw.2
    exact ⟨(a, b), ⟨_, _, by rw [← List.drop_drop, List.take_append_drop], ha, hb⟩, qa, qb⟩
def shapeOf (P : Program) (t : TypeId) : Option (List (TypeId × Nat)) := match P.underlying t with | some (.struct fs) => some (fs.toList.map fun f => (f.type, f.offset)) | _ => none
theorem tells_struct {α : Type} {F : Heap → α → List Value → Prop} {Q : α → Prop} {t : TypeId} {fs : List (TypeId × Nat)} {T : Nat} (hs : shapeOf P t = some fs) (hc : P.cellsOf t = T) (hf : TellsF enc P W T 0 fs F Q) : Tells enc P W t F Q := by
  intro fuel cs x h hw
  unfold shapeOf at hs
  split at hs
  · rename_i fa hu
    cases hs
    obtain ⟨xs, n, _, rfl, hl, hlen, hi⟩ := DataW.trod_struct hu h
    simp only [DataW.weights, hu] at hw
    obtain ⟨b, hb, qb⟩ := hf n cs xs (by rw [hl, hc]) (by simpa using hlen) (fun i f hif => by
      rw [List.getElem?_map, Option.map_eq_some_iff] at hif
      obtain ⟨g, hg, rfl⟩ := hif
      exact hi i g (by simpa using hg)) (by rw [List.map_map]; exact hw)
    exact ⟨b, by simpa using hb, qb⟩
  · cases hs
theorem tells_map {α β : Type} {E : Heap → α → List Value → Prop} {F : Heap → β → List Value → Prop} {Q : α → Prop} {Q' : β → Prop} {t : TypeId} (he : Tells enc P W t E Q) (hm : ∀ a cs, E W.heap a cs → Q a → ∃ b, F W.heap b cs ∧ Q' b) : Tells enc P W t F Q' :=
  fun fuel cs x h hw => let ⟨a, ha, qa⟩ := he fuel cs x h hw; hm a cs ha qa
theorem okWide_agg_of {t : TypeId} {fs : List (TypeId × Nat)} {v : Value} {r : Reach} {base : Nat} (hs : shapeOf P t = some fs) (h : Value.okWide P W r base t v) : ∃ cs : List Value, v = .agg cs.toArray := by
  unfold shapeOf at hs
  split at hs
  · rename_i fa hu
    simp only [Value.okWide, hu] at h
    cases v <;> simp_all
    rename_i xs
    exact ⟨xs.toList, by simp⟩
  · cases hs
end
end Go.Hw

end
section
namespace Go.Hw
open Go
theorem ba_toList {a b : ByteArray} (h : a.toList = b.toList) : a = b := by
  rw [ByteArray.toList_eq, ByteArray.toList_eq] at h
  obtain ⟨⟨x⟩⟩ := a
  obtain ⟨⟨y⟩⟩ := b
  have : x = y := h
  rw [this]
end Go.Hw

end
section
namespace Go.Hw
open Go
end Go.Hw

end
section
namespace Go.Hw
open Go
end Go.Hw

end
section
namespace Go.Hw
open Go
def dead : Obj := .cells #[] 0 (0, 0)
def Live (m : Heap) (b : Nat) : Prop := ∃ o, m[b]? = some o ∧ o ≠ dead
def Sub (m h : Heap) : Prop := ∀ (b : Nat) (o : Obj), m[b]? = some o → o ≠ dead → h[b]? = some o
abbrev No : Nat → Prop := fun _ => False
section
variable {m m' h h' k h0 m0 : Heap} {b : Nat} {W W' : Nat → Prop}
theorem Sub.refl (h : Heap) : Sub h h := fun _ _ h _ => h
theorem Sub.trans (s : Sub m h) (t : Sub h k) : Sub m k := fun b o h1 h2 => t b o (s b o h1 h2) h2
theorem Sub.lt (s : Sub m h) (l : Live m b) : b < h.size := by
  obtain ⟨o, h1, h2⟩ := l
  exact (Array.getElem?_eq_some_iff.1 (s b o h1 h2)).1
theorem Sub.ext (s : Sub m h) (e : Ext h h') : Sub m h' := fun b o h1 h2 => by rw [e.2 b (s.lt ⟨o, h1, h2⟩)]; exact s b o h1 h2
theorem Sub.cell (s : Sub m h) {a : Addr} {v : Value} (hc : cellH m a = some v) : cellH h a = some v := by
  unfold cellH at hc
  split at hc
  · rename_i c e f hm
    have hne : (Obj.cells c e f) ≠ dead := by
      intro hd
      unfold dead at hd
      cases hd
      split at hc <;> simp at hc
    unfold cellH
    rw [s _ _ hm hne]; exact hc
  · cases hc
theorem Sub.cells (s : Sub m h) {a : Addr} : ∀ (n i : Nat) {vs : List Value}, cellsH m a i n = some vs → cellsH h a i n = some vs := by
  intro n
  induction n with
  | zero => intro i vs hc; exact hc
  | succ n ih =>
    intro i vs hc
    simp only [cellsH] at hc ⊢
    split at hc
    · rename_i v hv
      rw [s.cell hv]
      split at hc
      · rename_i us hu
        rw [ih _ hu]; exact hc
      · cases hc
    · cases hc
theorem Sub.blk (s : Sub m h) {c : List Value} {t : TypeId} (hb : Blk m b c t) (hc : c ≠ []) : Blk h b c t := by
  unfold Blk at *
  refine s _ _ hb ?_
  intro hd
  unfold dead at hd
  cases c with
  | nil => exact hc rfl
  | cons x c => simp at hd
end
structure Tell {α : Type} (sz : Nat) (E : Heap → α → List Value → Prop) : Prop where
  mono : ∀ m h x cs, Sub m h → E m x cs → E h x cs
  len : ∀ h x cs, E h x cs → cs.length = sz
  flat : ∀ h x cs, E h x cs → ∀ v ∈ cs, Flat v
theorem Flats.nil : ∀ v ∈ ([] : List Value), Flat v := fun v hv => by cases hv
theorem Flats.cons {x : Value} {l : List Value} (h : Flat x) (t : ∀ v ∈ l, Flat v) : ∀ v ∈ x :: l, Flat v := fun v hv => by
  rcases List.mem_cons.1 hv with rfl | hv
  · exact h
  · exact t v hv
theorem tell_int (k : IntKind) : Tell 1 (eInt k) := ⟨fun _ _ _ _ _ h => h, fun _ _ _ h => by rw [h]; rfl, fun _ _ _ h => by rw [h]; exact Flats.cons trivial Flats.nil⟩
theorem tell_str : Tell 1 eStr := ⟨fun _ _ _ _ _ h => h, fun _ _ _ h => by rw [h]; rfl, fun _ _ _ h => by rw [h]; exact Flats.cons trivial Flats.nil⟩
section
variable {α : Type} {sz : Nat} {E : Heap → α → List Value → Prop} {m m' h h' : Heap} {A : Option Addr} {l : List α} {c : Nat}
theorem Rd.sub (r : Rd sz E m A l) (T : Tell sz E) (s : Sub m h) : Rd sz E h A l := fun i hi =>
  let ⟨a, cs, h1, h2, h3⟩ := r i hi
  ⟨a, cs, h1, s.cells _ _ h2, T.mono _ _ _ _ s h3⟩
theorem tell_row (T : Tell sz E) : Tell 1 (eRow sz E) := ⟨fun _ _ _ _ s ⟨A, c, h1, h2, h3⟩ => ⟨A, c, h1, h2, h3.sub T s⟩, fun _ _ _ ⟨A, c, h1, _, _⟩ => by rw [h1]; rfl, fun _ _ _ ⟨A, c, h1, _, _⟩ => by rw [h1]; exact Flats.cons trivial Flats.nil⟩
end
structure St (W : Nat → Prop) (h0 m0 h m : Heap) : Prop where
  up : Sub m0 m
  s : Sub m h
  size : h0.size ≤ h.size
  fr : ∀ b, b < h0.size → ¬ W b → h[b]? = h0[b]?
  lv : ∀ b, b < h0.size → Live m b → Live m0 b ∨ W b
def fb (b0 b : Nat) : Prop := b = b0
def fp (A : Option Addr) (c : Nat) (b : Nat) : Prop := c ≠ 0 ∧ ∃ a, A = some a ∧ a.block = b
def Dj (F G : Nat → Prop) : Prop := ∀ b, F b → G b → False
section
variable {m m' h h' h0 m0 : Heap} {b b' : Nat} {W W' F G G' : Nat → Prop}
theorem Dj.symm (d : Dj F G) : Dj G F := fun b h1 h2 => d b h2 h1
theorem Dj.no : Dj No F := fun _ h _ => h
theorem St.refl (s : Sub m h) : St W h m h m := ⟨.refl _, s, Nat.le_refl _, fun _ _ _ => rfl, fun _ _ h => .inl h⟩
theorem St.of_ext (s : Sub m h) (e : Ext h h') : St W h m h' m := ⟨.refl _, s.ext e, e.1, fun b hb _ => e.2 b hb, fun _ _ h => .inl h⟩
theorem St.ext (S : St No h m h' m') : Ext h h' := ⟨S.size, fun b hb => S.fr b hb (fun h => h)⟩
theorem St.then (S : St W h0 m0 h m) (T : St W' h m h' m') (hw : ∀ b, b < h.size → W' b → h0.size ≤ b ∨ W b) : St W h0 m0 h' m' where
  up := S.up.trans T.up
  s := T.s
  size := Nat.le_trans S.size T.size
  fr b hb hn := by
    rw [T.fr b (by have := S.size; omega) (fun hw' => (hw b (by have := S.size; omega) hw').elim (fun h => by omega) hn)]
    exact S.fr b hb hn
  lv b hb hl := by
    rcases T.lv b (by have := S.size; omega) hl with h1 | h1
    · exact S.lv b hb h1
    · exact .inr ((hw b (by have := S.size; omega) h1).elim (fun h => by omega) id)
theorem St.grow (S : St W h0 m0 h m) (T : St No h m h' m') : St W h0 m0 h' m' := S.then T fun _ _ h => h.elim
theorem St.notLive (s : Sub m h) : ¬ Live m h.size := fun l => by have := s.lt l; omega
theorem St.only (s : Sub m h) (hn : ¬ Live m b) (o : Only h h' b) : St (fb b) h m h' m where
  up := .refl _
  s i x h1 h2 := by
    rw [o.2 i (fun e => hn (e ▸ ⟨x, h1, h2⟩))]; exact s i x h1 h2
  size := by rw [o.1]; exact Nat.le_refl _
  fr i _ hw := o.2 i hw
  lv i _ hl := .inl hl
end
open Classical in
noncomputable def addV (m h : Heap) (F : Nat → Prop) : Heap := Array.ofFn (n := h.size) fun i => if Live m i.1 ∨ F i.1 then h[i.1] else dead
section
variable {m h : Heap} {b : Nat} {F : Nat → Prop}
theorem addV_get (hb : b < h.size) (hl : Live m b ∨ F b) : (addV m h F)[b]? = h[b]? := by
  unfold addV
  rw [Array.getElem?_ofFn, dif_pos hb, if_pos hl, Array.getElem?_eq_getElem hb]
theorem addV_live (hl : Live (addV m h F) b) : (Live m b ∨ F b) ∧ b < h.size := by
  obtain ⟨o, h1, h2⟩ := hl
  unfold addV at h1
  rw [Array.getElem?_ofFn] at h1
  split at h1
  · rename_i hb
    refine ⟨?_, hb⟩
    by_cases hc : Live m b ∨ F b
    · exact hc
    · rw [if_neg hc] at h1; cases h1; exact (h2 rfl).elim
  · cases h1
theorem addV_sub : Sub (addV m h F) h := fun b o h1 h2 => by
  have := addV_live ⟨o, h1, h2⟩
  rw [← addV_get this.2 this.1]; exact h1
theorem addV_up (s : Sub m h) : Sub m (addV m h F) := fun b o h1 h2 => by
  rw [addV_get (s.lt ⟨o, h1, h2⟩) (.inl ⟨o, h1, h2⟩)]; exact s b o h1 h2
theorem St.settle (s : Sub m h) (F : Nat → Prop) : St F h m h (addV m h F) := ⟨addV_up s, addV_sub, Nat.le_refl _, fun _ _ _ => rfl, fun _ _ hl => (addV_live hl).1⟩
theorem Blk.settle {c : List Value} {t : TypeId} (hb : Blk h b c t) (hF : F b) : Blk (addV m h F) b c t := by
  unfold Blk at *
  rw [addV_get (Blk.lt hb) (.inr hF)]; exact hb
end
section
variable {α : Type} {sz : Nat} {E : Heap → α → List Value → Prop} {m m' h h' h0 m0 : Heap} {A : Option Addr} {l l' : List α} {c : Nat} {cs ds : List Value} {x y : α} {W W' : Nat → Prop}
def CsE (sz : Nat) (E : Heap → α → List Value → Prop) (m : Heap) : List α → List Value → Prop
  | [], cs => cs = []
  | x :: l, cs => ∃ c1 c2, cs = c1 ++ c2 ∧ c1.length = sz ∧ E m x c1 ∧ CsE sz E m l c2
theorem CsE.nil : CsE sz E m ([] : List α) [] := rfl
theorem CsE.cons {c1 : List Value} (h1 : E m x c1) (h2 : c1.length = sz) (h : CsE sz E m l cs) : CsE sz E m (x :: l) (c1 ++ cs) := ⟨c1, cs, rfl, h2, h1, h⟩
theorem CsE.len : ∀ {l : List α} {cs : List Value}, CsE sz E m l cs → cs.length = l.length * sz := by
  intro l
  induction l with
  | nil => intro cs h; rw [show cs = [] from h]; simp
  | cons x l ih => rintro cs ⟨c1, c2, rfl, h1, h2, h3⟩; rw [List.length_append, ih h3, h1, List.length_cons, Nat.succ_mul, Nat.add_comm]
theorem CsE.append : ∀ {l l' : List α} {cs ds : List Value}, CsE sz E m l cs → CsE sz E m l' ds → CsE sz E m (l ++ l') (cs ++ ds) := by
  intro l
  induction l with
  | nil => intro l' cs ds h h'; rw [show cs = [] from h]; exact h'
  | cons x l ih => rintro l' cs ds ⟨c1, c2, rfl, h1, h2, h3⟩ h'; rw [List.append_assoc]; exact ⟨c1, c2 ++ ds, rfl, h1, h2, ih h3 h'⟩
theorem CsE.get : ∀ {l : List α} {cs : List Value} {i : Nat}, CsE sz E m l cs → l[i]? = some y → E m y ((cs.drop (i * sz)).take sz) ∧ i * sz + sz ≤ cs.length := by
  intro l
  induction l with
  | nil => intro cs i h h'; cases h'
  | cons x l ih =>
    rintro cs i ⟨c1, c2, rfl, h1, h2, h3⟩ hy
    cases i with
    | zero =>
      cases hy
      simp only [Nat.zero_mul, List.drop_zero]
      rw [← h1, List.take_left]
      exact ⟨h2, by simp⟩
    | succ i =>
      have := ih (i := i) h3 (by simpa using hy)
      rw [show (i + 1) * sz = c1.length + i * sz by rw [h1, Nat.succ_mul, Nat.add_comm], ← List.drop_drop, List.drop_left, List.length_append]
      exact ⟨this.1, by omega⟩
theorem CsE.set {c1 : List Value} (hx : E m x c1) (hz : c1.length = sz) : ∀ {l : List α} {cs : List Value} {i : Nat}, CsE sz E m l cs → i < l.length → CsE sz E m (l.set i x) (cs.take (i * sz) ++ c1 ++ cs.drop (i * sz + sz)) := by
  intro l
  induction l with
  | nil => intro cs i h h'; cases h'
  | cons y l ih =>
    rintro cs i ⟨d1, d2, rfl, h1, h2, h3⟩ hi
    cases i with
    | zero =>
      simp only [Nat.zero_mul, List.take_zero, List.nil_append, Nat.zero_add, List.set_cons_zero]
      rw [← h1, List.drop_left]
      exact ⟨c1, d2, rfl, by rw [hz, h1], hx, by rw [h1]; exact h3⟩
    | succ i =>
      have := ih (i := i) h3 (by simpa using hi)
      rw [show (i + 1) * sz = d1.length + i * sz by rw [h1, Nat.succ_mul, Nat.add_comm], List.take_length_add_append, show d1.length + i * sz + sz = d1.length + (i * sz + sz) by omega, List.drop_length_add_append, List.set_cons_succ]
      exact ⟨d1, _, by simp [List.append_assoc], h1, h2, this⟩
theorem CsE.drop : ∀ {l : List α} {cs : List Value} (k : Nat), CsE sz E m l cs → CsE sz E m (l.drop k) (cs.drop (k * sz)) := by
  intro l
  induction l with
  | nil => intro cs k h; rw [show cs = [] from h]; simp [CsE]
  | cons x l ih =>
    rintro cs k ⟨c1, c2, rfl, h1, h2, h3⟩
    cases k with
    | zero => rw [Nat.zero_mul, List.drop_zero, List.drop_zero]; exact ⟨c1, c2, rfl, h1, h2, h3⟩
    | succ k =>
      rw [show (k + 1) * sz = c1.length + k * sz by rw [h1, Nat.succ_mul, Nat.add_comm], ← List.drop_drop (l := c1 ++ c2), List.drop_left, List.drop_succ_cons]
      exact ih k h3
theorem CsE.take : ∀ {l : List α} {cs : List Value} (k : Nat), CsE sz E m l cs → CsE sz E m (l.take k) (cs.take (k * sz)) := by
  intro l
  induction l with
  | nil => intro cs k h; rw [show cs = [] from h]; simp [CsE]
  | cons x l ih =>
    rintro cs k ⟨c1, c2, rfl, h1, h2, h3⟩
    cases k with
    | zero => simp [CsE]
    | succ k =>
      rw [show (k + 1) * sz = c1.length + k * sz by rw [h1, Nat.succ_mul, Nat.add_comm], List.take_length_add_append, List.take_succ_cons]
      exact ⟨c1, _, rfl, h1, h2, ih k h3⟩
theorem CsE.rep {z : α} {zc : List Value} (hz : E m z zc) (hl : zc.length = sz) : ∀ n : Nat, CsE sz E m (List.replicate n z) ((List.replicate n zc).flatten)
  | 0 => rfl
  | n + 1 => by rw [List.replicate_succ, List.replicate_succ, List.flatten_cons]; exact ⟨zc, _, rfl, hl, hz, CsE.rep hz hl n⟩
theorem Rd.tail (r : Rd sz E m A (x :: l)) : ∀ a, A = some a → Rd sz E m (some (a.add sz)) l := by
  intro a ha i hi
  obtain ⟨a', cs, h1, h2, h3⟩ := r (i + 1) (by simpa using hi)
  rw [ha] at h1; cases h1
  refine ⟨_, cs, rfl, ?_, h3⟩
  rw [add_add, show sz + i * sz = (i + 1) * sz by rw [Nat.succ_mul, Nat.add_comm]]; exact h2
theorem Rd.cse (T : Tell sz E) : ∀ {l : List α} {a : Addr}, Rd sz E m (some a) l → ∃ cs, cellsH m a 0 (l.length * sz) = some cs ∧ CsE sz E m l cs := by
  intro l
  induction l with
  | nil => intro a r; exact ⟨[], by simp [cellsH], rfl⟩
  | cons x l ih =>
    intro a r
    obtain ⟨cs, h1, h2⟩ := ih (r.tail a rfl)
    obtain ⟨a', c1, h3, h4, h5⟩ := r 0 (by simp)
    cases h3
    rw [Nat.zero_mul, show a.add 0 = a from rfl] at h4
    refine ⟨c1 ++ cs, ?_, c1, cs, rfl, T.len _ _ _ h5, h5, h2⟩
    rw [List.length_cons, Nat.succ_mul, Nat.add_comm]
    refine cellsH_append h4 ?_
    rw [cellsH_shift] at h1
    simpa using h1
theorem CsE.rd {b : Nat} {t : TypeId} {pre rest : List Value} (hb : Blk h b (pre ++ cs ++ rest) t) (hc : CsE sz E m l cs) (hm : ∀ x cs, E m x cs → E h x cs) : Rd sz E h (some ⟨b, pre.length, none⟩) l := by
  intro i hi
  have hg := hc.get (List.getElem?_eq_getElem hi)
  refine ⟨_, _, rfl, ?_, hm _ _ hg.1⟩
  have := hb.cells (a := (⟨b, pre.length, none⟩ : Addr).add (i * sz)) (by rw [add_block]) (add_spot _ rfl) sz 0 (by rw [add_off, List.length_append, List.length_append]; simp only [Nat.add_zero]; omega)
  rw [this, add_off]
  simp only [Nat.add_zero]
  rw [List.append_assoc, ← List.drop_drop, List.drop_left, List.drop_append_of_le_length (by omega), List.take_append_of_le_length (by rw [List.length_drop]; omega)]
def OS (W : Nat → Prop) (h0 : Heap) (sz : Nat) (E : Heap → α → List Value → Prop) (h m : Heap) (A : Option Addr) (l : List α) (c : Nat) : Prop :=
  (l = [] ∧ c = 0) ∨ ∃ b t pre cs rest, A = some ⟨b, pre.length, none⟩ ∧ Blk h b (pre ++ cs ++ rest) t ∧ CsE sz E m l cs ∧ l.length ≤ c ∧ (c - l.length) * sz ≤ rest.length ∧ (h0.size ≤ b ∨ W b) ∧ ¬ Live m b
theorem OS.cap (o : OS W h0 sz E h m A l c) : l.length ≤ c := by
  rcases o with ⟨rfl, rfl⟩ | ⟨b, t, pre, cs, rest, h1, h2, h3, h4, h5, h6, h7⟩
  · exact Nat.le_refl _
  · exact h4
theorem OS.wr (o : OS W h0 sz E h m A l c) : ∀ b, fp A c b → h0.size ≤ b ∨ W b := by
  rintro b ⟨hc, a, ha, rfl⟩
  rcases o with ⟨rfl, rfl⟩ | ⟨b, t, pre, cs, rest, h1, h2, h3, h4, h5, h6, h7⟩
  · exact (hc rfl).elim
  · rw [h1] at ha; cases ha; exact h6
def OB (W : Nat → Prop) (h0 h m : Heap) (b : Nat) (cs : List Value) (t : TypeId) : Prop := Blk h b cs t ∧ (h0.size ≤ b ∨ W b) ∧ ¬ Live m b
variable {b : Nat} {t : TypeId}
theorem OB.all (o : OB W h0 h m b cs t) : cellsH h ⟨b, 0, none⟩ 0 cs.length = some cs := by
  have := o.1.cells (a := ⟨b, 0, none⟩) rfl rfl cs.length 0 (by simp)
  simpa using this
theorem Blk.all' (o : Blk m b cs t) : cellsH m ⟨b, 0, none⟩ 0 cs.length = some cs := by
  have := o.cells (a := ⟨b, 0, none⟩) rfl rfl cs.length 0 (by simp)
  simpa using this
def VB (E : Heap → α → List Value → Prop) (m : Heap) (b : Nat) (x : α) : Prop := ∃ cs t, Blk m b cs t ∧ cs ≠ [] ∧ E m x cs
theorem VB.sub (v : VB E m b x) (T : Tell sz E) (s : Sub m h) : VB E h b x := let ⟨cs, t, h1, h2, h3⟩ := v; ⟨cs, t, s.blk h1 h2, h2, T.mono _ _ _ _ s h3⟩
end
end Go.Hw

end
section
namespace Go.Hw
def LeO {β : Type} (a b : Option β) : Prop := ∀ r, a = some r → b = some r
theorem LeO.refl {β : Type} (a : Option β) : LeO a a := fun _ h => h
theorem LeO.bind {β γ : Type} {a b : Option β} {f g : β → Option γ} (h : LeO a b) (k : ∀ x, LeO (f x) (g x)) : LeO (a.bind f) (b.bind g) := by
  intro r hr
  cases a with
  | none => cases hr
  | some x => rw [h x rfl]; exact k x r hr
theorem LeO.ite {β : Type} {p : Prop} [Decidable p] {a b a' b' : Option β} (h : LeO a a') (k : LeO b b') : LeO (if p then a else b) (if p then a' else b') := by
  by_cases c : p
  · rw [if_pos c, if_pos c]; exact h
  · rw [if_neg c, if_neg c]; exact k
section
variable {α : Type} {β : α → Type} {F : ((x : α) → Option (β x)) → (x : α) → Option (β x)}
def MonoF (F : ((x : α) → Option (β x)) → (x : α) → Option (β x)) : Prop := ∀ f g, (∀ x, LeO (f x) (g x)) → ∀ x, LeO (F f x) (F g x)
def FixR (F : ((x : α) → Option (β x)) → (x : α) → Option (β x)) (x : α) (r : β x) : Prop :=
  ∀ I : (x : α) → β x → Prop, (∀ f, (∀ x r, f x = some r → I x r) → ∀ x r, F f x = some r → I x r) → I x r
theorem FixR.close {f : (x : α) → Option (β x)} (hf : ∀ x r, f x = some r → FixR F x r) {x : α} {r : β x} (h : F f x = some r) : FixR F x r :=
  fun I hI => hI f (fun y s hs => hf y s hs I hI) x r h
theorem FixR.uniq (M : MonoF F) {x : α} {r r' : β x} (h : FixR F x r) (h' : FixR F x r') : r = r' := by
  refine (h (fun x r => FixR F x r ∧ ∀ r', FixR F x r' → r = r') ?_).2 r' h'
  intro f hf x r hr
  refine ⟨FixR.close (fun y s hs => (hf y s hs).1) hr, fun s hs => ?_⟩
  have key := hs (fun y s => FixR F y s ∧ ∀ e : x = y, (e ▸ r) = s) ?_
  · exact key.2 rfl
  intro f' hf' y t ht
  refine ⟨FixR.close (fun z s hs => (hf' z s hs).1) ht, ?_⟩
  rintro rfl
  let g : (x : α) → Option (β x) := fun z => match f z with | some u => some u | none => f' z
  have hfg : ∀ z, LeO (f z) (g z) := fun z u hu => by simp only [g, hu]
  have hfg' : ∀ z, LeO (f' z) (g z) := by
    intro z u hu
    simp only [g]
    cases hz : f z with
    | none => exact hu
    | some w => simp only; rw [(hf z w hz).2 u (hf' z u hu).1]
  have e1 := M f g hfg _ _ hr
  have e2 := M f' g hfg' _ _ ht
  rw [e1] at e2
  exact Option.some.inj e2
open Classical in
noncomputable def fixF (F : ((x : α) → Option (β x)) → (x : α) → Option (β x)) (x : α) : Option (β x) := if h : ∃ r, FixR F x r then some (Classical.choose h) else none
theorem fixF_iff (M : MonoF F) {x : α} {r : β x} : fixF F x = some r ↔ FixR F x r := by
  unfold fixF
  constructor
  · intro h
    split at h
    · rename_i hx; cases h; exact Classical.choose_spec hx
    · cases h
  · intro h
    rw [dif_pos ⟨r, h⟩, FixR.uniq M (Classical.choose_spec (⟨r, h⟩ : ∃ r, FixR F x r)) h]
theorem fixF_eq (M : MonoF F) (x : α) : fixF F x = F (fixF F) x := by
  have h1 : ∀ r, fixF F x = some r → F (fixF F) x = some r := by
    intro r hr
    refine ((fixF_iff M).1 hr (fun x r => FixR F x r ∧ F (fixF F) x = some r) ?_).2
    intro f hf y s hs
    refine ⟨FixR.close (fun z s hs => (hf z s hs).1) hs, ?_⟩
    exact M f (fixF F) (fun z u hu => (fixF_iff M).2 (hf z u hu).1) _ _ hs
  have h2 : ∀ r, F (fixF F) x = some r → fixF F x = some r := fun r hr => (fixF_iff M).2 (FixR.close (fun y s hs => (fixF_iff M).1 hs) hr)
  cases h : fixF F x with
  | some r => exact (h1 r h).symm
  | none =>
    cases k : F (fixF F) x with
    | none => rfl
    | some r => rw [h2 r k] at h; cases h
theorem fixF_ind (M : MonoF F) {I : (x : α) → β x → Prop} (hI : ∀ f, (∀ x r, f x = some r → I x r) → ∀ x r, F f x = some r → I x r) {x : α} {r : β x} (h : fixF F x = some r) : I x r := (fixF_iff M).1 h I hI
end
end Go.Hw

end
