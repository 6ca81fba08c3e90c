/- Part 2: what the law TokenShows needs, put together out of texts of this session. -/
import Derived.ProofKit
import Derived.OpenShut
import Derived.ShutString
import Derived.ChangeOld
import Derived.Below
import Derived.SizedLaws
import Derived.ChangeArms
import Derived.Laws.StructEq
import Derived.Lib.LaidTab
import Derived.Lib.ItoaNum
import Derived.Sort.Grow
import Derived.Deep.Draws
import Derived.Lib.Space
import Derived.Lib.Fields
import Derived.Lib.SlTrimSet
import Derived.Lib.Bytealg
import Derived.Lib.TrailingZeros
import Derived.Shelf.Bodies
import Derived.Shelf.LaysM
import Derived.Shelf.Strconv.Itoa3
import Derived.Shelf.Lays
import Derived.Shelf.Small.Strs
import Derived.Shelf.Strings.SplitShaped
import Derived.Shelf.Strings.SlTrimAscii
import Derived.Test.YtkbhpagogmmgnaaDoorProg
import Derived.Test.YtkbhpagogmmgnaaDoorZTokenShowsa
section
namespace Go.Proofs.YtkbhpagogmmgnaaDoor.Fw
open Go Go.Hw Go.Proofs
set_option linter.unusedVariables false
set_option maxRecDepth 100000
def f116.T : Tab := { sh := tSh, tup := tTup, keep := [], plan := [] }
def f116.kp : Keep := []
theorem f116.good : goodCode Tryd.prog f116.T (rootOf Tryd.f116) = true := by kernel_rfl
def f116.runT (R : VP) (x0 : Int) (h : Heap) : Prop :=
 splitB (decide (x0 < (10 : Int))) (0 ≤ x0 ∧ x0 ≤ (IntKind.wrap .i64 (x0 + (1 : Int))) ∧ (IntKind.wrap .i64 (x0 + (1 : Int))) ≤ ((ByteArray.size (ByteArray.mk #[48, 49, 50, 51, 52, 53, 54, 55, 56, 57, 97, 98, 99, 100, 101, 102, 103, 104, 105, 106, 107, 108, 109, 110, 111, 112, 113, 114, 115, 116, 117, 118, 119, 120, 121, 122]) : Nat) : Int) ∧ (R (Value.string (ByteArray.extract (ByteArray.mk #[48, 49, 50, 51, 52, 53, 54, 55, 56, 57, 97, 98, 99, 100, 101, 102, 103, 104, 105, 106, 107, 108, 109, 110, 111, 112, 113, 114, 115, 116, 117, 118, 119, 120, 121, 122]) (Int.toNat x0) (Int.toNat (IntKind.wrap .i64 (x0 + (1 : Int)))))) h)) (0 ≤ (IntKind.wrap .i64 (x0 * (2 : Int))) ∧ (IntKind.wrap .i64 (x0 * (2 : Int))) ≤ (IntKind.wrap .i64 ((IntKind.wrap .i64 (x0 * (2 : Int))) + (2 : Int))) ∧ (IntKind.wrap .i64 ((IntKind.wrap .i64 (x0 * (2 : Int))) + (2 : Int))) ≤ ((ByteArray.size (ByteArray.mk #[48, 48, 48, 49, 48, 50, 48, 51, 48, 52, 48, 53, 48, 54, 48, 55, 48, 56, 48, 57, 49, 48, 49, 49, 49, 50, 49, 51, 49, 52, 49, 53, 49, 54, 49, 55, 49, 56, 49, 57, 50, 48, 50, 49, 50, 50, 50, 51, 50, 52, 50, 53, 50, 54, 50, 55, 50, 56, 50, 57, 51, 48, 51, 49, 51, 50, 51, 51, 51, 52, 51, 53, 51, 54, 51, 55, 51, 56, 51, 57, 52, 48, 52, 49, 52, 50, 52, 51, 52, 52, 52, 53, 52, 54, 52, 55, 52, 56, 52, 57, 53, 48, 53, 49, 53, 50, 53, 51, 53, 52, 53, 53, 53, 54, 53, 55, 53, 56, 53, 57, 54, 48, 54, 49, 54, 50, 54, 51, 54, 52, 54, 53, 54, 54, 54, 55, 54, 56, 54, 57, 55, 48, 55, 49, 55, 50, 55, 51, 55, 52, 55, 53, 55, 54, 55, 55, 55, 56, 55, 57, 56, 48, 56, 49, 56, 50, 56, 51, 56, 52, 56, 53, 56, 54, 56, 55, 56, 56, 56, 57, 57, 48, 57, 49, 57, 50, 57, 51, 57, 52, 57, 53, 57, 54, 57, 55, 57, 56, 57, 57]) : Nat) : Int) ∧ (R (Value.string (ByteArray.extract (ByteArray.mk #[48, 48, 48, 49, 48, 50, 48, 51, 48, 52, 48, 53, 48, 54, 48, 55, 48, 56, 48, 57, 49, 48, 49, 49, 49, 50, 49, 51, 49, 52, 49, 53, 49, 54, 49, 55, 49, 56, 49, 57, 50, 48, 50, 49, 50, 50, 50, 51, 50, 52, 50, 53, 50, 54, 50, 55, 50, 56, 50, 57, 51, 48, 51, 49, 51, 50, 51, 51, 51, 52, 51, 53, 51, 54, 51, 55, 51, 56, 51, 57, 52, 48, 52, 49, 52, 50, 52, 51, 52, 52, 52, 53, 52, 54, 52, 55, 52, 56, 52, 57, 53, 48, 53, 49, 53, 50, 53, 51, 53, 52, 53, 53, 53, 54, 53, 55, 53, 56, 53, 57, 54, 48, 54, 49, 54, 50, 54, 51, 54, 52, 54, 53, 54, 54, 54, 55, 54, 56, 54, 57, 55, 48, 55, 49, 55, 50, 55, 51, 55, 52, 55, 53, 55, 54, 55, 55, 55, 56, 55, 57, 56, 48, 56, 49, 56, 50, 56, 51, 56, 52, 56, 53, 56, 54, 56, 55, 56, 56, 56, 57, 57, 48, 57, 49, 57, 50, 57, 51, 57, 52, 57, 53, 57, 54, 57, 55, 57, 56, 57, 57]) (Int.toNat (IntKind.wrap .i64 (x0 * (2 : Int)))) (Int.toNat (IntKind.wrap .i64 ((IntKind.wrap .i64 (x0 * (2 : Int))) + (2 : Int)))))) h))
theorem f116.run {R : VP} {x0 : Int} {h : Heap} (H : f116.runT R x0 h) : Run Tryd.prog 116 #[(Value.int .i64 x0)] h R := run_in (kp := f116.kp) mixed Tryd.func116 (by kernel_rfl) (by kernel_rfl) f116.good (by kernel_rfl) H
def f135.T : Tab := { sh := tSh, tup := tTup, keep := [], plan := [] }
def f135.kp : Keep := []
theorem f135.good : goodCode Tryd.prog f135.T (rootOf Tryd.f135) = true := by kernel_rfl
def f135.runT (R : VP) (x0 : Int) (h : Heap) : Prop :=
 R (Value.bool ((bitsI .and .i64 x0 (IntKind.wrap .i64 (x0 - (1 : Int)))) == (0 : Int))) h
theorem f135.run {R : VP} {x0 : Int} {h : Heap} (H : f135.runT R x0 h) : Run Tryd.prog 135 #[(Value.int .i64 x0)] h R := run_in (kp := f135.kp) mixed Tryd.func135 (by kernel_rfl) (by kernel_rfl) f135.good (by kernel_rfl) H
def f148.T : Tab := { sh := tSh, tup := tTup, keep := [], plan := [] }
def f148.kp : Keep := []
theorem f148.good : goodCode Tryd.prog f148.T (rootOf Tryd.f148) = true := by kernel_rfl
def f148.runT (R : VP) (x0 : Int) (h : Heap) : Prop :=
 splitB (x0 == (0 : Int)) (R (Value.int .i64 (64 : Int)) h) (0 ≤ (58 : Int) ∧ (0 ≤ (shrI .u64 (IntKind.wrap .u64 ((bitsI .and .u64 x0 (IntKind.wrap .u64 (0 - x0))) * (285870213051353865 : Int))) (58 : Int)) ∧ (shrI .u64 (IntKind.wrap .u64 ((bitsI .and .u64 x0 (IntKind.wrap .u64 (0 - x0))) * (285870213051353865 : Int))) (58 : Int)) < ((64 : Nat) : Int) ∧ (∃ v1_, ldv false 1 h (Addr.add (⟨9, 0, none⟩) (Int.toNat (shrI .u64 (IntKind.wrap .u64 ((bitsI .and .u64 x0 (IntKind.wrap .u64 (0 - x0))) * (285870213051353865 : Int))) (58 : Int)) * 1)) = some v1_ ∧ ∃ x2_, v1_ = (Value.int .u8 x2_) ∧ R (Value.int .i64 (IntKind.wrap .i64 x2_)) h)))
theorem f148.run {R : VP} {x0 : Int} {h : Heap} (H : f148.runT R x0 h) : Run Tryd.prog 148 #[(Value.int .u64 x0)] h R := run_in (kp := f148.kp) mixed Tryd.func148 (by kernel_rfl) (by kernel_rfl) f148.good (by kernel_rfl) H
def f136.T : Tab := { sh := tSh, tup := tTup, keep := [], plan := [] }
def f136.kp : Keep := []
theorem f136.good : goodCode Tryd.prog f136.T (rootOf Tryd.f136) = true := by kernel_rfl
def f136.runT (R : VP) (x0 : Int) (h : Heap) : Prop :=
 Run Tryd.prog 148 #[(Value.int .u64 x0)] h fun v1_ h2_ => ∃ x3_, v1_ = (Value.int .i64 x3_) ∧ R (Value.int .i64 x3_) h2_
theorem f136.run {R : VP} {x0 : Int} {h : Heap} (H : f136.runT R x0 h) : Run Tryd.prog 136 #[(Value.int .u64 x0)] h R := run_in (kp := f136.kp) mixed Tryd.func136 (by kernel_rfl) (by kernel_rfl) f136.good (by kernel_rfl) H
def f119.T : Tab := { sh := tSh, tup := tTup, keep := [], plan := [] }
def f119.kp : Keep := [([true, false, true], [0, 1, 2, 3, 4, 10, 11, 28]), ([true, true], [0, 1, 2, 3, 4, 10, 11]), ([true, true, true, true, true], [0, 1, 2, 3, 4, 10, 11, 12, 13]), ([false, false, false, true, true, true, false, true, false, true, true, true, true, true], [0, 1, 3, 4, 10, 11, 12, 13, 14, 15, 16]), ([false, false, false, true, true, true, false, true, true, true, true, true], [0, 1, 3, 4, 10, 11, 12, 13, 17]), ([true, true, true, true, true, true], [0, 3, 4, 10, 11, 12, 13]), ([true, true, true, true, true, true, true], [0, 4, 10, 11, 12, 13])]
theorem f119.good : goodCode Tryd.prog f119.T (rootOf Tryd.f119) = true := by kernel_rfl
def f119.j1 (R A0 n0 c0 x1 x2 b3 b4 A10 n10 c10 s11 b28 h) := Pt Tryd.prog Tryd.f119 R [true, false, true] (mkFr [(0, (Value.slice A0 n0 c0)), (1, (Value.int .u64 x1)), (2, (Value.int .i64 x2)), (3, (Value.bool b3)), (4, (Value.bool b4)), (10, (Value.slice A10 n10 c10)), (11, (Value.string s11)), (28, (Value.bool b28))]) h
def f119.j0 (R A0 n0 c0 x1 x2 b3 b4 A10 n10 c10 s11 h) := Pt Tryd.prog Tryd.f119 R [true, true] (mkFr [(0, (Value.slice A0 n0 c0)), (1, (Value.int .u64 x1)), (2, (Value.int .i64 x2)), (3, (Value.bool b3)), (4, (Value.bool b4)), (10, (Value.slice A10 n10 c10)), (11, (Value.string s11))]) h
def f119.j2 (R A0 n0 c0 x1 x2 b3 b4 A10 n10 c10 s11 a12 x13 h) := Pt Tryd.prog Tryd.f119 R [true, true, true, true, true] (mkFr [(0, (Value.slice A0 n0 c0)), (1, (Value.int .u64 x1)), (2, (Value.int .i64 x2)), (3, (Value.bool b3)), (4, (Value.bool b4)), (10, (Value.slice A10 n10 c10)), (11, (Value.string s11)), (12, (Value.pointer (some a12))), (13, (Value.int .i64 x13))]) h
def f119.l1 (R A0 n0 c0 x1 b3 b4 A10 n10 c10 s11 a12 x13 x14 x15 x16 h) := Pt Tryd.prog Tryd.f119 R [false, false, false, true, true, true, false, true, false, true, true, true, true, true] (mkFr [(0, (Value.slice A0 n0 c0)), (1, (Value.int .u64 x1)), (3, (Value.bool b3)), (4, (Value.bool b4)), (10, (Value.slice A10 n10 c10)), (11, (Value.string s11)), (12, (Value.pointer (some a12))), (13, (Value.int .i64 x13)), (14, (Value.int .u64 x14)), (15, (Value.int .u64 x15)), (16, (Value.int .u64 x16))]) h
def f119.l0 (R A0 n0 c0 x1 b3 b4 A10 n10 c10 s11 a12 x13 x17 h) := Pt Tryd.prog Tryd.f119 R [false, false, false, true, true, true, false, true, true, true, true, true] (mkFr [(0, (Value.slice A0 n0 c0)), (1, (Value.int .u64 x1)), (3, (Value.bool b3)), (4, (Value.bool b4)), (10, (Value.slice A10 n10 c10)), (11, (Value.string s11)), (12, (Value.pointer (some a12))), (13, (Value.int .i64 x13)), (17, (Value.int .u64 x17))]) h
def f119.j3 (R A0 n0 c0 b3 b4 A10 n10 c10 s11 a12 x13 h) := Pt Tryd.prog Tryd.f119 R [true, true, true, true, true, true] (mkFr [(0, (Value.slice A0 n0 c0)), (3, (Value.bool b3)), (4, (Value.bool b4)), (10, (Value.slice A10 n10 c10)), (11, (Value.string s11)), (12, (Value.pointer (some a12))), (13, (Value.int .i64 x13))]) h
def f119.j4 (R A0 n0 c0 b4 A10 n10 c10 s11 a12 x13 h) := Pt Tryd.prog Tryd.f119 R [true, true, true, true, true, true, true] (mkFr [(0, (Value.slice A0 n0 c0)), (4, (Value.bool b4)), (10, (Value.slice A10 n10 c10)), (11, (Value.string s11)), (12, (Value.pointer (some a12))), (13, (Value.int .i64 x13))]) h
def f119.j1T (R : VP) (A0 : Option Addr) (n0 c0 : Nat) (x1 x2 : Int) (b3 b4 : Bool) (A10 : Option Addr) (n10 c10 : Nat) (s11 : ByteArray) (b28 : Bool) (h : Heap) : Prop :=
 splitB b28 (Gen Tryd.prog (Instr.makeInterface 9 (Value.string (ByteArray.mk #[115, 116, 114, 99, 111, 110, 118, 58, 32, 105, 108, 108, 101, 103, 97, 108, 32, 65, 112, 112, 101, 110, 100, 73, 110, 116, 47, 70, 111, 114, 109, 97, 116, 73, 110, 116, 32, 98, 97, 115, 101]))) h fun v1_ h2_ => False) (f119.j0 R A0 n0 c0 x1 x2 b3 b4 A10 n10 c10 s11 h)
theorem f119.j1_in {R A0 n0 c0 x1 x2 b3 b4 A10 n10 c10 s11 b28 h} (H : f119.j1T R A0 n0 c0 x1 x2 b3 b4 A10 n10 c10 s11 b28 h) : f119.j1 R A0 n0 c0 x1 x2 b3 b4 A10 n10 c10 s11 b28 h := pt_in (kp := f119.kp) mixed f119.good (by kernel_rfl) H
def f119.j0T (R : VP) (A0 : Option Addr) (n0 c0 : Nat) (x1 x2 : Int) (b3 b4 : Bool) (A10 : Option Addr) (n10 c10 : Nat) (s11 : ByteArray) (h : Heap) : Prop :=
 newH h (Obj.cells #[(Value.int .u8 (0 : Int)), (Value.int .u8 (0 : Int)), (Value.int .u8 (0 : Int)), (Value.int .u8 (0 : Int)), (Value.int .u8 (0 : Int)), (Value.int .u8 (0 : Int)), (Value.int .u8 (0 : Int)), (Value.int .u8 (0 : Int)), (Value.int .u8 (0 : Int)), (Value.int .u8 (0 : Int)), (Value.int .u8 (0 : Int)), (Value.int .u8 (0 : Int)), (Value.int .u8 (0 : Int)), (Value.int .u8 (0 : Int)), (Value.int .u8 (0 : Int)), (Value.int .u8 (0 : Int)), (Value.int .u8 (0 : Int)), (Value.int .u8 (0 : Int)), (Value.int .u8 (0 : Int)), (Value.int .u8 (0 : Int)), (Value.int .u8 (0 : Int)), (Value.int .u8 (0 : Int)), (Value.int .u8 (0 : Int)), (Value.int .u8 (0 : Int)), (Value.int .u8 (0 : Int)), (Value.int .u8 (0 : Int)), (Value.int .u8 (0 : Int)), (Value.int .u8 (0 : Int)), (Value.int .u8 (0 : Int)), (Value.int .u8 (0 : Int)), (Value.int .u8 (0 : Int)), (Value.int .u8 (0 : Int)), (Value.int .u8 (0 : Int)), (Value.int .u8 (0 : Int)), (Value.int .u8 (0 : Int)), (Value.int .u8 (0 : Int)), (Value.int .u8 (0 : Int)), (Value.int .u8 (0 : Int)), (Value.int .u8 (0 : Int)), (Value.int .u8 (0 : Int)), (Value.int .u8 (0 : Int)), (Value.int .u8 (0 : Int)), (Value.int .u8 (0 : Int)), (Value.int .u8 (0 : Int)), (Value.int .u8 (0 : Int)), (Value.int .u8 (0 : Int)), (Value.int .u8 (0 : Int)), (Value.int .u8 (0 : Int)), (Value.int .u8 (0 : Int)), (Value.int .u8 (0 : Int)), (Value.int .u8 (0 : Int)), (Value.int .u8 (0 : Int)), (Value.int .u8 (0 : Int)), (Value.int .u8 (0 : Int)), (Value.int .u8 (0 : Int)), (Value.int .u8 (0 : Int)), (Value.int .u8 (0 : Int)), (Value.int .u8 (0 : Int)), (Value.int .u8 (0 : Int)), (Value.int .u8 (0 : Int)), (Value.int .u8 (0 : Int)), (Value.int .u8 (0 : Int)), (Value.int .u8 (0 : Int)), (Value.int .u8 (0 : Int)), (Value.int .u8 (0 : Int))] 195) fun h1_ => splitB b3 (f119.j2 R A0 n0 c0 (IntKind.wrap .u64 (0 - x1)) x2 b3 b4 A10 n10 c10 s11 (⟨Array.size h, 0, none⟩) (65 : Int) h1_) (f119.j2 R A0 n0 c0 x1 x2 b3 b4 A10 n10 c10 s11 (⟨Array.size h, 0, none⟩) (65 : Int) h1_)
theorem f119.j0_in {R A0 n0 c0 x1 x2 b3 b4 A10 n10 c10 s11 h} (H : f119.j0T R A0 n0 c0 x1 x2 b3 b4 A10 n10 c10 s11 h) : f119.j0 R A0 n0 c0 x1 x2 b3 b4 A10 n10 c10 s11 h := pt_in (kp := f119.kp) mixed f119.good (by kernel_rfl) H
def f119.j2T (R : VP) (A0 : Option Addr) (n0 c0 : Nat) (x1 x2 : Int) (b3 b4 : Bool) (A10 : Option Addr) (n10 c10 : Nat) (s11 : ByteArray) (a12 : Addr) (x13 : Int) (h : Heap) : Prop :=
 Run Tryd.prog 135 #[(Value.int .i64 x2)] h fun v1_ h2_ => ∃ b3_, v1_ = (Value.bool b3_) ∧ splitB b3_ (Run Tryd.prog 136 #[(Value.int .u64 (IntKind.wrap .u64 x2))] h2_ fun v4_ h5_ => ∃ x6_, v4_ = (Value.int .i64 x6_) ∧ f119.l1 R A0 n0 c0 x1 b3 b4 A10 n10 c10 s11 a12 x13 (IntKind.wrap .u64 x6_) (IntKind.wrap .u64 x2) (IntKind.wrap .u64 ((IntKind.wrap .u64 x2) - (1 : Int))) h5_) (f119.l0 R A0 n0 c0 x1 b3 b4 A10 n10 c10 s11 a12 x13 (IntKind.wrap .u64 x2) h2_)
theorem f119.j2_in {R A0 n0 c0 x1 x2 b3 b4 A10 n10 c10 s11 a12 x13 h} (H : f119.j2T R A0 n0 c0 x1 x2 b3 b4 A10 n10 c10 s11 a12 x13 h) : f119.j2 R A0 n0 c0 x1 x2 b3 b4 A10 n10 c10 s11 a12 x13 h := pt_in (kp := f119.kp) mixed f119.good (by kernel_rfl) H
def f119.l1T (R : VP) (A0 : Option Addr) (n0 c0 : Nat) (x1 : Int) (b3 b4 : Bool) (A10 : Option Addr) (n10 c10 : Nat) (s11 : ByteArray) (a12 : Addr) (x13 x14 x15 x16 : Int) (h : Heap) : Prop :=
 splitB (decide (x1 ≥ x15)) (0 ≤ (bitsI .and .u64 x1 x16) ∧ ∃ y1_, (ByteArray.mk #[48, 49, 50, 51, 52, 53, 54, 55, 56, 57, 97, 98, 99, 100, 101, 102, 103, 104, 105, 106, 107, 108, 109, 110, 111, 112, 113, 114, 115, 116, 117, 118, 119, 120, 121, 122])[Int.toNat (bitsI .and .u64 x1 x16)]? = some y1_ ∧ (0 ≤ (IntKind.wrap .i64 (x13 - (1 : Int))) ∧ (IntKind.wrap .i64 (x13 - (1 : Int))) < ((65 : Nat) : Int) ∧ (∃ h2_, st1 h (Addr.add a12 (Int.toNat (IntKind.wrap .i64 (x13 - (1 : Int))) * 1)) (Value.int .u8 ((UInt8.toNat y1_ : Nat) : Int)) = some h2_ ∧ 0 ≤ x14 ∧ (f119.l1 R A0 n0 c0 (shrI .u64 x1 x14) b3 b4 A10 n10 c10 s11 a12 (IntKind.wrap .i64 (x13 - (1 : Int))) x14 x15 x16 h2_)))) (0 ≤ x1 ∧ ∃ y3_, (ByteArray.mk #[48, 49, 50, 51, 52, 53, 54, 55, 56, 57, 97, 98, 99, 100, 101, 102, 103, 104, 105, 106, 107, 108, 109, 110, 111, 112, 113, 114, 115, 116, 117, 118, 119, 120, 121, 122])[Int.toNat x1]? = some y3_ ∧ (0 ≤ (IntKind.wrap .i64 (x13 - (1 : Int))) ∧ (IntKind.wrap .i64 (x13 - (1 : Int))) < ((65 : Nat) : Int) ∧ (∃ h4_, st1 h (Addr.add a12 (Int.toNat (IntKind.wrap .i64 (x13 - (1 : Int))) * 1)) (Value.int .u8 ((UInt8.toNat y3_ : Nat) : Int)) = some h4_ ∧ f119.j3 R A0 n0 c0 b3 b4 A10 n10 c10 s11 a12 (IntKind.wrap .i64 (x13 - (1 : Int))) h4_)))
theorem f119.l1_in {R A0 n0 c0 x1 b3 b4 A10 n10 c10 s11 a12 x13 x14 x15 x16 h} (H : f119.l1T R A0 n0 c0 x1 b3 b4 A10 n10 c10 s11 a12 x13 x14 x15 x16 h) : f119.l1 R A0 n0 c0 x1 b3 b4 A10 n10 c10 s11 a12 x13 x14 x15 x16 h := pt_in (kp := f119.kp) mixed f119.good (by kernel_rfl) H
def f119.l0T (R : VP) (A0 : Option Addr) (n0 c0 : Nat) (x1 : Int) (b3 b4 : Bool) (A10 : Option Addr) (n10 c10 : Nat) (s11 : ByteArray) (a12 : Addr) (x13 x17 : Int) (h : Heap) : Prop :=
 splitB (decide (x1 ≥ x17)) (x17 ≠ 0 ∧ (0 ≤ (IntKind.wrap .u64 (x1 - (IntKind.wrap .u64 ((IntKind.wrap .u64 (Int.tdiv x1 x17)) * x17)))) ∧ ∃ y1_, (ByteArray.mk #[48, 49, 50, 51, 52, 53, 54, 55, 56, 57, 97, 98, 99, 100, 101, 102, 103, 104, 105, 106, 107, 108, 109, 110, 111, 112, 113, 114, 115, 116, 117, 118, 119, 120, 121, 122])[Int.toNat (IntKind.wrap .u64 (x1 - (IntKind.wrap .u64 ((IntKind.wrap .u64 (Int.tdiv x1 x17)) * x17))))]? = some y1_ ∧ (0 ≤ (IntKind.wrap .i64 (x13 - (1 : Int))) ∧ (IntKind.wrap .i64 (x13 - (1 : Int))) < ((65 : Nat) : Int) ∧ (∃ h2_, st1 h (Addr.add a12 (Int.toNat (IntKind.wrap .i64 (x13 - (1 : Int))) * 1)) (Value.int .u8 ((UInt8.toNat y1_ : Nat) : Int)) = some h2_ ∧ f119.l0 R A0 n0 c0 (IntKind.wrap .u64 (Int.tdiv x1 x17)) b3 b4 A10 n10 c10 s11 a12 (IntKind.wrap .i64 (x13 - (1 : Int))) x17 h2_)))) (0 ≤ x1 ∧ ∃ y3_, (ByteArray.mk #[48, 49, 50, 51, 52, 53, 54, 55, 56, 57, 97, 98, 99, 100, 101, 102, 103, 104, 105, 106, 107, 108, 109, 110, 111, 112, 113, 114, 115, 116, 117, 118, 119, 120, 121, 122])[Int.toNat x1]? = some y3_ ∧ (0 ≤ (IntKind.wrap .i64 (x13 - (1 : Int))) ∧ (IntKind.wrap .i64 (x13 - (1 : Int))) < ((65 : Nat) : Int) ∧ (∃ h4_, st1 h (Addr.add a12 (Int.toNat (IntKind.wrap .i64 (x13 - (1 : Int))) * 1)) (Value.int .u8 ((UInt8.toNat y3_ : Nat) : Int)) = some h4_ ∧ f119.j3 R A0 n0 c0 b3 b4 A10 n10 c10 s11 a12 (IntKind.wrap .i64 (x13 - (1 : Int))) h4_)))
theorem f119.l0_in {R A0 n0 c0 x1 b3 b4 A10 n10 c10 s11 a12 x13 x17 h} (H : f119.l0T R A0 n0 c0 x1 b3 b4 A10 n10 c10 s11 a12 x13 x17 h) : f119.l0 R A0 n0 c0 x1 b3 b4 A10 n10 c10 s11 a12 x13 x17 h := pt_in (kp := f119.kp) mixed f119.good (by kernel_rfl) H
def f119.j3T (R : VP) (A0 : Option Addr) (n0 c0 : Nat) (b3 b4 : Bool) (A10 : Option Addr) (n10 c10 : Nat) (s11 : ByteArray) (a12 : Addr) (x13 : Int) (h : Heap) : Prop :=
 splitB b3 (0 ≤ (IntKind.wrap .i64 (x13 - (1 : Int))) ∧ (IntKind.wrap .i64 (x13 - (1 : Int))) < ((65 : Nat) : Int) ∧ (∃ h1_, st1 h (Addr.add a12 (Int.toNat (IntKind.wrap .i64 (x13 - (1 : Int))) * 1)) (Value.int .u8 (45 : Int)) = some h1_ ∧ f119.j4 R A0 n0 c0 b4 A10 n10 c10 s11 a12 (IntKind.wrap .i64 (x13 - (1 : Int))) h1_)) (f119.j4 R A0 n0 c0 b4 A10 n10 c10 s11 a12 x13 h)
theorem f119.j3_in {R A0 n0 c0 b3 b4 A10 n10 c10 s11 a12 x13 h} (H : f119.j3T R A0 n0 c0 b3 b4 A10 n10 c10 s11 a12 x13 h) : f119.j3 R A0 n0 c0 b3 b4 A10 n10 c10 s11 a12 x13 h := pt_in (kp := f119.kp) mixed f119.good (by kernel_rfl) H
def f119.j4T (R : VP) (A0 : Option Addr) (n0 c0 : Nat) (b4 : Bool) (A10 : Option Addr) (n10 c10 : Nat) (s11 : ByteArray) (a12 : Addr) (x13 : Int) (h : Heap) : Prop :=
 splitB b4 (0 ≤ x13 ∧ x13 ≤ ((65 : Nat) : Int) ∧ ((65 : Nat) : Int) ≤ ((65 : Nat) : Int) ∧ (AppW 5 1 1 #[(Value.int .u8 (0 : Int))] A0 n0 c0 (Value.slice (some (if 65 = Int.toNat x13 then a12 else Addr.add a12 (Int.toNat x13 * 1))) (Int.toNat ((65 : Nat) : Int) - Int.toNat x13) (65 - Int.toNat x13)) h fun v1_ h2_ => ∃ A3_, ∃ n3_, ∃ c3_, v1_ = (Value.slice A3_ n3_ c3_) ∧ R (Value.tuple #[(Value.slice A3_ n3_ c3_), (Value.string s11)]) h2_)) (0 ≤ x13 ∧ x13 ≤ ((65 : Nat) : Int) ∧ ((65 : Nat) : Int) ≤ ((65 : Nat) : Int) ∧ (Gen Tryd.prog (convert 88 9 (Value.slice (some (if 65 = Int.toNat x13 then a12 else Addr.add a12 (Int.toNat x13 * 1))) (Int.toNat ((65 : Nat) : Int) - Int.toNat x13) (65 - Int.toNat x13))) h fun v4_ h5_ => ∃ s6_, v4_ = (Value.string s6_) ∧ R (Value.tuple #[(Value.slice A10 n10 c10), (Value.string s6_)]) h5_))
theorem f119.j4_in {R A0 n0 c0 b4 A10 n10 c10 s11 a12 x13 h} (H : f119.j4T R A0 n0 c0 b4 A10 n10 c10 s11 a12 x13 h) : f119.j4 R A0 n0 c0 b4 A10 n10 c10 s11 a12 x13 h := pt_in (kp := f119.kp) mixed f119.good (by kernel_rfl) H
def f119.runT (R : VP) (A0 : Option Addr) (n0 c0 : Nat) (x1 x2 : Int) (b3 b4 : Bool) (h : Heap) : Prop :=
 splitB (decide (x2 < (2 : Int))) (f119.j1 R A0 n0 c0 x1 x2 b3 b4 none 0 0 (ByteArray.mk #[]) true h) (splitB (x2 == (10 : Int)) (f119.j1 R A0 n0 c0 x1 x2 b3 b4 none 0 0 (ByteArray.mk #[]) true h) (f119.j1 R A0 n0 c0 x1 x2 b3 b4 none 0 0 (ByteArray.mk #[]) (decide (x2 > (36 : Int))) h))
theorem f119.run {R : VP} {A0 : Option Addr} {n0 c0 : Nat} {x1 x2 : Int} {b3 b4 : Bool} {h : Heap} (H : f119.runT R A0 n0 c0 x1 x2 b3 b4 h) : Run Tryd.prog 119 #[(Value.slice A0 n0 c0), (Value.int .u64 x1), (Value.int .i64 x2), (Value.bool b3), (Value.bool b4)] h R := run_in (kp := f119.kp) mixed Tryd.func119 (by kernel_rfl) (by kernel_rfl) f119.good (by kernel_rfl) H
def f90.T : Tab := { sh := tSh, tup := tTup, keep := [], plan := [] }
def f90.kp : Keep := []
theorem f90.good : goodCode Tryd.prog f90.T (rootOf Tryd.f90) = true := by kernel_rfl
def f90.runT (R : VP) (A0 : Option Addr) (n0 c0 : Nat) (x1 x2 : Int) (h : Heap) : Prop :=
 splitB (x2 == (10 : Int)) (splitB (decide (x1 < (100 : Int))) (Run Tryd.prog 116 #[(Value.int .i64 (IntKind.wrap .i64 x1))] h fun v1_ h2_ => ∃ s3_, v1_ = (Value.string s3_) ∧ AppW 5 1 1 #[(Value.int .u8 (0 : Int))] A0 n0 c0 (Value.string s3_) h2_ fun v4_ h5_ => ∃ A6_, ∃ n6_, ∃ c6_, v4_ = (Value.slice A6_ n6_ c6_) ∧ R (Value.slice A6_ n6_ c6_) h5_) (newH h (Obj.cells #[(Value.int .u8 (0 : Int)), (Value.int .u8 (0 : Int)), (Value.int .u8 (0 : Int)), (Value.int .u8 (0 : Int)), (Value.int .u8 (0 : Int)), (Value.int .u8 (0 : Int)), (Value.int .u8 (0 : Int)), (Value.int .u8 (0 : Int)), (Value.int .u8 (0 : Int)), (Value.int .u8 (0 : Int)), (Value.int .u8 (0 : Int)), (Value.int .u8 (0 : Int)), (Value.int .u8 (0 : Int)), (Value.int .u8 (0 : Int)), (Value.int .u8 (0 : Int)), (Value.int .u8 (0 : Int)), (Value.int .u8 (0 : Int)), (Value.int .u8 (0 : Int)), (Value.int .u8 (0 : Int)), (Value.int .u8 (0 : Int)), (Value.int .u8 (0 : Int)), (Value.int .u8 (0 : Int)), (Value.int .u8 (0 : Int)), (Value.int .u8 (0 : Int))] 175) fun h7_ => Run Tryd.prog 117 #[(Value.int .u64 x1)] h7_ fun v8_ h9_ => ∃ x10_, v8_ = (Value.int .i64 x10_) ∧ 0 ≤ (0 : Int) ∧ (0 : Int) ≤ x10_ ∧ x10_ ≤ ((24 : Nat) : Int) ∧ (Run Tryd.prog 118 #[(Value.slice (some (if 24 = Int.toNat (0 : Int) then ⟨Array.size h, 0, none⟩ else Addr.add (⟨Array.size h, 0, none⟩) (Int.toNat (0 : Int) * 1))) (Int.toNat x10_ - Int.toNat (0 : Int)) (24 - Int.toNat (0 : Int))), (Value.int .u64 x1)] h9_ fun v11_ h12_ => v11_ = (Value.tuple #[]) ∧ 0 ≤ (0 : Int) ∧ (0 : Int) ≤ x10_ ∧ x10_ ≤ ((24 : Nat) : Int) ∧ (AppW 5 1 1 #[(Value.int .u8 (0 : Int))] A0 n0 c0 (Value.slice (some (if 24 = Int.toNat (0 : Int) then ⟨Array.size h, 0, none⟩ else Addr.add (⟨Array.size h, 0, none⟩) (Int.toNat (0 : Int) * 1))) (Int.toNat x10_ - Int.toNat (0 : Int)) (24 - Int.toNat (0 : Int))) h12_ fun v13_ h14_ => ∃ A15_, ∃ n15_, ∃ c15_, v13_ = (Value.slice A15_ n15_ c15_) ∧ R (Value.slice A15_ n15_ c15_) h14_)))) (Run Tryd.prog 119 #[(Value.slice A0 n0 c0), (Value.int .u64 x1), (Value.int .i64 x2), (Value.bool false), (Value.bool true)] h fun v16_ h17_ => ∃ A18_, ∃ n18_, ∃ c18_, ∃ s19_, v16_ = (Value.tuple #[(Value.slice A18_ n18_ c18_), (Value.string s19_)]) ∧ R (Value.slice A18_ n18_ c18_) h17_)
theorem f90.run {R : VP} {A0 : Option Addr} {n0 c0 : Nat} {x1 x2 : Int} {h : Heap} (H : f90.runT R A0 n0 c0 x1 x2 h) : Run Tryd.prog 90 #[(Value.slice A0 n0 c0), (Value.int .u64 x1), (Value.int .i64 x2)] h R := run_in (kp := f90.kp) mixed Tryd.func90 (by kernel_rfl) (by kernel_rfl) f90.good (by kernel_rfl) H
def f78.T : Tab := { sh := tSh, tup := tTup, keep := [], plan := [] }
def f78.kp : Keep := [([true, true, true], [0, 2, 7])]
theorem f78.good : goodCode Tryd.prog f78.T (rootOf Tryd.f78) = true := by kernel_rfl
def f78.j0 (R A0 n0 c0 x2 x7 h) := Pt Tryd.prog Tryd.f78 R [true, true, true] (mkFr [(0, (Value.slice A0 n0 c0)), (2, (Value.int .i64 x2)), (7, (Value.int .u64 x7))]) h
def f78.j0T (R : VP) (A0 : Option Addr) (n0 c0 : Nat) (x2 x7 : Int) (h : Heap) : Prop :=
 Run Tryd.prog 90 #[(Value.slice A0 n0 c0), (Value.int .u64 x7), (Value.int .i64 x2)] h fun v1_ h2_ => ∃ A3_, ∃ n3_, ∃ c3_, v1_ = (Value.slice A3_ n3_ c3_) ∧ R (Value.slice A3_ n3_ c3_) h2_
theorem f78.j0_in {R A0 n0 c0 x2 x7 h} (H : f78.j0T R A0 n0 c0 x2 x7 h) : f78.j0 R A0 n0 c0 x2 x7 h := pt_in (kp := f78.kp) mixed f78.good (by kernel_rfl) H
def f78.runT (R : VP) (A0 : Option Addr) (n0 c0 : Nat) (x1 x2 : Int) (h : Heap) : Prop :=
 splitB (decide (x1 < (0 : Int))) (newH h (Obj.cells #[(Value.int .u8 (45 : Int))] 5) fun h1_ => AppW 5 1 1 #[(Value.int .u8 (0 : Int))] A0 n0 c0 (Value.slice (some ⟨Array.size h, 0, none⟩) 1 1) h1_ fun v2_ h3_ => ∃ A4_, ∃ n4_, ∃ c4_, v2_ = (Value.slice A4_ n4_ c4_) ∧ f78.j0 R A4_ n4_ c4_ x2 (IntKind.wrap .u64 (0 - (IntKind.wrap .u64 x1))) h3_) (f78.j0 R A0 n0 c0 x2 (IntKind.wrap .u64 x1) h)
theorem f78.run {R : VP} {A0 : Option Addr} {n0 c0 : Nat} {x1 x2 : Int} {h : Heap} (H : f78.runT R A0 n0 c0 x1 x2 h) : Run Tryd.prog 78 #[(Value.slice A0 n0 c0), (Value.int .i64 x1), (Value.int .i64 x2)] h R := run_in (kp := f78.kp) mixed Tryd.func78 (by kernel_rfl) (by kernel_rfl) f78.good (by kernel_rfl) H
def f52.T : Tab := { sh := tSh, tup := tTup, keep := [], plan := [] }
def f52.kp : Keep := []
theorem f52.good : goodCode Tryd.prog f52.T (rootOf Tryd.f52) = true := by kernel_rfl
def f52.runT (R : VP) (A0 : Option Addr) (n0 c0 : Nat) (x1 x2 : Int) (h : Heap) : Prop :=
 Run Tryd.prog 78 #[(Value.slice A0 n0 c0), (Value.int .i64 x1), (Value.int .i64 x2)] h fun v1_ h2_ => ∃ A3_, ∃ n3_, ∃ c3_, v1_ = (Value.slice A3_ n3_ c3_) ∧ R (Value.slice A3_ n3_ c3_) h2_
theorem f52.run {R : VP} {A0 : Option Addr} {n0 c0 : Nat} {x1 x2 : Int} {h : Heap} (H : f52.runT R A0 n0 c0 x1 x2 h) : Run Tryd.prog 52 #[(Value.slice A0 n0 c0), (Value.int .i64 x1), (Value.int .i64 x2)] h R := run_in (kp := f52.kp) mixed Tryd.func52 (by kernel_rfl) (by kernel_rfl) f52.good (by kernel_rfl) H
def f20.T : Tab := { sh := tSh, tup := tTup, keep := [], plan := [] }
def f20.kp : Keep := [([false, false, true, false, true, true, true], [4, 12, 13, 14]), ([true, false, true, false, false, true, true, false, false, true, false, true, true, true], [4, 6, 12, 13, 14, 22]), ([true, true, true, true, true, false, true, false, false, true, true, false, false, true, false, true, true, true], [4, 6, 12, 13, 14, 39]), ([true, true, false, true, true, true, true, true, false, true, false, false, true, true, false, false, true, false, true, true, true], [4, 6, 12, 13, 14])]
theorem f20.good : goodCode Tryd.prog f20.T (rootOf Tryd.f20) = true := by kernel_rfl
def f20.l0 (R A4 n4 c4 A12 n12 c12 x13 x14 h) := Pt Tryd.prog Tryd.f20 R [false, false, true, false, true, true, true] (mkFr [(4, (Value.slice A4 n4 c4)), (12, (Value.slice A12 n12 c12)), (13, (Value.int .i64 x13)), (14, (Value.int .i64 x14))]) h
def f20.j0 (R A4 n4 c4 x6 A12 n12 c12 x13 x14 b22 h) := Pt Tryd.prog Tryd.f20 R [true, false, true, false, false, true, true, false, false, true, false, true, true, true] (mkFr [(4, (Value.slice A4 n4 c4)), (6, (Value.int .u8 x6)), (12, (Value.slice A12 n12 c12)), (13, (Value.int .i64 x13)), (14, (Value.int .i64 x14)), (22, (Value.bool b22))]) h
def f20.j1 (R A4 n4 c4 x6 A12 n12 c12 x13 x14 b39 h) := Pt Tryd.prog Tryd.f20 R [true, true, true, true, true, false, true, false, false, true, true, false, false, true, false, true, true, true] (mkFr [(4, (Value.slice A4 n4 c4)), (6, (Value.int .u8 x6)), (12, (Value.slice A12 n12 c12)), (13, (Value.int .i64 x13)), (14, (Value.int .i64 x14)), (39, (Value.bool b39))]) h
def f20.j2 (R A4 n4 c4 x6 A12 n12 c12 x13 x14 h) := Pt Tryd.prog Tryd.f20 R [true, true, false, true, true, true, true, true, false, true, false, false, true, true, false, false, true, false, true, true, true] (mkFr [(4, (Value.slice A4 n4 c4)), (6, (Value.int .u8 x6)), (12, (Value.slice A12 n12 c12)), (13, (Value.int .i64 x13)), (14, (Value.int .i64 x14))]) h
def f20.l0T (R : VP) (A4 : Option Addr) (n4 c4 : Nat) (A12 : Option Addr) (n12 c12 : Nat) (x13 x14 : Int) (h : Heap) : Prop :=
 splitB (decide (x14 < x13)) (ptrOk A12 fun a1_ => 0 ≤ x14 ∧ x14 < ((n12 : Nat) : Int) ∧ (∃ v2_, ldv false 1 h (Addr.add a1_ (Int.toNat x14 * 1)) = some v2_ ∧ ∃ x3_, v2_ = (Value.int .u8 x3_) ∧ splitB (x3_ == (34 : Int)) (f20.j0 R A4 n4 c4 x3_ A12 n12 c12 x13 x14 true h) (f20.j0 R A4 n4 c4 x3_ A12 n12 c12 x13 x14 (x3_ == (92 : Int)) h))) (newH h (Obj.cells #[(Value.int .u8 (34 : Int))] 5) fun h4_ => AppW 5 1 1 #[(Value.int .u8 (0 : Int))] A4 n4 c4 (Value.slice (some ⟨Array.size h, 0, none⟩) 1 1) h4_ fun v5_ h6_ => ∃ A7_, ∃ n7_, ∃ c7_, v5_ = (Value.slice A7_ n7_ c7_) ∧ Gen Tryd.prog (convert 88 9 (Value.slice A7_ n7_ c7_)) h6_ fun v8_ h9_ => ∃ s10_, v8_ = (Value.string s10_) ∧ R (Value.tuple #[(Value.string s10_), (Value.int .i64 (0 : Int))]) h9_)
theorem f20.l0_in {R A4 n4 c4 A12 n12 c12 x13 x14 h} (H : f20.l0T R A4 n4 c4 A12 n12 c12 x13 x14 h) : f20.l0 R A4 n4 c4 A12 n12 c12 x13 x14 h := pt_in (kp := f20.kp) mixed f20.good (by kernel_rfl) H
def f20.j0T (R : VP) (A4 : Option Addr) (n4 c4 : Nat) (x6 : Int) (A12 : Option Addr) (n12 c12 : Nat) (x13 x14 : Int) (b22 : Bool) (h : Heap) : Prop :=
 splitB b22 (newH h (Obj.cells #[(Value.int .u8 (92 : Int)), (Value.int .u8 x6)] 5) fun h1_ => AppW 5 1 1 #[(Value.int .u8 (0 : Int))] A4 n4 c4 (Value.slice (some ⟨Array.size h, 0, none⟩) 2 2) h1_ fun v2_ h3_ => ∃ A4_, ∃ n4_, ∃ c4_, v2_ = (Value.slice A4_ n4_ c4_) ∧ f20.l0 R A4_ n4_ c4_ A12 n12 c12 x13 (IntKind.wrap .i64 (x14 + (1 : Int))) h3_) (splitB (x6 == (10 : Int)) (newH h (Obj.cells #[(Value.int .u8 (92 : Int)), (Value.int .u8 (110 : Int))] 5) fun h5_ => AppW 5 1 1 #[(Value.int .u8 (0 : Int))] A4 n4 c4 (Value.slice (some ⟨Array.size h, 0, none⟩) 2 2) h5_ fun v6_ h7_ => ∃ A8_, ∃ n8_, ∃ c8_, v6_ = (Value.slice A8_ n8_ c8_) ∧ f20.l0 R A8_ n8_ c8_ A12 n12 c12 x13 (IntKind.wrap .i64 (x14 + (1 : Int))) h7_) (splitB (decide (x6 < (32 : Int))) (f20.j1 R A4 n4 c4 x6 A12 n12 c12 x13 x14 true h) (f20.j1 R A4 n4 c4 x6 A12 n12 c12 x13 x14 (decide (x6 > (126 : Int))) h)))
theorem f20.j0_in {R A4 n4 c4 x6 A12 n12 c12 x13 x14 b22 h} (H : f20.j0T R A4 n4 c4 x6 A12 n12 c12 x13 x14 b22 h) : f20.j0 R A4 n4 c4 x6 A12 n12 c12 x13 x14 b22 h := pt_in (kp := f20.kp) mixed f20.good (by kernel_rfl) H
def f20.j1T (R : VP) (A4 : Option Addr) (n4 c4 : Nat) (x6 : Int) (A12 : Option Addr) (n12 c12 : Nat) (x13 x14 : Int) (b39 : Bool) (h : Heap) : Prop :=
 splitB b39 (newH h (Obj.cells #[(Value.int .u8 (92 : Int)), (Value.int .u8 (120 : Int))] 5) fun h1_ => AppW 5 1 1 #[(Value.int .u8 (0 : Int))] A4 n4 c4 (Value.slice (some ⟨Array.size h, 0, none⟩) 2 2) h1_ fun v2_ h3_ => ∃ A4_, ∃ n4_, ∃ c4_, v2_ = (Value.slice A4_ n4_ c4_) ∧ splitB (decide (x6 < (16 : Int))) (newH h3_ (Obj.cells #[(Value.int .u8 (48 : Int))] 5) fun h5_ => AppW 5 1 1 #[(Value.int .u8 (0 : Int))] A4_ n4_ c4_ (Value.slice (some ⟨Array.size h3_, 0, none⟩) 1 1) h5_ fun v6_ h7_ => ∃ A8_, ∃ n8_, ∃ c8_, v6_ = (Value.slice A8_ n8_ c8_) ∧ f20.j2 R A8_ n8_ c8_ x6 A12 n12 c12 x13 x14 h7_) (f20.j2 R A4_ n4_ c4_ x6 A12 n12 c12 x13 x14 h3_)) (newH h (Obj.cells #[(Value.int .u8 x6)] 5) fun h9_ => AppW 5 1 1 #[(Value.int .u8 (0 : Int))] A4 n4 c4 (Value.slice (some ⟨Array.size h, 0, none⟩) 1 1) h9_ fun v10_ h11_ => ∃ A12_, ∃ n12_, ∃ c12_, v10_ = (Value.slice A12_ n12_ c12_) ∧ f20.l0 R A12_ n12_ c12_ A12 n12 c12 x13 (IntKind.wrap .i64 (x14 + (1 : Int))) h11_)
theorem f20.j1_in {R A4 n4 c4 x6 A12 n12 c12 x13 x14 b39 h} (H : f20.j1T R A4 n4 c4 x6 A12 n12 c12 x13 x14 b39 h) : f20.j1 R A4 n4 c4 x6 A12 n12 c12 x13 x14 b39 h := pt_in (kp := f20.kp) mixed f20.good (by kernel_rfl) H
def f20.j2T (R : VP) (A4 : Option Addr) (n4 c4 : Nat) (x6 : Int) (A12 : Option Addr) (n12 c12 : Nat) (x13 x14 : Int) (h : Heap) : Prop :=
 Run Tryd.prog 52 #[(Value.slice A4 n4 c4), (Value.int .i64 (IntKind.wrap .i64 x6)), (Value.int .i64 (16 : Int))] h fun v1_ h2_ => ∃ A3_, ∃ n3_, ∃ c3_, v1_ = (Value.slice A3_ n3_ c3_) ∧ f20.l0 R A3_ n3_ c3_ A12 n12 c12 x13 (IntKind.wrap .i64 (x14 + (1 : Int))) h2_
theorem f20.j2_in {R A4 n4 c4 x6 A12 n12 c12 x13 x14 h} (H : f20.j2T R A4 n4 c4 x6 A12 n12 c12 x13 x14 h) : f20.j2 R A4 n4 c4 x6 A12 n12 c12 x13 x14 h := pt_in (kp := f20.kp) mixed f20.good (by kernel_rfl) H
def f20.runT (R : VP) (s0 : ByteArray) (h : Heap) : Prop :=
 splitB (decide (((ByteArray.size s0 : Nat) : Int) > (64 : Int))) (R (Value.tuple #[(Value.string (ByteArray.mk #[])), (Value.int .i64 (2 : Int))]) h) (newH h (Obj.cells #[(Value.int .u8 (34 : Int))] 5) fun h1_ => Gen Tryd.prog (convert 9 88 (Value.string s0)) h1_ fun v2_ h3_ => ∃ A4_, ∃ n4_, ∃ c4_, v2_ = (Value.slice A4_ n4_ c4_) ∧ f20.l0 R (some ⟨Array.size h, 0, none⟩) 1 1 A4_ n4_ c4_ ((n4_ : Nat) : Int) (0 : Int) h3_)
theorem f20.run {R : VP} {s0 : ByteArray} {h : Heap} (H : f20.runT R s0 h) : Run Tryd.prog 20 #[(Value.string s0)] h R := run_in (kp := f20.kp) mixed Tryd.func20 (by kernel_rfl) (by kernel_rfl) f20.good (by kernel_rfl) H
def f28.T : Tab := { sh := tSh, tup := tTup, keep := [], plan := [] }
def f28.kp : Keep := []
theorem f28.good : goodCode Tryd.prog f28.T (rootOf Tryd.f28) = true := by kernel_rfl
def f28.runT (R : VP)  (h : Heap) : Prop :=
 newH h (Obj.cells #[(Value.string (ByteArray.mk #[97, 99, 116, 111, 114])), (Value.string (ByteArray.mk #[97, 102, 116, 101, 114])), (Value.string (ByteArray.mk #[97, 110, 100])), (Value.string (ByteArray.mk #[97, 112, 112, 108, 121])), (Value.string (ByteArray.mk #[98, 101, 99, 111, 109, 101])), (Value.string (ByteArray.mk #[98, 111, 111, 108])), (Value.string (ByteArray.mk #[99, 101, 108, 108])), (Value.string (ByteArray.mk #[100, 97, 116, 97])), (Value.string (ByteArray.mk #[101, 108, 115, 101])), (Value.string (ByteArray.mk #[102, 97, 105, 108])), (Value.string (ByteArray.mk #[102, 97, 108, 115, 101])), (Value.string (ByteArray.mk #[102, 110])), (Value.string (ByteArray.mk #[102, 111, 114])), (Value.string (ByteArray.mk #[102, 117, 110])), (Value.string (ByteArray.mk #[103, 101, 116])), (Value.string (ByteArray.mk #[105, 102])), (Value.string (ByteArray.mk #[105, 109, 112, 108])), (Value.string (ByteArray.mk #[105, 110])), (Value.string (ByteArray.mk #[105, 110, 116])), (Value.string (ByteArray.mk #[108, 101, 116])), (Value.string (ByteArray.mk #[108, 105, 110, 107])), (Value.string (ByteArray.mk #[109, 97, 116, 99, 104])), (Value.string (ByteArray.mk #[109, 111, 100, 117, 108, 101])), (Value.string (ByteArray.mk #[110, 111, 116])), (Value.string (ByteArray.mk #[111, 114])), (Value.string (ByteArray.mk #[112, 117, 116])), (Value.string (ByteArray.mk #[114, 101, 99, 101, 105, 118, 101])), (Value.string (ByteArray.mk #[115, 97, 121])), (Value.string (ByteArray.mk #[115, 101, 108, 102])), (Value.string (ByteArray.mk #[115, 101, 110, 100])), (Value.string (ByteArray.mk #[115, 112, 97, 119, 110])), (Value.string (ByteArray.mk #[116, 101, 120, 116])), (Value.string (ByteArray.mk #[116, 104, 101, 110])), (Value.string (ByteArray.mk #[116, 114, 97, 105, 116])), (Value.string (ByteArray.mk #[116, 114, 117, 101])), (Value.string (ByteArray.mk #[117, 110, 105, 116])), (Value.string (ByteArray.mk #[117, 115, 101])), (Value.string (ByteArray.mk #[119, 97, 116, 99, 104]))] 9) fun h1_ => R (Value.slice (some ⟨Array.size h, 0, none⟩) 38 38) h1_
theorem f28.run {R : VP}  {h : Heap} (H : f28.runT R  h) : Run Tryd.prog 28 #[] h R := run_in (kp := f28.kp) mixed Tryd.func28 (by kernel_rfl) (by kernel_rfl) f28.good (by kernel_rfl) H
def f21.T : Tab := { sh := tSh, tup := tTup, keep := [], plan := [] }
def f21.kp : Keep := [([false, false, true, false, true], [0, 5, 6, 7])]
theorem f21.good : goodCode Tryd.prog f21.T (rootOf Tryd.f21) = true := by kernel_rfl
def f21.l0 (R s0 A5 n5 c5 x6 x7 h) := Pt Tryd.prog Tryd.f21 R [false, false, true, false, true] (mkFr [(0, (Value.string s0)), (5, (Value.slice A5 n5 c5)), (6, (Value.int .i64 x6)), (7, (Value.int .i64 x7))]) h
def f21.l0T (R : VP) (s0 : ByteArray) (A5 : Option Addr) (n5 c5 : Nat) (x6 x7 : Int) (h : Heap) : Prop :=
 splitB (decide (x7 < x6)) (ptrOk A5 fun a1_ => 0 ≤ x7 ∧ x7 < ((n5 : Nat) : Int) ∧ (∃ v2_, ldv false 1 h (Addr.add a1_ (Int.toNat x7 * 1)) = some v2_ ∧ ∃ s3_, v2_ = (Value.string s3_) ∧ splitB (ByteArray.toList s3_ == ByteArray.toList s0) (R (Value.bool true) h) (f21.l0 R s0 A5 n5 c5 x6 (IntKind.wrap .i64 (x7 + (1 : Int))) h))) (R (Value.bool false) h)
theorem f21.l0_in {R s0 A5 n5 c5 x6 x7 h} (H : f21.l0T R s0 A5 n5 c5 x6 x7 h) : f21.l0 R s0 A5 n5 c5 x6 x7 h := pt_in (kp := f21.kp) mixed f21.good (by kernel_rfl) H
def f21.runT (R : VP) (s0 : ByteArray) (h : Heap) : Prop :=
 Run Tryd.prog 28 #[] h fun v1_ h2_ => ∃ A3_, ∃ n3_, ∃ c3_, v1_ = (Value.slice A3_ n3_ c3_) ∧ f21.l0 R s0 A3_ n3_ c3_ ((n3_ : Nat) : Int) (0 : Int) h2_
theorem f21.run {R : VP} {s0 : ByteArray} {h : Heap} (H : f21.runT R s0 h) : Run Tryd.prog 21 #[(Value.string s0)] h R := run_in (kp := f21.kp) mixed Tryd.func21 (by kernel_rfl) (by kernel_rfl) f21.good (by kernel_rfl) H
def f50.T : Tab := { sh := tSh, tup := tTup, keep := [], plan := [] }
def f50.kp : Keep := []
theorem f50.good : goodCode Tryd.prog f50.T (rootOf Tryd.f50) = true := by kernel_rfl
def f50.runT (R : VP) (x0 : Int) (h : Heap) : Prop :=
 splitB (decide (x0 ≥ (48 : Int))) (R (Value.bool (decide (x0 ≤ (57 : Int)))) h) (R (Value.bool false) h)
theorem f50.run {R : VP} {x0 : Int} {h : Heap} (H : f50.runT R x0 h) : Run Tryd.prog 50 #[(Value.int .u8 x0)] h R := run_in (kp := f50.kp) mixed Tryd.func50 (by kernel_rfl) (by kernel_rfl) f50.good (by kernel_rfl) H
def f55.T : Tab := { sh := tSh, tup := tTup, keep := [], plan := [] }
def f55.kp : Keep := []
theorem f55.good : goodCode Tryd.prog f55.T (rootOf Tryd.f55) = true := by kernel_rfl
theorem f55.ok : calleeOk Tryd.prog 55 = true := by kernel_rfl
def f55.runT (R : VP) (x0 : Int) (h : Heap) : Prop :=
 splitB (decide (x0 ≥ (97 : Int))) (R (Value.bool (decide (x0 ≤ (122 : Int)))) h) (R (Value.bool false) h)
theorem f55.run {R : VP} {x0 : Int} {h : Heap} (H : f55.runT R x0 h) : Run Tryd.prog 55 #[(Value.int .u8 x0)] h R := run_in (kp := f55.kp) mixed Tryd.func55 (by kernel_rfl) (by kernel_rfl) f55.good (by kernel_rfl) H
def f57.T : Tab := { sh := tSh, tup := tTup, keep := [], plan := [] }
def f57.kp : Keep := []
theorem f57.good : goodCode Tryd.prog f57.T (rootOf Tryd.f57) = true := by kernel_rfl
theorem f57.ok : calleeOk Tryd.prog 57 = true := by kernel_rfl
def f57.runT (R : VP) (x0 : Int) (h : Heap) : Prop :=
 splitB (decide (x0 ≥ (65 : Int))) (R (Value.bool (decide (x0 ≤ (90 : Int)))) h) (R (Value.bool false) h)
theorem f57.run {R : VP} {x0 : Int} {h : Heap} (H : f57.runT R x0 h) : Run Tryd.prog 57 #[(Value.int .u8 x0)] h R := run_in (kp := f57.kp) mixed Tryd.func57 (by kernel_rfl) (by kernel_rfl) f57.good (by kernel_rfl) H
def f79.T : Tab := { sh := tSh, tup := tTup, keep := [], plan := [] }
def f79.kp : Keep := []
theorem f79.good : goodCode Tryd.prog f79.T (rootOf Tryd.f79) = true := by kernel_rfl
def f79.runT (R : VP) (x0 : Int) (h : Heap) : Prop :=
 Run Tryd.prog 55 #[(Value.int .u8 x0)] h fun v1_ h2_ => ∃ b3_, v1_ = (Value.bool b3_) ∧ splitB b3_ (R (Value.bool true) h2_) (Run Tryd.prog 57 #[(Value.int .u8 x0)] h2_ fun v4_ h5_ => ∃ b6_, v4_ = (Value.bool b6_) ∧ splitB b6_ (R (Value.bool true) h5_) (Run Tryd.prog 50 #[(Value.int .u8 x0)] h5_ fun v7_ h8_ => ∃ b9_, v7_ = (Value.bool b9_) ∧ splitB b9_ (R (Value.bool true) h8_) (R (Value.bool (x0 == (95 : Int))) h8_)))
theorem f79.run {R : VP} {x0 : Int} {h : Heap} (H : f79.runT R x0 h) : Run Tryd.prog 79 #[(Value.int .u8 x0)] h R := run_in (kp := f79.kp) mixed Tryd.func79 (by kernel_rfl) (by kernel_rfl) f79.good (by kernel_rfl) H
def f54.T : Tab := { sh := tSh, tup := tTup, keep := [], plan := [] }
def f54.kp : Keep := [([true, true], [0]), ([false, false, true, false, true, true], [23, 24, 25])]
theorem f54.good : goodCode Tryd.prog f54.T (rootOf Tryd.f54) = true := by kernel_rfl
def f54.j0 (R s0 h) := Pt Tryd.prog Tryd.f54 R [true, true] (mkFr [(0, (Value.string s0))]) h
def f54.l0 (R A23 n23 c23 x24 x25 h) := Pt Tryd.prog Tryd.f54 R [false, false, true, false, true, true] (mkFr [(23, (Value.slice A23 n23 c23)), (24, (Value.int .i64 x24)), (25, (Value.int .i64 x25))]) h
def f54.j0T (R : VP) (s0 : ByteArray) (h : Heap) : Prop :=
 Gen Tryd.prog (convert 9 88 (Value.string s0)) h fun v1_ h2_ => ∃ A3_, ∃ n3_, ∃ c3_, v1_ = (Value.slice A3_ n3_ c3_) ∧ f54.l0 R A3_ n3_ c3_ ((n3_ : Nat) : Int) (0 : Int) h2_
theorem f54.j0_in {R s0 h} (H : f54.j0T R s0 h) : f54.j0 R s0 h := pt_in (kp := f54.kp) mixed f54.good (by kernel_rfl) H
def f54.l0T (R : VP) (A23 : Option Addr) (n23 c23 : Nat) (x24 x25 : Int) (h : Heap) : Prop :=
 splitB (decide (x25 < x24)) (ptrOk A23 fun a1_ => 0 ≤ x25 ∧ x25 < ((n23 : Nat) : Int) ∧ (∃ v2_, ldv false 1 h (Addr.add a1_ (Int.toNat x25 * 1)) = some v2_ ∧ ∃ x3_, v2_ = (Value.int .u8 x3_) ∧ Run Tryd.prog 79 #[(Value.int .u8 x3_)] h fun v4_ h5_ => ∃ b6_, v4_ = (Value.bool b6_) ∧ splitB (!b6_) (R (Value.bool false) h5_) (f54.l0 R A23 n23 c23 x24 (IntKind.wrap .i64 (x25 + (1 : Int))) h5_))) (R (Value.bool true) h)
theorem f54.l0_in {R A23 n23 c23 x24 x25 h} (H : f54.l0T R A23 n23 c23 x24 x25 h) : f54.l0 R A23 n23 c23 x24 x25 h := pt_in (kp := f54.kp) mixed f54.good (by kernel_rfl) H
def f54.runT (R : VP) (s0 : ByteArray) (v1 : Value) (h : Heap) : Prop :=
 splitB (decide (((ByteArray.size s0 : Nat) : Int) < (1 : Int))) (R (Value.bool false) h) (splitB (decide (((ByteArray.size s0 : Nat) : Int) > (16 : Int))) (R (Value.bool false) h) (0 ≤ (0 : Int) ∧ ∃ y1_, s0[Int.toNat (0 : Int)]? = some y1_ ∧ (CallF Tryd.prog v1 [(Value.int .u8 ((UInt8.toNat y1_ : Nat) : Int))] h fun v2_ h3_ => ∃ b4_, v2_ = (Value.bool b4_) ∧ splitB (!b4_) (R (Value.bool false) h3_) (f54.j0 R s0 h3_))))
theorem f54.run {R : VP} {s0 : ByteArray} {v1 : Value} {h : Heap} (H : f54.runT R s0 v1 h) : Run Tryd.prog 54 #[(Value.string s0), v1] h R := run_in (kp := f54.kp) mixed Tryd.func54 (by kernel_rfl) (by kernel_rfl) f54.good (by kernel_rfl) H
def f24.T : Tab := { sh := tSh, tup := tTup, keep := [], plan := [] }
def f24.kp : Keep := []
theorem f24.good : goodCode Tryd.prog f24.T (rootOf Tryd.f24) = true := by kernel_rfl
def f24.runT (R : VP) (s0 : ByteArray) (h : Heap) : Prop :=
 Run Tryd.prog 54 #[(Value.string s0), (Value.func (.func 55) #[] #[])] h fun v1_ h2_ => ∃ b3_, v1_ = (Value.bool b3_) ∧ splitB b3_ (Run Tryd.prog 21 #[(Value.string s0)] h2_ fun v4_ h5_ => ∃ b6_, v4_ = (Value.bool b6_) ∧ R (Value.bool (!b6_)) h5_) (R (Value.bool false) h2_)
theorem f24.run {R : VP} {s0 : ByteArray} {h : Heap} (H : f24.runT R s0 h) : Run Tryd.prog 24 #[(Value.string s0)] h R := run_in (kp := f24.kp) mixed Tryd.func24 (by kernel_rfl) (by kernel_rfl) f24.good (by kernel_rfl) H
def f26.T : Tab := { sh := tSh, tup := tTup, keep := [], plan := [] }
def f26.kp : Keep := []
theorem f26.good : goodCode Tryd.prog f26.T (rootOf Tryd.f26) = true := by kernel_rfl
def f26.runT (R : VP) (s0 : ByteArray) (h : Heap) : Prop :=
 Run Tryd.prog 54 #[(Value.string s0), (Value.func (.func 57) #[] #[])] h fun v1_ h2_ => ∃ b3_, v1_ = (Value.bool b3_) ∧ R (Value.bool b3_) h2_
theorem f26.run {R : VP} {s0 : ByteArray} {h : Heap} (H : f26.runT R s0 h) : Run Tryd.prog 26 #[(Value.string s0)] h R := run_in (kp := f26.kp) mixed Tryd.func26 (by kernel_rfl) (by kernel_rfl) f26.good (by kernel_rfl) H
def f51.T : Tab := { sh := tSh, tup := tTup, keep := [], plan := [] }
def f51.kp : Keep := [([true, false, true], [0, 1, 25]), ([true, true], [0, 1]), ([true, false, true, false, true, true], [0, 1, 34])]
theorem f51.good : goodCode Tryd.prog f51.T (rootOf Tryd.f51) = true := by kernel_rfl
def f51.j1 (R s0 x1 b25 h) := Pt Tryd.prog Tryd.f51 R [true, false, true] (mkFr [(0, (Value.string s0)), (1, (Value.int .i64 x1)), (25, (Value.bool b25))]) h
def f51.j0 (R s0 x1 h) := Pt Tryd.prog Tryd.f51 R [true, true] (mkFr [(0, (Value.string s0)), (1, (Value.int .i64 x1))]) h
def f51.j2 (R s0 x1 b34 h) := Pt Tryd.prog Tryd.f51 R [true, false, true, false, true, true] (mkFr [(0, (Value.string s0)), (1, (Value.int .i64 x1)), (34, (Value.bool b34))]) h
def f51.j1T (R : VP) (s0 : ByteArray) (x1 : Int) (b25 : Bool) (h : Heap) : Prop :=
 splitB b25 (0 ≤ x1 ∧ x1 ≤ (IntKind.wrap .i64 (x1 + (2 : Int))) ∧ (IntKind.wrap .i64 (x1 + (2 : Int))) ≤ ((ByteArray.size s0 : Nat) : Int) ∧ (R (Value.string (ByteArray.extract s0 (Int.toNat x1) (Int.toNat (IntKind.wrap .i64 (x1 + (2 : Int)))))) h)) (f51.j0 R s0 x1 h)
theorem f51.j1_in {R s0 x1 b25 h} (H : f51.j1T R s0 x1 b25 h) : f51.j1 R s0 x1 b25 h := pt_in (kp := f51.kp) mixed f51.good (by kernel_rfl) H
def f51.j0T (R : VP) (s0 : ByteArray) (x1 : Int) (h : Heap) : Prop :=
 0 ≤ x1 ∧ ∃ y1_, s0[Int.toNat x1]? = some y1_ ∧ (splitB (((UInt8.toNat y1_ : Nat) : Int) == (40 : Int)) (f51.j2 R s0 x1 (((UInt8.toNat y1_ : Nat) : Int) == (40 : Int)) h) (splitB (((UInt8.toNat y1_ : Nat) : Int) == (41 : Int)) (f51.j2 R s0 x1 (((UInt8.toNat y1_ : Nat) : Int) == (41 : Int)) h) (splitB (((UInt8.toNat y1_ : Nat) : Int) == (91 : Int)) (f51.j2 R s0 x1 (((UInt8.toNat y1_ : Nat) : Int) == (91 : Int)) h) (splitB (((UInt8.toNat y1_ : Nat) : Int) == (93 : Int)) (f51.j2 R s0 x1 (((UInt8.toNat y1_ : Nat) : Int) == (93 : Int)) h) (splitB (((UInt8.toNat y1_ : Nat) : Int) == (123 : Int)) (f51.j2 R s0 x1 (((UInt8.toNat y1_ : Nat) : Int) == (123 : Int)) h) (splitB (((UInt8.toNat y1_ : Nat) : Int) == (125 : Int)) (f51.j2 R s0 x1 (((UInt8.toNat y1_ : Nat) : Int) == (125 : Int)) h) (splitB (((UInt8.toNat y1_ : Nat) : Int) == (44 : Int)) (f51.j2 R s0 x1 (((UInt8.toNat y1_ : Nat) : Int) == (44 : Int)) h) (splitB (((UInt8.toNat y1_ : Nat) : Int) == (59 : Int)) (f51.j2 R s0 x1 (((UInt8.toNat y1_ : Nat) : Int) == (59 : Int)) h) (splitB (((UInt8.toNat y1_ : Nat) : Int) == (58 : Int)) (f51.j2 R s0 x1 (((UInt8.toNat y1_ : Nat) : Int) == (58 : Int)) h) (splitB (((UInt8.toNat y1_ : Nat) : Int) == (61 : Int)) (f51.j2 R s0 x1 (((UInt8.toNat y1_ : Nat) : Int) == (61 : Int)) h) (splitB (((UInt8.toNat y1_ : Nat) : Int) == (43 : Int)) (f51.j2 R s0 x1 (((UInt8.toNat y1_ : Nat) : Int) == (43 : Int)) h) (splitB (((UInt8.toNat y1_ : Nat) : Int) == (45 : Int)) (f51.j2 R s0 x1 (((UInt8.toNat y1_ : Nat) : Int) == (45 : Int)) h) (splitB (((UInt8.toNat y1_ : Nat) : Int) == (42 : Int)) (f51.j2 R s0 x1 (((UInt8.toNat y1_ : Nat) : Int) == (42 : Int)) h) (splitB (((UInt8.toNat y1_ : Nat) : Int) == (47 : Int)) (f51.j2 R s0 x1 (((UInt8.toNat y1_ : Nat) : Int) == (47 : Int)) h) (splitB (((UInt8.toNat y1_ : Nat) : Int) == (37 : Int)) (f51.j2 R s0 x1 (((UInt8.toNat y1_ : Nat) : Int) == (37 : Int)) h) (splitB (((UInt8.toNat y1_ : Nat) : Int) == (60 : Int)) (f51.j2 R s0 x1 (((UInt8.toNat y1_ : Nat) : Int) == (60 : Int)) h) (splitB (((UInt8.toNat y1_ : Nat) : Int) == (94 : Int)) (f51.j2 R s0 x1 (((UInt8.toNat y1_ : Nat) : Int) == (94 : Int)) h) (splitB (((UInt8.toNat y1_ : Nat) : Int) == (124 : Int)) (f51.j2 R s0 x1 (((UInt8.toNat y1_ : Nat) : Int) == (124 : Int)) h) (f51.j2 R s0 x1 (((UInt8.toNat y1_ : Nat) : Int) == (95 : Int)) h)))))))))))))))))))
theorem f51.j0_in {R s0 x1 h} (H : f51.j0T R s0 x1 h) : f51.j0 R s0 x1 h := pt_in (kp := f51.kp) mixed f51.good (by kernel_rfl) H
def f51.j2T (R : VP) (s0 : ByteArray) (x1 : Int) (b34 : Bool) (h : Heap) : Prop :=
 splitB b34 (0 ≤ x1 ∧ x1 ≤ (IntKind.wrap .i64 (x1 + (1 : Int))) ∧ (IntKind.wrap .i64 (x1 + (1 : Int))) ≤ ((ByteArray.size s0 : Nat) : Int) ∧ (R (Value.string (ByteArray.extract s0 (Int.toNat x1) (Int.toNat (IntKind.wrap .i64 (x1 + (1 : Int)))))) h)) (R (Value.string (ByteArray.mk #[])) h)
theorem f51.j2_in {R s0 x1 b34 h} (H : f51.j2T R s0 x1 b34 h) : f51.j2 R s0 x1 b34 h := pt_in (kp := f51.kp) mixed f51.good (by kernel_rfl) H
def f51.runT (R : VP) (s0 : ByteArray) (x1 : Int) (h : Heap) : Prop :=
 splitB (decide ((IntKind.wrap .i64 (x1 + (1 : Int))) < ((ByteArray.size s0 : Nat) : Int))) (0 ≤ x1 ∧ x1 ≤ (IntKind.wrap .i64 (x1 + (2 : Int))) ∧ (IntKind.wrap .i64 (x1 + (2 : Int))) ≤ ((ByteArray.size s0 : Nat) : Int) ∧ (splitB (ByteArray.toList (ByteArray.extract s0 (Int.toNat x1) (Int.toNat (IntKind.wrap .i64 (x1 + (2 : Int))))) == ByteArray.toList (ByteArray.mk #[61, 62])) (f51.j1 R s0 x1 true h) (0 ≤ x1 ∧ x1 ≤ (IntKind.wrap .i64 (x1 + (2 : Int))) ∧ (IntKind.wrap .i64 (x1 + (2 : Int))) ≤ ((ByteArray.size s0 : Nat) : Int) ∧ (f51.j1 R s0 x1 (ByteArray.toList (ByteArray.extract s0 (Int.toNat x1) (Int.toNat (IntKind.wrap .i64 (x1 + (2 : Int))))) == ByteArray.toList (ByteArray.mk #[45, 62])) h)))) (f51.j1 R s0 x1 false h)
theorem f51.run {R : VP} {s0 : ByteArray} {x1 : Int} {h : Heap} (H : f51.runT R s0 x1 h) : Run Tryd.prog 51 #[(Value.string s0), (Value.int .i64 x1)] h R := run_in (kp := f51.kp) mixed Tryd.func51 (by kernel_rfl) (by kernel_rfl) f51.good (by kernel_rfl) H
def f19.T : Tab := { sh := tSh, tup := tTup, keep := [], plan := [(23, (.take 0 (.take 1 (.take 2 (.take 3 (.split 3 (.take 4 (.take 7 (.take 5 (.take 8 (.eff false true [] 6 (.take 9 (.take 10 .done)))))))))))))] }
def f19.kp : Keep := [([true, false, true, true, true, true, true, true, true, false, true, false, true], [1, 4]), ([false, false, true, false, true, false, true, true, true, true, true, true, true, false, true, false, true], [1, 4, 43, 44, 45]), ([true, false, true, true, true, true, true, true, true, true, true, true, true, false, true, false, true], [1, 77])]
theorem f19.good : goodCode Tryd.prog f19.T (rootOf Tryd.f19) = true := by kernel_rfl
def f19.j0 (R a1 b4 h) := Pt Tryd.prog Tryd.f19 R [true, false, true, true, true, true, true, true, true, false, true, false, true] (mkFr [(1, (Value.pointer (some a1))), (4, (Value.bool b4))]) h
def f19.j1 (R a1 b77 h) := Pt Tryd.prog Tryd.f19 R [true, false, true, true, true, true, true, true, true, true, true, true, true, false, true, false, true] (mkFr [(1, (Value.pointer (some a1))), (77, (Value.bool b77))]) h
def f19.l0 (R a1 b4 A43 n43 c43 x44 x45 h) := Pt Tryd.prog Tryd.f19 R [false, false, true, false, true, false, true, true, true, true, true, true, true, false, true, false, true] (mkFr [(1, (Value.pointer (some a1))), (4, (Value.bool b4)), (43, (Value.slice A43 n43 c43)), (44, (Value.int .i64 x44)), (45, (Value.int .i64 x45))]) h
def f19.j0T (R : VP) (a1 : Addr) (b4 : Bool) (h : Heap) : Prop :=
 ∃ v1_, ldv false 1 h (Addr.add a1 1) = some v1_ ∧ ∃ s2_, v1_ = (Value.string s2_) ∧ Gen Tryd.prog (convert 9 88 (Value.string s2_)) h fun v3_ h4_ => ∃ A5_, ∃ n5_, ∃ c5_, v3_ = (Value.slice A5_ n5_ c5_) ∧ f19.l0 R a1 b4 A5_ n5_ c5_ ((n5_ : Nat) : Int) (0 : Int) h4_
theorem f19.j0_in {R a1 b4 h} (H : f19.j0T R a1 b4 h) : f19.j0 R a1 b4 h := pt_in (kp := f19.kp) mixed f19.good (by kernel_rfl) H
def f19.j1T (R : VP) (a1 : Addr) (b77 : Bool) (h : Heap) : Prop :=
 splitB b77 (∃ v1_, ldv false 1 h (Addr.add a1 1) = some v1_ ∧ ∃ s2_, v1_ = (Value.string s2_) ∧ R (Value.tuple #[(Value.string s2_), (Value.int .i64 (0 : Int))]) h) (R (Value.tuple #[(Value.string (ByteArray.mk #[])), (Value.int .i64 (3 : Int))]) h)
theorem f19.j1_in {R a1 b77 h} (H : f19.j1T R a1 b77 h) : f19.j1 R a1 b77 h := pt_in (kp := f19.kp) mixed f19.good (by kernel_rfl) H
def f19.l0T (R : VP) (a1 : Addr) (b4 : Bool) (A43 : Option Addr) (n43 c43 : Nat) (x44 x45 : Int) (h : Heap) : Prop :=
 splitB (decide (x45 < x44)) (ptrOk A43 fun a1_ => 0 ≤ x45 ∧ x45 < ((n43 : Nat) : Int) ∧ (∃ v2_, ldv false 1 h (Addr.add a1_ (Int.toNat x45 * 1)) = some v2_ ∧ ∃ x3_, v2_ = (Value.int .u8 x3_) ∧ splitB b4 (Run Tryd.prog 50 #[(Value.int .u8 x3_)] h fun v4_ h5_ => ∃ b6_, v4_ = (Value.bool b6_) ∧ f19.l0 R a1 b6_ A43 n43 c43 x44 (IntKind.wrap .i64 (x45 + (1 : Int))) h5_) (f19.l0 R a1 false A43 n43 c43 x44 (IntKind.wrap .i64 (x45 + (1 : Int))) h))) (splitB b4 (∃ v7_, ldv false 1 h (Addr.add a1 1) = some v7_ ∧ ∃ s8_, v7_ = (Value.string s8_) ∧ R (Value.tuple #[(Value.string s8_), (Value.int .i64 (0 : Int))]) h) (R (Value.tuple #[(Value.string (ByteArray.mk #[])), (Value.int .i64 (3 : Int))]) h))
theorem f19.l0_in {R a1 b4 A43 n43 c43 x44 x45 h} (H : f19.l0T R a1 b4 A43 n43 c43 x44 x45 h) : f19.l0 R a1 b4 A43 n43 c43 x44 x45 h := pt_in (kp := f19.kp) mixed f19.good (by kernel_rfl) H
def f19.runT (R : VP) (v0 : Value) (h : Heap) : Prop :=
 newH h (Obj.cells ((v0).cells) 59) fun h1_ => ∃ v2_, ldv false 1 h1_ (⟨Array.size h, 0, none⟩) = some v2_ ∧ ∃ x3_, v2_ = (Value.int .i64 x3_) ∧ splitB (x3_ == (1 : Int)) (∃ v4_, ldv false 1 h1_ (Addr.add (⟨Array.size h, 0, none⟩) 1) = some v4_ ∧ ∃ s5_, v4_ = (Value.string s5_) ∧ Run Tryd.prog 24 #[(Value.string s5_)] h1_ fun v6_ h7_ => ∃ b8_, v6_ = (Value.bool b8_) ∧ splitB b8_ (∃ v9_, ldv false 1 h7_ (Addr.add (⟨Array.size h, 0, none⟩) 1) = some v9_ ∧ ∃ s10_, v9_ = (Value.string s10_) ∧ R (Value.tuple #[(Value.string s10_), (Value.int .i64 (0 : Int))]) h7_) (R (Value.tuple #[(Value.string (ByteArray.mk #[])), (Value.int .i64 (3 : Int))]) h7_)) (splitB (x3_ == (2 : Int)) (∃ v11_, ldv false 1 h1_ (Addr.add (⟨Array.size h, 0, none⟩) 1) = some v11_ ∧ ∃ s12_, v11_ = (Value.string s12_) ∧ Run Tryd.prog 26 #[(Value.string s12_)] h1_ fun v13_ h14_ => ∃ b15_, v13_ = (Value.bool b15_) ∧ splitB b15_ (∃ v16_, ldv false 1 h14_ (Addr.add (⟨Array.size h, 0, none⟩) 1) = some v16_ ∧ ∃ s17_, v16_ = (Value.string s17_) ∧ R (Value.tuple #[(Value.string s17_), (Value.int .i64 (0 : Int))]) h14_) (R (Value.tuple #[(Value.string (ByteArray.mk #[])), (Value.int .i64 (3 : Int))]) h14_)) (splitB (x3_ == (3 : Int)) (∃ v18_, ldv false 1 h1_ (Addr.add (⟨Array.size h, 0, none⟩) 1) = some v18_ ∧ ∃ s19_, v18_ = (Value.string s19_) ∧ Run Tryd.prog 21 #[(Value.string s19_)] h1_ fun v20_ h21_ => ∃ b22_, v20_ = (Value.bool b22_) ∧ splitB b22_ (∃ v23_, ldv false 1 h21_ (Addr.add (⟨Array.size h, 0, none⟩) 1) = some v23_ ∧ ∃ s24_, v23_ = (Value.string s24_) ∧ R (Value.tuple #[(Value.string s24_), (Value.int .i64 (0 : Int))]) h21_) (R (Value.tuple #[(Value.string (ByteArray.mk #[])), (Value.int .i64 (3 : Int))]) h21_)) (splitB (x3_ == (4 : Int)) (∃ v25_, ldv false 1 h1_ (Addr.add (⟨Array.size h, 0, none⟩) 1) = some v25_ ∧ ∃ s26_, v25_ = (Value.string s26_) ∧ splitB (!(ByteArray.toList s26_ == ByteArray.toList (ByteArray.mk #[]))) (∃ v27_, ldv false 1 h1_ (Addr.add (⟨Array.size h, 0, none⟩) 1) = some v27_ ∧ ∃ s28_, v27_ = (Value.string s28_) ∧ f19.j0 R (⟨Array.size h, 0, none⟩) (decide (((ByteArray.size s28_ : Nat) : Int) ≤ (4000 : Int))) h1_) (f19.j0 R (⟨Array.size h, 0, none⟩) false h1_)) (splitB (x3_ == (5 : Int)) (∃ v29_, ldv false 1 h1_ (Addr.add (⟨Array.size h, 0, none⟩) 1) = some v29_ ∧ ∃ s30_, v29_ = (Value.string s30_) ∧ Run Tryd.prog 20 #[(Value.string s30_)] h1_ fun v31_ h32_ => ∃ s33_, ∃ x34_, v31_ = (Value.tuple #[(Value.string s33_), (Value.int .i64 x34_)]) ∧ R (Value.tuple #[(Value.string s33_), (Value.int .i64 x34_)]) h32_) (splitB (x3_ == (6 : Int)) (∃ v35_, ldv false 1 h1_ (Addr.add (⟨Array.size h, 0, none⟩) 1) = some v35_ ∧ ∃ s36_, v35_ = (Value.string s36_) ∧ splitB (!(ByteArray.toList s36_ == ByteArray.toList (ByteArray.mk #[]))) (∃ v37_, ldv false 1 h1_ (Addr.add (⟨Array.size h, 0, none⟩) 1) = some v37_ ∧ ∃ s38_, v37_ = (Value.string s38_) ∧ ∃ v39_, ldv false 1 h1_ (Addr.add (⟨Array.size h, 0, none⟩) 1) = some v39_ ∧ ∃ s40_, v39_ = (Value.string s40_) ∧ Run Tryd.prog 51 #[(Value.string s38_), (Value.int .i64 (0 : Int))] h1_ fun v41_ h42_ => ∃ s43_, v41_ = (Value.string s43_) ∧ Ext h1_ h42_ ∧ (f19.j1 R (⟨Array.size h, 0, none⟩) (ByteArray.toList s43_ == ByteArray.toList s40_) h42_)) (Ext h1_ h1_ ∧ (f19.j1 R (⟨Array.size h, 0, none⟩) false h1_))) (R (Value.tuple #[(Value.string (ByteArray.mk #[])), (Value.int .i64 (3 : Int))]) h1_))))))
theorem f19.run {R : VP} {v0 : Value} {h : Heap} (H : f19.runT R v0 h) : Run Tryd.prog 19 #[v0] h R := run_in (kp := f19.kp) mixed Tryd.func19 (by kernel_rfl) (by kernel_rfl) f19.good (by kernel_rfl) H
def f53.T : Tab := { sh := tSh, tup := tTup, keep := [], plan := [] }
def f53.kp : Keep := [([false, false, true, false, true], [0, 1, 7, 8])]
theorem f53.good : goodCode Tryd.prog f53.T (rootOf Tryd.f53) = true := by kernel_rfl
def f53.l0 (R A0 n0 c0 s1 x7 x8 h) := Pt Tryd.prog Tryd.f53 R [false, false, true, false, true] (mkFr [(0, (Value.slice A0 n0 c0)), (1, (Value.string s1)), (7, (Value.int .i64 x7)), (8, (Value.int .i64 x8))]) h
def f53.l0T (R : VP) (A0 : Option Addr) (n0 c0 : Nat) (s1 : ByteArray) (x7 x8 : Int) (h : Heap) : Prop :=
 splitB (decide (x8 < x7)) (ptrOk A0 fun a1_ => 0 ≤ x8 ∧ x8 < ((n0 : Nat) : Int) ∧ (∃ v2_, ldv false 1 h (Addr.add a1_ (Int.toNat x8 * 1)) = some v2_ ∧ ∃ s3_, v2_ = (Value.string s3_) ∧ splitB (ByteArray.toList s1 == ByteArray.toList s3_) (R (Value.int .i64 x8) h) (f53.l0 R A0 n0 c0 s1 x7 (IntKind.wrap .i64 (x8 + (1 : Int))) h))) (R (Value.int .i64 (-1 : Int)) h)
theorem f53.l0_in {R A0 n0 c0 s1 x7 x8 h} (H : f53.l0T R A0 n0 c0 s1 x7 x8 h) : f53.l0 R A0 n0 c0 s1 x7 x8 h := pt_in (kp := f53.kp) mixed f53.good (by kernel_rfl) H
def f53.runT (R : VP) (A0 : Option Addr) (n0 c0 : Nat) (s1 : ByteArray) (h : Heap) : Prop :=
 f53.l0 R A0 n0 c0 s1 ((n0 : Nat) : Int) (0 : Int) h
theorem f53.run {R : VP} {A0 : Option Addr} {n0 c0 : Nat} {s1 : ByteArray} {h : Heap} (H : f53.runT R A0 n0 c0 s1 h) : Run Tryd.prog 53 #[(Value.slice A0 n0 c0), (Value.string s1)] h R := run_in (kp := f53.kp) mixed Tryd.func53 (by kernel_rfl) (by kernel_rfl) f53.good (by kernel_rfl) H
def f22.T : Tab := { sh := tSh, tup := tTup, keep := [], plan := [] }
def f22.kp : Keep := []
theorem f22.good : goodCode Tryd.prog f22.T (rootOf Tryd.f22) = true := by kernel_rfl
def f22.runT (R : VP) (A0 : Option Addr) (n0 c0 : Nat) (s1 : ByteArray) (h : Heap) : Prop :=
 Run Tryd.prog 53 #[(Value.slice A0 n0 c0), (Value.string s1)] h fun v1_ h2_ => ∃ x3_, v1_ = (Value.int .i64 x3_) ∧ R (Value.bool (decide (x3_ ≥ (0 : Int)))) h2_
theorem f22.run {R : VP} {A0 : Option Addr} {n0 c0 : Nat} {s1 : ByteArray} {h : Heap} (H : f22.runT R A0 n0 c0 s1 h) : Run Tryd.prog 22 #[(Value.slice A0 n0 c0), (Value.string s1)] h R := run_in (kp := f22.kp) mixed Tryd.func22 (by kernel_rfl) (by kernel_rfl) f22.good (by kernel_rfl) H
def f23.T : Tab := { sh := tSh, tup := tTup, keep := [], plan := [] }
def f23.kp : Keep := []
theorem f23.good : goodCode Tryd.prog f23.T (rootOf Tryd.f23) = true := by kernel_rfl
def f23.runT (R : VP)  (h : Heap) : Prop :=
 Run Tryd.prog 40 #[(Value.string (ByteArray.mk #[97, 99, 116, 111, 114, 32, 97, 102, 116, 101, 114, 32, 97, 110, 100, 32, 97, 112, 112, 108, 121, 32, 98, 101, 99, 111, 109, 101, 32, 98, 111, 111, 108, 32, 99, 101, 108, 108, 32, 100, 97, 116, 97, 32, 101, 108, 115, 101, 32, 102, 97, 105, 108, 32, 102, 97, 108, 115, 101, 32, 102, 110, 32, 102, 111, 114, 32, 102, 117, 110, 32, 103, 101, 116, 32, 105, 102, 32, 105, 109, 112, 108, 32, 105, 110, 32, 105, 110, 116, 32, 108, 101, 116, 32, 108, 105, 110, 107, 32, 109, 97, 116, 99, 104, 32, 109, 111, 100, 117, 108, 101, 32, 110, 111, 116, 32, 111, 114, 32, 112, 117, 116, 32, 114, 101, 99, 101, 105, 118, 101, 32, 115, 97, 121, 32, 115, 101, 108, 102, 32, 115, 101, 110, 100, 32, 115, 112, 97, 119, 110, 32, 116, 101, 120, 116, 32, 116, 104, 101, 110, 32, 116, 114, 97, 105, 116, 32, 116, 114, 117, 101, 32, 117, 110, 105, 116, 32, 117, 115, 101, 32, 119, 97, 116, 99, 104]))] h fun v1_ h2_ => ∃ A3_, ∃ n3_, ∃ c3_, v1_ = (Value.slice A3_ n3_ c3_) ∧ R (Value.slice A3_ n3_ c3_) h2_
theorem f23.run {R : VP}  {h : Heap} (H : f23.runT R  h) : Run Tryd.prog 23 #[] h R := run_in (kp := f23.kp) mixed Tryd.func23 (by kernel_rfl) (by kernel_rfl) f23.good (by kernel_rfl) H
def f56.T : Tab := { sh := tSh, tup := tTup, keep := [], plan := [] }
def f56.kp : Keep := []
theorem f56.good : goodCode Tryd.prog f56.T (rootOf Tryd.f56) = true := by kernel_rfl
def f56.runT (R : VP) (s0 s1 : ByteArray) (h : Heap) : Prop :=
 splitB (!(ByteArray.toList s0 == ByteArray.toList (ByteArray.mk #[]))) (splitB (decide (((ByteArray.size s0 : Nat) : Int) < (17 : Int))) (0 ≤ (0 : Int) ∧ ∃ y1_, s0[Int.toNat (0 : Int)]? = some y1_ ∧ (Run Tryd.prog 59 #[(Value.string s1), (Value.int .u8 ((UInt8.toNat y1_ : Nat) : Int))] h fun v2_ h3_ => ∃ x4_, v2_ = (Value.int .i64 x4_) ∧ splitB (decide (x4_ ≥ (0 : Int))) (Run Tryd.prog 80 #[(Value.string s0), (Value.string (ByteArray.mk #[97, 98, 99, 100, 101, 102, 103, 104, 105, 106, 107, 108, 109, 110, 111, 112, 113, 114, 115, 116, 117, 118, 119, 120, 121, 122, 65, 66, 67, 68, 69, 70, 71, 72, 73, 74, 75, 76, 77, 78, 79, 80, 81, 82, 83, 84, 85, 86, 87, 88, 89, 90, 48, 49, 50, 51, 52, 53, 54, 55, 56, 57, 95]))] h3_ fun v5_ h6_ => ∃ s7_, v5_ = (Value.string s7_) ∧ R (Value.bool (ByteArray.toList s7_ == ByteArray.toList (ByteArray.mk #[]))) h6_) (R (Value.bool false) h3_))) (R (Value.bool false) h)) (R (Value.bool false) h)
theorem f56.run {R : VP} {s0 s1 : ByteArray} {h : Heap} (H : f56.runT R s0 s1 h) : Run Tryd.prog 56 #[(Value.string s0), (Value.string s1)] h R := run_in (kp := f56.kp) mixed Tryd.func56 (by kernel_rfl) (by kernel_rfl) f56.good (by kernel_rfl) H
def f25.T : Tab := { sh := tSh, tup := tTup, keep := [], plan := [] }
def f25.kp : Keep := []
theorem f25.good : goodCode Tryd.prog f25.T (rootOf Tryd.f25) = true := by kernel_rfl
def f25.runT (R : VP) (s0 : ByteArray) (h : Heap) : Prop :=
 0 ≤ (0 : Int) ∧ (0 : Int) ≤ (26 : Int) ∧ (26 : Int) ≤ ((ByteArray.size (ByteArray.mk #[97, 98, 99, 100, 101, 102, 103, 104, 105, 106, 107, 108, 109, 110, 111, 112, 113, 114, 115, 116, 117, 118, 119, 120, 121, 122, 65, 66, 67, 68, 69, 70, 71, 72, 73, 74, 75, 76, 77, 78, 79, 80, 81, 82, 83, 84, 85, 86, 87, 88, 89, 90, 48, 49, 50, 51, 52, 53, 54, 55, 56, 57, 95]) : Nat) : Int) ∧ (Run Tryd.prog 56 #[(Value.string s0), (Value.string (ByteArray.extract (ByteArray.mk #[97, 98, 99, 100, 101, 102, 103, 104, 105, 106, 107, 108, 109, 110, 111, 112, 113, 114, 115, 116, 117, 118, 119, 120, 121, 122, 65, 66, 67, 68, 69, 70, 71, 72, 73, 74, 75, 76, 77, 78, 79, 80, 81, 82, 83, 84, 85, 86, 87, 88, 89, 90, 48, 49, 50, 51, 52, 53, 54, 55, 56, 57, 95]) (Int.toNat (0 : Int)) (Int.toNat (26 : Int))))] h fun v1_ h2_ => ∃ b3_, v1_ = (Value.bool b3_) ∧ splitB b3_ (Run Tryd.prog 23 #[] h2_ fun v4_ h5_ => ∃ A6_, ∃ n6_, ∃ c6_, v4_ = (Value.slice A6_ n6_ c6_) ∧ Run Tryd.prog 22 #[(Value.slice A6_ n6_ c6_), (Value.string s0)] h5_ fun v7_ h8_ => ∃ b9_, v7_ = (Value.bool b9_) ∧ R (Value.bool (!b9_)) h8_) (R (Value.bool false) h2_))
theorem f25.run {R : VP} {s0 : ByteArray} {h : Heap} (H : f25.runT R s0 h) : Run Tryd.prog 25 #[(Value.string s0)] h R := run_in (kp := f25.kp) mixed Tryd.func25 (by kernel_rfl) (by kernel_rfl) f25.good (by kernel_rfl) H
def f27.T : Tab := { sh := tSh, tup := tTup, keep := [], plan := [] }
def f27.kp : Keep := []
theorem f27.good : goodCode Tryd.prog f27.T (rootOf Tryd.f27) = true := by kernel_rfl
def f27.runT (R : VP) (s0 : ByteArray) (h : Heap) : Prop :=
 0 ≤ (26 : Int) ∧ (26 : Int) ≤ (52 : Int) ∧ (52 : Int) ≤ ((ByteArray.size (ByteArray.mk #[97, 98, 99, 100, 101, 102, 103, 104, 105, 106, 107, 108, 109, 110, 111, 112, 113, 114, 115, 116, 117, 118, 119, 120, 121, 122, 65, 66, 67, 68, 69, 70, 71, 72, 73, 74, 75, 76, 77, 78, 79, 80, 81, 82, 83, 84, 85, 86, 87, 88, 89, 90, 48, 49, 50, 51, 52, 53, 54, 55, 56, 57, 95]) : Nat) : Int) ∧ (Run Tryd.prog 56 #[(Value.string s0), (Value.string (ByteArray.extract (ByteArray.mk #[97, 98, 99, 100, 101, 102, 103, 104, 105, 106, 107, 108, 109, 110, 111, 112, 113, 114, 115, 116, 117, 118, 119, 120, 121, 122, 65, 66, 67, 68, 69, 70, 71, 72, 73, 74, 75, 76, 77, 78, 79, 80, 81, 82, 83, 84, 85, 86, 87, 88, 89, 90, 48, 49, 50, 51, 52, 53, 54, 55, 56, 57, 95]) (Int.toNat (26 : Int)) (Int.toNat (52 : Int))))] h fun v1_ h2_ => ∃ b3_, v1_ = (Value.bool b3_) ∧ R (Value.bool b3_) h2_)
theorem f27.run {R : VP} {s0 : ByteArray} {h : Heap} (H : f27.runT R s0 h) : Run Tryd.prog 27 #[(Value.string s0)] h R := run_in (kp := f27.kp) mixed Tryd.func27 (by kernel_rfl) (by kernel_rfl) f27.good (by kernel_rfl) H
def f29.T : Tab := { sh := tSh, tup := tTup, keep := [], plan := [(6, (.take 0 (.take 1 (.take 2 (.take 3 (.take 4 (.take 5 (.take 6 (.take 7 (.take 8 (.take 9 (.take 10 (.take 11 (.take 12 (.take 13 (.take 14 (.take 15 (.take 16 .done))))))))))))))))))] }
def f29.kp : Keep := [([false, false, true, false, true, true], [0, 3, 7, 8]), ([true, false, true, true, false, false, true, true, false, false, true, false, true, true], [0, 3, 4, 5, 7, 8, 30]), ([true, true, true, true, true, false, true, true, false, false, true, true, false, false, true, false, true, true], [0, 3, 4, 5, 7, 8, 48])]
theorem f29.good : goodCode Tryd.prog f29.T (rootOf Tryd.f29) = true := by kernel_rfl
def f29.l0 (R s0 s3 x7 x8 h) := Pt Tryd.prog Tryd.f29 R [false, false, true, false, true, true] (mkFr [(0, (Value.string s0)), (3, (Value.string s3)), (7, (Value.int .i64 x7)), (8, (Value.int .i64 x8))]) h
def f29.j0 (R s0 s3 x4 x5 x7 x8 b30 h) := Pt Tryd.prog Tryd.f29 R [true, false, true, true, false, false, true, true, false, false, true, false, true, true] (mkFr [(0, (Value.string s0)), (3, (Value.string s3)), (4, (Value.int .i64 x4)), (5, (Value.int .u8 x5)), (7, (Value.int .i64 x7)), (8, (Value.int .i64 x8)), (30, (Value.bool b30))]) h
def f29.j1 (R s0 s3 x4 x5 x7 x8 b48 h) := Pt Tryd.prog Tryd.f29 R [true, true, true, true, true, false, true, true, false, false, true, true, false, false, true, false, true, true] (mkFr [(0, (Value.string s0)), (3, (Value.string s3)), (4, (Value.int .i64 x4)), (5, (Value.int .u8 x5)), (7, (Value.int .i64 x7)), (8, (Value.int .i64 x8)), (48, (Value.bool b48))]) h
def f29.l0T (R : VP) (s0 s3 : ByteArray) (x7 x8 : Int) (h : Heap) : Prop :=
 splitB (decide (x8 < x7)) (0 ≤ x8 ∧ ∃ y1_, s0[Int.toNat x8]? = some y1_ ∧ (splitB (((UInt8.toNat y1_ : Nat) : Int) == (34 : Int)) (f29.j0 R s0 s3 x8 ((UInt8.toNat y1_ : Nat) : Int) x7 x8 (((UInt8.toNat y1_ : Nat) : Int) == (34 : Int)) h) (f29.j0 R s0 s3 x8 ((UInt8.toNat y1_ : Nat) : Int) x7 x8 (((UInt8.toNat y1_ : Nat) : Int) == (92 : Int)) h))) (ByteArray.size s3 + ByteArray.size (ByteArray.mk #[34]) ≤ 9223372036854775807 ∧ (R (Value.string (s3 ++ (ByteArray.mk #[34]))) h))
theorem f29.l0_in {R s0 s3 x7 x8 h} (H : f29.l0T R s0 s3 x7 x8 h) : f29.l0 R s0 s3 x7 x8 h := pt_in (kp := f29.kp) mixed f29.good (by kernel_rfl) H
def f29.j0T (R : VP) (s0 s3 : ByteArray) (x4 x5 x7 x8 : Int) (b30 : Bool) (h : Heap) : Prop :=
 splitB b30 (0 ≤ x4 ∧ x4 ≤ (IntKind.wrap .i64 (x4 + (1 : Int))) ∧ (IntKind.wrap .i64 (x4 + (1 : Int))) ≤ ((ByteArray.size s0 : Nat) : Int) ∧ (ByteArray.size (ByteArray.mk #[92]) + ByteArray.size (ByteArray.extract s0 (Int.toNat x4) (Int.toNat (IntKind.wrap .i64 (x4 + (1 : Int))))) ≤ 9223372036854775807 ∧ (ByteArray.size s3 + ByteArray.size ((ByteArray.mk #[92]) ++ (ByteArray.extract s0 (Int.toNat x4) (Int.toNat (IntKind.wrap .i64 (x4 + (1 : Int)))))) ≤ 9223372036854775807 ∧ (f29.l0 R s0 (s3 ++ ((ByteArray.mk #[92]) ++ (ByteArray.extract s0 (Int.toNat x4) (Int.toNat (IntKind.wrap .i64 (x4 + (1 : Int))))))) x7 (IntKind.wrap .i64 (x8 + (1 : Int))) h)))) (splitB (x5 == (10 : Int)) (ByteArray.size s3 + ByteArray.size (ByteArray.mk #[92, 110]) ≤ 9223372036854775807 ∧ (f29.l0 R s0 (s3 ++ (ByteArray.mk #[92, 110])) x7 (IntKind.wrap .i64 (x8 + (1 : Int))) h)) (splitB (decide (x5 > (31 : Int))) (f29.j1 R s0 s3 x4 x5 x7 x8 (decide (x5 < (127 : Int))) h) (f29.j1 R s0 s3 x4 x5 x7 x8 false h)))
theorem f29.j0_in {R s0 s3 x4 x5 x7 x8 b30 h} (H : f29.j0T R s0 s3 x4 x5 x7 x8 b30 h) : f29.j0 R s0 s3 x4 x5 x7 x8 b30 h := pt_in (kp := f29.kp) mixed f29.good (by kernel_rfl) H
def f29.j1T (R : VP) (s0 s3 : ByteArray) (x4 x5 x7 x8 : Int) (b48 : Bool) (h : Heap) : Prop :=
 splitB b48 (0 ≤ x4 ∧ x4 ≤ (IntKind.wrap .i64 (x4 + (1 : Int))) ∧ (IntKind.wrap .i64 (x4 + (1 : Int))) ≤ ((ByteArray.size s0 : Nat) : Int) ∧ (ByteArray.size s3 + ByteArray.size (ByteArray.extract s0 (Int.toNat x4) (Int.toNat (IntKind.wrap .i64 (x4 + (1 : Int))))) ≤ 9223372036854775807 ∧ (f29.l0 R s0 (s3 ++ (ByteArray.extract s0 (Int.toNat x4) (Int.toNat (IntKind.wrap .i64 (x4 + (1 : Int)))))) x7 (IntKind.wrap .i64 (x8 + (1 : Int))) h))) ((16 : Int) ≠ 0 ∧ ((16 : Int) ≠ 0 ∧ (0 ≤ (IntKind.wrap .u8 (Int.tdiv x5 (16 : Int))) ∧ (IntKind.wrap .u8 (Int.tdiv x5 (16 : Int))) ≤ (IntKind.wrap .u8 ((IntKind.wrap .u8 (Int.tdiv x5 (16 : Int))) + (1 : Int))) ∧ (IntKind.wrap .u8 ((IntKind.wrap .u8 (Int.tdiv x5 (16 : Int))) + (1 : Int))) ≤ ((ByteArray.size (ByteArray.mk #[48, 49, 50, 51, 52, 53, 54, 55, 56, 57, 97, 98, 99, 100, 101, 102]) : Nat) : Int) ∧ (ByteArray.size (ByteArray.mk #[92, 120]) + ByteArray.size (ByteArray.extract (ByteArray.mk #[48, 49, 50, 51, 52, 53, 54, 55, 56, 57, 97, 98, 99, 100, 101, 102]) (Int.toNat (IntKind.wrap .u8 (Int.tdiv x5 (16 : Int)))) (Int.toNat (IntKind.wrap .u8 ((IntKind.wrap .u8 (Int.tdiv x5 (16 : Int))) + (1 : Int))))) ≤ 9223372036854775807 ∧ ((16 : Int) ≠ 0 ∧ ((16 : Int) ≠ 0 ∧ (0 ≤ (Int.tmod x5 (16 : Int)) ∧ (Int.tmod x5 (16 : Int)) ≤ (IntKind.wrap .u8 ((Int.tmod x5 (16 : Int)) + (1 : Int))) ∧ (IntKind.wrap .u8 ((Int.tmod x5 (16 : Int)) + (1 : Int))) ≤ ((ByteArray.size (ByteArray.mk #[48, 49, 50, 51, 52, 53, 54, 55, 56, 57, 97, 98, 99, 100, 101, 102]) : Nat) : Int) ∧ (ByteArray.size ((ByteArray.mk #[92, 120]) ++ (ByteArray.extract (ByteArray.mk #[48, 49, 50, 51, 52, 53, 54, 55, 56, 57, 97, 98, 99, 100, 101, 102]) (Int.toNat (IntKind.wrap .u8 (Int.tdiv x5 (16 : Int)))) (Int.toNat (IntKind.wrap .u8 ((IntKind.wrap .u8 (Int.tdiv x5 (16 : Int))) + (1 : Int)))))) + ByteArray.size (ByteArray.extract (ByteArray.mk #[48, 49, 50, 51, 52, 53, 54, 55, 56, 57, 97, 98, 99, 100, 101, 102]) (Int.toNat (Int.tmod x5 (16 : Int))) (Int.toNat (IntKind.wrap .u8 ((Int.tmod x5 (16 : Int)) + (1 : Int))))) ≤ 9223372036854775807 ∧ (ByteArray.size s3 + ByteArray.size (((ByteArray.mk #[92, 120]) ++ (ByteArray.extract (ByteArray.mk #[48, 49, 50, 51, 52, 53, 54, 55, 56, 57, 97, 98, 99, 100, 101, 102]) (Int.toNat (IntKind.wrap .u8 (Int.tdiv x5 (16 : Int)))) (Int.toNat (IntKind.wrap .u8 ((IntKind.wrap .u8 (Int.tdiv x5 (16 : Int))) + (1 : Int)))))) ++ (ByteArray.extract (ByteArray.mk #[48, 49, 50, 51, 52, 53, 54, 55, 56, 57, 97, 98, 99, 100, 101, 102]) (Int.toNat (Int.tmod x5 (16 : Int))) (Int.toNat (IntKind.wrap .u8 ((Int.tmod x5 (16 : Int)) + (1 : Int)))))) ≤ 9223372036854775807 ∧ (f29.l0 R s0 (s3 ++ (((ByteArray.mk #[92, 120]) ++ (ByteArray.extract (ByteArray.mk #[48, 49, 50, 51, 52, 53, 54, 55, 56, 57, 97, 98, 99, 100, 101, 102]) (Int.toNat (IntKind.wrap .u8 (Int.tdiv x5 (16 : Int)))) (Int.toNat (IntKind.wrap .u8 ((IntKind.wrap .u8 (Int.tdiv x5 (16 : Int))) + (1 : Int)))))) ++ (ByteArray.extract (ByteArray.mk #[48, 49, 50, 51, 52, 53, 54, 55, 56, 57, 97, 98, 99, 100, 101, 102]) (Int.toNat (Int.tmod x5 (16 : Int))) (Int.toNat (IntKind.wrap .u8 ((Int.tmod x5 (16 : Int)) + (1 : Int))))))) x7 (IntKind.wrap .i64 (x8 + (1 : Int))) h))))))))))
theorem f29.j1_in {R s0 s3 x4 x5 x7 x8 b48 h} (H : f29.j1T R s0 s3 x4 x5 x7 x8 b48 h) : f29.j1 R s0 s3 x4 x5 x7 x8 b48 h := pt_in (kp := f29.kp) mixed f29.good (by kernel_rfl) H
def f29.runT (R : VP) (s0 : ByteArray) (h : Heap) : Prop :=
 f29.l0 R s0 (ByteArray.mk #[34]) ((ByteArray.size s0 : Nat) : Int) (0 : Int) h
theorem f29.run {R : VP} {s0 : ByteArray} {h : Heap} (H : f29.runT R s0 h) : Run Tryd.prog 29 #[(Value.string s0)] h R := run_in (kp := f29.kp) mixed Tryd.func29 (by kernel_rfl) (by kernel_rfl) f29.good (by kernel_rfl) H
def f58.T : Tab := { sh := tSh, tup := tTup, keep := [], plan := [] }
def f58.kp : Keep := [([false, false, false, true, true], [0, 1, 5]), ([true, false, false, false, true, true], [0, 1, 5])]
theorem f58.good : goodCode Tryd.prog f58.T (rootOf Tryd.f58) = true := by kernel_rfl
def f58.l0 (R s0 s1 x5 h) := Pt Tryd.prog Tryd.f58 R [false, false, false, true, true] (mkFr [(0, (Value.string s0)), (1, (Value.string s1)), (5, (Value.int .i64 x5))]) h
def f58.j0 (R s0 s1 x5 h) := Pt Tryd.prog Tryd.f58 R [true, false, false, false, true, true] (mkFr [(0, (Value.string s0)), (1, (Value.string s1)), (5, (Value.int .i64 x5))]) h
def f58.l0T (R : VP) (s0 s1 : ByteArray) (x5 : Int) (h : Heap) : Prop :=
 splitB (decide (x5 < ((ByteArray.size s0 : Nat) : Int))) (0 ≤ x5 ∧ ∃ y1_, s0[Int.toNat x5]? = some y1_ ∧ (Run Tryd.prog 59 #[(Value.string s1), (Value.int .u8 ((UInt8.toNat y1_ : Nat) : Int))] h fun v2_ h3_ => ∃ x4_, v2_ = (Value.int .i64 x4_) ∧ splitB (decide (x4_ ≥ (0 : Int))) (f58.j0 R s0 s1 x5 h3_) (R (Value.int .i64 x5) h3_))) (R (Value.int .i64 x5) h)
theorem f58.l0_in {R s0 s1 x5 h} (H : f58.l0T R s0 s1 x5 h) : f58.l0 R s0 s1 x5 h := pt_in (kp := f58.kp) mixed f58.good (by kernel_rfl) H
def f58.j0T (R : VP) (s0 s1 : ByteArray) (x5 : Int) (h : Heap) : Prop :=
 f58.l0 R s0 s1 (IntKind.wrap .i64 (x5 + (1 : Int))) h
theorem f58.j0_in {R s0 s1 x5 h} (H : f58.j0T R s0 s1 x5 h) : f58.j0 R s0 s1 x5 h := pt_in (kp := f58.kp) mixed f58.good (by kernel_rfl) H
def f58.runT (R : VP) (s0 s1 : ByteArray) (h : Heap) : Prop :=
 f58.l0 R s0 s1 (0 : Int) h
theorem f58.run {R : VP} {s0 s1 : ByteArray} {h : Heap} (H : f58.runT R s0 s1 h) : Run Tryd.prog 58 #[(Value.string s0), (Value.string s1)] h R := run_in (kp := f58.kp) mixed Tryd.func58 (by kernel_rfl) (by kernel_rfl) f58.good (by kernel_rfl) H
def f100.T : Tab := { sh := tSh, tup := tTup, keep := [], plan := [] }
def f100.kp : Keep := []
theorem f100.good : goodCode Tryd.prog f100.T (rootOf Tryd.f100) = true := by kernel_rfl
def f100.runT (R : VP) (s0 s1 : ByteArray) (h : Heap) : Prop :=
 splitB (decide (((ByteArray.size s0 : Nat) : Int) ≥ ((ByteArray.size s1 : Nat) : Int))) (0 ≤ (0 : Int) ∧ (0 : Int) ≤ ((ByteArray.size s1 : Nat) : Int) ∧ ((ByteArray.size s1 : Nat) : Int) ≤ ((ByteArray.size s0 : Nat) : Int) ∧ (R (Value.bool (ByteArray.toList (ByteArray.extract s0 (Int.toNat (0 : Int)) (Int.toNat ((ByteArray.size s1 : Nat) : Int))) == ByteArray.toList s1)) h)) (R (Value.bool false) h)
theorem f100.run {R : VP} {s0 s1 : ByteArray} {h : Heap} (H : f100.runT R s0 s1 h) : Run Tryd.prog 100 #[(Value.string s0), (Value.string s1)] h R := run_in (kp := f100.kp) mixed Tryd.func100 (by kernel_rfl) (by kernel_rfl) f100.good (by kernel_rfl) H
def f83.T : Tab := { sh := tSh, tup := tTup, keep := [], plan := [] }
def f83.kp : Keep := []
theorem f83.good : goodCode Tryd.prog f83.T (rootOf Tryd.f83) = true := by kernel_rfl
def f83.runT (R : VP) (s0 s1 : ByteArray) (h : Heap) : Prop :=
 Run Tryd.prog 100 #[(Value.string s0), (Value.string s1)] h fun v1_ h2_ => ∃ b3_, v1_ = (Value.bool b3_) ∧ R (Value.bool b3_) h2_
theorem f83.run {R : VP} {s0 s1 : ByteArray} {h : Heap} (H : f83.runT R s0 s1 h) : Run Tryd.prog 83 #[(Value.string s0), (Value.string s1)] h R := run_in (kp := f83.kp) mixed Tryd.func83 (by kernel_rfl) (by kernel_rfl) f83.good (by kernel_rfl) H
def f140.T : Tab := { sh := tSh, tup := tTup, keep := [], plan := [] }
def f140.kp : Keep := []
theorem f140.good : goodCode Tryd.prog f140.T (rootOf Tryd.f140) = true := by kernel_rfl
def f140.runT (R : VP) (x0 : Int) (h : Heap) : Prop :=
 R (Value.int .u8 (bitsI .or .u8 x0 (32 : Int))) h
theorem f140.run {R : VP} {x0 : Int} {h : Heap} (H : f140.runT R x0 h) : Run Tryd.prog 140 #[(Value.int .u8 x0)] h R := run_in (kp := f140.kp) mixed Tryd.func140 (by kernel_rfl) (by kernel_rfl) f140.good (by kernel_rfl) H
def f141.T : Tab := { sh := tSh, tup := tTup, keep := [], plan := [] }
def f141.kp : Keep := [([true, false, true, true, true], [0, 3, 4, 18]), ([true, true, true, true], [0, 3, 4]), ([true, false, true, true, true, true, true], [0, 3, 4, 5, 46]), ([true, true, true, true, true, true], [0, 3, 4, 5]), ([false, false, false, true, true, true, true, true, true], [0, 3, 4, 5]), ([true, false, false, true, false, false, false, true, true, true, true, true, true], [0, 3, 4, 5]), ([true, true, false, false, false, true, true, true, true, true, true], [0, 3, 4, 5])]
theorem f141.good : goodCode Tryd.prog f141.T (rootOf Tryd.f141) = true := by kernel_rfl
def f141.j1 (R s0 x3 x4 b18 h) := Pt Tryd.prog Tryd.f141 R [true, false, true, true, true] (mkFr [(0, (Value.string s0)), (3, (Value.int .i32 x3)), (4, (Value.int .i64 x4)), (18, (Value.bool b18))]) h
def f141.j0 (R s0 x3 x4 h) := Pt Tryd.prog Tryd.f141 R [true, true, true, true] (mkFr [(0, (Value.string s0)), (3, (Value.int .i32 x3)), (4, (Value.int .i64 x4))]) h
def f141.j3 (R s0 x3 x4 b5 b46 h) := Pt Tryd.prog Tryd.f141 R [true, false, true, true, true, true, true] (mkFr [(0, (Value.string s0)), (3, (Value.int .i32 x3)), (4, (Value.int .i64 x4)), (5, (Value.bool b5)), (46, (Value.bool b46))]) h
def f141.j2 (R s0 x3 x4 b5 h) := Pt Tryd.prog Tryd.f141 R [true, true, true, true, true, true] (mkFr [(0, (Value.string s0)), (3, (Value.int .i32 x3)), (4, (Value.int .i64 x4)), (5, (Value.bool b5))]) h
def f141.l0 (R s0 x3 x4 b5 h) := Pt Tryd.prog Tryd.f141 R [false, false, false, true, true, true, true, true, true] (mkFr [(0, (Value.string s0)), (3, (Value.int .i32 x3)), (4, (Value.int .i64 x4)), (5, (Value.bool b5))]) h
def f141.j4 (R s0 x3 x4 b5 h) := Pt Tryd.prog Tryd.f141 R [true, true, false, false, false, true, true, true, true, true, true] (mkFr [(0, (Value.string s0)), (3, (Value.int .i32 x3)), (4, (Value.int .i64 x4)), (5, (Value.bool b5))]) h
def f141.j5 (R s0 x3 x4 b5 h) := Pt Tryd.prog Tryd.f141 R [true, false, false, true, false, false, false, true, true, true, true, true, true] (mkFr [(0, (Value.string s0)), (3, (Value.int .i32 x3)), (4, (Value.int .i64 x4)), (5, (Value.bool b5))]) h
def f141.j1T (R : VP) (s0 : ByteArray) (x3 x4 : Int) (b18 : Bool) (h : Heap) : Prop :=
 splitB b18 (0 ≤ (1 : Int) ∧ (1 : Int) ≤ ((ByteArray.size s0 : Nat) : Int) ∧ ((ByteArray.size s0 : Nat) : Int) ≤ ((ByteArray.size s0 : Nat) : Int) ∧ (f141.j0 R (ByteArray.extract s0 (Int.toNat (1 : Int)) (Int.toNat ((ByteArray.size s0 : Nat) : Int))) x3 x4 h)) (f141.j0 R s0 x3 x4 h)
theorem f141.j1_in {R s0 x3 x4 b18 h} (H : f141.j1T R s0 x3 x4 b18 h) : f141.j1 R s0 x3 x4 b18 h := pt_in (kp := f141.kp) mixed f141.good (by kernel_rfl) H
def f141.j0T (R : VP) (s0 : ByteArray) (x3 x4 : Int) (h : Heap) : Prop :=
 splitB (decide (((ByteArray.size s0 : Nat) : Int) ≥ (2 : Int))) (0 ≤ (0 : Int) ∧ ∃ y1_, s0[Int.toNat (0 : Int)]? = some y1_ ∧ (splitB (((UInt8.toNat y1_ : Nat) : Int) == (48 : Int)) (0 ≤ (1 : Int) ∧ ∃ y2_, s0[Int.toNat (1 : Int)]? = some y2_ ∧ (Run Tryd.prog 140 #[(Value.int .u8 ((UInt8.toNat y2_ : Nat) : Int))] h fun v3_ h4_ => ∃ x5_, v3_ = (Value.int .u8 x5_) ∧ splitB (x5_ == (98 : Int)) (f141.j3 R s0 x3 x4 false true h4_) (0 ≤ (1 : Int) ∧ ∃ y6_, s0[Int.toNat (1 : Int)]? = some y6_ ∧ (Run Tryd.prog 140 #[(Value.int .u8 ((UInt8.toNat y6_ : Nat) : Int))] h4_ fun v7_ h8_ => ∃ x9_, v7_ = (Value.int .u8 x9_) ∧ splitB (x9_ == (111 : Int)) (f141.j3 R s0 x3 x4 false true h8_) (0 ≤ (1 : Int) ∧ ∃ y10_, s0[Int.toNat (1 : Int)]? = some y10_ ∧ (Run Tryd.prog 140 #[(Value.int .u8 ((UInt8.toNat y10_ : Nat) : Int))] h8_ fun v11_ h12_ => ∃ x13_, v11_ = (Value.int .u8 x13_) ∧ f141.j3 R s0 x3 x4 false (x13_ == (120 : Int)) h12_)))))) (f141.j3 R s0 x3 x4 false false h))) (f141.j3 R s0 x3 x4 false false h)
theorem f141.j0_in {R s0 x3 x4 h} (H : f141.j0T R s0 x3 x4 h) : f141.j0 R s0 x3 x4 h := pt_in (kp := f141.kp) mixed f141.good (by kernel_rfl) H
def f141.j3T (R : VP) (s0 : ByteArray) (x3 x4 : Int) (b5 b46 : Bool) (h : Heap) : Prop :=
 splitB b46 (0 ≤ (1 : Int) ∧ ∃ y1_, s0[Int.toNat (1 : Int)]? = some y1_ ∧ (Run Tryd.prog 140 #[(Value.int .u8 ((UInt8.toNat y1_ : Nat) : Int))] h fun v2_ h3_ => ∃ x4_, v2_ = (Value.int .u8 x4_) ∧ f141.j2 R s0 (48 : Int) (2 : Int) (x4_ == (120 : Int)) h3_)) (f141.j2 R s0 x3 x4 b5 h)
theorem f141.j3_in {R s0 x3 x4 b5 b46 h} (H : f141.j3T R s0 x3 x4 b5 b46 h) : f141.j3 R s0 x3 x4 b5 b46 h := pt_in (kp := f141.kp) mixed f141.good (by kernel_rfl) H
def f141.j2T (R : VP) (s0 : ByteArray) (x3 x4 : Int) (b5 : Bool) (h : Heap) : Prop :=
 f141.l0 R s0 x3 x4 b5 h
theorem f141.j2_in {R s0 x3 x4 b5 h} (H : f141.j2T R s0 x3 x4 b5 h) : f141.j2 R s0 x3 x4 b5 h := pt_in (kp := f141.kp) mixed f141.good (by kernel_rfl) H
def f141.l0T (R : VP) (s0 : ByteArray) (x3 x4 : Int) (b5 : Bool) (h : Heap) : Prop :=
 splitB (decide (x4 < ((ByteArray.size s0 : Nat) : Int))) (0 ≤ x4 ∧ ∃ y1_, s0[Int.toNat x4]? = some y1_ ∧ (splitB (decide ((48 : Int) ≤ ((UInt8.toNat y1_ : Nat) : Int))) (0 ≤ x4 ∧ ∃ y2_, s0[Int.toNat x4]? = some y2_ ∧ (splitB (decide (((UInt8.toNat y2_ : Nat) : Int) ≤ (57 : Int))) (f141.j4 R s0 (48 : Int) x4 b5 h) (splitB b5 (0 ≤ x4 ∧ ∃ y3_, s0[Int.toNat x4]? = some y3_ ∧ (Run Tryd.prog 140 #[(Value.int .u8 ((UInt8.toNat y3_ : Nat) : Int))] h fun v4_ h5_ => ∃ x6_, v4_ = (Value.int .u8 x6_) ∧ splitB (decide ((97 : Int) ≤ x6_)) (0 ≤ x4 ∧ ∃ y7_, s0[Int.toNat x4]? = some y7_ ∧ (Run Tryd.prog 140 #[(Value.int .u8 ((UInt8.toNat y7_ : Nat) : Int))] h5_ fun v8_ h9_ => ∃ x10_, v8_ = (Value.int .u8 x10_) ∧ splitB (decide (x10_ ≤ (102 : Int))) (f141.j4 R s0 (48 : Int) x4 b5 h9_) (f141.j5 R s0 x3 x4 b5 h9_))) (f141.j5 R s0 x3 x4 b5 h5_))) (f141.j5 R s0 x3 x4 b5 h)))) (splitB b5 (0 ≤ x4 ∧ ∃ y11_, s0[Int.toNat x4]? = some y11_ ∧ (Run Tryd.prog 140 #[(Value.int .u8 ((UInt8.toNat y11_ : Nat) : Int))] h fun v12_ h13_ => ∃ x14_, v12_ = (Value.int .u8 x14_) ∧ splitB (decide ((97 : Int) ≤ x14_)) (0 ≤ x4 ∧ ∃ y15_, s0[Int.toNat x4]? = some y15_ ∧ (Run Tryd.prog 140 #[(Value.int .u8 ((UInt8.toNat y15_ : Nat) : Int))] h13_ fun v16_ h17_ => ∃ x18_, v16_ = (Value.int .u8 x18_) ∧ splitB (decide (x18_ ≤ (102 : Int))) (f141.j4 R s0 (48 : Int) x4 b5 h17_) (f141.j5 R s0 x3 x4 b5 h17_))) (f141.j5 R s0 x3 x4 b5 h13_))) (f141.j5 R s0 x3 x4 b5 h)))) (R (Value.bool (x3 != (95 : Int))) h)
theorem f141.l0_in {R s0 x3 x4 b5 h} (H : f141.l0T R s0 x3 x4 b5 h) : f141.l0 R s0 x3 x4 b5 h := pt_in (kp := f141.kp) mixed f141.good (by kernel_rfl) H
def f141.j4T (R : VP) (s0 : ByteArray) (x3 x4 : Int) (b5 : Bool) (h : Heap) : Prop :=
 f141.l0 R s0 x3 (IntKind.wrap .i64 (x4 + (1 : Int))) b5 h
theorem f141.j4_in {R s0 x3 x4 b5 h} (H : f141.j4T R s0 x3 x4 b5 h) : f141.j4 R s0 x3 x4 b5 h := pt_in (kp := f141.kp) mixed f141.good (by kernel_rfl) H
def f141.j5T (R : VP) (s0 : ByteArray) (x3 x4 : Int) (b5 : Bool) (h : Heap) : Prop :=
 0 ≤ x4 ∧ ∃ y1_, s0[Int.toNat x4]? = some y1_ ∧ (splitB (((UInt8.toNat y1_ : Nat) : Int) == (95 : Int)) (splitB (x3 != (48 : Int)) (R (Value.bool false) h) (f141.j4 R s0 (95 : Int) x4 b5 h)) (splitB (x3 == (95 : Int)) (R (Value.bool false) h) (f141.j4 R s0 (33 : Int) x4 b5 h)))
theorem f141.j5_in {R s0 x3 x4 b5 h} (H : f141.j5T R s0 x3 x4 b5 h) : f141.j5 R s0 x3 x4 b5 h := pt_in (kp := f141.kp) mixed f141.good (by kernel_rfl) H
def f141.runT (R : VP) (s0 : ByteArray) (h : Heap) : Prop :=
 splitB (decide (((ByteArray.size s0 : Nat) : Int) ≥ (1 : Int))) (0 ≤ (0 : Int) ∧ ∃ y1_, s0[Int.toNat (0 : Int)]? = some y1_ ∧ (splitB (((UInt8.toNat y1_ : Nat) : Int) == (45 : Int)) (f141.j1 R s0 (94 : Int) (0 : Int) true h) (0 ≤ (0 : Int) ∧ ∃ y2_, s0[Int.toNat (0 : Int)]? = some y2_ ∧ (f141.j1 R s0 (94 : Int) (0 : Int) (((UInt8.toNat y2_ : Nat) : Int) == (43 : Int)) h)))) (f141.j1 R s0 (94 : Int) (0 : Int) false h)
theorem f141.run {R : VP} {s0 : ByteArray} {h : Heap} (H : f141.runT R s0 h) : Run Tryd.prog 141 #[(Value.string s0)] h R := run_in (kp := f141.kp) mixed Tryd.func141 (by kernel_rfl) (by kernel_rfl) f141.good (by kernel_rfl) H
def f124.T : Tab := { sh := tSh, tup := tTup, keep := [], plan := [] }
def f124.kp : Keep := [([true, false, false, true, true, true, true], [0, 1, 2, 8, 9, 25]), ([true, false, false, true, true, false, true, true, true, false, false, true, true, true, true], [0, 2, 8, 9, 40]), ([true, true, true, false, false, true, true, false, true, true, true, false, false, true, true, true, true], [0, 2, 8, 9, 52]), ([true, true, true, true, true, false, false, true, true, false, true, true, true, false, false, true, true, true, true], [0, 2, 8, 9, 64]), ([true, true, true, true, true], [0, 1, 2, 8, 9]), ([true, true, true, false, true, true, true, true, true], [0, 1, 2, 8, 9, 83]), ([true, true, true, true, true, true], [0, 1, 2, 8, 9]), ([true, true, true, true, true, true, true, true], [0, 1, 2, 8, 9, 10]), ([false, false, true, false, true, true, true, true, true, true, true, true, true, true, true], [1, 8, 9, 10, 11, 12, 13, 99, 100, 101]), ([true, false, false, true, true, false, false, true, true, false, false, true, false, true, true, true, true, true, true, true, true, true, true, true], [1, 8, 9, 10, 11, 12, 13, 15, 99, 100, 101, 106]), ([true, true, true, false, false, true, true, false, false, true, true, false, false, true, false, true, true, true, true, true, true, true, true, true, true, true], [1, 8, 9, 10, 11, 12, 13, 15, 99, 100, 101, 112]), ([true, true, true, true, true, false, false, true, true, false, false, true, true, false, false, true, false, true, true, true, true, true, true, true, true, true, true, true], [1, 8, 9, 10, 11, 12, 13, 15, 99, 100, 101, 121]), ([true, true, true, false, false, true, true, false, false, true, false, true, true, true, true, true, true, true, true, true, true, true], [1, 8, 9, 10, 11, 12, 13, 16, 99, 100, 101]), ([true, false, true, true, true, true, true, true, true, false, false, true, true, false, false, true, false, true, true, true, true, true, true, true, true, true, true, true], [1, 8, 9, 10, 11, 12, 17, 99, 100, 101, 159]), ([true, false, true, true, true, true, true, true, true, true, true, true, true, true], [13, 169]), ([true, true, true, true, true, true, true, true, true, true, true, true, true], [13])]
theorem f124.good : goodCode Tryd.prog f124.T (rootOf Tryd.f124) = true := by kernel_rfl
def f124.j2 (R s0 x1 x2 b8 s9 b25 h) := Pt Tryd.prog Tryd.f124 R [true, false, false, true, true, true, true] (mkFr [(0, (Value.string s0)), (1, (Value.int .i64 x1)), (2, (Value.int .i64 x2)), (8, (Value.bool b8)), (9, (Value.string s9)), (25, (Value.bool b25))]) h
def f124.j0 (R s0 x1 x2 b8 s9 h) := Pt Tryd.prog Tryd.f124 R [true, true, true, true, true] (mkFr [(0, (Value.string s0)), (1, (Value.int .i64 x1)), (2, (Value.int .i64 x2)), (8, (Value.bool b8)), (9, (Value.string s9))]) h
def f124.j7 (R s0 x2 b8 s9 b40 h) := Pt Tryd.prog Tryd.f124 R [true, false, false, true, true, false, true, true, true, false, false, true, true, true, true] (mkFr [(0, (Value.string s0)), (2, (Value.int .i64 x2)), (8, (Value.bool b8)), (9, (Value.string s9)), (40, (Value.bool b40))]) h
def f124.j1 (R s0 x1 x2 b8 s9 h) := Pt Tryd.prog Tryd.f124 R [true, true, true, true, true, true] (mkFr [(0, (Value.string s0)), (1, (Value.int .i64 x1)), (2, (Value.int .i64 x2)), (8, (Value.bool b8)), (9, (Value.string s9))]) h
def f124.j4 (R s0 x1 x2 b8 s9 b83 h) := Pt Tryd.prog Tryd.f124 R [true, true, true, false, true, true, true, true, true] (mkFr [(0, (Value.string s0)), (1, (Value.int .i64 x1)), (2, (Value.int .i64 x2)), (8, (Value.bool b8)), (9, (Value.string s9)), (83, (Value.bool b83))]) h
def f124.j8 (R s0 x2 b8 s9 b52 h) := Pt Tryd.prog Tryd.f124 R [true, true, true, false, false, true, true, false, true, true, true, false, false, true, true, true, true] (mkFr [(0, (Value.string s0)), (2, (Value.int .i64 x2)), (8, (Value.bool b8)), (9, (Value.string s9)), (52, (Value.bool b52))]) h
def f124.j3 (R s0 x1 x2 b8 s9 x10 h) := Pt Tryd.prog Tryd.f124 R [true, true, true, true, true, true, true, true] (mkFr [(0, (Value.string s0)), (1, (Value.int .i64 x1)), (2, (Value.int .i64 x2)), (8, (Value.bool b8)), (9, (Value.string s9)), (10, (Value.int .u64 x10))]) h
def f124.j9 (R s0 x2 b8 s9 b64 h) := Pt Tryd.prog Tryd.f124 R [true, true, true, true, true, false, false, true, true, false, true, true, true, false, false, true, true, true, true] (mkFr [(0, (Value.string s0)), (2, (Value.int .i64 x2)), (8, (Value.bool b8)), (9, (Value.string s9)), (64, (Value.bool b64))]) h
def f124.l0 (R x1 b8 s9 x10 x11 b12 x13 A99 n99 c99 x100 x101 h) := Pt Tryd.prog Tryd.f124 R [false, false, true, false, true, true, true, true, true, true, true, true, true, true, true] (mkFr [(1, (Value.int .i64 x1)), (8, (Value.bool b8)), (9, (Value.string s9)), (10, (Value.int .u64 x10)), (11, (Value.int .u64 x11)), (12, (Value.bool b12)), (13, (Value.int .u64 x13)), (99, (Value.slice A99 n99 c99)), (100, (Value.int .i64 x100)), (101, (Value.int .i64 x101))]) h
def f124.j11 (R x1 b8 s9 x10 x11 b12 x13 x15 A99 n99 c99 x100 x101 b106 h) := Pt Tryd.prog Tryd.f124 R [true, false, false, true, true, false, false, true, true, false, false, true, false, true, true, true, true, true, true, true, true, true, true, true] (mkFr [(1, (Value.int .i64 x1)), (8, (Value.bool b8)), (9, (Value.string s9)), (10, (Value.int .u64 x10)), (11, (Value.int .u64 x11)), (12, (Value.bool b12)), (13, (Value.int .u64 x13)), (15, (Value.int .u8 x15)), (99, (Value.slice A99 n99 c99)), (100, (Value.int .i64 x100)), (101, (Value.int .i64 x101)), (106, (Value.bool b106))]) h
def f124.j6 (R x13 b169 h) := Pt Tryd.prog Tryd.f124 R [true, false, true, true, true, true, true, true, true, true, true, true, true, true] (mkFr [(13, (Value.int .u64 x13)), (169, (Value.bool b169))]) h
def f124.j12 (R x1 b8 s9 x10 x11 b12 x13 x15 A99 n99 c99 x100 x101 b112 h) := Pt Tryd.prog Tryd.f124 R [true, true, true, false, false, true, true, false, false, true, true, false, false, true, false, true, true, true, true, true, true, true, true, true, true, true] (mkFr [(1, (Value.int .i64 x1)), (8, (Value.bool b8)), (9, (Value.string s9)), (10, (Value.int .u64 x10)), (11, (Value.int .u64 x11)), (12, (Value.bool b12)), (13, (Value.int .u64 x13)), (15, (Value.int .u8 x15)), (99, (Value.slice A99 n99 c99)), (100, (Value.int .i64 x100)), (101, (Value.int .i64 x101)), (112, (Value.bool b112))]) h
def f124.j5 (R x13 h) := Pt Tryd.prog Tryd.f124 R [true, true, true, true, true, true, true, true, true, true, true, true, true] (mkFr [(13, (Value.int .u64 x13))]) h
def f124.j10 (R x1 b8 s9 x10 x11 b12 x13 x16 A99 n99 c99 x100 x101 h) := Pt Tryd.prog Tryd.f124 R [true, true, true, false, false, true, true, false, false, true, false, true, true, true, true, true, true, true, true, true, true, true] (mkFr [(1, (Value.int .i64 x1)), (8, (Value.bool b8)), (9, (Value.string s9)), (10, (Value.int .u64 x10)), (11, (Value.int .u64 x11)), (12, (Value.bool b12)), (13, (Value.int .u64 x13)), (16, (Value.int .u8 x16)), (99, (Value.slice A99 n99 c99)), (100, (Value.int .i64 x100)), (101, (Value.int .i64 x101))]) h
def f124.j13 (R x1 b8 s9 x10 x11 b12 x13 x15 A99 n99 c99 x100 x101 b121 h) := Pt Tryd.prog Tryd.f124 R [true, true, true, true, true, false, false, true, true, false, false, true, true, false, false, true, false, true, true, true, true, true, true, true, true, true, true, true] (mkFr [(1, (Value.int .i64 x1)), (8, (Value.bool b8)), (9, (Value.string s9)), (10, (Value.int .u64 x10)), (11, (Value.int .u64 x11)), (12, (Value.bool b12)), (13, (Value.int .u64 x13)), (15, (Value.int .u8 x15)), (99, (Value.slice A99 n99 c99)), (100, (Value.int .i64 x100)), (101, (Value.int .i64 x101)), (121, (Value.bool b121))]) h
def f124.j14 (R x1 b8 s9 x10 x11 b12 x17 A99 n99 c99 x100 x101 b159 h) := Pt Tryd.prog Tryd.f124 R [true, false, true, true, true, true, true, true, true, false, false, true, true, false, false, true, false, true, true, true, true, true, true, true, true, true, true, true] (mkFr [(1, (Value.int .i64 x1)), (8, (Value.bool b8)), (9, (Value.string s9)), (10, (Value.int .u64 x10)), (11, (Value.int .u64 x11)), (12, (Value.bool b12)), (17, (Value.int .u64 x17)), (99, (Value.slice A99 n99 c99)), (100, (Value.int .i64 x100)), (101, (Value.int .i64 x101)), (159, (Value.bool b159))]) h
def f124.j2T (R : VP) (s0 : ByteArray) (x1 x2 : Int) (b8 : Bool) (s9 : ByteArray) (b25 : Bool) (h : Heap) : Prop :=
 splitB b25 (f124.j0 R s0 x1 x2 b8 s9 h) (splitB (x1 == (0 : Int)) (0 ≤ (0 : Int) ∧ ∃ y1_, s0[Int.toNat (0 : Int)]? = some y1_ ∧ (splitB (((UInt8.toNat y1_ : Nat) : Int) == (48 : Int)) (splitB (decide (((ByteArray.size s0 : Nat) : Int) ≥ (3 : Int))) (0 ≤ (1 : Int) ∧ ∃ y2_, s0[Int.toNat (1 : Int)]? = some y2_ ∧ (Run Tryd.prog 140 #[(Value.int .u8 ((UInt8.toNat y2_ : Nat) : Int))] h fun v3_ h4_ => ∃ x5_, v3_ = (Value.int .u8 x5_) ∧ f124.j7 R s0 x2 b8 s9 (x5_ == (98 : Int)) h4_)) (f124.j7 R s0 x2 b8 s9 false h)) (f124.j0 R s0 (10 : Int) x2 b8 s9 h))) (Gen Tryd.prog (Instr.makeInterface 198 (Value.int .i64 (3 : Int))) h fun v6_ h7_ => R (Value.tuple #[(Value.int .u64 (0 : Int)), v6_]) h7_))
theorem f124.j2_in {R s0 x1 x2 b8 s9 b25 h} (H : f124.j2T R s0 x1 x2 b8 s9 b25 h) : f124.j2 R s0 x1 x2 b8 s9 b25 h := pt_in (kp := f124.kp) mixed f124.good (by kernel_rfl) H
def f124.j0T (R : VP) (s0 : ByteArray) (x1 x2 : Int) (b8 : Bool) (s9 : ByteArray) (h : Heap) : Prop :=
 splitB (x2 == (0 : Int)) (f124.j1 R s0 x1 (64 : Int) b8 s9 h) (splitB (decide (x2 < (0 : Int))) (f124.j4 R s0 x1 x2 b8 s9 true h) (f124.j4 R s0 x1 x2 b8 s9 (decide (x2 > (64 : Int))) h))
theorem f124.j0_in {R s0 x1 x2 b8 s9 h} (H : f124.j0T R s0 x1 x2 b8 s9 h) : f124.j0 R s0 x1 x2 b8 s9 h := pt_in (kp := f124.kp) mixed f124.good (by kernel_rfl) H
def f124.j7T (R : VP) (s0 : ByteArray) (x2 : Int) (b8 : Bool) (s9 : ByteArray) (b40 : Bool) (h : Heap) : Prop :=
 splitB b40 (0 ≤ (2 : Int) ∧ (2 : Int) ≤ ((ByteArray.size s0 : Nat) : Int) ∧ ((ByteArray.size s0 : Nat) : Int) ≤ ((ByteArray.size s0 : Nat) : Int) ∧ (f124.j0 R (ByteArray.extract s0 (Int.toNat (2 : Int)) (Int.toNat ((ByteArray.size s0 : Nat) : Int))) (2 : Int) x2 b8 s9 h)) (splitB (decide (((ByteArray.size s0 : Nat) : Int) ≥ (3 : Int))) (0 ≤ (1 : Int) ∧ ∃ y1_, s0[Int.toNat (1 : Int)]? = some y1_ ∧ (Run Tryd.prog 140 #[(Value.int .u8 ((UInt8.toNat y1_ : Nat) : Int))] h fun v2_ h3_ => ∃ x4_, v2_ = (Value.int .u8 x4_) ∧ f124.j8 R s0 x2 b8 s9 (x4_ == (111 : Int)) h3_)) (f124.j8 R s0 x2 b8 s9 false h))
theorem f124.j7_in {R s0 x2 b8 s9 b40 h} (H : f124.j7T R s0 x2 b8 s9 b40 h) : f124.j7 R s0 x2 b8 s9 b40 h := pt_in (kp := f124.kp) mixed f124.good (by kernel_rfl) H
def f124.j1T (R : VP) (s0 : ByteArray) (x1 x2 : Int) (b8 : Bool) (s9 : ByteArray) (h : Heap) : Prop :=
 splitB (x1 == (10 : Int)) (f124.j3 R s0 x1 x2 b8 s9 (1844674407370955162 : Int) h) (splitB (x1 == (16 : Int)) (f124.j3 R s0 x1 x2 b8 s9 (1152921504606846976 : Int) h) ((IntKind.wrap .u64 x1) ≠ 0 ∧ (f124.j3 R s0 x1 x2 b8 s9 (IntKind.wrap .u64 ((IntKind.wrap .u64 (Int.tdiv (18446744073709551615 : Int) (IntKind.wrap .u64 x1))) + (1 : Int))) h)))
theorem f124.j1_in {R s0 x1 x2 b8 s9 h} (H : f124.j1T R s0 x1 x2 b8 s9 h) : f124.j1 R s0 x1 x2 b8 s9 h := pt_in (kp := f124.kp) mixed f124.good (by kernel_rfl) H
def f124.j4T (R : VP) (s0 : ByteArray) (x1 x2 : Int) (b8 : Bool) (s9 : ByteArray) (b83 : Bool) (h : Heap) : Prop :=
 splitB b83 (Gen Tryd.prog (Instr.makeInterface 198 (Value.int .i64 (4 : Int))) h fun v1_ h2_ => R (Value.tuple #[(Value.int .u64 (0 : Int)), v1_]) h2_) (f124.j1 R s0 x1 x2 b8 s9 h)
theorem f124.j4_in {R s0 x1 x2 b8 s9 b83 h} (H : f124.j4T R s0 x1 x2 b8 s9 b83 h) : f124.j4 R s0 x1 x2 b8 s9 b83 h := pt_in (kp := f124.kp) mixed f124.good (by kernel_rfl) H
def f124.j8T (R : VP) (s0 : ByteArray) (x2 : Int) (b8 : Bool) (s9 : ByteArray) (b52 : Bool) (h : Heap) : Prop :=
 splitB b52 (0 ≤ (2 : Int) ∧ (2 : Int) ≤ ((ByteArray.size s0 : Nat) : Int) ∧ ((ByteArray.size s0 : Nat) : Int) ≤ ((ByteArray.size s0 : Nat) : Int) ∧ (f124.j0 R (ByteArray.extract s0 (Int.toNat (2 : Int)) (Int.toNat ((ByteArray.size s0 : Nat) : Int))) (8 : Int) x2 b8 s9 h)) (splitB (decide (((ByteArray.size s0 : Nat) : Int) ≥ (3 : Int))) (0 ≤ (1 : Int) ∧ ∃ y1_, s0[Int.toNat (1 : Int)]? = some y1_ ∧ (Run Tryd.prog 140 #[(Value.int .u8 ((UInt8.toNat y1_ : Nat) : Int))] h fun v2_ h3_ => ∃ x4_, v2_ = (Value.int .u8 x4_) ∧ f124.j9 R s0 x2 b8 s9 (x4_ == (120 : Int)) h3_)) (f124.j9 R s0 x2 b8 s9 false h))
theorem f124.j8_in {R s0 x2 b8 s9 b52 h} (H : f124.j8T R s0 x2 b8 s9 b52 h) : f124.j8 R s0 x2 b8 s9 b52 h := pt_in (kp := f124.kp) mixed f124.good (by kernel_rfl) H
def f124.j3T (R : VP) (s0 : ByteArray) (x1 x2 : Int) (b8 : Bool) (s9 : ByteArray) (x10 : Int) (h : Heap) : Prop :=
 0 ≤ (IntKind.wrap .u64 x2) ∧ (Gen Tryd.prog (convert 9 88 (Value.string s0)) h fun v1_ h2_ => ∃ A3_, ∃ n3_, ∃ c3_, v1_ = (Value.slice A3_ n3_ c3_) ∧ f124.l0 R x1 b8 s9 x10 (IntKind.wrap .u64 ((shlI .u64 (1 : Int) (IntKind.wrap .u64 x2)) - (1 : Int))) false (0 : Int) A3_ n3_ c3_ ((n3_ : Nat) : Int) (0 : Int) h2_)
theorem f124.j3_in {R s0 x1 x2 b8 s9 x10 h} (H : f124.j3T R s0 x1 x2 b8 s9 x10 h) : f124.j3 R s0 x1 x2 b8 s9 x10 h := pt_in (kp := f124.kp) mixed f124.good (by kernel_rfl) H
def f124.j9T (R : VP) (s0 : ByteArray) (x2 : Int) (b8 : Bool) (s9 : ByteArray) (b64 : Bool) (h : Heap) : Prop :=
 splitB b64 (0 ≤ (2 : Int) ∧ (2 : Int) ≤ ((ByteArray.size s0 : Nat) : Int) ∧ ((ByteArray.size s0 : Nat) : Int) ≤ ((ByteArray.size s0 : Nat) : Int) ∧ (f124.j0 R (ByteArray.extract s0 (Int.toNat (2 : Int)) (Int.toNat ((ByteArray.size s0 : Nat) : Int))) (16 : Int) x2 b8 s9 h)) (0 ≤ (1 : Int) ∧ (1 : Int) ≤ ((ByteArray.size s0 : Nat) : Int) ∧ ((ByteArray.size s0 : Nat) : Int) ≤ ((ByteArray.size s0 : Nat) : Int) ∧ (f124.j0 R (ByteArray.extract s0 (Int.toNat (1 : Int)) (Int.toNat ((ByteArray.size s0 : Nat) : Int))) (8 : Int) x2 b8 s9 h))
theorem f124.j9_in {R s0 x2 b8 s9 b64 h} (H : f124.j9T R s0 x2 b8 s9 b64 h) : f124.j9 R s0 x2 b8 s9 b64 h := pt_in (kp := f124.kp) mixed f124.good (by kernel_rfl) H
def f124.l0T (R : VP) (x1 : Int) (b8 : Bool) (s9 : ByteArray) (x10 x11 : Int) (b12 : Bool) (x13 : Int) (A99 : Option Addr) (n99 c99 : Nat) (x100 x101 : Int) (h : Heap) : Prop :=
 splitB (decide (x101 < x100)) (ptrOk A99 fun a1_ => 0 ≤ x101 ∧ x101 < ((n99 : Nat) : Int) ∧ (∃ v2_, ldv false 1 h (Addr.add a1_ (Int.toNat x101 * 1)) = some v2_ ∧ ∃ x3_, v2_ = (Value.int .u8 x3_) ∧ splitB (x3_ == (95 : Int)) (f124.j11 R x1 b8 s9 x10 x11 b12 x13 x3_ A99 n99 c99 x100 x101 b8 h) (f124.j11 R x1 b8 s9 x10 x11 b12 x13 x3_ A99 n99 c99 x100 x101 false h))) (splitB b12 (Run Tryd.prog 141 #[(Value.string s9)] h fun v4_ h5_ => ∃ b6_, v4_ = (Value.bool b6_) ∧ f124.j6 R x13 (!b6_) h5_) (f124.j6 R x13 false h))
theorem f124.l0_in {R x1 b8 s9 x10 x11 b12 x13 A99 n99 c99 x100 x101 h} (H : f124.l0T R x1 b8 s9 x10 x11 b12 x13 A99 n99 c99 x100 x101 h) : f124.l0 R x1 b8 s9 x10 x11 b12 x13 A99 n99 c99 x100 x101 h := pt_in (kp := f124.kp) mixed f124.good (by kernel_rfl) H
def f124.j11T (R : VP) (x1 : Int) (b8 : Bool) (s9 : ByteArray) (x10 x11 : Int) (b12 : Bool) (x13 x15 : Int) (A99 : Option Addr) (n99 c99 : Nat) (x100 x101 : Int) (b106 : Bool) (h : Heap) : Prop :=
 splitB b106 (f124.l0 R x1 b8 s9 x10 x11 true x13 A99 n99 c99 x100 (IntKind.wrap .i64 (x101 + (1 : Int))) h) (splitB (decide ((48 : Int) ≤ x15)) (f124.j12 R x1 b8 s9 x10 x11 b12 x13 x15 A99 n99 c99 x100 x101 (decide (x15 ≤ (57 : Int))) h) (f124.j12 R x1 b8 s9 x10 x11 b12 x13 x15 A99 n99 c99 x100 x101 false h))
theorem f124.j11_in {R x1 b8 s9 x10 x11 b12 x13 x15 A99 n99 c99 x100 x101 b106 h} (H : f124.j11T R x1 b8 s9 x10 x11 b12 x13 x15 A99 n99 c99 x100 x101 b106 h) : f124.j11 R x1 b8 s9 x10 x11 b12 x13 x15 A99 n99 c99 x100 x101 b106 h := pt_in (kp := f124.kp) mixed f124.good (by kernel_rfl) H
def f124.j6T (R : VP) (x13 : Int) (b169 : Bool) (h : Heap) : Prop :=
 splitB b169 (Gen Tryd.prog (Instr.makeInterface 198 (Value.int .i64 (2 : Int))) h fun v1_ h2_ => R (Value.tuple #[(Value.int .u64 (0 : Int)), v1_]) h2_) (f124.j5 R x13 h)
theorem f124.j6_in {R x13 b169 h} (H : f124.j6T R x13 b169 h) : f124.j6 R x13 b169 h := pt_in (kp := f124.kp) mixed f124.good (by kernel_rfl) H
def f124.j12T (R : VP) (x1 : Int) (b8 : Bool) (s9 : ByteArray) (x10 x11 : Int) (b12 : Bool) (x13 x15 : Int) (A99 : Option Addr) (n99 c99 : Nat) (x100 x101 : Int) (b112 : Bool) (h : Heap) : Prop :=
 splitB b112 (f124.j10 R x1 b8 s9 x10 x11 b12 x13 (IntKind.wrap .u8 (x15 - (48 : Int))) A99 n99 c99 x100 x101 h) (Run Tryd.prog 140 #[(Value.int .u8 x15)] h fun v1_ h2_ => ∃ x3_, v1_ = (Value.int .u8 x3_) ∧ splitB (decide ((97 : Int) ≤ x3_)) (Run Tryd.prog 140 #[(Value.int .u8 x15)] h2_ fun v4_ h5_ => ∃ x6_, v4_ = (Value.int .u8 x6_) ∧ f124.j13 R x1 b8 s9 x10 x11 b12 x13 x15 A99 n99 c99 x100 x101 (decide (x6_ ≤ (122 : Int))) h5_) (f124.j13 R x1 b8 s9 x10 x11 b12 x13 x15 A99 n99 c99 x100 x101 false h2_))
theorem f124.j12_in {R x1 b8 s9 x10 x11 b12 x13 x15 A99 n99 c99 x100 x101 b112 h} (H : f124.j12T R x1 b8 s9 x10 x11 b12 x13 x15 A99 n99 c99 x100 x101 b112 h) : f124.j12 R x1 b8 s9 x10 x11 b12 x13 x15 A99 n99 c99 x100 x101 b112 h := pt_in (kp := f124.kp) mixed f124.good (by kernel_rfl) H
def f124.j5T (R : VP) (x13 : Int) (h : Heap) : Prop :=
 R (Value.tuple #[(Value.int .u64 x13), Value.nilIface]) h
theorem f124.j5_in {R x13 h} (H : f124.j5T R x13 h) : f124.j5 R x13 h := pt_in (kp := f124.kp) mixed f124.good (by kernel_rfl) H
def f124.j10T (R : VP) (x1 : Int) (b8 : Bool) (s9 : ByteArray) (x10 x11 : Int) (b12 : Bool) (x13 x16 : Int) (A99 : Option Addr) (n99 c99 : Nat) (x100 x101 : Int) (h : Heap) : Prop :=
 splitB (decide (x16 ≥ (IntKind.wrap .u8 x1))) (Gen Tryd.prog (Instr.makeInterface 198 (Value.int .i64 (2 : Int))) h fun v1_ h2_ => R (Value.tuple #[(Value.int .u64 (0 : Int)), v1_]) h2_) (splitB (decide (x13 ≥ x10)) (Gen Tryd.prog (Instr.makeInterface 198 (Value.int .i64 (1 : Int))) h fun v3_ h4_ => R (Value.tuple #[(Value.int .u64 x11), v3_]) h4_) (splitB (decide ((IntKind.wrap .u64 ((IntKind.wrap .u64 (x13 * (IntKind.wrap .u64 x1))) + (IntKind.wrap .u64 x16))) < (IntKind.wrap .u64 (x13 * (IntKind.wrap .u64 x1))))) (f124.j14 R x1 b8 s9 x10 x11 b12 (IntKind.wrap .u64 ((IntKind.wrap .u64 (x13 * (IntKind.wrap .u64 x1))) + (IntKind.wrap .u64 x16))) A99 n99 c99 x100 x101 true h) (f124.j14 R x1 b8 s9 x10 x11 b12 (IntKind.wrap .u64 ((IntKind.wrap .u64 (x13 * (IntKind.wrap .u64 x1))) + (IntKind.wrap .u64 x16))) A99 n99 c99 x100 x101 (decide ((IntKind.wrap .u64 ((IntKind.wrap .u64 (x13 * (IntKind.wrap .u64 x1))) + (IntKind.wrap .u64 x16))) > x11)) h)))
theorem f124.j10_in {R x1 b8 s9 x10 x11 b12 x13 x16 A99 n99 c99 x100 x101 h} (H : f124.j10T R x1 b8 s9 x10 x11 b12 x13 x16 A99 n99 c99 x100 x101 h) : f124.j10 R x1 b8 s9 x10 x11 b12 x13 x16 A99 n99 c99 x100 x101 h := pt_in (kp := f124.kp) mixed f124.good (by kernel_rfl) H
def f124.j13T (R : VP) (x1 : Int) (b8 : Bool) (s9 : ByteArray) (x10 x11 : Int) (b12 : Bool) (x13 x15 : Int) (A99 : Option Addr) (n99 c99 : Nat) (x100 x101 : Int) (b121 : Bool) (h : Heap) : Prop :=
 splitB b121 (Run Tryd.prog 140 #[(Value.int .u8 x15)] h fun v1_ h2_ => ∃ x3_, v1_ = (Value.int .u8 x3_) ∧ f124.j10 R x1 b8 s9 x10 x11 b12 x13 (IntKind.wrap .u8 ((IntKind.wrap .u8 (x3_ - (97 : Int))) + (10 : Int))) A99 n99 c99 x100 x101 h2_) (Gen Tryd.prog (Instr.makeInterface 198 (Value.int .i64 (2 : Int))) h fun v4_ h5_ => R (Value.tuple #[(Value.int .u64 (0 : Int)), v4_]) h5_)
theorem f124.j13_in {R x1 b8 s9 x10 x11 b12 x13 x15 A99 n99 c99 x100 x101 b121 h} (H : f124.j13T R x1 b8 s9 x10 x11 b12 x13 x15 A99 n99 c99 x100 x101 b121 h) : f124.j13 R x1 b8 s9 x10 x11 b12 x13 x15 A99 n99 c99 x100 x101 b121 h := pt_in (kp := f124.kp) mixed f124.good (by kernel_rfl) H
def f124.j14T (R : VP) (x1 : Int) (b8 : Bool) (s9 : ByteArray) (x10 x11 : Int) (b12 : Bool) (x17 : Int) (A99 : Option Addr) (n99 c99 : Nat) (x100 x101 : Int) (b159 : Bool) (h : Heap) : Prop :=
 splitB b159 (Gen Tryd.prog (Instr.makeInterface 198 (Value.int .i64 (1 : Int))) h fun v1_ h2_ => R (Value.tuple #[(Value.int .u64 x11), v1_]) h2_) (f124.l0 R x1 b8 s9 x10 x11 b12 x17 A99 n99 c99 x100 (IntKind.wrap .i64 (x101 + (1 : Int))) h)
theorem f124.j14_in {R x1 b8 s9 x10 x11 b12 x17 A99 n99 c99 x100 x101 b159 h} (H : f124.j14T R x1 b8 s9 x10 x11 b12 x17 A99 n99 c99 x100 x101 b159 h) : f124.j14 R x1 b8 s9 x10 x11 b12 x17 A99 n99 c99 x100 x101 b159 h := pt_in (kp := f124.kp) mixed f124.good (by kernel_rfl) H
def f124.runT (R : VP) (s0 : ByteArray) (x1 x2 : Int) (h : Heap) : Prop :=
 splitB (ByteArray.toList s0 == ByteArray.toList (ByteArray.mk #[])) (Gen Tryd.prog (Instr.makeInterface 198 (Value.int .i64 (2 : Int))) h fun v1_ h2_ => R (Value.tuple #[(Value.int .u64 (0 : Int)), v1_]) h2_) (splitB (decide ((2 : Int) ≤ x1)) (f124.j2 R s0 x1 x2 (x1 == (0 : Int)) s0 (decide (x1 ≤ (36 : Int))) h) (f124.j2 R s0 x1 x2 (x1 == (0 : Int)) s0 false h))
theorem f124.run {R : VP} {s0 : ByteArray} {x1 x2 : Int} {h : Heap} (H : f124.runT R s0 x1 x2 h) : Run Tryd.prog 124 #[(Value.string s0), (Value.int .i64 x1), (Value.int .i64 x2)] h R := run_in (kp := f124.kp) mixed Tryd.func124 (by kernel_rfl) (by kernel_rfl) f124.good (by kernel_rfl) H
def f99.T : Tab := { sh := tSh, tup := tTup, keep := [], plan := [] }
def f99.kp : Keep := []
theorem f99.good : goodCode Tryd.prog f99.T (rootOf Tryd.f99) = true := by kernel_rfl
def f99.runT (R : VP) (s0 : ByteArray) (x1 x2 : Int) (h : Heap) : Prop :=
 Run Tryd.prog 124 #[(Value.string s0), (Value.int .i64 x1), (Value.int .i64 x2)] h fun v1_ h2_ => ∃ x3_, ∃ v4_, v1_ = (Value.tuple #[(Value.int .u64 x3_), v4_]) ∧ Gen Tryd.prog (do eqGuard .neq 149 (.tmp 17) (.const Value.nilIface) v4_ Value.nilIface; binOp .neq 149 v4_ Value.nilIface) h2_ fun v5_ h6_ => ∃ b7_, v5_ = Value.bool b7_ ∧ splitB b7_ (Run Tryd.prog 125 #[(Value.string (ByteArray.mk #[80, 97, 114, 115, 101, 85, 105, 110, 116])), (Value.string s0), (Value.int .i64 x1), (Value.int .i64 x2), v4_] h6_ fun v8_ h9_ => R (Value.tuple #[(Value.int .u64 x3_), v8_]) h9_) (R (Value.tuple #[(Value.int .u64 x3_), Value.nilIface]) h6_)
theorem f99.run {R : VP} {s0 : ByteArray} {x1 x2 : Int} {h : Heap} (H : f99.runT R s0 x1 x2 h) : Run Tryd.prog 99 #[(Value.string s0), (Value.int .i64 x1), (Value.int .i64 x2)] h R := run_in (kp := f99.kp) mixed Tryd.func99 (by kernel_rfl) (by kernel_rfl) f99.good (by kernel_rfl) H
def f82.T : Tab := { sh := tSh, tup := tTup, keep := [], plan := [] }
def f82.kp : Keep := [([false, false, false, true, true, true], [0, 4, 5]), ([true, false, false, false, true, true, true], [0, 4, 5]), ([true, true, true, false, true, true, true, false, true, false, false, false, true, true, true], [0, 4, 5, 6, 47]), ([true, true, true, true, true, false, true, true, true, false, true, false, false, false, true, true, true], [0, 4, 5, 6, 58]), ([true, true, true, true], [0, 4, 5]), ([true, false, true, true, true, true], [4, 5, 95]), ([true, true, true, true, true], [4, 5])]
theorem f82.good : goodCode Tryd.prog f82.T (rootOf Tryd.f82) = true := by kernel_rfl
def f82.l0 (R s0 s4 x5 h) := Pt Tryd.prog Tryd.f82 R [false, false, false, true, true, true] (mkFr [(0, (Value.string s0)), (4, (Value.string s4)), (5, (Value.int .i64 x5))]) h
def f82.j3 (R s0 s4 x5 h) := Pt Tryd.prog Tryd.f82 R [true, false, false, false, true, true, true] (mkFr [(0, (Value.string s0)), (4, (Value.string s4)), (5, (Value.int .i64 x5))]) h
def f82.j0 (R s0 s4 x5 h) := Pt Tryd.prog Tryd.f82 R [true, true, true, true] (mkFr [(0, (Value.string s0)), (4, (Value.string s4)), (5, (Value.int .i64 x5))]) h
def f82.j4 (R s0 s4 x5 s6 b47 h) := Pt Tryd.prog Tryd.f82 R [true, true, true, false, true, true, true, false, true, false, false, false, true, true, true] (mkFr [(0, (Value.string s0)), (4, (Value.string s4)), (5, (Value.int .i64 x5)), (6, (Value.string s6)), (47, (Value.bool b47))]) h
def f82.j2 (R s4 x5 b95 h) := Pt Tryd.prog Tryd.f82 R [true, false, true, true, true, true] (mkFr [(4, (Value.string s4)), (5, (Value.int .i64 x5)), (95, (Value.bool b95))]) h
def f82.j5 (R s0 s4 x5 s6 b58 h) := Pt Tryd.prog Tryd.f82 R [true, true, true, true, true, false, true, true, true, false, true, false, false, false, true, true, true] (mkFr [(0, (Value.string s0)), (4, (Value.string s4)), (5, (Value.int .i64 x5)), (6, (Value.string s6)), (58, (Value.bool b58))]) h
def f82.j1 (R s4 x5 h) := Pt Tryd.prog Tryd.f82 R [true, true, true, true, true] (mkFr [(4, (Value.string s4)), (5, (Value.int .i64 x5))]) h
def f82.l0T (R : VP) (s0 s4 : ByteArray) (x5 : Int) (h : Heap) : Prop :=
 splitB (decide (x5 < ((ByteArray.size s0 : Nat) : Int))) (0 ≤ x5 ∧ ∃ y1_, s0[Int.toNat x5]? = some y1_ ∧ (splitB (((UInt8.toNat y1_ : Nat) : Int) != (34 : Int)) (f82.j3 R s0 s4 x5 h) (f82.j0 R s0 s4 x5 h))) (f82.j0 R s0 s4 x5 h)
theorem f82.l0_in {R s0 s4 x5 h} (H : f82.l0T R s0 s4 x5 h) : f82.l0 R s0 s4 x5 h := pt_in (kp := f82.kp) mixed f82.good (by kernel_rfl) H
def f82.j3T (R : VP) (s0 s4 : ByteArray) (x5 : Int) (h : Heap) : Prop :=
 0 ≤ x5 ∧ ∃ y1_, s0[Int.toNat x5]? = some y1_ ∧ (splitB (decide (((UInt8.toNat y1_ : Nat) : Int) < (32 : Int))) (R (Value.tuple #[(Value.string (ByteArray.mk #[])), (Value.int .i64 (-1 : Int))]) h) (0 ≤ x5 ∧ ∃ y2_, s0[Int.toNat x5]? = some y2_ ∧ (splitB (((UInt8.toNat y2_ : Nat) : Int) != (92 : Int)) (0 ≤ x5 ∧ x5 ≤ (IntKind.wrap .i64 (x5 + (1 : Int))) ∧ (IntKind.wrap .i64 (x5 + (1 : Int))) ≤ ((ByteArray.size s0 : Nat) : Int) ∧ (ByteArray.size s4 + ByteArray.size (ByteArray.extract s0 (Int.toNat x5) (Int.toNat (IntKind.wrap .i64 (x5 + (1 : Int))))) ≤ 9223372036854775807 ∧ (f82.l0 R s0 (s4 ++ (ByteArray.extract s0 (Int.toNat x5) (Int.toNat (IntKind.wrap .i64 (x5 + (1 : Int)))))) (IntKind.wrap .i64 (x5 + (1 : Int))) h))) (0 ≤ (IntKind.wrap .i64 (x5 + (1 : Int))) ∧ (IntKind.wrap .i64 (x5 + (1 : Int))) ≤ ((ByteArray.size s0 : Nat) : Int) ∧ ((ByteArray.size s0 : Nat) : Int) ≤ ((ByteArray.size s0 : Nat) : Int) ∧ (Run Tryd.prog 83 #[(Value.string (ByteArray.extract s0 (Int.toNat (IntKind.wrap .i64 (x5 + (1 : Int)))) (Int.toNat ((ByteArray.size s0 : Nat) : Int)))), (Value.string (ByteArray.mk #[110]))] h fun v3_ h4_ => ∃ b5_, v3_ = (Value.bool b5_) ∧ splitB b5_ (ByteArray.size s4 + ByteArray.size (ByteArray.mk #[10]) ≤ 9223372036854775807 ∧ (f82.l0 R s0 (s4 ++ (ByteArray.mk #[10])) (IntKind.wrap .i64 (x5 + (2 : Int))) h4_)) (Run Tryd.prog 83 #[(Value.string (ByteArray.extract s0 (Int.toNat (IntKind.wrap .i64 (x5 + (1 : Int)))) (Int.toNat ((ByteArray.size s0 : Nat) : Int)))), (Value.string (ByteArray.mk #[34]))] h4_ fun v6_ h7_ => ∃ b8_, v6_ = (Value.bool b8_) ∧ splitB b8_ (f82.j4 R s0 s4 x5 (ByteArray.extract s0 (Int.toNat (IntKind.wrap .i64 (x5 + (1 : Int)))) (Int.toNat ((ByteArray.size s0 : Nat) : Int))) b8_ h7_) (Run Tryd.prog 83 #[(Value.string (ByteArray.extract s0 (Int.toNat (IntKind.wrap .i64 (x5 + (1 : Int)))) (Int.toNat ((ByteArray.size s0 : Nat) : Int)))), (Value.string (ByteArray.mk #[92]))] h7_ fun v9_ h10_ => ∃ b11_, v9_ = (Value.bool b11_) ∧ f82.j4 R s0 s4 x5 (ByteArray.extract s0 (Int.toNat (IntKind.wrap .i64 (x5 + (1 : Int)))) (Int.toNat ((ByteArray.size s0 : Nat) : Int))) b11_ h10_)))))))
theorem f82.j3_in {R s0 s4 x5 h} (H : f82.j3T R s0 s4 x5 h) : f82.j3 R s0 s4 x5 h := pt_in (kp := f82.kp) mixed f82.good (by kernel_rfl) H
def f82.j0T (R : VP) (s0 s4 : ByteArray) (x5 : Int) (h : Heap) : Prop :=
 splitB (decide (x5 ≥ ((ByteArray.size s0 : Nat) : Int))) (f82.j2 R s4 x5 true h) (f82.j2 R s4 x5 (decide (((ByteArray.size s4 : Nat) : Int) > (64 : Int))) h)
theorem f82.j0_in {R s0 s4 x5 h} (H : f82.j0T R s0 s4 x5 h) : f82.j0 R s0 s4 x5 h := pt_in (kp := f82.kp) mixed f82.good (by kernel_rfl) H
def f82.j4T (R : VP) (s0 s4 : ByteArray) (x5 : Int) (s6 : ByteArray) (b47 : Bool) (h : Heap) : Prop :=
 splitB b47 (0 ≤ (0 : Int) ∧ (0 : Int) ≤ (1 : Int) ∧ (1 : Int) ≤ ((ByteArray.size s6 : Nat) : Int) ∧ (ByteArray.size s4 + ByteArray.size (ByteArray.extract s6 (Int.toNat (0 : Int)) (Int.toNat (1 : Int))) ≤ 9223372036854775807 ∧ (f82.l0 R s0 (s4 ++ (ByteArray.extract s6 (Int.toNat (0 : Int)) (Int.toNat (1 : Int)))) (IntKind.wrap .i64 (x5 + (2 : Int))) h))) (splitB (decide (((ByteArray.size s6 : Nat) : Int) > (2 : Int))) (0 ≤ (0 : Int) ∧ ∃ y1_, s6[Int.toNat (0 : Int)]? = some y1_ ∧ (splitB (((UInt8.toNat y1_ : Nat) : Int) == (120 : Int)) (0 ≤ (1 : Int) ∧ (1 : Int) ≤ (3 : Int) ∧ (3 : Int) ≤ ((ByteArray.size s6 : Nat) : Int) ∧ (Run Tryd.prog 58 #[(Value.string (ByteArray.extract s6 (Int.toNat (1 : Int)) (Int.toNat (3 : Int)))), (Value.string (ByteArray.mk #[48, 49, 50, 51, 52, 53, 54, 55, 56, 57, 97, 98, 99, 100, 101, 102]))] h fun v2_ h3_ => ∃ x4_, v2_ = (Value.int .i64 x4_) ∧ f82.j5 R s0 s4 x5 s6 (x4_ == (2 : Int)) h3_)) (f82.j5 R s0 s4 x5 s6 false h))) (f82.j5 R s0 s4 x5 s6 false h))
theorem f82.j4_in {R s0 s4 x5 s6 b47 h} (H : f82.j4T R s0 s4 x5 s6 b47 h) : f82.j4 R s0 s4 x5 s6 b47 h := pt_in (kp := f82.kp) mixed f82.good (by kernel_rfl) H
def f82.j2T (R : VP) (s4 : ByteArray) (x5 : Int) (b95 : Bool) (h : Heap) : Prop :=
 splitB b95 (R (Value.tuple #[(Value.string (ByteArray.mk #[])), (Value.int .i64 (-1 : Int))]) h) (f82.j1 R s4 x5 h)
theorem f82.j2_in {R s4 x5 b95 h} (H : f82.j2T R s4 x5 b95 h) : f82.j2 R s4 x5 b95 h := pt_in (kp := f82.kp) mixed f82.good (by kernel_rfl) H
def f82.j5T (R : VP) (s0 s4 : ByteArray) (x5 : Int) (s6 : ByteArray) (b58 : Bool) (h : Heap) : Prop :=
 splitB b58 (0 ≤ (1 : Int) ∧ (1 : Int) ≤ (3 : Int) ∧ (3 : Int) ≤ ((ByteArray.size s6 : Nat) : Int) ∧ (Run Tryd.prog 99 #[(Value.string (ByteArray.extract s6 (Int.toNat (1 : Int)) (Int.toNat (3 : Int)))), (Value.int .i64 (16 : Int)), (Value.int .i64 (8 : Int))] h fun v1_ h2_ => ∃ x3_, ∃ v4_, v1_ = (Value.tuple #[(Value.int .u64 x3_), v4_]) ∧ newH h2_ (Obj.cells #[(Value.int .u8 (IntKind.wrap .u8 x3_))] 5) fun h5_ => Gen Tryd.prog (convert 88 9 (Value.slice (some ⟨Array.size h2_, 0, none⟩) 1 1)) h5_ fun v6_ h7_ => ∃ s8_, v6_ = (Value.string s8_) ∧ ByteArray.size s4 + ByteArray.size s8_ ≤ 9223372036854775807 ∧ (f82.l0 R s0 (s4 ++ s8_) (IntKind.wrap .i64 (x5 + (4 : Int))) h7_))) (R (Value.tuple #[(Value.string (ByteArray.mk #[])), (Value.int .i64 (-1 : Int))]) h)
theorem f82.j5_in {R s0 s4 x5 s6 b58 h} (H : f82.j5T R s0 s4 x5 s6 b58 h) : f82.j5 R s0 s4 x5 s6 b58 h := pt_in (kp := f82.kp) mixed f82.good (by kernel_rfl) H
def f82.j1T (R : VP) (s4 : ByteArray) (x5 : Int) (h : Heap) : Prop :=
 R (Value.tuple #[(Value.string s4), (Value.int .i64 (IntKind.wrap .i64 (x5 + (1 : Int))))]) h
theorem f82.j1_in {R s4 x5 h} (H : f82.j1T R s4 x5 h) : f82.j1 R s4 x5 h := pt_in (kp := f82.kp) mixed f82.good (by kernel_rfl) H
def f82.runT (R : VP) (s0 : ByteArray) (h : Heap) : Prop :=
 f82.l0 R s0 (ByteArray.mk #[]) (1 : Int) h
theorem f82.run {R : VP} {s0 : ByteArray} {h : Heap} (H : f82.runT R s0 h) : Run Tryd.prog 82 #[(Value.string s0)] h R := run_in (kp := f82.kp) mixed Tryd.func82 (by kernel_rfl) (by kernel_rfl) f82.good (by kernel_rfl) H
def f60.T : Tab := { sh := tSh, tup := tTup, keep := [], plan := [] }
def f60.kp : Keep := [([true, true, false, true, true, true], [0, 2, 7, 46]), ([true, true, true, true], [0, 2]), ([false, false, true, false, true, true, true, true], [0, 2, 70, 71, 72])]
theorem f60.good : goodCode Tryd.prog f60.T (rootOf Tryd.f60) = true := by kernel_rfl
def f60.j1 (R s0 a2 x7 b46 h) := Pt Tryd.prog Tryd.f60 R [true, true, false, true, true, true] (mkFr [(0, (Value.string s0)), (2, (Value.pointer (some a2))), (7, (Value.int .i64 x7)), (46, (Value.bool b46))]) h
def f60.j0 (R s0 a2 h) := Pt Tryd.prog Tryd.f60 R [true, true, true, true] (mkFr [(0, (Value.string s0)), (2, (Value.pointer (some a2)))]) h
def f60.l0 (R s0 a2 A70 n70 c70 x71 x72 h) := Pt Tryd.prog Tryd.f60 R [false, false, true, false, true, true, true, true] (mkFr [(0, (Value.string s0)), (2, (Value.pointer (some a2))), (70, (Value.slice A70 n70 c70)), (71, (Value.int .i64 x71)), (72, (Value.int .i64 x72))]) h
def f60.j1T (R : VP) (s0 : ByteArray) (a2 : Addr) (x7 : Int) (b46 : Bool) (h : Heap) : Prop :=
 splitB b46 (0 ≤ (0 : Int) ∧ (0 : Int) ≤ x7 ∧ x7 ≤ ((ByteArray.size s0 : Nat) : Int) ∧ (Run Tryd.prog 23 #[] h fun v1_ h2_ => ∃ A3_, ∃ n3_, ∃ c3_, v1_ = (Value.slice A3_ n3_ c3_) ∧ Run Tryd.prog 22 #[(Value.slice A3_ n3_ c3_), (Value.string (ByteArray.extract s0 (Int.toNat (0 : Int)) (Int.toNat x7)))] h2_ fun v4_ h5_ => ∃ b6_, v4_ = (Value.bool b6_) ∧ splitB b6_ (∃ l8_ : List Value, (Value.agg #[(Value.int .i64 (3 : Int)), (Value.string (ByteArray.extract s0 (Int.toNat (0 : Int)) (Int.toNat x7))), (Value.int .i64 (0 : Int))]) = Value.agg l8_.toArray ∧ l8_.length = 3 ∧ ∃ h7_, stH h5_ a2 l8_ 0 = some h7_ ∧ ∃ v9_, ldv true 3 h7_ a2 = some v9_ ∧ R (Value.tuple #[v9_, (Value.int .i64 x7)]) h7_) (Run Tryd.prog 25 #[(Value.string (ByteArray.extract s0 (Int.toNat (0 : Int)) (Int.toNat x7)))] h5_ fun v10_ h11_ => ∃ b12_, v10_ = (Value.bool b12_) ∧ splitB b12_ (∃ l14_ : List Value, (Value.agg #[(Value.int .i64 (1 : Int)), (Value.string (ByteArray.extract s0 (Int.toNat (0 : Int)) (Int.toNat x7))), (Value.int .i64 (0 : Int))]) = Value.agg l14_.toArray ∧ l14_.length = 3 ∧ ∃ h13_, stH h11_ a2 l14_ 0 = some h13_ ∧ ∃ v15_, ldv true 3 h13_ a2 = some v15_ ∧ R (Value.tuple #[v15_, (Value.int .i64 x7)]) h13_) (Run Tryd.prog 27 #[(Value.string (ByteArray.extract s0 (Int.toNat (0 : Int)) (Int.toNat x7)))] h11_ fun v16_ h17_ => ∃ b18_, v16_ = (Value.bool b18_) ∧ splitB b18_ (∃ l20_ : List Value, (Value.agg #[(Value.int .i64 (2 : Int)), (Value.string (ByteArray.extract s0 (Int.toNat (0 : Int)) (Int.toNat x7))), (Value.int .i64 (0 : Int))]) = Value.agg l20_.toArray ∧ l20_.length = 3 ∧ ∃ h19_, stH h17_ a2 l20_ 0 = some h19_ ∧ ∃ v21_, ldv true 3 h19_ a2 = some v21_ ∧ R (Value.tuple #[v21_, (Value.int .i64 x7)]) h19_) (∃ l23_ : List Value, (Value.agg #[(Value.int .i64 (0 : Int)), (Value.string (ByteArray.mk #[])), (Value.int .i64 (0 : Int))]) = Value.agg l23_.toArray ∧ l23_.length = 3 ∧ ∃ h22_, stH h17_ a2 l23_ 0 = some h22_ ∧ ∃ v24_, ldv true 3 h22_ a2 = some v24_ ∧ R (Value.tuple #[v24_, (Value.int .i64 (-1 : Int))]) h22_))))) (f60.j0 R s0 a2 h)
theorem f60.j1_in {R s0 a2 x7 b46 h} (H : f60.j1T R s0 a2 x7 b46 h) : f60.j1 R s0 a2 x7 b46 h := pt_in (kp := f60.kp) mixed f60.good (by kernel_rfl) H
def f60.j0T (R : VP) (s0 : ByteArray) (a2 : Addr) (h : Heap) : Prop :=
 Run Tryd.prog 40 #[(Value.string (ByteArray.mk #[61, 62, 32, 45, 62, 32, 40, 32, 41, 32, 91, 32, 93, 32, 123, 32, 125, 32, 44, 32, 59, 32, 58, 32, 61, 32, 43, 32, 45, 32, 42, 32, 47, 32, 37, 32, 60, 32, 94, 32, 124, 32, 95]))] h fun v1_ h2_ => ∃ A3_, ∃ n3_, ∃ c3_, v1_ = (Value.slice A3_ n3_ c3_) ∧ f60.l0 R s0 a2 A3_ n3_ c3_ ((n3_ : Nat) : Int) (0 : Int) h2_
theorem f60.j0_in {R s0 a2 h} (H : f60.j0T R s0 a2 h) : f60.j0 R s0 a2 h := pt_in (kp := f60.kp) mixed f60.good (by kernel_rfl) H
def f60.l0T (R : VP) (s0 : ByteArray) (a2 : Addr) (A70 : Option Addr) (n70 c70 : Nat) (x71 x72 : Int) (h : Heap) : Prop :=
 splitB (decide (x72 < x71)) (ptrOk A70 fun a1_ => 0 ≤ x72 ∧ x72 < ((n70 : Nat) : Int) ∧ (∃ v2_, ldv false 1 h (Addr.add a1_ (Int.toNat x72 * 1)) = some v2_ ∧ ∃ s3_, v2_ = (Value.string s3_) ∧ Run Tryd.prog 83 #[(Value.string s0), (Value.string s3_)] h fun v4_ h5_ => ∃ b6_, v4_ = (Value.bool b6_) ∧ splitB b6_ (∃ l8_ : List Value, (Value.agg #[(Value.int .i64 (6 : Int)), (Value.string s3_), (Value.int .i64 (0 : Int))]) = Value.agg l8_.toArray ∧ l8_.length = 3 ∧ ∃ h7_, stH h5_ a2 l8_ 0 = some h7_ ∧ ∃ v9_, ldv true 3 h7_ a2 = some v9_ ∧ R (Value.tuple #[v9_, (Value.int .i64 ((ByteArray.size s3_ : Nat) : Int))]) h7_) (f60.l0 R s0 a2 A70 n70 c70 x71 (IntKind.wrap .i64 (x72 + (1 : Int))) h5_))) (∃ l11_ : List Value, (Value.agg #[(Value.int .i64 (0 : Int)), (Value.string (ByteArray.mk #[])), (Value.int .i64 (0 : Int))]) = Value.agg l11_.toArray ∧ l11_.length = 3 ∧ ∃ h10_, stH h a2 l11_ 0 = some h10_ ∧ ∃ v12_, ldv true 3 h10_ a2 = some v12_ ∧ R (Value.tuple #[v12_, (Value.int .i64 (-1 : Int))]) h10_)
theorem f60.l0_in {R s0 a2 A70 n70 c70 x71 x72 h} (H : f60.l0T R s0 a2 A70 n70 c70 x71 x72 h) : f60.l0 R s0 a2 A70 n70 c70 x71 x72 h := pt_in (kp := f60.kp) mixed f60.good (by kernel_rfl) H
def f60.runT (R : VP) (s0 : ByteArray) (h : Heap) : Prop :=
 newH h (Obj.cells #[(Value.int .i64 (0 : Int)), (Value.string (ByteArray.mk #[])), (Value.int .i64 (0 : Int))] 70) fun h1_ => 0 ≤ (0 : Int) ∧ ∃ y2_, s0[Int.toNat (0 : Int)]? = some y2_ ∧ (splitB (((UInt8.toNat y2_ : Nat) : Int) == (34 : Int)) (Run Tryd.prog 82 #[(Value.string s0)] h1_ fun v3_ h4_ => ∃ s5_, ∃ x6_, v3_ = (Value.tuple #[(Value.string s5_), (Value.int .i64 x6_)]) ∧ ∃ l8_ : List Value, (Value.agg #[(Value.int .i64 (5 : Int)), (Value.string s5_), (Value.int .i64 (0 : Int))]) = Value.agg l8_.toArray ∧ l8_.length = 3 ∧ ∃ h7_, stH h4_ (⟨Array.size h, 0, none⟩) l8_ 0 = some h7_ ∧ ∃ v9_, ldv true 3 h7_ (⟨Array.size h, 0, none⟩) = some v9_ ∧ R (Value.tuple #[v9_, (Value.int .i64 x6_)]) h7_) (0 ≤ (52 : Int) ∧ (52 : Int) ≤ (62 : Int) ∧ (62 : Int) ≤ ((ByteArray.size (ByteArray.mk #[97, 98, 99, 100, 101, 102, 103, 104, 105, 106, 107, 108, 109, 110, 111, 112, 113, 114, 115, 116, 117, 118, 119, 120, 121, 122, 65, 66, 67, 68, 69, 70, 71, 72, 73, 74, 75, 76, 77, 78, 79, 80, 81, 82, 83, 84, 85, 86, 87, 88, 89, 90, 48, 49, 50, 51, 52, 53, 54, 55, 56, 57, 95]) : Nat) : Int) ∧ (Run Tryd.prog 58 #[(Value.string s0), (Value.string (ByteArray.extract (ByteArray.mk #[97, 98, 99, 100, 101, 102, 103, 104, 105, 106, 107, 108, 109, 110, 111, 112, 113, 114, 115, 116, 117, 118, 119, 120, 121, 122, 65, 66, 67, 68, 69, 70, 71, 72, 73, 74, 75, 76, 77, 78, 79, 80, 81, 82, 83, 84, 85, 86, 87, 88, 89, 90, 48, 49, 50, 51, 52, 53, 54, 55, 56, 57, 95]) (Int.toNat (52 : Int)) (Int.toNat (62 : Int))))] h1_ fun v10_ h11_ => ∃ x12_, v10_ = (Value.int .i64 x12_) ∧ splitB (decide (x12_ > (0 : Int))) (0 ≤ x12_ ∧ x12_ ≤ ((ByteArray.size s0 : Nat) : Int) ∧ ((ByteArray.size s0 : Nat) : Int) ≤ ((ByteArray.size s0 : Nat) : Int) ∧ (Run Tryd.prog 58 #[(Value.string (ByteArray.extract s0 (Int.toNat x12_) (Int.toNat ((ByteArray.size s0 : Nat) : Int)))), (Value.string (ByteArray.mk #[97, 98, 99, 100, 101, 102, 103, 104, 105, 106, 107, 108, 109, 110, 111, 112, 113, 114, 115, 116, 117, 118, 119, 120, 121, 122, 65, 66, 67, 68, 69, 70, 71, 72, 73, 74, 75, 76, 77, 78, 79, 80, 81, 82, 83, 84, 85, 86, 87, 88, 89, 90, 48, 49, 50, 51, 52, 53, 54, 55, 56, 57, 95]))] h11_ fun v13_ h14_ => ∃ x15_, v13_ = (Value.int .i64 x15_) ∧ splitB (decide (x15_ > (0 : Int))) (∃ l17_ : List Value, (Value.agg #[(Value.int .i64 (0 : Int)), (Value.string (ByteArray.mk #[])), (Value.int .i64 (0 : Int))]) = Value.agg l17_.toArray ∧ l17_.length = 3 ∧ ∃ h16_, stH h14_ (⟨Array.size h, 0, none⟩) l17_ 0 = some h16_ ∧ ∃ v18_, ldv true 3 h16_ (⟨Array.size h, 0, none⟩) = some v18_ ∧ R (Value.tuple #[v18_, (Value.int .i64 (-1 : Int))]) h16_) (0 ≤ (0 : Int) ∧ (0 : Int) ≤ x12_ ∧ x12_ ≤ ((ByteArray.size s0 : Nat) : Int) ∧ (∃ l20_ : List Value, (Value.agg #[(Value.int .i64 (4 : Int)), (Value.string (ByteArray.extract s0 (Int.toNat (0 : Int)) (Int.toNat x12_))), (Value.int .i64 (0 : Int))]) = Value.agg l20_.toArray ∧ l20_.length = 3 ∧ ∃ h19_, stH h14_ (⟨Array.size h, 0, none⟩) l20_ 0 = some h19_ ∧ ∃ v21_, ldv true 3 h19_ (⟨Array.size h, 0, none⟩) = some v21_ ∧ R (Value.tuple #[v21_, (Value.int .i64 x12_)]) h19_)))) (Run Tryd.prog 58 #[(Value.string s0), (Value.string (ByteArray.mk #[97, 98, 99, 100, 101, 102, 103, 104, 105, 106, 107, 108, 109, 110, 111, 112, 113, 114, 115, 116, 117, 118, 119, 120, 121, 122, 65, 66, 67, 68, 69, 70, 71, 72, 73, 74, 75, 76, 77, 78, 79, 80, 81, 82, 83, 84, 85, 86, 87, 88, 89, 90, 48, 49, 50, 51, 52, 53, 54, 55, 56, 57, 95]))] h11_ fun v22_ h23_ => ∃ x24_, v22_ = (Value.int .i64 x24_) ∧ splitB (decide (x24_ > (0 : Int))) (0 ≤ (0 : Int) ∧ ∃ y25_, s0[Int.toNat (0 : Int)]? = some y25_ ∧ (f60.j1 R s0 (⟨Array.size h, 0, none⟩) x24_ (((UInt8.toNat y25_ : Nat) : Int) != (95 : Int)) h23_)) (f60.j1 R s0 (⟨Array.size h, 0, none⟩) x24_ false h23_)))))
theorem f60.run {R : VP} {s0 : ByteArray} {h : Heap} (H : f60.runT R s0 h) : Run Tryd.prog 60 #[(Value.string s0)] h R := run_in (kp := f60.kp) mixed Tryd.func60 (by kernel_rfl) (by kernel_rfl) f60.good (by kernel_rfl) H
def f30.T : Tab := { sh := tSh, tup := tTup, keep := [], plan := [] }
def f30.kp : Keep := [([false, false, false, true, true, true, true], [0, 5, 6]), ([true, true, false, true, false, true, false, true, false, false, false, true, true, true, true], [0, 5, 6, 8])]
theorem f30.good : goodCode Tryd.prog f30.T (rootOf Tryd.f30) = true := by kernel_rfl
def f30.l0 (R s0 A5 n5 c5 x6 h) := Pt Tryd.prog Tryd.f30 R [false, false, false, true, true, true, true] (mkFr [(0, (Value.string s0)), (5, (Value.slice A5 n5 c5)), (6, (Value.int .i64 x6))]) h
def f30.j0 (R s0 A5 n5 c5 x6 x8 h) := Pt Tryd.prog Tryd.f30 R [true, true, false, true, false, true, false, true, false, false, false, true, true, true, true] (mkFr [(0, (Value.string s0)), (5, (Value.slice A5 n5 c5)), (6, (Value.int .i64 x6)), (8, (Value.int .i64 x8))]) h
def f30.l0T (R : VP) (s0 : ByteArray) (A5 : Option Addr) (n5 c5 : Nat) (x6 : Int) (h : Heap) : Prop :=
 splitB (decide (x6 < ((ByteArray.size s0 : Nat) : Int))) (0 ≤ x6 ∧ x6 ≤ ((ByteArray.size s0 : Nat) : Int) ∧ ((ByteArray.size s0 : Nat) : Int) ≤ ((ByteArray.size s0 : Nat) : Int) ∧ (Run Tryd.prog 58 #[(Value.string (ByteArray.extract s0 (Int.toNat x6) (Int.toNat ((ByteArray.size s0 : Nat) : Int)))), (Value.string (ByteArray.mk #[32, 9, 10]))] h fun v1_ h2_ => ∃ x3_, v1_ = (Value.int .i64 x3_) ∧ splitB (decide (x3_ > (0 : Int))) (f30.l0 R s0 A5 n5 c5 (IntKind.wrap .i64 (x6 + x3_)) h2_) (0 ≤ x6 ∧ ∃ y4_, s0[Int.toNat x6]? = some y4_ ∧ (splitB (((UInt8.toNat y4_ : Nat) : Int) == (35 : Int)) (0 ≤ x6 ∧ x6 ≤ ((ByteArray.size s0 : Nat) : Int) ∧ ((ByteArray.size s0 : Nat) : Int) ≤ ((ByteArray.size s0 : Nat) : Int) ∧ (Run Tryd.prog 59 #[(Value.string (ByteArray.extract s0 (Int.toNat x6) (Int.toNat ((ByteArray.size s0 : Nat) : Int)))), (Value.int .u8 (10 : Int))] h2_ fun v5_ h6_ => ∃ x7_, v5_ = (Value.int .i64 x7_) ∧ splitB (decide (x7_ < (0 : Int))) (f30.j0 R s0 A5 n5 c5 x6 (IntKind.wrap .i64 (((ByteArray.size s0 : Nat) : Int) - x6)) h6_) (f30.j0 R s0 A5 n5 c5 x6 x7_ h6_))) (0 ≤ x6 ∧ x6 ≤ ((ByteArray.size s0 : Nat) : Int) ∧ ((ByteArray.size s0 : Nat) : Int) ≤ ((ByteArray.size s0 : Nat) : Int) ∧ (Run Tryd.prog 60 #[(Value.string (ByteArray.extract s0 (Int.toNat x6) (Int.toNat ((ByteArray.size s0 : Nat) : Int))))] h2_ fun v8_ h9_ => ∃ v10_, ∃ x11_, v8_ = (Value.tuple #[v10_, (Value.int .i64 x11_)]) ∧ newH h9_ (Obj.cells #[(Value.int .i64 (0 : Int)), (Value.string (ByteArray.mk #[])), (Value.int .i64 (0 : Int))] 70) fun h12_ => ∃ l14_ : List Value, v10_ = Value.agg l14_.toArray ∧ l14_.length = 3 ∧ ∃ h13_, stH h12_ (⟨Array.size h9_, 0, none⟩) l14_ 0 = some h13_ ∧ splitB (decide (x11_ < (0 : Int))) (R (Value.tuple #[(Value.slice none 0 0), (Value.int .i64 x6), (Value.int .i64 (10 : Int))]) h13_) (∃ h15_, st1 h13_ (Addr.add (⟨Array.size h9_, 0, none⟩) 2) (Value.int .i64 x6) = some h15_ ∧ ∃ v16_, ldv true 3 h15_ (⟨Array.size h9_, 0, none⟩) = some v16_ ∧ ∃ l17_ : List Value, v16_ = Value.agg l17_.toArray ∧ l17_.length = 3 ∧ (newH h15_ (Obj.cells ((List.take 0 ([(Value.int .i64 (0 : Int)), (Value.string (ByteArray.mk #[])), (Value.int .i64 (0 : Int))]) ++ l17_ ++ List.drop 3 ([(Value.int .i64 (0 : Int)), (Value.string (ByteArray.mk #[])), (Value.int .i64 (0 : Int))])).toArray) 70) fun h18_ => AppW 70 3 32 #[(Value.int .i64 (0 : Int)), (Value.string (ByteArray.mk #[])), (Value.int .i64 (0 : Int))] A5 n5 c5 (Value.slice (some ⟨Array.size h15_, 0, none⟩) 1 1) h18_ fun v19_ h20_ => ∃ A21_, ∃ n21_, ∃ c21_, v19_ = (Value.slice A21_ n21_ c21_) ∧ f30.l0 R s0 A21_ n21_ c21_ (IntKind.wrap .i64 (x6 + x11_)) h20_)))))))) (R (Value.tuple #[(Value.slice A5 n5 c5), (Value.int .i64 (0 : Int)), (Value.int .i64 (0 : Int))]) h)
theorem f30.l0_in {R s0 A5 n5 c5 x6 h} (H : f30.l0T R s0 A5 n5 c5 x6 h) : f30.l0 R s0 A5 n5 c5 x6 h := pt_in (kp := f30.kp) mixed f30.good (by kernel_rfl) H
def f30.j0T (R : VP) (s0 : ByteArray) (A5 : Option Addr) (n5 c5 : Nat) (x6 x8 : Int) (h : Heap) : Prop :=
 f30.l0 R s0 A5 n5 c5 (IntKind.wrap .i64 (x6 + x8)) h
theorem f30.j0_in {R s0 A5 n5 c5 x6 x8 h} (H : f30.j0T R s0 A5 n5 c5 x6 x8 h) : f30.j0 R s0 A5 n5 c5 x6 x8 h := pt_in (kp := f30.kp) mixed f30.good (by kernel_rfl) H
def f30.runT (R : VP) (s0 : ByteArray) (h : Heap) : Prop :=
 splitB (decide (((ByteArray.size s0 : Nat) : Int) > (4000 : Int))) (R (Value.tuple #[(Value.slice none 0 0), (Value.int .i64 (0 : Int)), (Value.int .i64 (2 : Int))]) h) (f30.l0 R s0 none 0 0 (0 : Int) h)
theorem f30.run {R : VP} {s0 : ByteArray} {h : Heap} (H : f30.runT R s0 h) : Run Tryd.prog 30 #[(Value.string s0)] h R := run_in (kp := f30.kp) mixed Tryd.func30 (by kernel_rfl) (by kernel_rfl) f30.good (by kernel_rfl) H
def f4.T : Tab := { sh := tSh, tup := tTup, keep := [], plan := [(4, (.take 0 (.take 4 (.take 1 (.take 5 (.eff false true [] 2 (.eff false true [] 3 (.eff false false [] 6 (.take 7 (.take 8 (.split 8 (.take 9 (.take 12 (.take 10 (.take 13 (.eff true false [] 11 (.eff false false [] 14 (.take 15 (.take 16 (.take 17 (.split 17 (.take 18 (.take 21 (.take 19 (.take 22 (.eff true false [] 20 (.eff false false [] 23 (.take 24 (.take 25 (.take 26 (.split 26 (.eff false false [] 27 (.take 28 (.take 29 (.take 30 .done))))))))))))))))))))))))))))))))))), (11, (.take 0 (.take 1 (.take 2 (.split 2 (.take 3 (.take 4 (.take 5 (.take 6 (.take 7 (.split 7 (.take 8 (.take 9 (.take 10 (.take 12 (.take 11 (.take 13 (.take 14 (.take 15 (.take 16 (.split 16 (.take 17 (.take 18 (.take 19 (.take 21 (.take 20 (.take 22 (.take 23 (.take 24 .done)))))))))))))))))))))))))))))] }
def f4.kp : Keep := [([true, true, true, true, true], [1, 3, 4, 5, 6, 7]), ([true, true, true, true, true, true], [1, 3, 4, 5, 6]), ([true, false, true, true, true, true, true, true, true, true], [1, 3, 4, 125]), ([true, true, true, true, true, true, true, true, true], [3, 4])]
theorem f4.good : goodCode Tryd.prog f4.T (rootOf Tryd.f4) = true := by kernel_rfl
def f4.j0 (R a1 s3 x4 s5 x6 b7 h) := Pt Tryd.prog Tryd.f4 R [true, true, true, true, true] (mkFr [(1, (Value.pointer (some a1))), (3, (Value.string s3)), (4, (Value.int .i64 x4)), (5, (Value.string s5)), (6, (Value.int .i64 x6)), (7, (Value.bool b7))]) h
def f4.j1 (R a1 s3 x4 s5 x6 h) := Pt Tryd.prog Tryd.f4 R [true, true, true, true, true, true] (mkFr [(1, (Value.pointer (some a1))), (3, (Value.string s3)), (4, (Value.int .i64 x4)), (5, (Value.string s5)), (6, (Value.int .i64 x6))]) h
def f4.j3 (R a1 s3 x4 b125 h) := Pt Tryd.prog Tryd.f4 R [true, false, true, true, true, true, true, true, true, true] (mkFr [(1, (Value.pointer (some a1))), (3, (Value.string s3)), (4, (Value.int .i64 x4)), (125, (Value.bool b125))]) h
def f4.j2 (R s3 x4 h) := Pt Tryd.prog Tryd.f4 R [true, true, true, true, true, true, true, true, true] (mkFr [(3, (Value.string s3)), (4, (Value.int .i64 x4))]) h
def f4.j0T (R : VP) (a1 : Addr) (s3 : ByteArray) (x4 : Int) (s5 : ByteArray) (x6 : Int) (b7 : Bool) (h : Heap) : Prop :=
 splitB (!(b7 == (x6 == (2 : Int)))) (R (Value.bool false) h) (splitB b7 (splitB (!(ByteArray.toList s5 == ByteArray.toList (ByteArray.mk #[]))) (R (Value.bool false) h) (splitB (!b7) (splitB (x6 != (0 : Int)) (R (Value.bool false) h) (∃ v1_, ldv false 1 h (Addr.add a1 1) = some v1_ ∧ ∃ s2_, v1_ = (Value.string s2_) ∧ Run Tryd.prog 29 #[(Value.string s2_)] h fun v3_ h4_ => ∃ s5_, v3_ = (Value.string s5_) ∧ splitB (!(ByteArray.toList s5 == ByteArray.toList s5_)) (R (Value.bool false) h4_) (f4.j1 R a1 s3 x4 s5 x6 h4_))) (f4.j1 R a1 s3 x4 s5 x6 h))) (splitB (!b7) (splitB (x6 != (0 : Int)) (R (Value.bool false) h) (∃ v6_, ldv false 1 h (Addr.add a1 1) = some v6_ ∧ ∃ s7_, v6_ = (Value.string s7_) ∧ Run Tryd.prog 29 #[(Value.string s7_)] h fun v8_ h9_ => ∃ s10_, v8_ = (Value.string s10_) ∧ splitB (!(ByteArray.toList s5 == ByteArray.toList s10_)) (R (Value.bool false) h9_) (f4.j1 R a1 s3 x4 s5 x6 h9_))) (f4.j1 R a1 s3 x4 s5 x6 h)))
theorem f4.j0_in {R a1 s3 x4 s5 x6 b7 h} (H : f4.j0T R a1 s3 x4 s5 x6 b7 h) : f4.j0 R a1 s3 x4 s5 x6 b7 h := pt_in (kp := f4.kp) mixed f4.good (by kernel_rfl) H
def f4.j1T (R : VP) (a1 : Addr) (s3 : ByteArray) (x4 : Int) (s5 : ByteArray) (x6 : Int) (h : Heap) : Prop :=
 ∃ v1_, ldv false 1 h a1 = some v1_ ∧ ∃ x2_, v1_ = (Value.int .i64 x2_) ∧ splitB (x2_ == (5 : Int)) (splitB (ByteArray.toList s3 == ByteArray.toList s5) (R (Value.bool (x4 == x6)) h) (R (Value.bool false) h)) (∃ v3_, ldv false 1 h (Addr.add a1 1) = some v3_ ∧ ∃ s4_, v3_ = (Value.string s4_) ∧ Run Tryd.prog 30 #[(Value.string s4_)] h fun v5_ h6_ => ∃ A7_, ∃ n7_, ∃ c7_, ∃ x8_, ∃ x9_, v5_ = (Value.tuple #[(Value.slice A7_ n7_ c7_), (Value.int .i64 x8_), (Value.int .i64 x9_)]) ∧ splitB (x9_ == (0 : Int)) (splitB (((n7_ : Nat) : Int) == (1 : Int)) (ptrOk A7_ fun a10_ => 0 ≤ (0 : Int) ∧ (0 : Int) < ((n7_ : Nat) : Int) ∧ (∃ v11_, ldv false 1 h6_ (Addr.add a10_ (Int.toNat (0 : Int) * 3)) = some v11_ ∧ ∃ x12_, v11_ = (Value.int .i64 x12_) ∧ ∃ v13_, ldv false 1 h6_ a1 = some v13_ ∧ ∃ x14_, v13_ = (Value.int .i64 x14_) ∧ splitB (x12_ == x14_) (ptrOk A7_ fun a15_ => 0 ≤ (0 : Int) ∧ (0 : Int) < ((n7_ : Nat) : Int) ∧ (∃ v16_, ldv false 1 h6_ (Addr.add (Addr.add a15_ (Int.toNat (0 : Int) * 3)) 1) = some v16_ ∧ ∃ s17_, v16_ = (Value.string s17_) ∧ ∃ v18_, ldv false 1 h6_ (Addr.add a1 1) = some v18_ ∧ ∃ s19_, v18_ = (Value.string s19_) ∧ f4.j3 R a1 s3 x4 (ByteArray.toList s17_ == ByteArray.toList s19_) h6_)) (f4.j3 R a1 s3 x4 false h6_))) (f4.j3 R a1 s3 x4 false h6_)) (f4.j3 R a1 s3 x4 false h6_))
theorem f4.j1_in {R a1 s3 x4 s5 x6 h} (H : f4.j1T R a1 s3 x4 s5 x6 h) : f4.j1 R a1 s3 x4 s5 x6 h := pt_in (kp := f4.kp) mixed f4.good (by kernel_rfl) H
def f4.j3T (R : VP) (a1 : Addr) (s3 : ByteArray) (x4 : Int) (b125 : Bool) (h : Heap) : Prop :=
 splitB b125 (splitB (x4 == (0 : Int)) (∃ v1_, ldv false 1 h (Addr.add a1 1) = some v1_ ∧ ∃ s2_, v1_ = (Value.string s2_) ∧ R (Value.bool (ByteArray.toList s3 == ByteArray.toList s2_)) h) (R (Value.bool false) h)) (f4.j2 R s3 x4 h)
theorem f4.j3_in {R a1 s3 x4 b125 h} (H : f4.j3T R a1 s3 x4 b125 h) : f4.j3 R a1 s3 x4 b125 h := pt_in (kp := f4.kp) mixed f4.good (by kernel_rfl) H
def f4.j2T (R : VP) (s3 : ByteArray) (x4 : Int) (h : Heap) : Prop :=
 splitB (x4 == (3 : Int)) (R (Value.bool (ByteArray.toList s3 == ByteArray.toList (ByteArray.mk #[]))) h) (R (Value.bool false) h)
theorem f4.j2_in {R s3 x4 h} (H : f4.j2T R s3 x4 h) : f4.j2 R s3 x4 h := pt_in (kp := f4.kp) mixed f4.good (by kernel_rfl) H
def f4.runT (R : VP) (v0 : Value) (h : Heap) : Prop :=
 newH h (Obj.cells ((v0).cells) 59) fun h1_ => ∃ v2_, ldv true 3 h1_ (⟨Array.size h, 0, none⟩) = some v2_ ∧ Run Tryd.prog 19 #[v2_] h1_ fun v3_ h4_ => ∃ s5_, ∃ x6_, v3_ = (Value.tuple #[(Value.string s5_), (Value.int .i64 x6_)]) ∧ ∃ v7_, ldv false 1 h4_ (Addr.add (⟨Array.size h, 0, none⟩) 1) = some v7_ ∧ ∃ s8_, v7_ = (Value.string s8_) ∧ Run Tryd.prog 20 #[(Value.string s8_)] h4_ fun v9_ h10_ => ∃ s11_, ∃ x12_, v9_ = (Value.tuple #[(Value.string s11_), (Value.int .i64 x12_)]) ∧ ∃ v13_, ldv false 1 h10_ (Addr.add (⟨Array.size h, 0, none⟩) 1) = some v13_ ∧ ∃ s14_, v13_ = (Value.string s14_) ∧ ∃ v15_, ldv false 1 h10_ (Addr.add (⟨Array.size h, 0, none⟩) 1) = some v15_ ∧ ∃ s16_, v15_ = (Value.string s16_) ∧ ∃ v17_, ldv false 1 h10_ (Addr.add (⟨Array.size h, 0, none⟩) 1) = some v17_ ∧ ∃ s18_, v17_ = (Value.string s18_) ∧ Run Tryd.prog 21 #[(Value.string s16_)] h10_ fun v19_ h20_ => ∃ b21_, v19_ = (Value.bool b21_) ∧ Ext h10_ h20_ ∧ (Run Tryd.prog 23 #[] h20_ fun v22_ h23_ => ∃ A24_, ∃ n24_, ∃ c24_, v22_ = (Value.slice A24_ n24_ c24_) ∧ Ext h10_ h23_ ∧ (Run Tryd.prog 22 #[(Value.slice A24_ n24_ c24_), (Value.string s18_)] h23_ fun v25_ h26_ => ∃ b27_, v25_ = (Value.bool b27_) ∧ splitB (!(b21_ == b27_)) (Ext h26_ h26_ ∧ (Ext h26_ h26_ ∧ (R (Value.bool false) h26_))) (∃ v28_, ldv false 1 h26_ (Addr.add (⟨Array.size h, 0, none⟩) 1) = some v28_ ∧ ∃ s29_, v28_ = (Value.string s29_) ∧ ∃ v30_, ldv false 1 h26_ (Addr.add (⟨Array.size h, 0, none⟩) 1) = some v30_ ∧ ∃ s31_, v30_ = (Value.string s31_) ∧ Run Tryd.prog 24 #[(Value.string s29_)] h26_ fun v32_ h33_ => ∃ b34_, v32_ = (Value.bool b34_) ∧ Ext h26_ h33_ ∧ (Run Tryd.prog 25 #[(Value.string s31_)] h33_ fun v35_ h36_ => ∃ b37_, v35_ = (Value.bool b37_) ∧ splitB (!(b34_ == b37_)) (Ext h36_ h36_ ∧ (R (Value.bool false) h36_)) (∃ v38_, ldv false 1 h36_ (Addr.add (⟨Array.size h, 0, none⟩) 1) = some v38_ ∧ ∃ s39_, v38_ = (Value.string s39_) ∧ ∃ v40_, ldv false 1 h36_ (Addr.add (⟨Array.size h, 0, none⟩) 1) = some v40_ ∧ ∃ s41_, v40_ = (Value.string s41_) ∧ Run Tryd.prog 26 #[(Value.string s39_)] h36_ fun v42_ h43_ => ∃ b44_, v42_ = (Value.bool b44_) ∧ Ext h36_ h43_ ∧ (Run Tryd.prog 27 #[(Value.string s41_)] h43_ fun v45_ h46_ => ∃ b47_, v45_ = (Value.bool b47_) ∧ splitB (!(b44_ == b47_)) (R (Value.bool false) h46_) (Run Tryd.prog 28 #[] h46_ fun v48_ h49_ => ∃ A50_, ∃ n50_, ∃ c50_, v48_ = (Value.slice A50_ n50_ c50_) ∧ splitB (((n50_ : Nat) : Int) != (38 : Int)) (R (Value.bool false) h49_) (f4.j0 R (⟨Array.size h, 0, none⟩) s5_ x6_ s11_ x12_ (decide (((ByteArray.size s14_ : Nat) : Int) > (64 : Int))) h49_))))))))
theorem f4.run {R : VP} {v0 : Value} {h : Heap} (H : f4.runT R v0 h) : Run Tryd.prog 4 #[v0] h R := run_in (kp := f4.kp) mixed Tryd.func4 (by kernel_rfl) (by kernel_rfl) f4.good (by kernel_rfl) H
end Go.Proofs.YtkbhpagogmmgnaaDoor.Fw

end
section
namespace Go.Hw
open Go
section tests
variable {A B : Prop}
theorem split_not {b : Bool} (h : splitB b B A) : splitB (!b) A B := by cases b <;> exact h
theorem split_f (h : B) : splitB false A B := h
end tests
theorem wrap_in {n : Int} (h0 : -9223372036854775808 ≤ n) (h1 : n ≤ 9223372036854775807) : IntKind.wrap .i64 n = n := by
 rcases Int.le_total 0 n with h | h
 · exact wrap_nat h h1
 · rcases (show n = 0 ∨ n < 0 by omega) with h2 | h2
   · subst h2; rfl
   have e : n % (2 ^ 64 : Int) = n + 2 ^ 64 := by omega
   simp only [IntKind.wrap, IntKind.signed, IntKind.bits, e, Bool.true_and]
   rw [if_pos (by simp only [decide_eq_true_eq]; omega)]
   omega
theorem add_add (a : Addr) (m n : Nat) : (a.add m).add n = a.add (m + n) := by
 unfold Addr.add
 by_cases h1 : m = 0
 · subst h1; simp
 · by_cases h2 : n = 0
   · subst h2; simp
   · have h3 : m + n ≠ 0 := by omega
     simp only [if_neg h1, if_neg h2, if_neg h3]
     rw [Nat.add_assoc]
theorem add_block (a : Addr) (n : Nat) : (a.add n).block = a.block := by unfold Addr.add; split <;> rfl
theorem add_off (a : Addr) (n : Nat) : (a.add n).off = a.off + n := by
 unfold Addr.add
 split
 · rename_i h; subst h; rfl
 · rfl
theorem add_spot {a : Addr} (n : Nat) (h : a.spot = none) : (a.add n).spot = none := by unfold Addr.add; split; exact h; rfl
def Blk (h : Heap) (b : Nat) (c : List Value) (t : TypeId) : Prop := h[b]? = some (.cells c.toArray t (0, 0))
def Only (h h' : Heap) (b : Nat) : Prop := h'.size = h.size ∧ ∀ i, i ≠ b → h'[i]? = h[i]?
section
variable {h h' : Heap} {b : Nat} {c : List Value} {t : TypeId}
theorem Blk.lt (hb : Blk h b c t) : b < h.size := (Array.getElem?_eq_some_iff.1 hb).1
theorem Blk.cell (hb : Blk h b c t) {a : Addr} {v : Value} (h1 : a.block = b) (h2 : a.spot = none) (h3 : c[a.off]? = some v) : cellH h a = some v := by
 unfold cellH Blk at *
 rw [h1, hb, h2]
 simpa using h3
theorem Blk.cells (hb : Blk h b c t) {a : Addr} (h1 : a.block = b) (h2 : a.spot = none) : ∀ (n i : Nat), a.off + i + n ≤ c.length → cellsH h a i n = some ((c.drop (a.off + i)).take n) := by
 intro n
 induction n with
 | zero => intro i _; simp [cellsH]
 | succ n ih =>
   intro i hle
   have hlt : a.off + i < c.length := by omega
   have h3 : c[(a.add i).off]? = some c[a.off + i] := by rw [add_off]; exact List.getElem?_eq_getElem hlt
   simp only [cellsH, hb.cell (a := a.add i) (by rw [add_block]; exact h1) (add_spot i h2) h3, ih (i + 1) (by omega)]
   rw [List.drop_eq_getElem_cons hlt, List.take_succ_cons]
   rfl
theorem Blk.st (hb : Blk h b c t) {a : Addr} {v : Value} (h1 : a.block = b) (h2 : a.spot = none) (h3 : a.off < c.length) (h4 : oneCell v True) :
   ∃ h', st1 h a v = some h' ∧ Blk h' b (c.set a.off v) t ∧ Only h h' b := by
 have hc : cellH h a = some c[a.off] := hb.cell h1 h2 (List.getElem?_eq_getElem h3)
 have hf : frozenH h a = false := by
   unfold frozenH
   rw [h1, show h[b]? = some (.cells c.toArray t (0, 0)) from hb]
   simp
 refine ⟨setH h a v, ?_, ?_, ?_⟩
 · cases v <;> simp_all [st1, oneCell]
 · unfold Blk setH
   rw [Array.getElem?_modify, if_pos h1.symm.symm, show h[b]? = some (.cells c.toArray t (0, 0)) from hb]
   simp [h2]
 · refine ⟨by simp [setH], fun i hi => ?_⟩
   unfold setH
   rw [Array.getElem?_modify, if_neg (by rw [h1]; exact fun e => hi e.symm)]
theorem Blk.new (h : Heap) (c : Array Value) (t : TypeId) : Blk (h.push (.cells c t)) h.size c.toList t := by
 unfold Blk; simp
theorem Ext.push (h : Heap) (o : Obj) : Ext h (h.push o) := ⟨by simp, fun i hi => by rw [Array.getElem?_push, if_neg (by omega)]⟩
theorem Only.refl (h : Heap) (b : Nat) : Only h h b := ⟨rfl, fun _ _ => rfl⟩
theorem Only.trans {h'' : Heap} {b : Nat} (o : Only h h' b) (p : Only h' h'' b) : Only h h'' b := ⟨p.1.trans o.1, fun i hi => (p.2 i hi).trans (o.2 i hi)⟩
end
def Rd {α : Type} (sz : Nat) (E : Heap → α → List Value → Prop) (h : Heap) (A : Option Addr) (l : List α) : Prop :=
 ∀ i (hi : i < l.length), ∃ a cs, A = some a ∧ cellsH h (a.add (i * sz)) 0 sz = some cs ∧ E h l[i] cs
def eInt (k : IntKind) (_ : Heap) (x : Int) (cs : List Value) : Prop := cs = [.int k x]
def eStr (_ : Heap) (x : ByteArray) (cs : List Value) : Prop := cs = [.string x]
section
variable {α : Type} {sz : Nat} {E : Heap → α → List Value → Prop} {h h' : Heap} {A : Option Addr} {l : List α}
theorem Rd.nil : Rd sz E h A ([] : List α) := fun i hi => by cases hi
end
theorem CallF.of {P : Program} {f : FuncId} {first captured : Array Value} {args : List Value} {h : Heap} {R : Value → Heap → Prop} (l : List Value) (hc : calleeOk P f = true) (hl : first.toList ++ args ++ captured.toList = l) (hr : Run P f l.toArray h R) :
   CallF P (.func (.func f) first captured) args h R := by
 unfold CallF
 simp only [hc, hl]
 exact hr
theorem newH_in {h : Heap} {c : Array Value} {t : TypeId} {K : Heap → Prop} (H : ∀ h', Blk h' h.size c.toList t → Ext h h' → h'.size = h.size + 1 → K h') : newH h (.cells c t) K :=
 H _ (Blk.new _ _ _) (Ext.push _ _) (by simp)
theorem CallF.mono {P : Program} {v : Value} {args : List Value} {h : Heap} {R R' : Value → Heap → Prop} (hh : CallF P v args h R) (hr : ∀ v h, R v h → R' v h) : CallF P v args h R' := by
 unfold CallF at hh ⊢
 split at hh
 · split at hh
   · exact hh.mono hr
   · exact ExtF.mono hh hr
 · exact hh.elim
def idxOf {α : Type} (p : α → Bool) (l : List α) : Int := match l.findIdx? p with | some i => i | none => -1
theorem idxOf_ge {α : Type} (p : α → Bool) (l : List α) : decide (idxOf p l ≥ 0) = l.any p := by
 unfold idxOf
 cases h : l.findIdx? p with
 | none =>
   rw [List.findIdx?_eq_none_iff] at h
   have : l.any p = false := by simpa using h
   simp [this]
 | some i =>
   have hs : (l.findIdx? p).isSome = true := by rw [h]; rfl
   rw [List.findIdx?_isSome] at hs
   simp [hs]
end Go.Hw

end
section
namespace Go.Hw
open Go Go.RowKit
theorem below_of {W W' : World} (e : Ext W.heap W'.heap) (s : Same W W') : Below W.heap.size W W' := ⟨s.os, s.tape, s.output, e.1, e.2⟩
section
variable {H : Type} {enc : TypeId × Value → H} {P : Program} {W : World}
def Tells {α : Type} (enc : TypeId × Value → H) (P : Program) (W : World) (t : TypeId) (E : Heap → α → List Value → Prop) (Q : α → Prop) : Prop :=
 ∀ (fuel : Nat) (cs : List Value) (x : DataW H × List MemPlace), DataW.trod enc P W 0 (fun _ => true) true fuel t cs = some x → (x.1.weights P t).all (· ≤ reachBytes) = true → ∃ a, E W.heap a cs ∧ Q a
theorem tells_int {t : TypeId} {k : IntKind} (hu : P.underlying t = some (.int k)) : Tells enc P W t (eInt k) (fun x => (Lit.int k x).wf = true) := by
 intro fuel cs x h _
 obtain ⟨n, h1, _, h3⟩ := DataW.trod_int hu h
 exact ⟨n, h1, h3⟩
theorem tells_str {t : TypeId} (hu : P.underlying t = some .string) : Tells enc P W t eStr (fun s => s.size ≤ reachBytes) := by
 intro fuel cs x h hw
 obtain ⟨s, h1, h2, _⟩ := DataW.trod_string hu h
 refine ⟨s, h1, ?_⟩
 rw [h2] at hw
 simp only [DataW.weights, List.all_cons, List.all_nil, Bool.and_true, decide_eq_true_eq] at hw
 simpa using hw
end
theorem wf_i64 {x : Int} (h : (Lit.int .i64 x).wf = true) : -9223372036854775808 ≤ x ∧ x ≤ 9223372036854775807 := by
 simpa [Lit.wf, IntKind.min, IntKind.max, IntKind.signed, IntKind.bits] using h
end Go.Hw

end
section
namespace Go.Hw
open Go
def Flat (v : Value) : Prop := oneCell v True
theorem Blk.stH {b : Nat} {t : TypeId} : ∀ (xs : List Value) {h : Heap} {p q r : List Value} {a : Addr} {i : Nat}, Blk h b (p ++ q ++ r) t → a.block = b → a.spot = none → a.off + i = p.length → q.length = xs.length → (∀ v ∈ xs, Flat v) →
   ∃ h', stH h a xs i = some h' ∧ Blk h' b (p ++ xs ++ r) t ∧ Only h h' b := by
 intro xs
 induction xs with
 | nil =>
   intro h p q r a i hb h1 h2 h3 h4 h5
   rw [List.length_eq_zero_iff.1 h4] at hb
   exact ⟨h, rfl, hb, .refl _ _⟩
 | cons v xs ih =>
   intro h p q r a i hb h1 h2 h3 h4 h5
   obtain ⟨u, q', rfl⟩ : ∃ u q', q = u :: q' := by cases q with | nil => cases h4 | cons u q' => exact ⟨u, q', rfl⟩
   have hoff : (a.add i).off = p.length := by rw [add_off, h3]
   obtain ⟨h', s1, b1, o1⟩ := hb.st (a := a.add i) (v := v) (by rw [add_block, h1]) (add_spot _ h2) (by rw [hoff]; simp) (h5 v (List.mem_cons_self ..))
   rw [hoff] at b1
   have e : (p ++ u :: q' ++ r).set p.length v = (p ++ [v]) ++ q' ++ r := by
     rw [List.append_assoc, List.set_append_right _ _ (Nat.le_refl _)]; simp
   rw [e] at b1
   obtain ⟨h'', s2, b2, o2⟩ := ih (p := p ++ [v]) (q := q') (r := r) (a := a) (i := i + 1) b1 h1 h2 (by simp; omega) (by simpa using h4) (fun x hx => h5 x (List.mem_cons_of_mem _ hx))
   refine ⟨h'', ?_, by simpa using b2, o1.trans o2⟩
   simp only [Go.Hw.stH, s1, s2]
theorem zcells_size (z : Array Value) (n : Nat) : (zcells z n).size = n * z.size := by
 unfold zcells Builtin.zeroCells
 simp
end Go.Hw

end
section
namespace Go.Hw
open Go Go.RowKit
def eSt {α : Type} (f : α → List Value) (_ : Heap) (x : α) (cs : List Value) : Prop := cs = f x
theorem cellsH_get {h : Heap} {a : Addr} : ∀ {n i : Nat} {cs : List Value} {k : Nat} {v : Value}, cellsH h a i n = some cs → cs[k]? = some v → cellH h (a.add (i + k)) = some v := by
 intro n
 induction n with
 | zero => intro i cs k v hc hv; simp only [cellsH, Option.some.injEq] at hc; subst hc; cases hv
 | succ n ih =>
   intro i cs k v hc hv
   simp only [cellsH] at hc
   split at hc
   · rename_i u hu
     split at hc
     · rename_i vs hvs
       cases hc
       cases k with
       | zero => cases hv; exact hu
       | succ k => rw [show i + (k + 1) = i + 1 + k by omega]; exact ih hvs (by simpa using hv)
     · cases hc
   · cases hc
section
variable {α : Type} {sz : Nat} {E : Heap → α → List Value → Prop} {h h' : Heap} {A : Option Addr} {l : List α}
theorem cellsH_append {h : Heap} {a : Addr} : ∀ {m i n : Nat} {cs ds : List Value}, cellsH h a i m = some cs → cellsH h a (i + m) n = some ds → cellsH h a i (m + n) = some (cs ++ ds) := by
 intro m
 induction m with
 | zero => intro i n cs ds h1 h2; simp only [cellsH, Option.some.injEq] at h1; subst h1; simpa using h2
 | succ m ih =>
   intro i n cs ds h1 h2
   simp only [cellsH] at h1
   split at h1
   · rename_i u hu
     split at h1
     · rename_i vs hvs
       cases h1
       rw [show m + 1 + n = (m + n) + 1 by omega]
       have h3 := ih hvs (n := n) (ds := ds) (by rw [show i + 1 + m = i + (m + 1) by omega]; exact h2)
       simp only [cellsH, hu, h3, List.cons_append]
     · cases h1
   · cases h1
theorem cellsH_shift {h : Heap} {a : Addr} {j : Nat} : ∀ {n i : Nat}, cellsH h (a.add j) i n = cellsH h a (j + i) n := by
 intro n
 induction n with
 | zero => intro i; rfl
 | succ n ih =>
   intro i
   simp only [cellsH, add_add]
   rw [ih, Nat.add_assoc]
theorem Rd.src {f : α → List Value} (hr : Rd sz (eSt f) h A l) (c : Nat) : srcCells sz (.slice A l.length c) h = some (l.length, l.flatMap f) := by
 cases A with
 | none =>
   cases l with
   | nil => rfl
   | cons x l => obtain ⟨a, _, h1, _⟩ := hr 0 (by simp); cases h1
 | some a =>
   have key : ∀ (k : Nat), k ≤ l.length → cellsH h a 0 (k * sz) = some ((l.take k).flatMap f) := by
     intro k
     induction k with
     | zero => intro _; simp [cellsH]
     | succ k ih =>
       intro hk
       obtain ⟨a', cs, h1, h2, h3⟩ := hr k (by omega)
       cases h1
       rw [cellsH_shift] at h2
       rw [Nat.succ_mul, List.take_succ_eq_append_getElem (by omega), List.flatMap_append]
       refine cellsH_append (ih (by omega)) ?_
       rw [show cs = f l[k] from h3] at h2
       simpa using h2
   have := key l.length (Nat.le_refl _)
   rw [List.take_length] at this
   simp only [srcCells, this, Option.map_some]
theorem flatMap_one {f : α → Value} (l : List α) : l.flatMap (fun x => [f x]) = l.map f := by
 induction l with
 | nil => rfl
 | cons x l ih => rw [List.flatMap_cons, ih]; rfl
theorem Rd.src1 {f : α → Value} (hr : Rd 1 E h A l) (hE : ∀ x ∈ l, ∀ cs, E h x cs → cs = [f x]) (c : Nat) : srcCells 1 (.slice A l.length c) h = some (l.length, l.map f) := by
 have h1 : Rd 1 (eSt fun x => [f x]) h A l := fun i hi => let ⟨a, cs, h1, h2, h3⟩ := hr i hi; ⟨a, cs, h1, h2, hE _ (List.getElem_mem hi) _ h3⟩
 have := h1.src c
 rw [this, flatMap_one]
theorem Rd.srcInt {k : IntKind} {l : List Int} (hr : Rd 1 (eInt k) h A l) (c : Nat) : srcCells 1 (.slice A l.length c) h = some (l.length, l.map (.int k)) := hr.src1 (fun _ _ _ h => h) c
end
theorem Blk.stAll {h : Heap} {b : Nat} {c : List Value} {t : TypeId} (hb : Blk h b c t) (l : List Value) (hn : l.length = c.length) (hf : ∀ v ∈ l, Flat v) :
   ∃ h', Go.Hw.stH h ⟨b, 0, none⟩ l 0 = some h' ∧ Blk h' b l t ∧ Only h h' b := by
 obtain ⟨h', s1, b1, o1⟩ := Blk.stH l (p := []) (q := c) (r := []) (a := ⟨b, 0, none⟩) (i := 0) (by simpa using hb) rfl rfl rfl hn.symm hf
 exact ⟨h', s1, by simpa using b1, o1⟩
section
variable {P : Program} {d : Nat} {t : TypeId}
def flatB (P : Program) (t : TypeId) (x y : Value) : Option Bool :=
 match P.underlying t, x, y with
 | some (.int _), .int k a, .int k' b => match kindB k k' with | true => some (a == b) | false => none
 | some .bool, .bool a, .bool b => some (a == b)
 | some .string, .string a, .string b => some (a == b)
 | _, _, _ => none
end
section
variable {H : Type} {enc : TypeId × Value → H} {P : Program} {W : World}
def TellsF {α : Type} (enc : TypeId × Value → H) (P : Program) (W : World) (T o : Nat) (fs : List (TypeId × Nat)) (F : Heap → α → List Value → Prop) (Q : α → Prop) : Prop :=
 ∀ (n : Nat) (cs : List Value) (xs : List (DataW H × List MemPlace)), cs.length = T → xs.length = fs.length → (∀ (i : Nat) (f : TypeId × Nat), fs[i]? = some f → DataW.trod enc P W 0 (fun _ => true) true n f.1 ((cs.drop f.2).take (P.cellsOf f.1)) = xs[i]?) →
   (DataW.weightsEach P (fs.map (·.1)) (xs.map (·.1))).all (· ≤ reachBytes) = true → ∃ b, F W.heap b (cs.drop o) ∧ Q b
def eNil (_ : Heap) (_ : Unit) (cs : List Value) : Prop := cs = []
def eCons {α β : Type} (E : Heap → α → List Value → Prop) (F : Heap → β → List Value → Prop) (h : Heap) (x : α × β) (cs : List Value) : Prop := ∃ c1 c2, cs = c1 ++ c2 ∧ E h x.1 c1 ∧ F h x.2 c2
theorem tf_nil {T : Nat} : TellsF enc P W T T [] eNil (fun _ => True) := fun n cs xs hl _ _ _ => ⟨(), by unfold eNil; rw [List.drop_eq_nil_of_le (by omega)], trivial⟩
theorem tf_cons {α β : Type} {E : Heap → α → List Value → Prop} {F : Heap → β → List Value → Prop} {Q : α → Prop} {Q' : β → Prop} {T o s : Nat} {f : TypeId} {fs : List (TypeId × Nat)} (hs : P.cellsOf f = s)
   (he : Tells enc P W f E Q) (hf : TellsF enc P W T (o + s) fs F Q') : TellsF enc P W T o ((f, o) :: fs) (eCons E F) (fun x => Q x.1 ∧ Q' x.2) := by
 intro n cs xs hl hx hi hw
 cases xs with
 | nil => cases hx
 | cons x xs =>
   have h0 := hi 0 (f, o) rfl
   simp only [hs] at h0
   simp only [List.map_cons, DataW.weightsEach, List.all_append, Bool.and_eq_true] at hw
   obtain ⟨a, ha, qa⟩ := he n _ _ h0 hw.1
   obtain ⟨b, hb, qb⟩ := hf n cs xs hl (by simpa using hx) (fun i g hg => by simpa using hi (i + 1) g hg) hw.2
   exact ⟨(a, b), ⟨_, _, by rw [← List.drop_drop, List.take_append_drop], ha, hb⟩, qa, qb⟩
def shapeOf (P : Program) (t : TypeId) : Option (List (TypeId × Nat)) := match P.underlying t with | some (.struct fs) => some (fs.toList.map fun f => (f.type, f.offset)) | _ => none
theorem tells_struct {α : Type} {F : Heap → α → List Value → Prop} {Q : α → Prop} {t : TypeId} {fs : List (TypeId × Nat)} {T : Nat} (hs : shapeOf P t = some fs) (hc : P.cellsOf t = T) (hf : TellsF enc P W T 0 fs F Q) : Tells enc P W t F Q := by
 intro fuel cs x h hw
 unfold shapeOf at hs
 split at hs
 · rename_i fa hu
   cases hs
   obtain ⟨xs, n, _, rfl, hl, hlen, hi⟩ := DataW.trod_struct hu h
   simp only [DataW.weights, hu] at hw
   obtain ⟨b, hb, qb⟩ := hf n cs xs (by rw [hl, hc]) (by simpa using hlen) (fun i f hif => by
     rw [List.getElem?_map, Option.map_eq_some_iff] at hif
     obtain ⟨g, hg, rfl⟩ := hif
     exact hi i g (by simpa using hg)) (by rw [List.map_map]; exact hw)
   exact ⟨b, by simpa using hb, qb⟩
 · cases hs
theorem tells_map {α β : Type} {E : Heap → α → List Value → Prop} {F : Heap → β → List Value → Prop} {Q : α → Prop} {Q' : β → Prop} {t : TypeId} (he : Tells enc P W t E Q) (hm : ∀ a cs, E W.heap a cs → Q a → ∃ b, F W.heap b cs ∧ Q' b) : Tells enc P W t F Q' :=
 fun fuel cs x h hw => let ⟨a, ha, qa⟩ := he fuel cs x h hw; hm a cs ha qa
theorem okWide_agg_of {t : TypeId} {fs : List (TypeId × Nat)} {v : Value} {r : Reach} {base : Nat} (hs : shapeOf P t = some fs) (h : Value.okWide P W r base t v) : ∃ cs : List Value, v = .agg cs.toArray := by
 unfold shapeOf at hs
 split at hs
 · rename_i fa hu
   simp only [Value.okWide, hu] at h
   cases v <;> simp_all
   rename_i xs
   exact ⟨xs.toList, by simp⟩
 · cases hs
end
end Go.Hw

end
section
namespace Go.Hw
open Go
theorem ba_toList {a b : ByteArray} (h : a.toList = b.toList) : a = b := by
 rw [ByteArray.toList_eq, ByteArray.toList_eq] at h
 obtain ⟨⟨x⟩⟩ := a
 obtain ⟨⟨y⟩⟩ := b
 have : x = y := h
 rw [this]
end Go.Hw

end
section
namespace Go.Hw
open Go
def bytesOf (l : List Int) : ByteArray := ⟨(l.map fun n => UInt8.ofNat n.toNat).toArray⟩
section
variable {P : Program} {h : Heap}
theorem row_cells {A : Option Addr} {l : List Int} {k : IntKind} (hr : Rd 1 (eInt k) h A l) {a : Addr} (ha : A = some a) : cellsH h a 0 l.length = some (l.map (.int k)) := by
 have := hr.srcInt 0
 subst ha
 simp only [srcCells, Nat.mul_one] at this
 cases hc : cellsH h a 0 l.length with
 | none => rw [hc] at this; simp at this
 | some cs => rw [hc] at this; simp at this; rw [this]
theorem gen_b2s {src dst e : TypeId} {A : Option Addr} {c : Nat} {l : List Int} {K : Value → Heap → Prop} (hsrc : P.underlying src = some (.slice e)) (hdst : P.underlying dst = some .string) (he : P.underlying e = some (.int .u8)) (hr : Rd 1 (eInt .u8) h A l)
   (hk : K (.string (bytesOf l)) h) : Gen P (convert src dst (.slice A l.length c)) h K := by
 unfold Gen convert
 refine hwp_bind (hwp_underlying hsrc (hwp_bind (hwp_underlying hdst ?_)))
 refine hwp_bind (hwp_underlying he ?_)
 unfold Conv.bytesToString
 cases A with
 | none =>
   have : l = [] := by
     cases l with
     | nil => rfl
     | cons x l => obtain ⟨a, _, h1, _⟩ := hr 0 (by simp); cases h1
   subst this
   exact hk
 | some a =>
   refine hwp_bind (hwp_loadCells (row_cells hr rfl) ?_)
   refine hwp_bind ?_
   rw [← Array.forIn_toList]
   have key : ∀ (m : List Int) (s : ByteArray) (K' : ByteArray → Heap → Prop), K' ⟨s.data ++ (m.map fun n => UInt8.ofNat n.toNat).toArray⟩ h → Hwp P (forIn (m.map (Value.int .u8)) s fun c s => match c with | .int .u8 n => pure (ForInStep.yield (s.push (UInt8.ofNat n.toNat))) | _ => stuck "bytesToString: byte expected") h K' := by
     intro m
     induction m with
     | nil => intro s K' hk; exact hwp_pure (P := P) (by simpa using hk)
     | cons x m ih =>
       intro s K' hk
       rw [List.map_cons, List.forIn_cons]
       refine hwp_bind (hwp_pure (P := P) (ih _ K' ?_))
       have : (⟨(s.push (UInt8.ofNat x.toNat)).data ++ (m.map fun n => UInt8.ofNat n.toNat).toArray⟩ : ByteArray) = ⟨s.data ++ ((x :: m).map fun n => UInt8.ofNat n.toNat).toArray⟩ := by
         cases s; simp [ByteArray.push]
       rw [this]; exact hk
   refine key l ByteArray.empty _ ?_
   have e : (⟨ByteArray.empty.data ++ (l.map fun n => UInt8.ofNat n.toNat).toArray⟩ : ByteArray) = bytesOf l := by
     simp [bytesOf, ByteArray.empty, ByteArray.emptyWithCapacity]
     rfl
   rw [e]
   exact hk
end
end Go.Hw

end
section
namespace Go.Hw
open Go
end Go.Hw

end
section
namespace Go.Hw
open Go
def dead : Obj := .cells #[] 0 (0, 0)
def Live (m : Heap) (b : Nat) : Prop := ∃ o, m[b]? = some o ∧ o ≠ dead
def Sub (m h : Heap) : Prop := ∀ (b : Nat) (o : Obj), m[b]? = some o → o ≠ dead → h[b]? = some o
abbrev No : Nat → Prop := fun _ => False
section
variable {m m' h h' k h0 m0 : Heap} {b : Nat} {W W' : Nat → Prop}
theorem Sub.refl (h : Heap) : Sub h h := fun _ _ h _ => h
theorem Sub.trans (s : Sub m h) (t : Sub h k) : Sub m k := fun b o h1 h2 => t b o (s b o h1 h2) h2
theorem Sub.lt (s : Sub m h) (l : Live m b) : b < h.size := by
 obtain ⟨o, h1, h2⟩ := l
 exact (Array.getElem?_eq_some_iff.1 (s b o h1 h2)).1
theorem Sub.ext (s : Sub m h) (e : Ext h h') : Sub m h' := fun b o h1 h2 => by rw [e.2 b (s.lt ⟨o, h1, h2⟩)]; exact s b o h1 h2
theorem Sub.cell (s : Sub m h) {a : Addr} {v : Value} (hc : cellH m a = some v) : cellH h a = some v := by
 unfold cellH at hc
 split at hc
 · rename_i c e f hm
   have hne : (Obj.cells c e f) ≠ dead := by
     intro hd
     unfold dead at hd
     cases hd
     split at hc <;> simp at hc
   unfold cellH
   rw [s _ _ hm hne]; exact hc
 · cases hc
theorem Sub.cells (s : Sub m h) {a : Addr} : ∀ (n i : Nat) {vs : List Value}, cellsH m a i n = some vs → cellsH h a i n = some vs := by
 intro n
 induction n with
 | zero => intro i vs hc; exact hc
 | succ n ih =>
   intro i vs hc
   simp only [cellsH] at hc ⊢
   split at hc
   · rename_i v hv
     rw [s.cell hv]
     split at hc
     · rename_i us hu
       rw [ih _ hu]; exact hc
     · cases hc
   · cases hc
end
structure Tell {α : Type} (sz : Nat) (E : Heap → α → List Value → Prop) : Prop where
 mono : ∀ m h x cs, Sub m h → E m x cs → E h x cs
 len : ∀ h x cs, E h x cs → cs.length = sz
 flat : ∀ h x cs, E h x cs → ∀ v ∈ cs, Flat v
theorem Flats.nil : ∀ v ∈ ([] : List Value), Flat v := fun v hv => by cases hv
theorem Flats.cons {x : Value} {l : List Value} (h : Flat x) (t : ∀ v ∈ l, Flat v) : ∀ v ∈ x :: l, Flat v := fun v hv => by
 rcases List.mem_cons.1 hv with rfl | hv
 · exact h
 · exact t v hv
theorem tell_int (k : IntKind) : Tell 1 (eInt k) := ⟨fun _ _ _ _ _ h => h, fun _ _ _ h => by rw [h]; rfl, fun _ _ _ h => by rw [h]; exact Flats.cons trivial Flats.nil⟩
theorem tell_str : Tell 1 eStr := ⟨fun _ _ _ _ _ h => h, fun _ _ _ h => by rw [h]; rfl, fun _ _ _ h => by rw [h]; exact Flats.cons trivial Flats.nil⟩
section
variable {α : Type} {sz : Nat} {E : Heap → α → List Value → Prop} {m m' h h' : Heap} {A : Option Addr} {l : List α} {c : Nat}
theorem Rd.sub (r : Rd sz E m A l) (T : Tell sz E) (s : Sub m h) : Rd sz E h A l := fun i hi =>
 let ⟨a, cs, h1, h2, h3⟩ := r i hi
 ⟨a, cs, h1, s.cells _ _ h2, T.mono _ _ _ _ s h3⟩
end
structure St (W : Nat → Prop) (h0 m0 h m : Heap) : Prop where
 up : Sub m0 m
 s : Sub m h
 size : h0.size ≤ h.size
 fr : ∀ b, b < h0.size → ¬ W b → h[b]? = h0[b]?
 lv : ∀ b, b < h0.size → Live m b → Live m0 b ∨ W b
def fb (b0 b : Nat) : Prop := b = b0
def fp (A : Option Addr) (c : Nat) (b : Nat) : Prop := c ≠ 0 ∧ ∃ a, A = some a ∧ a.block = b
def Dj (F G : Nat → Prop) : Prop := ∀ b, F b → G b → False
section
variable {m m' h h' h0 m0 : Heap} {b b' : Nat} {W W' F G G' : Nat → Prop}
theorem Dj.symm (d : Dj F G) : Dj G F := fun b h1 h2 => d b h2 h1
theorem Dj.no : Dj No F := fun _ h _ => h
theorem St.refl (s : Sub m h) : St W h m h m := ⟨.refl _, s, Nat.le_refl _, fun _ _ _ => rfl, fun _ _ h => .inl h⟩
theorem St.of_ext (s : Sub m h) (e : Ext h h') : St W h m h' m := ⟨.refl _, s.ext e, e.1, fun b hb _ => e.2 b hb, fun _ _ h => .inl h⟩
theorem St.ext (S : St No h m h' m') : Ext h h' := ⟨S.size, fun b hb => S.fr b hb (fun h => h)⟩
theorem St.then (S : St W h0 m0 h m) (T : St W' h m h' m') (hw : ∀ b, b < h.size → W' b → h0.size ≤ b ∨ W b) : St W h0 m0 h' m' where
 up := S.up.trans T.up
 s := T.s
 size := Nat.le_trans S.size T.size
 fr b hb hn := by
   rw [T.fr b (by have := S.size; omega) (fun hw' => (hw b (by have := S.size; omega) hw').elim (fun h => by omega) hn)]
   exact S.fr b hb hn
 lv b hb hl := by
   rcases T.lv b (by have := S.size; omega) hl with h1 | h1
   · exact S.lv b hb h1
   · exact .inr ((hw b (by have := S.size; omega) h1).elim (fun h => by omega) id)
theorem St.grow (S : St W h0 m0 h m) (T : St No h m h' m') : St W h0 m0 h' m' := S.then T fun _ _ h => h.elim
theorem St.notLive (s : Sub m h) : ¬ Live m h.size := fun l => by have := s.lt l; omega
theorem St.only (s : Sub m h) (hn : ¬ Live m b) (o : Only h h' b) : St (fb b) h m h' m where
 up := .refl _
 s i x h1 h2 := by
   rw [o.2 i (fun e => hn (e ▸ ⟨x, h1, h2⟩))]; exact s i x h1 h2
 size := by rw [o.1]; exact Nat.le_refl _
 fr i _ hw := o.2 i hw
 lv i _ hl := .inl hl
end
open Classical in
noncomputable def addV (m h : Heap) (F : Nat → Prop) : Heap := Array.ofFn (n := h.size) fun i => if Live m i.1 ∨ F i.1 then h[i.1] else dead
section
variable {m h : Heap} {b : Nat} {F : Nat → Prop}
theorem addV_get (hb : b < h.size) (hl : Live m b ∨ F b) : (addV m h F)[b]? = h[b]? := by
 unfold addV
 rw [Array.getElem?_ofFn, dif_pos hb, if_pos hl, Array.getElem?_eq_getElem hb]
theorem addV_live (hl : Live (addV m h F) b) : (Live m b ∨ F b) ∧ b < h.size := by
 obtain ⟨o, h1, h2⟩ := hl
 unfold addV at h1
 rw [Array.getElem?_ofFn] at h1
 split at h1
 · rename_i hb
   refine ⟨?_, hb⟩
   by_cases hc : Live m b ∨ F b
   · exact hc
   · rw [if_neg hc] at h1; cases h1; exact (h2 rfl).elim
 · cases h1
theorem addV_sub : Sub (addV m h F) h := fun b o h1 h2 => by
 have := addV_live ⟨o, h1, h2⟩
 rw [← addV_get this.2 this.1]; exact h1
theorem addV_up (s : Sub m h) : Sub m (addV m h F) := fun b o h1 h2 => by
 rw [addV_get (s.lt ⟨o, h1, h2⟩) (.inl ⟨o, h1, h2⟩)]; exact s b o h1 h2
theorem St.settle (s : Sub m h) (F : Nat → Prop) : St F h m h (addV m h F) := ⟨addV_up s, addV_sub, Nat.le_refl _, fun _ _ _ => rfl, fun _ _ hl => (addV_live hl).1⟩
theorem Blk.settle {c : List Value} {t : TypeId} (hb : Blk h b c t) (hF : F b) : Blk (addV m h F) b c t := by
 unfold Blk at *
 rw [addV_get (Blk.lt hb) (.inr hF)]; exact hb
end
section
variable {α : Type} {sz : Nat} {E : Heap → α → List Value → Prop} {m m' h h' h0 m0 : Heap} {A : Option Addr} {l l' : List α} {c : Nat} {cs ds : List Value} {x y : α} {W W' : Nat → Prop}
def CsE (sz : Nat) (E : Heap → α → List Value → Prop) (m : Heap) : List α → List Value → Prop
 | [], cs => cs = []
 | x :: l, cs => ∃ c1 c2, cs = c1 ++ c2 ∧ c1.length = sz ∧ E m x c1 ∧ CsE sz E m l c2
theorem CsE.nil : CsE sz E m ([] : List α) [] := rfl
theorem CsE.cons {c1 : List Value} (h1 : E m x c1) (h2 : c1.length = sz) (h : CsE sz E m l cs) : CsE sz E m (x :: l) (c1 ++ cs) := ⟨c1, cs, rfl, h2, h1, h⟩
theorem CsE.len : ∀ {l : List α} {cs : List Value}, CsE sz E m l cs → cs.length = l.length * sz := by
 intro l
 induction l with
 | nil => intro cs h; rw [show cs = [] from h]; simp
 | cons x l ih => rintro cs ⟨c1, c2, rfl, h1, h2, h3⟩; rw [List.length_append, ih h3, h1, List.length_cons, Nat.succ_mul, Nat.add_comm]
theorem CsE.sub (T : Tell sz E) (s : Sub m h) : ∀ {l : List α} {cs : List Value}, CsE sz E m l cs → CsE sz E h l cs := by
 intro l
 induction l with
 | nil => intro cs h; exact h
 | cons x l ih => rintro cs ⟨c1, c2, rfl, h1, h2, h3⟩; exact ⟨c1, c2, rfl, h1, T.mono _ _ _ _ s h2, ih h3⟩
theorem CsE.get : ∀ {l : List α} {cs : List Value} {i : Nat}, CsE sz E m l cs → l[i]? = some y → E m y ((cs.drop (i * sz)).take sz) ∧ i * sz + sz ≤ cs.length := by
 intro l
 induction l with
 | nil => intro cs i h h'; cases h'
 | cons x l ih =>
   rintro cs i ⟨c1, c2, rfl, h1, h2, h3⟩ hy
   cases i with
   | zero =>
     cases hy
     simp only [Nat.zero_mul, List.drop_zero]
     rw [← h1, List.take_left]
     exact ⟨h2, by simp⟩
   | succ i =>
     have := ih (i := i) h3 (by simpa using hy)
     rw [show (i + 1) * sz = c1.length + i * sz by rw [h1, Nat.succ_mul, Nat.add_comm], ← List.drop_drop, List.drop_left, List.length_append]
     exact ⟨this.1, by omega⟩
theorem Rd.tail (r : Rd sz E m A (x :: l)) : ∀ a, A = some a → Rd sz E m (some (a.add sz)) l := by
 intro a ha i hi
 obtain ⟨a', cs, h1, h2, h3⟩ := r (i + 1) (by simpa using hi)
 rw [ha] at h1; cases h1
 refine ⟨_, cs, rfl, ?_, h3⟩
 rw [add_add, show sz + i * sz = (i + 1) * sz by rw [Nat.succ_mul, Nat.add_comm]]; exact h2
theorem Rd.cse (T : Tell sz E) : ∀ {l : List α} {a : Addr}, Rd sz E m (some a) l → ∃ cs, cellsH m a 0 (l.length * sz) = some cs ∧ CsE sz E m l cs := by
 intro l
 induction l with
 | nil => intro a r; exact ⟨[], by simp [cellsH], rfl⟩
 | cons x l ih =>
   intro a r
   obtain ⟨cs, h1, h2⟩ := ih (r.tail a rfl)
   obtain ⟨a', c1, h3, h4, h5⟩ := r 0 (by simp)
   cases h3
   rw [Nat.zero_mul, show a.add 0 = a from rfl] at h4
   refine ⟨c1 ++ cs, ?_, c1, cs, rfl, T.len _ _ _ h5, h5, h2⟩
   rw [List.length_cons, Nat.succ_mul, Nat.add_comm]
   refine cellsH_append h4 ?_
   rw [cellsH_shift] at h1
   simpa using h1
theorem CsE.rd {b : Nat} {t : TypeId} {pre rest : List Value} (hb : Blk h b (pre ++ cs ++ rest) t) (hc : CsE sz E m l cs) (hm : ∀ x cs, E m x cs → E h x cs) : Rd sz E h (some ⟨b, pre.length, none⟩) l := by
 intro i hi
 have hg := hc.get (List.getElem?_eq_getElem hi)
 refine ⟨_, _, rfl, ?_, hm _ _ hg.1⟩
 have := hb.cells (a := (⟨b, pre.length, none⟩ : Addr).add (i * sz)) (by rw [add_block]) (add_spot _ rfl) sz 0 (by rw [add_off, List.length_append, List.length_append]; simp only [Nat.add_zero]; omega)
 rw [this, add_off]
 simp only [Nat.add_zero]
 rw [List.append_assoc, ← List.drop_drop, List.drop_left, List.drop_append_of_le_length (by omega), List.take_append_of_le_length (by rw [List.length_drop]; omega)]
def OS (W : Nat → Prop) (h0 : Heap) (sz : Nat) (E : Heap → α → List Value → Prop) (h m : Heap) (A : Option Addr) (l : List α) (c : Nat) : Prop :=
 (l = [] ∧ c = 0) ∨ ∃ b t pre cs rest, A = some ⟨b, pre.length, none⟩ ∧ Blk h b (pre ++ cs ++ rest) t ∧ CsE sz E m l cs ∧ l.length ≤ c ∧ (c - l.length) * sz ≤ rest.length ∧ (h0.size ≤ b ∨ W b) ∧ ¬ Live m b
theorem OS.rd (o : OS W h0 sz E h m A l c) (T : Tell sz E) (s : Sub m h) : Rd sz E h A l := by
 rcases o with ⟨rfl, rfl⟩ | ⟨b, t, pre, cs, rest, h1, h2, h3, h4, h5, h6, h7⟩
 · exact .nil
 · subst h1
   exact CsE.rd h2 (h3.sub T s) (fun _ _ h => h)
def OB (W : Nat → Prop) (h0 h m : Heap) (b : Nat) (cs : List Value) (t : TypeId) : Prop := Blk h b cs t ∧ (h0.size ≤ b ∨ W b) ∧ ¬ Live m b
variable {b : Nat} {t : TypeId}
theorem OB.all (o : OB W h0 h m b cs t) : cellsH h ⟨b, 0, none⟩ 0 cs.length = some cs := by
 have := o.1.cells (a := ⟨b, 0, none⟩) rfl rfl cs.length 0 (by simp)
 simpa using this
end
end Go.Hw

end
section
namespace Go.Hw
def LeO {β : Type} (a b : Option β) : Prop := ∀ r, a = some r → b = some r
theorem LeO.refl {β : Type} (a : Option β) : LeO a a := fun _ h => h
theorem LeO.bind {β γ : Type} {a b : Option β} {f g : β → Option γ} (h : LeO a b) (k : ∀ x, LeO (f x) (g x)) : LeO (a.bind f) (b.bind g) := by
 intro r hr
 cases a with
 | none => cases hr
 | some x => rw [h x rfl]; exact k x r hr
theorem LeO.ite {β : Type} {p : Prop} [Decidable p] {a b a' b' : Option β} (h : LeO a a') (k : LeO b b') : LeO (if p then a else b) (if p then a' else b') := by
 by_cases c : p
 · rw [if_pos c, if_pos c]; exact h
 · rw [if_neg c, if_neg c]; exact k
section
variable {α : Type} {β : α → Type} {F : ((x : α) → Option (β x)) → (x : α) → Option (β x)}
def MonoF (F : ((x : α) → Option (β x)) → (x : α) → Option (β x)) : Prop := ∀ f g, (∀ x, LeO (f x) (g x)) → ∀ x, LeO (F f x) (F g x)
def FixR (F : ((x : α) → Option (β x)) → (x : α) → Option (β x)) (x : α) (r : β x) : Prop :=
 ∀ I : (x : α) → β x → Prop, (∀ f, (∀ x r, f x = some r → I x r) → ∀ x r, F f x = some r → I x r) → I x r
theorem FixR.close {f : (x : α) → Option (β x)} (hf : ∀ x r, f x = some r → FixR F x r) {x : α} {r : β x} (h : F f x = some r) : FixR F x r :=
 fun I hI => hI f (fun y s hs => hf y s hs I hI) x r h
theorem FixR.uniq (M : MonoF F) {x : α} {r r' : β x} (h : FixR F x r) (h' : FixR F x r') : r = r' := by
 refine (h (fun x r => FixR F x r ∧ ∀ r', FixR F x r' → r = r') ?_).2 r' h'
 intro f hf x r hr
 refine ⟨FixR.close (fun y s hs => (hf y s hs).1) hr, fun s hs => ?_⟩
 have key := hs (fun y s => FixR F y s ∧ ∀ e : x = y, (e ▸ r) = s) ?_
 · exact key.2 rfl
 intro f' hf' y t ht
 refine ⟨FixR.close (fun z s hs => (hf' z s hs).1) ht, ?_⟩
 rintro rfl
 let g : (x : α) → Option (β x) := fun z => match f z with | some u => some u | none => f' z
 have hfg : ∀ z, LeO (f z) (g z) := fun z u hu => by simp only [g, hu]
 have hfg' : ∀ z, LeO (f' z) (g z) := by
   intro z u hu
   simp only [g]
   cases hz : f z with
   | none => exact hu
   | some w => simp only; rw [(hf z w hz).2 u (hf' z u hu).1]
 have e1 := M f g hfg _ _ hr
 have e2 := M f' g hfg' _ _ ht
 rw [e1] at e2
 exact Option.some.inj e2
open Classical in
noncomputable def fixF (F : ((x : α) → Option (β x)) → (x : α) → Option (β x)) (x : α) : Option (β x) := if h : ∃ r, FixR F x r then some (Classical.choose h) else none
theorem fixF_iff (M : MonoF F) {x : α} {r : β x} : fixF F x = some r ↔ FixR F x r := by
 unfold fixF
 constructor
 · intro h
   split at h
   · rename_i hx; cases h; exact Classical.choose_spec hx
   · cases h
 · intro h
   rw [dif_pos ⟨r, h⟩, FixR.uniq M (Classical.choose_spec (⟨r, h⟩ : ∃ r, FixR F x r)) h]
theorem fixF_eq (M : MonoF F) (x : α) : fixF F x = F (fixF F) x := by
 have h1 : ∀ r, fixF F x = some r → F (fixF F) x = some r := by
   intro r hr
   refine ((fixF_iff M).1 hr (fun x r => FixR F x r ∧ F (fixF F) x = some r) ?_).2
   intro f hf y s hs
   refine ⟨FixR.close (fun z s hs => (hf z s hs).1) hs, ?_⟩
   exact M f (fixF F) (fun z u hu => (fixF_iff M).2 (hf z u hu).1) _ _ hs
 have h2 : ∀ r, F (fixF F) x = some r → fixF F x = some r := fun r hr => (fixF_iff M).2 (FixR.close (fun y s hs => (fixF_iff M).1 hs) hr)
 cases h : fixF F x with
 | some r => exact (h1 r h).symm
 | none =>
   cases k : F (fixF F) x with
   | none => rfl
   | some r => rw [h2 r k] at h; cases h
theorem fixF_ind (M : MonoF F) {I : (x : α) → β x → Prop} (hI : ∀ f, (∀ x r, f x = some r → I x r) → ∀ x r, F f x = some r → I x r) {x : α} {r : β x} (h : fixF F x = some r) : I x r := (fixF_iff M).1 h I hI
end
end Go.Hw

end
section
namespace Go.Hw
open Go
section tests
variable {A B : Prop} {β γ : Type} {a b : Option β} {r : β}
theorem bind_e {a : Option γ} {f : γ → Option β} (e : a.bind f = some r) : ∃ x, a = some x ∧ f x = some r := by
 cases a with
 | none => cases e
 | some x => exact ⟨x, rfl, e⟩
theorem guard_e {p : Prop} [Decidable p] (e : (if p then a else none) = some r) : p ∧ a = some r := by
 by_cases h : p
 · rw [if_pos h] at e; exact ⟨h, e⟩
 · rw [if_neg h] at e; cases e
theorem split_dec_e {p : Prop} [Decidable p] (e : (if p then a else b) = some r) (hA : p → a = some r → A) (hB : ¬ p → b = some r → B) : splitB (decide p) A B := by
 by_cases h : p
 · rw [if_pos h] at e; rw [decide_eq_true h]; exact hA h e
 · rw [if_neg h] at e; rw [decide_eq_false h]; exact hB h e
theorem split_eq_e {x y : Int} (e : (if x = y then a else b) = some r) (hA : x = y → a = some r → A) (hB : x ≠ y → b = some r → B) : splitB (x == y) A B := by
 by_cases h : x = y
 · rw [if_pos h] at e; rw [show (x == y) = true from beq_iff_eq.2 h]; exact hA h e
 · rw [if_neg h] at e; rw [show (x == y) = false from beq_eq_false_iff_ne.2 h]; exact hB h e
theorem split_ne_e {x y : Int} (e : (if x = y then b else a) = some r) (hA : x ≠ y → a = some r → A) (hB : x = y → b = some r → B) : splitB (x != y) A B := by
 by_cases h : x = y
 · rw [if_pos h] at e; rw [show (x != y) = false from bne_eq_false_iff_eq.2 h]; exact hB h e
 · rw [if_neg h] at e; rw [show (x != y) = true from bne_iff_ne.2 h]; exact hA h e
theorem split_any_e {t : Bool} (e : (if t = true then a else b) = some r) (hA : t = true → a = some r → A) (hB : t = false → b = some r → B) : splitB t A B := by
 cases t
 · exact hB rfl e
 · exact hA rfl e
theorem ba_list (s t : ByteArray) : (ByteArray.toList s == ByteArray.toList t) = decide (s = t) := by
 by_cases h : s = t
 · subst h; simp
 · rw [decide_eq_false h]
   exact beq_eq_false_iff_ne.2 fun e => h (ba_toList e)
end tests
section
variable {α : Type} {l : List α} {x : Int} {y : α}
def gi (l : List α) (x : Int) : Option α := if 0 ≤ x then l[x.toNat]? else none
theorem gi_nat (l : List α) (k : Nat) : gi l (k : Int) = l[k]? := by unfold gi; rw [if_pos (by omega)]; rfl
theorem gi_le (g : gi l x = some y) : 0 ≤ x := by unfold gi at g; split at g; assumption; cases g
theorem gi_get (g : gi l x = some y) : l[x.toNat]? = some y := by unfold gi at g; split at g; exact g; cases g
theorem gi_lt (g : gi l x = some y) : x < (l.length : Int) := by
 have h1 := gi_get g
 have h2 := gi_le g
 have := (List.getElem?_eq_some_iff.1 h1).1
 omega
theorem gi_ltN (g : gi l x = some y) : x.toNat < l.length := (List.getElem?_eq_some_iff.1 (gi_get g)).1
def gb (s : ByteArray) (x : Int) : Option Int := if 0 ≤ x then s[x.toNat]?.map fun b => ((UInt8.toNat b : Nat) : Int) else none
theorem gb_e {s : ByteArray} {x y : Int} (g : gb s x = some y) : 0 ≤ x ∧ ∃ b, s[x.toNat]? = some b ∧ y = ((UInt8.toNat b : Nat) : Int) := by
 unfold gb at g
 split at g
 · rename_i h
   cases hb : s[x.toNat]? with
   | none => rw [hb] at g; cases g
   | some b => rw [hb] at g; cases g; exact ⟨h, b, rfl, rfl⟩
 · cases g
def sl (l : List α) (lo hi : Int) : List α := (l.take hi.toNat).drop lo.toNat
end
section
variable {α : Type} {sz : Nat} {E : Heap → α → List Value → Prop} {m m' h h' h0 m0 : Heap} {A : Option Addr} {l : List α} {c n k : Nat} {cs : List Value} {x : Int} {y : α} {W : Nat → Prop} {a : Addr} {v : Value} {b : Nat} {t : TypeId}
theorem Rd.addr {K : Addr → Prop} (r : Rd sz E m A l) (hn : n = l.length) (g : gi l x = some y) (hk : ∀ a cs, A = some a → cellsH m (a.add (Int.toNat x * sz)) 0 sz = some cs → E m y cs → K a) : ptrOk A fun a => 0 ≤ x ∧ x < ((n : Nat) : Int) ∧ K a := by
 subst hn
 have h1 := gi_get g
 obtain ⟨hi, h2⟩ := List.getElem?_eq_some_iff.1 h1
 obtain ⟨a, cs, rfl, h3, h4⟩ := r _ hi
 rw [h2] at h4
 exact ⟨gi_le g, gi_lt g, hk a cs rfl h3 h4⟩
theorem OS.cellsAt (o : OS W h0 sz E h m A l c) (g : gi l x = some y) : ∃ a cs, A = some a ∧ cellsH h (a.add (Int.toNat x * sz)) 0 sz = some cs ∧ E m y cs := by
 have h1 := gi_get g
 rcases o with ⟨rfl, rfl⟩ | ⟨b, t, pre, cs, rest, rfl, h3, h4, h5, h6, h7⟩
 · cases h1
 have h8 := h4.get h1
 refine ⟨_, _, rfl, ?_, h8.1⟩
 have := h3.cells (a := (⟨b, pre.length, none⟩ : Addr).add (x.toNat * sz)) (by rw [add_block]) (add_spot _ rfl) sz 0 (by rw [add_off, List.length_append, List.length_append]; simp only [Nat.add_zero]; omega)
 rw [this, add_off]
 simp only [Nat.add_zero]
 rw [List.append_assoc, ← List.drop_drop, List.drop_left, List.drop_append_of_le_length (by omega), List.take_append_of_le_length (by rw [List.length_drop]; omega)]
theorem OS.addr {K : Addr → Prop} (o : OS W h0 sz E h m A l c) (hn : n = l.length) (g : gi l x = some y) (hk : ∀ a cs, A = some a → cellsH h (a.add (Int.toNat x * sz)) 0 sz = some cs → E m y cs → K a) : ptrOk A fun a => 0 ≤ x ∧ x < ((n : Nat) : Int) ∧ K a := by
 subst hn
 obtain ⟨a, cs, rfl, h1, h2⟩ := o.cellsAt g
 exact ⟨gi_le g, gi_lt g, hk a cs rfl h1 h2⟩
theorem ld0 (s : Sub m h) (hc : cellsH m a 0 n = some cs) (hv : cs[0]? = some v) : ldv false 1 h a = some v := by
 have h1 : cellH h (a.add 0) = some v := cellsH_get (s.cells _ _ hc) hv
 exact h1
theorem ldk (s : Sub m h) (hc : cellsH m a 0 n = some cs) (hv : cs[k]? = some v) : ldv false 1 h (Addr.add a k) = some v := by
 have := cellsH_get (s.cells _ _ hc) hv
 simpa [ldv] using this
theorem ldA (s : Sub m h) (hc : cellsH m a 0 n = some cs) : ldv true n h a = some (.agg cs.toArray) := by
 simp only [ldv, s.cells _ _ hc, Option.map_some]
theorem OB.st (o : OB W h0 h m b cs t) (s : Sub m h) (hk : k < cs.length) (hf : Flat v) : ∃ h', st1 h (Addr.add ⟨b, 0, none⟩ k) v = some h' ∧ OB W h0 h' m b (cs.set k v) t ∧ St (fb b) h m h' m := by
 obtain ⟨h', h1, h2, h3⟩ := o.1.st (a := Addr.add ⟨b, 0, none⟩ k) (v := v) (add_block _ _) (add_spot _ rfl) (by rw [add_off]; simpa using hk) hf
 rw [add_off, Nat.zero_add] at h2
 exact ⟨h', h1, ⟨h2, o.2⟩, .only s o.2.2 h3⟩
theorem OB.stA (o : OB W h0 h m b cs t) (s : Sub m h) (l : List Value) (hn : l.length = cs.length) (hf : ∀ v ∈ l, Flat v) : ∃ h', stH h ⟨b, 0, none⟩ l 0 = some h' ∧ OB W h0 h' m b l t ∧ St (fb b) h m h' m := by
 obtain ⟨h', h1, h2, h3⟩ := o.1.stAll l hn hf
 exact ⟨h', h1, ⟨h2, o.2⟩, .only s o.2.2 h3⟩
theorem zc_len {z : Array Value} {n : Nat} : (zcells z n).toList.length = n * z.size := by rw [Array.length_toList, zcells_size]
def Src (sz : Nat) (E : Heap → α → List Value → Prop) (h m : Heap) (x : Value) (xs : List α) : Prop := ∃ es, srcCells sz x h = some (xs.length, es) ∧ CsE sz E m xs es
theorem Rd.srcE (r : Rd sz E m A l) (T : Tell sz E) (s : Sub m h) (hn : n = l.length) : Src sz E h m (.slice A n c) l := by
 subst hn
 cases A with
 | none =>
   have : l = [] := by
     cases l with
     | nil => rfl
     | cons x l => obtain ⟨a, _, h1, _⟩ := r 0 (by simp); cases h1
   subst this
   exact ⟨[], rfl, rfl⟩
 | some a =>
   obtain ⟨es, h1, h2⟩ := Rd.cse T r
   exact ⟨es, by simp only [srcCells, s.cells _ _ h1, Option.map_some], h2⟩
theorem OS.srcE {c' : Nat} (o : OS W h0 sz E h m A l c) (hn : n = l.length) : Src sz E h m (.slice A n c') l := by
 subst hn
 rcases o with ⟨rfl, rfl⟩ | ⟨b, t, pre, cs, rest, rfl, k1, k2, k3, k4, k5⟩
 · refine ⟨[], ?_, rfl⟩
   cases A with
   | none => rfl
   | some a => simp [srcCells, cellsH]
 · refine ⟨cs, ?_, k2⟩
   have hl := k2.len
   have := k1.cells (a := ⟨b, pre.length, none⟩) rfl rfl (l.length * sz) 0 (by simp [hl])
   simp only [srcCells, this, Nat.add_zero]
   rw [List.append_assoc, List.drop_left, List.take_append_of_le_length (by omega), List.take_of_length_le (by omega)]; rfl
theorem str_src {h m : Heap} (s : ByteArray) : Src 1 (eInt .u8) h m (.string s) (s.data.toList.map fun b => ((UInt8.toNat b : Nat) : Int)) := by
 refine ⟨s.data.toList.map fun b => .int .u8 b.toNat, ?_, ?_⟩
 · simp [srcCells]
 · generalize s.data.toList = l
   induction l with
   | nil => rfl
   | cons b l ih => exact ⟨[_], _, rfl, rfl, rfl, ih⟩
def ap (B : Nat) (l xs : List α) : Option (List α) := if (l.length + xs.length) * B ≤ 140737488355328 then some (l ++ xs) else none
theorem ap_e {B : Nat} {l xs l' : List α} (g : ap B l xs = some l') : (l.length + xs.length) * B ≤ 140737488355328 ∧ l ++ xs = l' := by
 unfold ap at g
 obtain ⟨h, k⟩ := guard_e g
 exact ⟨h, Option.some.inj k⟩
end
end Go.Hw

end
section
namespace Go.Hw
open Go
section
variable {α : Type} {sz : Nat} {E : Heap → α → List Value → Prop} {m m' h h' h0 m0 : Heap} {A : Option Addr} {l : List α} {c n k : Nat} {x : Int} {W : Nat → Prop}
theorem gen_b2s' {P : Program} {src dst e : TypeId} {bs : List Int} {K : Value → Heap → Prop} (hsrc : P.underlying src = some (.slice e)) (hdst : P.underlying dst = some .string) (he : P.underlying e = some (.int .u8)) (hr : Rd 1 (eInt .u8) h A bs) (hn : n = bs.length)
   (hk : K (.string (bytesOf bs)) h) : Gen P (convert src dst (.slice A n c)) h K := by
 subst hn; exact gen_b2s hsrc hdst he hr hk
end
section
variable {α : Type} {sz : Nat} {E : Heap → α → List Value → Prop} {m m' mL h h' h0 m0 : Heap} {A : Option Addr} {l : List α} {c b : Nat} {cs : List Value} {t : TypeId} {W W' : Nat → Prop}
theorem St.unlend (T : St W' h mL h' m') (s : Sub m h) (hd : ∀ b, W' b → ¬ Live m b) : St W' h m h' m where
 up := .refl _
 s b o h1 h2 := by
   rw [T.fr b (s.lt ⟨o, h1, h2⟩) (fun hw => hd b hw ⟨o, h1, h2⟩)]; exact s b o h1 h2
 size := T.size
 fr := T.fr
 lv b _ hl := .inl hl
end
section
variable {κ ν : Type} [DecidableEq κ] {h h' m m' h0 m0 : Heap} {b : Nat} {W W' : Nat → Prop} {kv : κ → Value} {es : List (κ × ν)} {vs : List (κ × Value)} {k : κ} {x zv : ν} {v z : Value} {P : Program} {t elem : TypeId} {sz : Nat}
def MonoV (EV : Heap → ν → Value → Prop) : Prop := ∀ m h x v, Sub m h → EV m x v → EV h x v
variable {EV : Heap → ν → Value → Prop}
end
section
variable {α : Type} {f : α → Value} {d : α} {L : List α} {n : Nat}
def eArr (n : Nat) (f : α → Value) (d : α) (_ : Heap) (x : List α) (cs : List Value) : Prop := x.length = n ∧ cs = (List.range n).map fun j => f (x.getD j d)
theorem arr_lit (hl : L.length = n) : (List.range n).map (fun j => f (L.getD j d)) = L.map f := by
 subst hl
 apply List.ext_getElem
 · simp
 · intro i h1 h2
   have : i < L.length := by simpa using h1
   simp [List.getD_eq_getElem?_getD, this]
theorem gi_ltn {i : Int} {y : α} (g : gi L i = some y) (hl : L.length = n) : i < ((n : Nat) : Int) := by have := gi_lt g; rw [hl] at this; exact this
theorem arr_set {i : Int} {v : α} (hl : L.length = n) : ((List.range n).map fun j => f (L.getD j d)).set i.toNat (f v) = (List.range n).map fun j => f ((L.set i.toNat v).getD j d) := by
 rw [arr_lit hl, arr_lit (by rw [List.length_set]; exact hl), List.map_set]
theorem OB.stArr {W : Nat → Prop} {h0 h m : Heap} {b off : Nat} {cs : List Value} {t : TypeId} {i : Int} {y v : α} (o : OB W h0 h m b cs t) (s : Sub m h) (hs : (cs.drop off).take n = (List.range n).map fun j => f (L.getD j d)) (hn : off + n ≤ cs.length) (hl : L.length = n) (g : gi L i = some y) (hf : Flat (f v)) :
   ∃ h', st1 h (Addr.add (Addr.add ⟨b, 0, none⟩ off) (Int.toNat i * 1)) (f v) = some h' ∧ OB W h0 h' m b (cs.take off ++ ((List.range n).map fun j => f ((L.set (Int.toNat i) v).getD j d)) ++ cs.drop (off + n)) t ∧ St (fb b) h m h' m := by
 have hlt : i.toNat < n := by have := gi_ltN g; omega
 rw [Nat.mul_one, add_add]
 obtain ⟨h', h1, h2, h3⟩ := o.st (k := off + i.toNat) (v := f v) s (by omega) hf
 refine ⟨h', h1, ?_, h3⟩
 have e : cs.set (off + i.toNat) (f v) = cs.take off ++ ((List.range n).map fun j => f ((L.set (Int.toNat i) v).getD j d)) ++ cs.drop (off + n) := by
   rw [← arr_set hl, ← hs]
   conv => lhs; rw [← List.take_append_drop off cs, List.set_append_right _ _ (by rw [List.length_take]; omega)]
   rw [show off + i.toNat - (cs.take off).length = i.toNat by rw [List.length_take]; omega, List.append_assoc]
   congr 1
   conv => lhs; rw [← List.take_append_drop n (cs.drop off), List.set_append_left _ _ (by rw [List.length_take, List.length_drop]; omega), List.drop_drop]
 rw [← e]; exact h2
theorem OB.stArr0 {W : Nat → Prop} {h0 h m : Heap} {b : Nat} {cs : List Value} {t : TypeId} {i : Int} {y v : α} (o : OB W h0 h m b cs t) (s : Sub m h) (hs : (cs.drop 0).take n = (List.range n).map fun j => f (L.getD j d)) (hn : 0 + n ≤ cs.length) (hl : L.length = n) (g : gi L i = some y) (hf : Flat (f v)) :
   ∃ h', st1 h (Addr.add ⟨b, 0, none⟩ (Int.toNat i * 1)) (f v) = some h' ∧ OB W h0 h' m b (cs.take 0 ++ ((List.range n).map fun j => f ((L.set (Int.toNat i) v).getD j d)) ++ cs.drop (0 + n)) t ∧ St (fb b) h m h' m := o.stArr (off := 0) s hs hn hl g hf
end
section
variable {H : Type} {enc : TypeId × Value → H} {P : Program} {W : World}
theorem tells_i64 {t : TypeId} (hu : P.underlying t = some (.int .i64)) : Tells enc P W t (eInt .i64) (fun x => -9223372036854775808 ≤ x ∧ x ≤ 9223372036854775807) := tells_map (tells_int hu) fun a _ h q => ⟨a, h, wf_i64 q⟩
theorem tells_strL {t : TypeId} (hu : P.underlying t = some .string) : Tells enc P W t eStr (fun s => s.size ≤ 140737488351232) := tells_map (tells_str hu) fun a _ h q => ⟨a, h, q⟩
end
end Go.Hw

end
section
namespace Go.Hw
open Go
section
variable {α β : Type}
theorem ap_of {B : Nat} {l xs : List α} (h : (l.length + xs.length) * B ≤ 140737488355328) : ap B l xs = some (l ++ xs) := by unfold ap; rw [if_pos h]
theorem ap_one {B : Nat} {l : List α} {x : α} (h : (l.length + 1) * B ≤ 140737488355328) : ap B l [x] = some (l ++ [x]) := ap_of (by simpa using h)
theorem gi_at {l : List α} {k : Nat} (h : k < l.length) : gi l (k : Int) = some l[k] := by rw [gi_nat]; exact List.getElem?_eq_getElem h
theorem w_succ {k : Nat} (h : k < 9223372036854775807) : IntKind.wrap .i64 ((k : Int) + 1) = ((k + 1 : Nat) : Int) := by rw [wrap_in (by omega) (by omega)]; rfl
theorem index_val [DecidableEq α] {f : List α → α → Int → Int → Option Int}
   (hf : ∀ a v n i, f a v n i = if i < n then (Option.bind (gi a i) fun y => if v = y then some i else f a v n (IntKind.wrap .i64 (i + 1))) else some (-1))
   {l : List α} (v : α) (hl : l.length ≤ 4611686018427387904) : f l v (l.length : Int) 0 = some (idxOf (fun y => decide (v = y)) l) := by
 have key : ∀ (d k : Nat), k + d = l.length → (∀ x ∈ l.take k, decide (v = x) = false) → f l v (l.length : Int) (k : Int) = some (idxOf (fun y => decide (v = y)) l) := by
   intro d
   induction d with
   | zero =>
     intro k hk hn
     rw [hf, if_neg (by omega)]
     have : l.findIdx? (fun y => decide (v = y)) = none := by
       rw [List.findIdx?_eq_none_iff]
       rw [List.take_of_length_le (by omega)] at hn
       exact hn
     simp [idxOf, this]
   | succ d ih =>
     intro k hk hn
     have hlt : k < l.length := by omega
     rw [hf, if_pos (by omega), gi_at hlt, Option.bind_some]
     by_cases hq : v = l[k]
     · rw [if_pos hq]
       have : l.findIdx? (fun y => decide (v = y)) = some k := by
         rw [List.findIdx?_eq_some_iff_getElem]
         refine ⟨hlt, decide_eq_true hq, fun j hj => ?_⟩
         have := hn l[j] (by rw [List.mem_take_iff_getElem]; exact ⟨j, by omega, rfl⟩)
         rw [this]; simp
       simp [idxOf, this]
     · rw [if_neg hq, w_succ (by omega)]
       refine ih (k + 1) (by omega) (fun x hx => ?_)
       rw [List.take_succ_eq_append_getElem hlt] at hx
       rcases List.mem_append.1 hx with hx | hx
       · exact hn x hx
       · simp at hx; subst hx; exact decide_eq_false hq
 exact key l.length 0 (by omega) (fun x hx => by simp at hx)
theorem contains_any [DecidableEq α] {f : List α → α → Int → Int → Option Int} {g : List α → α → Option Int} {c : List α → α → Option Bool}
   (hf : ∀ a v n i, f a v n i = if i < n then (Option.bind (gi a i) fun y => if v = y then some i else f a v n (IntKind.wrap .i64 (i + 1))) else some (-1))
   (hg : ∀ a v, g a v = f a v (a.length : Int) 0) (hc : ∀ a v, c a v = Option.bind (g a v) fun y => some (decide (y ≥ 0)))
   {l : List α} (v : α) (hl : l.length ≤ 4611686018427387904) : c l v = some (l.any fun y => decide (v = y)) := by
 rw [hc, hg, index_val hf v hl, Option.bind_some, idxOf_ge]
end
section
open Go.RowKit
variable {H : Type} {enc : TypeId × Value → H} {P : Program} {W : World} {N : Nat}
end
end Go.Hw

end
section
set_option linter.unusedVariables false
namespace Go.Hw
open Go
abbrev Foot := Nat → Prop
def U (F G : Foot) : Foot := fun b => F b ∨ G b
section
variable {F G H F' G' : Foot}
theorem U.no_left : U No F = F := funext fun _ => propext ⟨fun h => h.elim (fun h => h.elim) id, .inr⟩
theorem U.no_right : U F No = F := funext fun _ => propext ⟨fun h => h.elim id (fun h => h.elim), .inl⟩
theorem U.assoc : U (U F G) H = U F (U G H) := funext fun _ => propext or_assoc
theorem U.comm : U F G = U G F := funext fun _ => propext or_comm
theorem U.left_comm : U F (U G H) = U G (U F H) := by rw [← U.assoc, U.comm (F := F), U.assoc]
theorem Dj.u (d : Dj F H) (d' : Dj G H) : Dj (U F G) H := fun b h k => h.elim (fun h => d b h k) (fun h => d' b h k)
theorem Dj.ul (d : Dj (U F G) H) : Dj F H := fun b h k => d b (.inl h) k
theorem Dj.ur (d : Dj (U F G) H) : Dj G H := fun b h k => d b (.inr h) k
theorem Dj.u' (d : Dj H F) (d' : Dj H G) : Dj H (U F G) := fun b k h => h.elim (fun h => d b k h) (fun h => d' b k h)
theorem Dj.ul' (d : Dj H (U F G)) : Dj H F := fun b k h => d b k (.inl h)
theorem Dj.ur' (d : Dj H (U F G)) : Dj H G := fun b k h => d b k (.inr h)
theorem Dj.no' : Dj F No := fun _ _ h => h
theorem Dj.mono (d : Dj F G) (h1 : ∀ b, F' b → F b) (h2 : ∀ b, G' b → G b) : Dj F' G' := fun b k l => d b (h1 b k) (h2 b l)
end
structure Res where
 p : Heap → Heap → Foot → Prop
 z : Heap → Prop
 lt : ∀ {h m F}, p h m F → ∀ b, F b → b < h.size
 nl : ∀ {h m F}, p h m F → ∀ b, F b → ¬ Live m b
 fr : ∀ {h m F h' m'}, p h m F → (∀ b, F b → h'[b]? = h[b]?) → Sub m m' → (∀ b, F b → ¬ Live m' b) → p h' m' F
 fz : ∀ {h m F G}, p h m F → Sub m h → (∀ b, F b → G b) → z (addV m h G)
def Res.vf (R : Res) : Prop := ∀ h m m' F, R.p h m F → Sub m' h → (∀ b, F b → ¬ Live m' b) → R.p h m' F
def rE : Res where
 p _ _ F := F = No
 z _ := True
 lt := by rintro h m F rfl b hb; exact hb.elim
 nl := by rintro h m F rfl b hb; exact hb.elim
 fr := fun h _ _ _ => h
 fz := fun _ _ _ => trivial
def Sep : List Res → Heap → Heap → Foot → Prop
 | [], _, _, F => F = No
 | R :: Rs, h, m, F => ∃ F1 F2, R.p h m F1 ∧ Sep Rs h m F2 ∧ Dj F1 F2 ∧ F = U F1 F2
def ZAll (m : Heap) : List Res → Prop
 | [] => True
 | R :: Rs => R.z m ∧ ZAll m Rs
def takeL : List Res → List Nat → List Res
 | _, [] => []
 | Rs, i :: is => (match Rs[i]? with | some R => R | none => rE) :: takeL (Rs.set i rE) is
def dropL : List Res → List Nat → List Res
 | Rs, [] => Rs
 | Rs, i :: is => dropL (Rs.set i rE) is
section
variable {h h' m m' : Heap} {F F1 F2 G : Foot} {Rs Rs' : List Res} {R R' : Res} {k : Nat}
theorem Sep.lt : ∀ {Rs : List Res} {F : Foot}, Sep Rs h m F → ∀ b, F b → b < h.size
 | [], _, hs, b, hb => by rw [show _ = No from hs] at hb; exact hb.elim
 | _ :: _, _, ⟨_, _, h1, h2, _, rfl⟩, b, hb => hb.elim (Res.lt _ h1 b) (Sep.lt h2 b)
theorem Sep.nl : ∀ {Rs : List Res} {F : Foot}, Sep Rs h m F → ∀ b, F b → ¬ Live m b
 | [], _, hs, b, hb => by rw [show _ = No from hs] at hb; exact hb.elim
 | _ :: _, _, ⟨_, _, h1, h2, _, rfl⟩, b, hb => hb.elim (Res.nl _ h1 b) (Sep.nl h2 b)
theorem Sep.fr : ∀ {Rs : List Res} {F : Foot}, Sep Rs h m F → (∀ b, F b → h'[b]? = h[b]?) → Sub m m' → (∀ b, F b → ¬ Live m' b) → Sep Rs h' m' F
 | [], _, hs, _, _, _ => hs
 | _ :: _, _, ⟨F1, F2, h1, h2, h3, rfl⟩, k1, k2, k3 => ⟨F1, F2, Res.fr _ h1 (fun b hb => k1 b (.inl hb)) k2 (fun b hb => k3 b (.inl hb)), Sep.fr h2 (fun b hb => k1 b (.inr hb)) k2 (fun b hb => k3 b (.inr hb)), h3, rfl⟩
theorem Sep.fz : ∀ {Rs : List Res} {F : Foot}, Sep Rs h m F → Sub m h → (∀ b, F b → G b) → ZAll (addV m h G) Rs
 | [], _, _, _, _ => trivial
 | _ :: _, _, ⟨F1, F2, h1, h2, h3, rfl⟩, k1, k2 => ⟨Res.fz _ h1 k1 (fun b hb => k2 b (.inl hb)), Sep.fz h2 k1 (fun b hb => k2 b (.inr hb))⟩
theorem Sep.vf : ∀ {Rs : List Res} {F : Foot}, Sep Rs h m F → (∀ R ∈ Rs, R.vf) → Sub m' h → (∀ b, F b → ¬ Live m' b) → Sep Rs h m' F
 | [], _, hs, _, _, _ => hs
 | R :: Rs, _, ⟨F1, F2, h1, h2, h3, rfl⟩, v, k1, k2 => ⟨F1, F2, v R (List.mem_cons_self ..) _ _ _ _ h1 k1 (fun b hb => k2 b (.inl hb)), Sep.vf h2 (fun R hR => v R (List.mem_cons_of_mem _ hR)) k1 (fun b hb => k2 b (.inr hb)), h3, rfl⟩
theorem Sep.get : ∀ {Rs : List Res} {F : Foot} {k : Nat}, Sep Rs h m F → Rs[k]? = some R → ∃ F1 F2, R.p h m F1 ∧ Sep (Rs.set k rE) h m F2 ∧ Dj F1 F2 ∧ F = U F1 F2
 | [], _, _, _, hk => by cases hk
 | R' :: Rs, _, 0, ⟨F1, F2, h1, h2, h3, e⟩, hk => by
   cases hk
   exact ⟨F1, F2, h1, ⟨No, F2, rfl, h2, .no, U.no_left.symm⟩, h3, e⟩
 | R' :: Rs, _, k + 1, ⟨F1, F2, h1, h2, h3, e⟩, hk => by
   obtain ⟨G1, G2, k1, k2, k3, rfl⟩ := Sep.get h2 (show Rs[k]? = some R by simpa using hk)
   refine ⟨G1, U F1 G2, k1, ⟨F1, G2, h1, k2, h3.ur', rfl⟩, ?_, ?_⟩
   · exact Dj.u' h3.ul'.symm k3
   · rw [e, U.left_comm]
theorem Sep.put : ∀ {Rs : List Res} {F2 : Foot} {k : Nat}, Sep Rs h m F2 → Rs[k]? = some rE → R'.p h m F1 → Dj F1 F2 → Sep (Rs.set k R') h m (U F1 F2)
 | [], _, _, _, hk, _, _ => by cases hk
 | R :: Rs, _, 0, ⟨G1, G2, h1, h2, h3, e⟩, hk, hp, d => by
   cases hk
   have : G1 = No := h1
   subst this
   rw [U.no_left] at e
   subst e
   exact ⟨F1, _, hp, h2, d, rfl⟩
 | R :: Rs, _, k + 1, ⟨G1, G2, h1, h2, h3, e⟩, hk, hp, d => by
   subst e
   have := Sep.put h2 (show Rs[k]? = some rE by simpa using hk) hp d.ur'
   exact ⟨G1, _, h1, this, Dj.u' d.ul'.symm h3, by rw [U.left_comm]⟩
theorem Sep.app : ∀ {Rs : List Res} {F : Foot}, Sep Rs h m F → Sep Rs' h m G → Dj F G → Sep (Rs ++ Rs') h m (U F G)
 | [], _, hs, hs', _ => by rw [show _ = No from hs, U.no_left]; exact hs'
 | R :: Rs, _, ⟨F1, F2, h1, h2, h3, e⟩, hs', d => by
   subst e
   exact ⟨F1, _, h1, Sep.app h2 hs' d.ur, Dj.u' h3 d.ul, U.assoc⟩
theorem Sep.one (hp : R.p h m F) : Sep [R] h m F := ⟨F, No, hp, rfl, .no', U.no_right.symm⟩
theorem set_rE (hk : Rs[k]? = some R) : (Rs.set k rE)[k]? = some rE := by
 have : k < Rs.length := (List.getElem?_eq_some_iff.1 hk).1
 rw [List.getElem?_set_self this]
theorem Sep.part : ∀ (is : List Nat) {Rs : List Res} {F : Foot}, Sep Rs h m F → ∃ F1 F2, Sep (takeL Rs is) h m F1 ∧ Sep (dropL Rs is) h m F2 ∧ Dj F1 F2 ∧ F = U F1 F2
 | [], Rs, F, hs => ⟨No, F, rfl, hs, .no, U.no_left.symm⟩
 | i :: is, Rs, F, hs => by
   cases hi : Rs[i]? with
   | none =>
     have : Rs.set i rE = Rs := List.set_eq_of_length_le (List.getElem?_eq_none_iff.1 hi)
     obtain ⟨F1, F2, h1, h2, h3, h4⟩ := Sep.part is (Rs := Rs.set i rE) (by rw [this]; exact hs)
     refine ⟨F1, F2, ?_, h2, h3, h4⟩
     simp only [takeL, hi]
     exact ⟨No, F1, rfl, h1, .no, U.no_left.symm⟩
   | some R =>
     obtain ⟨G1, G2, k1, k2, k3, rfl⟩ := Sep.get hs hi
     obtain ⟨F1, F2, h1, h2, h3, rfl⟩ := Sep.part is k2
     refine ⟨U G1 F1, F2, ?_, h2, Dj.u k3.ur' h3, U.assoc.symm⟩
     simp only [takeL, hi]
     exact ⟨G1, F1, k1, h1, k3.ul', rfl⟩
end
structure Hold (W : Foot) (h0 m0 h m : Heap) (Rs : List Res) : Prop where
 S : St W h0 m0 h m
 q : ∃ F, Sep Rs h m F ∧ ∀ b, F b → h0.size ≤ b ∨ W b
section
variable {h0 m0 h h' m m' : Heap} {W F F' G : Foot} {Rs Rs' : List Res} {R R' : Res} {k : Nat}
theorem Hold.s (O : Hold W h0 m0 h m Rs) : Sub m h := O.S.s
theorem Hold.start (s : Sub m h) : Hold W h m h m [] := ⟨.refl s, No, rfl, fun _ h => h.elim⟩
theorem St.frame (T : St F h m h' m') (h2 : Dj F G) (h3 : ∀ b, G b → b < h.size) (h4 : ∀ b, G b → ¬ Live m b) : (∀ b, G b → h'[b]? = h[b]?) ∧ ∀ b, G b → ¬ Live m' b :=
 ⟨fun b hb => T.fr b (h3 b hb) (fun hf => h2 b hf hb), fun b hb hl => (T.lv b (h3 b hb) hl).elim (h4 b hb) (fun hf => h2 b hf hb)⟩
theorem Hold.get (O : Hold W h0 m0 h m Rs) (k : Nat) (hk : Rs[k]? = some R) : ∃ F, R.p h m F ∧ (∀ b, F b → h0.size ≤ b ∨ W b) ∧
   ∀ {h' m' : Heap} {R' : Res} {F' : Foot}, St F h m h' m' → R'.p h' m' F' → (∀ b, F' b → F b ∨ h.size ≤ b) → Hold W h0 m0 h' m' (Rs.set k R') := by
 obtain ⟨S, FF, hs, hw⟩ := O
 obtain ⟨F1, F2, h1, h2, h3, rfl⟩ := hs.get hk
 refine ⟨F1, h1, fun b hb => hw b (.inl hb), fun {h' m' R' F'} T hp hn => ?_⟩
 obtain ⟨f1, f2⟩ := T.frame h3 h2.lt h2.nl
 have s2 := Sep.fr h2 f1 T.up f2
 have d : Dj F' F2 := fun b hb hc => (hn b hb).elim (fun hf => h3 b hf hc) (fun hl => by have := h2.lt b hc; omega)
 have := Sep.put s2 (set_rE hk) hp d
 rw [List.set_set] at this
 refine ⟨S.then T (fun b _ hb => hw b (.inl hb)), _, this, fun b hb => hb.elim (fun hb => (hn b hb).elim (fun hf => hw b (.inl hf)) (fun hl => .inl (Nat.le_trans S.size hl))) (fun hb => hw b (.inr hb))⟩
theorem Hold.add (O : Hold W h0 m0 h m Rs) (T : St No h m h' m') (hp : R.p h' m' F') (hn : ∀ b, F' b → h.size ≤ b) : Hold W h0 m0 h' m' (Rs ++ [R]) := by
 obtain ⟨S, F, hs, hw⟩ := O
 obtain ⟨f1, f2⟩ := T.frame (G := F) .no hs.lt hs.nl
 refine ⟨S.grow T, _, (Sep.fr hs f1 T.up f2).app (.one hp) (fun b hb hc => by have := hs.lt b hb; have := hn b hc; omega), fun b hb => hb.elim (hw b) (fun hb => .inl (Nat.le_trans S.size (hn b hb)))⟩
theorem Hold.grow (O : Hold W h0 m0 h m Rs) (T : St No h m h' m') : Hold W h0 m0 h' m' Rs := by
 obtain ⟨S, F, hs, hw⟩ := O
 obtain ⟨f1, f2⟩ := T.frame (G := F) .no hs.lt hs.nl
 exact ⟨S.grow T, F, Sep.fr hs f1 T.up f2, hw⟩
theorem Hold.ext (O : Hold W h0 m0 h m Rs) (e : Ext h h') : Hold W h0 m0 h' m Rs := O.grow (St.of_ext O.s e)
theorem Hold.adds (O : Hold W h0 m0 h m Rs) (hp : R.p h m No) : Hold W h0 m0 h m (Rs ++ [R]) := O.add (.refl O.s) hp (fun _ h => h.elim)
theorem Hold.conv (O : Hold W h0 m0 h m Rs) (k : Nat) (hk : Rs[k]? = some R) (H : ∀ F, R.p h m F → ∃ F', R'.p h m F' ∧ ∀ b, F' b → F b) : Hold W h0 m0 h m (Rs.set k R') := by
 obtain ⟨F, h1, _, h3⟩ := O.get k hk
 obtain ⟨F', h4, h5⟩ := H F h1
 exact h3 (.refl O.s) h4 (fun b hb => .inl (h5 b hb))
theorem Hold.pick (O : Hold W h0 m0 h m Rs) (is : List Nat) : Hold W h0 m0 h m (takeL Rs is) := by
 obtain ⟨S, F, hs, hw⟩ := O
 obtain ⟨F1, F2, h1, h2, h3, rfl⟩ := hs.part is
 exact ⟨S, F1, h1, fun b hb => hw b (.inl hb)⟩
theorem Hold.call (O : Hold W h0 m0 h m Rs) (is : List Nat) : ∃ W', Hold W' h m h m (takeL Rs is) ∧ ∀ {h' m' : Heap} {Rs' : List Res}, Hold W' h m h' m' Rs' → Hold W h0 m0 h' m' (dropL Rs is ++ Rs') := by
 obtain ⟨S, F, hs, hw⟩ := O
 obtain ⟨F1, F2, h1, h2, h3, rfl⟩ := hs.part is
 refine ⟨F1, ⟨.refl S.s, F1, h1, fun b hb => .inr hb⟩, fun {h' m' Rs'} O' => ?_⟩
 obtain ⟨T, F', hs', hw'⟩ := O'
 obtain ⟨f1, f2⟩ := T.frame h3 h2.lt h2.nl
 refine ⟨S.then T (fun b _ hb => hw b (.inl hb)), _, (Sep.fr h2 f1 T.up f2).app hs' (fun b hb hc => (hw' b hc).elim (fun hl => by have := h2.lt b hb; omega) (fun hf => h3 b hf hb)), fun b hb => hb.elim (fun hb => hw b (.inr hb)) (fun hb => (hw' b hb).elim (fun hl => .inl (Nat.le_trans S.size hl)) (fun hf => hw b (.inl hf)))⟩
theorem Hold.callC (O : Hold W h0 m0 h m Rs) (is : List Nat) : ∃ W', Hold W' h m h m (takeL Rs is) ∧
   (∀ {h' m' : Heap} {Rs' : List Res}, Hold W' h m h' m' Rs' → Hold W h0 m0 h' m' (dropL Rs is ++ Rs')) ∧
   (∀ {h' m' : Heap} {Rs' : List Res}, Hold W' h m h' m' Rs' → (∀ R ∈ Rs', R.vf) → Hold W h0 m0 h' m (dropL Rs is ++ Rs')) := by
 obtain ⟨S, F, hs, hw⟩ := O
 obtain ⟨F1, F2, h1, h2, h3, rfl⟩ := hs.part is
 have key : ∀ {h' m' : Heap} {Rs' : List Res}, Hold F1 h m h' m' Rs' → Hold W h0 m0 h' m' (dropL Rs is ++ Rs') := fun {h' m' Rs'} O' => by
   obtain ⟨T, F', hs', hw'⟩ := O'
   obtain ⟨f1, f2⟩ := T.frame h3 h2.lt h2.nl
   exact ⟨S.then T (fun b _ hb => hw b (.inl hb)), _, (Sep.fr h2 f1 T.up f2).app hs' (fun b hb hc => (hw' b hc).elim (fun hl => by have := h2.lt b hb; omega) (fun hf => h3 b hf hb)), fun b hb => hb.elim (fun hb => hw b (.inr hb)) (fun hb => (hw' b hb).elim (fun hl => .inl (Nat.le_trans S.size hl)) (fun hf => hw b (.inl hf)))⟩
 refine ⟨F1, ⟨.refl S.s, F1, h1, fun b hb => .inr hb⟩, key, fun {h' m' Rs'} O' v => key ?_⟩
 obtain ⟨T, F', hs', hw'⟩ := O'
 have T' : St F1 h m h' m := T.unlend S.s h1.nl
 exact ⟨T', F', hs'.vf v T'.s (fun b hb hv => (hw' b hb).elim (fun hl => by have := S.s.lt hv; omega) (fun hf => h1.nl b hf hv)), hw'⟩
theorem Hold.lend (O : Hold W h0 m0 h m Rs) (is ls : List Nat) : ∃ m1 W', Sub m m1 ∧ Hold W' h m1 h m1 (takeL Rs is) ∧ ZAll m1 (takeL (dropL Rs is) ls) ∧
   (∀ {h' m' : Heap} {Rs' : List Res}, Hold W' h m1 h' m' Rs' → Hold W h0 m0 h' m' (dropL (dropL Rs is) ls ++ Rs')) ∧
   (∀ {h' m' : Heap} {Rs' : List Res}, Hold W' h m1 h' m' Rs' → (∀ R ∈ Rs', R.vf) → Hold W h0 m0 h' m (dropL Rs is ++ Rs')) := by
 obtain ⟨S, F, hs, hw⟩ := O
 obtain ⟨F1, F2, h1, h2, h3, rfl⟩ := hs.part is
 obtain ⟨F3, F4, k1, k2, k3, rfl⟩ := h2.part ls
 have hl : ∀ b, Live (addV m h F3) b → Live m b ∨ F3 b := fun b h => (addV_live h).1
 have n1 : ∀ b, F1 b → ¬ Live (addV m h F3) b := fun b hb hv => (hl b hv).elim (h1.nl b hb) (fun hf => h3 b hb (.inl hf))
 have n4 : ∀ b, F4 b → ¬ Live (addV m h F3) b := fun b hb hv => (hl b hv).elim (k2.nl b hb) (fun hf => k3 b hf hb)
 refine ⟨addV m h F3, F1, addV_up S.s, ⟨.refl addV_sub, F1, Sep.fr h1 (fun _ _ => rfl) (addV_up S.s) n1, fun b hb => .inr hb⟩, k1.fz S.s (fun _ h => h), fun {h' m' Rs'} O' => ?_, fun {h' m' Rs'} O' v => ?_⟩
 · obtain ⟨T, F', hs', hw'⟩ := O'
   have k4 := Sep.fr k2 (fun _ _ => rfl) (addV_up S.s) n4
   obtain ⟨f1, f2⟩ := T.frame h3.ur' k2.lt n4
   refine ⟨(S.then (St.settle S.s F3) (fun b _ hb => hw b (.inr (.inl hb)))).then T (fun b _ hb => hw b (.inl hb)), _, (Sep.fr k4 f1 T.up f2).app hs' (fun b hb hc => (hw' b hc).elim (fun hl => by have := k2.lt b hb; omega) (fun hf => h3 b hf (.inr hb))), fun b hb => hb.elim (fun hb => hw b (.inr (.inr hb))) (fun hb => (hw' b hb).elim (fun hl => .inl (Nat.le_trans S.size hl)) (fun hf => hw b (.inl hf)))⟩
 · obtain ⟨T, F', hs', hw'⟩ := O'
   have T' : St F1 h m h' m := T.unlend S.s h1.nl
   obtain ⟨f1, f2⟩ := T'.frame h3 h2.lt h2.nl
   have n' : ∀ b, F' b → ¬ Live m b := fun b hb hv => (hw' b hb).elim (fun hl => by have := S.s.lt hv; omega) (fun hf => h1.nl b hf hv)
   refine ⟨S.then T' (fun b _ hb => hw b (.inl hb)), _, (Sep.fr h2 f1 T'.up f2).app (hs'.vf v T'.s n') (fun b hb hc => (hw' b hc).elim (fun hl => by have := h2.lt b hb; omega) (fun hf => h3 b hf hb)), fun b hb => hb.elim (fun hb => hw b (.inr hb)) (fun hb => (hw' b hb).elim (fun hl => .inl (Nat.le_trans S.size hl)) (fun hf => hw b (.inl hf)))⟩
theorem Hold.frz (O : Hold W h0 m0 h m Rs) (k : Nat) (hk : Rs[k]? = some R) : ∃ m', Sub m m' ∧ R.z m' ∧ Hold W h0 m0 h m' (Rs.set k rE) := by
 obtain ⟨m1, W', h1, h2, h3, h4, _⟩ := O.lend [] [k]
 refine ⟨m1, h1, ?_, ?_⟩
 · have : takeL (dropL Rs []) [k] = [R] := by simp only [takeL, dropL, hk]
   rw [this] at h3
   exact h3.1
 · have := h4 h2
   simp only [takeL, dropL, List.append_nil] at this
   exact this
end
end Go.Hw

end
section
set_option linter.unusedVariables false
namespace Go.Hw
open Go
structure Asn (α : Type) (sz : Nat) where
 p : Heap → Heap → α → List Value → Foot → Prop
 E : Heap → α → List Value → Prop
 T : Tell sz E
 len : ∀ {h m x cs F}, p h m x cs F → cs.length = sz
 flat : ∀ {h m x cs F}, p h m x cs F → ∀ v ∈ cs, Flat v
 lt : ∀ {h m x cs F}, p h m x cs F → ∀ b, F b → b < h.size
 nl : ∀ {h m x cs F}, p h m x cs F → ∀ b, F b → ¬ Live m b
 fr : ∀ {h m x cs F h' m'}, p h m x cs F → (∀ b, F b → h'[b]? = h[b]?) → Sub m m' → (∀ b, F b → ¬ Live m' b) → p h' m' x cs F
 fz : ∀ {h m x cs F G}, p h m x cs F → Sub m h → (∀ b, F b → G b) → E (addV m h G) x cs
def aE {α : Type} {sz : Nat} {E : Heap → α → List Value → Prop} (T : Tell sz E) : Asn α sz where
 p _ m x cs F := E m x cs ∧ F = No
 E := E
 T := T
 len h := T.len _ _ _ h.1
 flat h := T.flat _ _ _ h.1
 lt := by rintro h m x cs F ⟨_, rfl⟩ b hb; exact hb.elim
 nl := by rintro h m x cs F ⟨_, rfl⟩ b hb; exact hb.elim
 fr := fun h _ s _ => ⟨T.mono _ _ _ _ s h.1, h.2⟩
 fz := fun h s _ => T.mono _ _ _ _ (addV_up s) h.1
def Asn.vf {α : Type} {sz : Nat} (a : Asn α sz) : Prop := ∀ h m m' x cs F, a.p h m x cs F → Sub m' h → (∀ b, F b → ¬ Live m' b) → a.p h m' x cs F
theorem aE_vf {α : Type} {sz : Nat} {E : Heap → α → List Value → Prop} {T : Tell sz E} (hE : ∀ m m' x cs, E m x cs → E m' x cs) : (aE T).vf := fun _ _ _ _ _ _ h _ _ => ⟨hE _ _ _ _ h.1, h.2⟩
theorem Blk.fr {h h' : Heap} {b : Nat} {c : List Value} {t : TypeId} (hb : Blk h b c t) (e : h'[b]? = h[b]?) : Blk h' b c t := by unfold Blk at *; rw [e]; exact hb
def rV (b : Nat) (t : TypeId) (cs : List Value) : Res where
 p h m F := Blk h b cs t ∧ ¬ Live m b ∧ F = fb b
 z m := Blk m b cs t
 lt := by rintro h m F ⟨h1, _, rfl⟩ i hi; unfold fb at hi; subst hi; exact h1.lt
 nl := by rintro h m F ⟨h1, h2, rfl⟩ i hi; unfold fb at hi; subst hi; exact h2
 fr := by rintro h m F h' m' ⟨h1, h2, rfl⟩ k1 _ k3; exact ⟨h1.fr (k1 b rfl), k3 b rfl, rfl⟩
 fz := by rintro h m F G ⟨h1, h2, rfl⟩ _ k2; exact h1.settle (k2 b rfl)
section
variable {α : Type} {sz : Nat}
def CsA (a : Asn α sz) (h m : Heap) : List α → List Value → Foot → Prop
 | [], cs, F => cs = [] ∧ F = No
 | x :: l, cs, F => ∃ c1 c2 F1 F2, cs = c1 ++ c2 ∧ a.p h m x c1 F1 ∧ CsA a h m l c2 F2 ∧ Dj F1 F2 ∧ F = U F1 F2
variable {a : Asn α sz} {h h' m m' : Heap} {l l' : List α} {cs ds : List Value} {F F' F1 F2 G : Foot} {x y : α}
theorem CsA.len : ∀ {l : List α} {cs : List Value} {F : Foot}, CsA a h m l cs F → cs.length = l.length * sz
 | [], _, _, ⟨e, _⟩ => by rw [e]; simp
 | x :: l, _, _, ⟨c1, c2, F1, F2, e, h1, h2, _, _⟩ => by rw [e, List.length_append, CsA.len h2, a.len h1, List.length_cons, Nat.succ_mul, Nat.add_comm]
theorem CsA.flat : ∀ {l : List α} {cs : List Value} {F : Foot}, CsA a h m l cs F → ∀ v ∈ cs, Flat v
 | [], _, _, ⟨e, _⟩ => by rw [e]; exact Flats.nil
 | x :: l, _, _, ⟨c1, c2, F1, F2, e, h1, h2, _, _⟩ => by
   rw [e]; intro v hv
   rcases List.mem_append.1 hv with hv | hv
   · exact a.flat h1 v hv
   · exact CsA.flat h2 v hv
theorem CsA.lt : ∀ {l : List α} {cs : List Value} {F : Foot}, CsA a h m l cs F → ∀ b, F b → b < h.size
 | [], _, _, ⟨_, e⟩, b, hb => by rw [e] at hb; exact hb.elim
 | x :: l, _, _, ⟨c1, c2, F1, F2, _, h1, h2, _, rfl⟩, b, hb => hb.elim (a.lt h1 b) (CsA.lt h2 b)
theorem CsA.nl : ∀ {l : List α} {cs : List Value} {F : Foot}, CsA a h m l cs F → ∀ b, F b → ¬ Live m b
 | [], _, _, ⟨_, e⟩, b, hb => by rw [e] at hb; exact hb.elim
 | x :: l, _, _, ⟨c1, c2, F1, F2, _, h1, h2, _, rfl⟩, b, hb => hb.elim (a.nl h1 b) (CsA.nl h2 b)
theorem CsA.fr : ∀ {l : List α} {cs : List Value} {F : Foot}, CsA a h m l cs F → (∀ b, F b → h'[b]? = h[b]?) → Sub m m' → (∀ b, F b → ¬ Live m' b) → CsA a h' m' l cs F
 | [], _, _, hs, _, _, _ => hs
 | x :: l, _, _, ⟨c1, c2, F1, F2, e, h1, h2, d, rfl⟩, k1, k2, k3 => ⟨c1, c2, F1, F2, e, a.fr h1 (fun b hb => k1 b (.inl hb)) k2 (fun b hb => k3 b (.inl hb)), CsA.fr h2 (fun b hb => k1 b (.inr hb)) k2 (fun b hb => k3 b (.inr hb)), d, rfl⟩
theorem CsA.vf (v : a.vf) : ∀ {l : List α} {cs : List Value} {F : Foot}, CsA a h m l cs F → Sub m' h → (∀ b, F b → ¬ Live m' b) → CsA a h m' l cs F
 | [], _, _, hs, _, _ => hs
 | x :: l, _, _, ⟨c1, c2, F1, F2, e, h1, h2, d, rfl⟩, k1, k2 => ⟨c1, c2, F1, F2, e, v _ _ _ _ _ _ h1 k1 (fun b hb => k2 b (.inl hb)), CsA.vf v h2 k1 (fun b hb => k2 b (.inr hb)), d, rfl⟩
theorem CsA.fz : ∀ {l : List α} {cs : List Value} {F : Foot}, CsA a h m l cs F → Sub m h → (∀ b, F b → G b) → CsE sz a.E (addV m h G) l cs
 | [], _, _, ⟨e, _⟩, _, _ => e
 | x :: l, _, _, ⟨c1, c2, F1, F2, e, h1, h2, d, rfl⟩, k1, k2 => ⟨c1, c2, e, a.len h1, a.fz h1 k1 (fun b hb => k2 b (.inl hb)), CsA.fz h2 k1 (fun b hb => k2 b (.inr hb))⟩
theorem CsA.append : ∀ {l : List α} {cs : List Value} {F : Foot}, CsA a h m l cs F → CsA a h m l' ds F' → Dj F F' → CsA a h m (l ++ l') (cs ++ ds) (U F F')
 | [], _, _, ⟨e, e'⟩, h', _ => by subst e; subst e'; rw [U.no_left]; exact h'
 | x :: l, _, _, ⟨c1, c2, F1, F2, e, h1, h2, d, e'⟩, h', dd => by
   subst e; subst e'
   rw [List.append_assoc]
   exact ⟨c1, _, F1, _, rfl, h1, CsA.append h2 h' dd.ur, Dj.u' d dd.ul, U.assoc⟩
theorem CsE.csa {E : Heap → α → List Value → Prop} {T : Tell sz E} : ∀ {l : List α} {cs : List Value}, CsE sz E m l cs → CsA (aE T) h m l cs No
 | [], _, e => ⟨e, rfl⟩
 | x :: l, _, ⟨c1, c2, e, h1, h2, h3⟩ => ⟨c1, c2, No, No, e, ⟨h2, rfl⟩, CsE.csa h3, .no, U.no_left.symm⟩
theorem CsA.cse {E : Heap → α → List Value → Prop} {T : Tell sz E} : ∀ {l : List α} {cs : List Value} {F : Foot}, CsA (aE T) h m l cs F → CsE sz E m l cs ∧ F = No
 | [], _, _, ⟨e, e'⟩ => ⟨e, e'⟩
 | x :: l, _, _, ⟨c1, c2, F1, F2, e, ⟨h1, h1'⟩, h2, _, e'⟩ => by
   obtain ⟨h3, h3'⟩ := CsA.cse h2
   subst h1'; subst h3'
   exact ⟨⟨c1, c2, e, T.len _ _ _ h1, h1, h3⟩, by rw [e', U.no_left]⟩
end
section
variable {α : Type} {sz : Nat}
def rowP (a : Asn α sz) (A : Option Addr) (c : Nat) (l : List α) (h m : Heap) (F : Foot) : Prop :=
 (l = [] ∧ c = 0 ∧ F = No) ∨ ∃ b t pre cs rest Fe, c ≠ 0 ∧ A = some ⟨b, pre.length, none⟩ ∧ Blk h b (pre ++ cs ++ rest) t ∧ CsA a h m l cs Fe ∧ l.length ≤ c ∧ (c - l.length) * sz ≤ rest.length ∧ ¬ Live m b ∧ ¬ Fe b ∧ F = U (fb b) Fe
def rR (a : Asn α sz) (A : Option Addr) (c : Nat) (l : List α) : Res where
 p := rowP a A c l
 z m := Rd sz a.E m A l ∧ l.length ≤ c
 lt := by
   rintro h m F (⟨_, _, rfl⟩ | ⟨b, t, pre, cs, rest, Fe, k0, k1, k2, k3, k4, k5, k6, k7, rfl⟩) i hi
   · exact hi.elim
   · rcases hi with hi | hi
     · unfold fb at hi; subst hi; exact k2.lt
     · exact k3.lt i hi
 nl := by
   rintro h m F (⟨_, _, rfl⟩ | ⟨b, t, pre, cs, rest, Fe, k0, k1, k2, k3, k4, k5, k6, k7, rfl⟩) i hi
   · exact hi.elim
   · rcases hi with hi | hi
     · unfold fb at hi; subst hi; exact k6
     · exact k3.nl i hi
 fr := by
   rintro h m F h' m' (⟨e1, e2, rfl⟩ | ⟨b, t, pre, cs, rest, Fe, k0, k1, k2, k3, k4, k5, k6, k7, rfl⟩) f1 f2 f3
   · exact .inl ⟨e1, e2, rfl⟩
   · exact .inr ⟨b, t, pre, cs, rest, Fe, k0, k1, k2.fr (f1 b (.inl rfl)), k3.fr (fun i hi => f1 i (.inr hi)) f2 (fun i hi => f3 i (.inr hi)), k4, k5, f3 b (.inl rfl), k7, rfl⟩
 fz := by
   rintro h m F G (⟨e1, e2, rfl⟩ | ⟨b, t, pre, cs, rest, Fe, k0, k1, k2, k3, k4, k5, k6, k7, rfl⟩) f1 f2
   · subst e1; exact ⟨.nil, Nat.zero_le _⟩
   · subst k1
     exact ⟨CsE.rd (k2.settle (f2 b (.inl rfl))) (k3.fz f1 (fun i hi => f2 i (.inr hi))) (fun _ _ h => h), k4⟩
variable {a : Asn α sz} {h h' h0 m m' m0 : Heap} {A : Option Addr} {c n k : Nat} {l l' : List α} {F F' G W : Foot} {x : Int} {y : α} {v : Value} {cs : List Value} {Rs : List Res} {b : Nat} {t : TypeId} {aa : Addr}
variable {E : Heap → α → List Value → Prop} {T : Tell sz E}
theorem rR_vf (v : a.vf) : (rR a A c l).vf := by
 rintro h m m' F (⟨e1, e2, rfl⟩ | ⟨b, t, pre, cs, rest, Fe, k0, k1, k2, k3, k4, k5, k6, k7, rfl⟩) f1 f2
 · exact .inl ⟨e1, e2, rfl⟩
 · exact .inr ⟨b, t, pre, cs, rest, Fe, k0, k1, k2, k3.vf v f1 (fun i hi => f2 i (.inr hi)), k4, k5, f2 b (.inl rfl), k7, rfl⟩
theorem rowP.os (o : rowP (aE T) A c l h m F) (hw : ∀ b, F b → h0.size ≤ b ∨ W b) : OS W h0 sz E h m A l c ∧ F = fp A c := by
 rcases o with ⟨rfl, rfl, rfl⟩ | ⟨b, t, pre, cs, rest, Fe, k0, k1, k2, k3, k4, k5, k6, k7, rfl⟩
 · exact ⟨.inl ⟨rfl, rfl⟩, funext fun b => propext ⟨fun h => h.elim, fun h => h.1 rfl⟩⟩
 · obtain ⟨k8, rfl⟩ := k3.cse
   refine ⟨.inr ⟨b, t, pre, cs, rest, k1, k2, k8, k4, k5, hw b (.inl rfl), k6⟩, ?_⟩
   rw [U.no_right]
   subst k1
   exact funext fun i => propext ⟨fun hi => ⟨k0, _, rfl, hi.symm⟩, fun ⟨_, a, e, hi⟩ => by cases e; exact hi.symm⟩
theorem Hold.os (O : Hold W h0 m0 h m Rs) (k : Nat) (hk : Rs[k]? = some (rR (aE T) A c l)) : OS W h0 sz E h m A l c := by
 obtain ⟨F, h1, h2, _⟩ := O.get k hk
 exact (rowP.os h1 h2).1
theorem Hold.ob (O : Hold W h0 m0 h m Rs) (k : Nat) (hk : Rs[k]? = some (rV b t cs)) : OB W h0 h m b cs t := by
 obtain ⟨F, ⟨h1, h3, rfl⟩, h2, _⟩ := O.get k hk
 exact ⟨h1, h2 b rfl, h3⟩
theorem Hold.all (O : Hold W h0 m0 h m Rs) (k : Nat) (hk : Rs[k]? = some (rV b t cs)) : cellsH h ⟨b, 0, none⟩ 0 cs.length = some cs := (O.ob k hk).all
theorem Hold.setV (O : Hold W h0 m0 h m Rs) (k : Nat) (hk : Rs[k]? = some (rV b t cs)) {cs' : List Value} (o : OB W h0 h' m b cs' t) (S : St (fb b) h m h' m) : Hold W h0 m0 h' m (Rs.set k (rV b t cs')) := by
 obtain ⟨F, ⟨h1, h3, rfl⟩, h2, h4⟩ := O.get k hk
 exact h4 S ⟨o.1, o.2.2, rfl⟩ (fun _ h => .inl h)
variable {K : Heap → Prop}
theorem Hold.new {z : Array Value} (O : Hold W h0 m0 h m Rs) (H : ∀ h', Ext h h' → Hold W h0 m0 h' m (Rs ++ [rV h.size t z.toList]) → K h') : newH h (.cells z t) K :=
 newH_in fun h' hb e hs => H h' e (O.add (St.of_ext O.s e) ⟨hb, St.notLive O.s, rfl⟩ (fun i hi => by unfold fb at hi; omega))
theorem Hold.st (O : Hold W h0 m0 h m Rs) (k : Nat) (hk : Rs[k]? = some (rV b t cs)) (j : Nat) (hj : j < cs.length) (hf : Flat v) (H : ∀ h', Hold W h0 m0 h' m (Rs.set k (rV b t (cs.set j v))) → K h') : ∃ h', st1 h (Addr.add ⟨b, 0, none⟩ j) v = some h' ∧ K h' := by
 obtain ⟨h', h1, h2, h3⟩ := (O.ob k hk).st O.s hj hf
 exact ⟨h', h1, H h' (O.setV k hk h2 h3)⟩
theorem Hold.stA (O : Hold W h0 m0 h m Rs) (k : Nat) (hk : Rs[k]? = some (rV b t cs)) {ds : List Value} (hn : ds.length = cs.length) (hf : ∀ v ∈ ds, Flat v) (H : ∀ h', Hold W h0 m0 h' m (Rs.set k (rV b t ds)) → K h') : ∃ h', stH h ⟨b, 0, none⟩ ds 0 = some h' ∧ K h' := by
 obtain ⟨h', h1, h2, h3⟩ := (O.ob k hk).stA O.s ds hn hf
 exact ⟨h', h1, H h' (O.setV k hk h2 h3)⟩
theorem Hold.nil (O : Hold W h0 m0 h m Rs) (a : Asn α sz) (A : Option Addr) : Hold W h0 m0 h m (Rs ++ [rR a A 0 []]) := O.adds (R := rR a A 0 []) (.inl ⟨rfl, rfl, rfl⟩)
theorem Hold.row (O : Hold W h0 m0 h m Rs) (k : Nat) (hk : Rs[k]? = some (rV b t cs)) (a : Asn α sz) (hc : ∃ F, CsA a h m l cs F ∧ F = No) (hn : l.length = c) (h0' : c ≠ 0) : Hold W h0 m0 h m (Rs.set k (rR a (some ⟨b, 0, none⟩) c l)) :=
 O.conv k hk (R' := rR a (some ⟨b, 0, none⟩) c l) fun F hF => by
   obtain ⟨h1, h2, rfl⟩ := hF
   obtain ⟨_, hc, rfl⟩ := hc
   exact ⟨_, .inr ⟨b, t, [], cs, [], No, h0', rfl, by simpa using h1, hc, by omega, by simp [hn], h2, fun h => h, rfl⟩, fun i hi => hi.elim id (fun h => h.elim)⟩
theorem Hold.rowE (O : Hold W h0 m0 h m Rs) (k : Nat) (hk : Rs[k]? = some (rV b t cs)) (T : Tell sz E) (hc : CsE sz E m l cs) (hn : l.length = c) : Hold W h0 m0 h m (Rs.set k (rR (aE T) (some ⟨b, 0, none⟩) c l)) := by
 by_cases h0' : c = 0
 · subst h0'
   refine O.conv k hk (R' := rR (aE T) (some ⟨b, 0, none⟩) 0 l) fun F _ => ⟨No, .inl ⟨List.length_eq_zero_iff.1 hn, rfl, rfl⟩, fun _ h => h.elim⟩
 · exact O.row k hk (aE T) ⟨No, hc.csa, rfl⟩ hn h0'
end
section
variable {α : Type} {sz : Nat} {a : Asn α sz} {h h' h0 m m' m0 : Heap} {A : Option Addr} {c n k : Nat} {l l' xs : List α} {F F' G W : Foot} {x : Int} {y : α} {v X : Value} {cs es : List Value} {Rs : List Res} {b : Nat} {t e : TypeId} {aa : Addr}
variable {E : Heap → α → List Value → Prop} {T : Tell sz E}
theorem rowP.app {bytes : Nat} {z : Array Value} {K : Value → Heap → Prop} {F2 : Foot} (o : rowP a A c l h m F) (s : Sub m h) (hn : n = l.length) (hz : z.size = sz) (h1 : srcCells sz X h = some (xs.length, es)) (h2 : CsA a h m xs es F2) (hd : Dj F F2) (hb0 : 0 < bytes) (g : ap bytes l xs = some l')
   (hk : ∀ A' c' h' F', rowP a A' c' l' h' m F' → St F h m h' m → (∀ b, F' b → F b ∨ F2 b ∨ h.size ≤ b) → K (.slice A' l'.length c') h') : AppW e sz bytes z A n c X h K := by
 subst hn
 obtain ⟨hb, rfl⟩ := ap_e g
 have he := h2.len
 refine ⟨xs.length, es, h1, ?_⟩
 have hpush : ∀ (old : List Value) (Fo : Foot) (hold : oldCells sz A l.length h = some old) (hE : CsA a h m l old Fo) (hFo : ∀ b, Fo b → F b), c < l.length + xs.length →
     ∃ old, oldCells sz A l.length h = some old ∧ ∀ c', l.length + xs.length ≤ c' → K (.slice (some ⟨h.size, 0, none⟩) (l.length + xs.length) c') (h.push (.cells (old.toArray ++ es.toArray ++ zcells z (c' - (l.length + xs.length))) e)) := by
   intro old Fo hold hE hFo hlt
   refine ⟨old, hold, fun c' hc' => ?_⟩
   rw [show (Value.slice (some ⟨h.size, 0, none⟩) (l.length + xs.length) c') = .slice (some ⟨h.size, 0, none⟩) (l ++ xs).length c' by rw [List.length_append]]
   have e1 := Ext.push h (Obj.cells (old.toArray ++ es.toArray ++ zcells z (c' - (l.length + xs.length))) e)
   have S1 := St.of_ext (W := F) s e1
   have hA := hE.append h2 (hd.mono hFo (fun _ h => h))
   have hA' := hA.fr (fun i hi => e1.2 i (hA.lt i hi)) (.refl _) (fun i hi => hA.nl i hi)
   refine hk _ _ _ _ (.inr ⟨h.size, e, [], old ++ es, (zcells z (c' - (l.length + xs.length))).toList, _, by omega, rfl, ?_, hA', by rw [List.length_append]; exact hc', ?_, St.notLive s, fun hf => by have := hA.lt _ hf; omega, rfl⟩) S1 ?_
   · have := Blk.new h (old.toArray ++ es.toArray ++ zcells z (c' - (l.length + xs.length))) e
     simpa using this
   · rw [zc_len, hz, List.length_append]; exact Nat.le_refl _
   · rintro i (hi | hi | hi)
     · unfold fb at hi; exact .inr (.inr (by omega))
     · exact .inl (hFo i hi)
     · exact .inr (.inl hi)
 rcases o with ⟨rfl, rfl, rfl⟩ | ⟨b, t, pre, cs, rest, Fe, k0, rfl, k1, k2, k3, k4, k5, k6, rfl⟩
 · by_cases hx : xs.length = 0
   · have hxs : xs = [] := List.length_eq_zero_iff.1 hx
     subst hxs
     obtain ⟨rfl, rfl⟩ : es = [] ∧ F2 = No := h2
     refine .inl ⟨by simp, ?_⟩
     have fin := hk A 0 h No (.inl ⟨rfl, rfl, rfl⟩) (St.refl s) (fun b hb => .inl hb)
     cases A with
     | none => exact .inl ⟨rfl, fin⟩
     | some a => exact .inr ⟨a, h, rfl, by simp [stH], fin⟩
   · refine .inr ⟨by simp; omega, by simpa using hb, hb0, ?_⟩
     refine hpush [] No ?_ ⟨rfl, rfl⟩ (fun _ h => h) (by simp; omega)
     cases A with
     | none => rfl
     | some a => simp [oldCells, cellsH]
 · have hl := k2.len
   by_cases hle : l.length + xs.length ≤ c
   · refine .inl ⟨hle, .inr ?_⟩
     have hmul : (c - l.length) * sz = xs.length * sz + (c - l.length - xs.length) * sz := by rw [← Nat.add_mul]; congr 1; omega
     have k1' : Blk h b ((pre ++ cs) ++ rest.take (xs.length * sz) ++ rest.drop (xs.length * sz)) t := by rw [List.append_assoc, List.take_append_drop]; exact k1
     obtain ⟨h', s1, b1, o1⟩ := Blk.stH es (a := (⟨b, pre.length, none⟩ : Addr).add (l.length * sz)) (i := 0) k1' (by rw [add_block]) (add_spot _ rfl) (by rw [add_off, List.length_append, hl, Nat.add_zero]) (by rw [List.length_take, he]; omega) (h2.flat)
     refine ⟨_, h', rfl, s1, ?_⟩
     rw [show (Value.slice (some ⟨b, pre.length, none⟩) (l.length + xs.length) c) = .slice (some ⟨b, pre.length, none⟩) (l ++ xs).length c by rw [List.length_append]]
     have S : St (fb b) h m h' m := .only s k5 o1
     have S2 : St (U (fb b) Fe) h m h' m := ⟨S.up, S.s, S.size, fun i hi hn => S.fr i hi (fun h => hn (.inl h)), fun i hi hl => .inl hl⟩
     have hA := k2.append h2 hd.ur
     have nb : ∀ i, U Fe F2 i → i ≠ b := fun i hi e' => by subst e'; exact hi.elim k6 (fun hf => hd i (.inl rfl) hf)
     have hA' := hA.fr (fun i hi => S.fr i (hA.lt i hi) (fun e' => nb i hi e')) (.refl _) (fun i hi => hA.nl i hi)
     refine hk _ _ _ _ (.inr ⟨b, t, pre, cs ++ es, rest.drop (xs.length * sz), _, k0, rfl, by rw [← List.append_assoc pre]; exact b1, hA', by rw [List.length_append]; exact hle, ?_, k5, fun hf => nb b hf rfl, rfl⟩) S2 ?_
     · rw [List.length_drop, List.length_append, show c - (l.length + xs.length) = c - l.length - xs.length by omega]; omega
     · rintro i (hi | hi | hi)
       · exact .inl (.inl hi)
       · exact .inl (.inr hi)
       · exact .inr (.inl hi)
   · refine .inr ⟨by omega, hb, hb0, ?_⟩
     refine hpush cs Fe ?_ k2 (fun _ h => .inr h) (by omega)
     have := k1.cells (a := ⟨b, pre.length, none⟩) rfl rfl (l.length * sz) 0 (by simp [hl])
     simp only [oldCells, this, Nat.add_zero]
     rw [List.append_assoc, List.drop_left, List.take_append_of_le_length (by omega), List.take_of_length_le (by omega)]
variable {K : Value → Heap → Prop} {bytes : Nat} {z : Array Value}
theorem Hold.app (O : Hold W h0 m0 h m Rs) (k : Nat) (hk : Rs[k]? = some (rR (aE T) A c l)) (hn : n = l.length) (hz : z.size = sz) (hs : Src sz E h m X xs) (hb0 : 0 < bytes) (g : ap bytes l xs = some l')
   (H : ∀ A' c' h', Hold W h0 m0 h' m (Rs.set k (rR (aE T) A' c' l')) → K (.slice A' l'.length c') h') : AppW e sz bytes z A n c X h K := by
 obtain ⟨F, h1, h2, h3⟩ := O.get k hk
 obtain ⟨es, s1, s2⟩ := hs
 refine rowP.app h1 O.s hn hz s1 (s2.csa (T := T)) .no' hb0 g fun A' c' h' F' q1 q2 q3 => H A' c' h' (h3 (R' := rR (aE T) A' c' l') q2 q1 fun b hb => ?_)
 rcases q3 b hb with hb | hb | hb
 · exact .inl hb
 · exact hb.elim
 · exact .inr hb
end
end Go.Hw

end
section
set_option linter.unusedVariables false
namespace Go.Hw
open Go
section
variable {m h : Heap} {a : Addr} {cs ds : List Value} {N n k j : Nat} {v : Value}
theorem ldAn (s : Sub m h) (hc : cellsH m a 0 N = some cs) (hn : N = n) : ldv true n h a = some (.agg cs.toArray) := by subst hn; exact ldA s hc
end
section
variable {α : Type} {sz : Nat} {a : Asn α sz} {h h' h0 m m' m0 : Heap} {A Ai : Option Addr} {c ci n k : Nat} {l li : List α} {ll ll' : List (List α)} {W : Foot} {x : Int} {y : α} {v : Value} {cs : List Value} {Rs Rs' : List Res} {b : Nat} {t : TypeId} {aa : Addr} {K : Heap → Prop}
variable {E : Heap → α → List Value → Prop} {T : Tell sz E}
theorem Hold.ret (O : Hold W h0 m0 h m Rs) (Q : Hold No h m h' m' Rs') : Hold W h0 m0 h' m' (Rs ++ Rs') := by
 obtain ⟨W', h1, h2⟩ := O.call []
 simp only [dropL, takeL] at h1 h2
 exact h2 ⟨⟨Q.S.up, Q.S.s, Q.S.size, fun b hb _ => Q.S.fr b hb (fun h => h), fun b hb hl => (Q.S.lv b hb hl).elim .inl (fun h => h.elim)⟩, by
   obtain ⟨F, k1, k2⟩ := Q.q
   exact ⟨F, k1, fun b hb => (k2 b hb).elim .inl (fun h => h.elim)⟩⟩
theorem vfs_nil : ∀ R ∈ ([] : List Res), R.vf := fun _ h => by cases h
theorem vfs_cons {R : Res} (v : R.vf) (w : ∀ R ∈ Rs, R.vf) : ∀ R' ∈ R :: Rs, R'.vf := fun R' h => by
 rcases List.mem_cons.1 h with rfl | h
 · exact v
 · exact w R' h
theorem Hold.retC (O : Hold W h0 m0 h m Rs) (Q : Hold No h m h' m' Rs') (v : ∀ R ∈ Rs', R.vf) : Hold W h0 m0 h' m (Rs ++ Rs') := by
 obtain ⟨m1, W', h1, h2, _, _, h5⟩ := O.lend [] []
 have s1 : Hold No h m h' m Rs' := by
   refine ⟨Q.S.unlend O.s (fun _ h => h.elim), ?_⟩
   obtain ⟨F, k1, k2⟩ := Q.q
   have T := Q.S.unlend O.s (fun _ h => h.elim)
   exact ⟨F, k1.vf v T.s (fun b hb hl => (k2 b hb).elim (fun h => by have := O.s.lt hl; omega) (fun h => h.elim)), k2⟩
 exact O.ret s1
theorem Hold.lend0 (O : Hold W h0 m0 h m Rs) (ls : List Nat) : ∃ m1, Sub m m1 ∧ Sub m1 h ∧ ZAll m1 (takeL Rs ls) ∧
   (∀ {h' m' : Heap} {Rs' : List Res}, Hold No h m1 h' m' Rs' → Hold W h0 m0 h' m' (dropL Rs ls ++ Rs')) ∧
   (∀ {h' m' : Heap} {Rs' : List Res}, Hold No h m1 h' m' Rs' → (∀ R ∈ Rs', R.vf) → Hold W h0 m0 h' m (Rs ++ Rs')) := by
 obtain ⟨m1, W', h1, h2, h3, h4, h5⟩ := O.lend [] ls
 simp only [dropL, takeL] at h2 h3 h4 h5
 have up : ∀ {h' m' : Heap} {Rs' : List Res}, Hold No h m1 h' m' Rs' → Hold W' h m1 h' m' Rs' := fun Q =>
   ⟨⟨Q.S.up, Q.S.s, Q.S.size, fun b hb _ => Q.S.fr b hb (fun h => h), fun b hb hl => (Q.S.lv b hb hl).elim .inl (fun h => h.elim)⟩, by
     obtain ⟨F, k1, k2⟩ := Q.q
     exact ⟨F, k1, fun b hb => (k2 b hb).elim .inl (fun h => h.elim)⟩⟩
 exact ⟨m1, h1, h2.s, h3, fun Q => h4 (up Q), fun Q v => h5 (up Q) v⟩
theorem Hold.stE {β : Type} {D : Heap → β → List Value → Prop} {z : β} (O : Hold W h0 m0 h m Rs) (k : Nat) (hk : Rs[k]? = some (rV b t cs)) (j : Nat) (hj : j < cs.length) (hf : Flat v) (e : D m z (cs.set j v)) (H : ∀ h' cs', D m z cs' → Hold W h0 m0 h' m (Rs.set k (rV b t cs')) → K h') : ∃ h', st1 h (Addr.add ⟨b, 0, none⟩ j) v = some h' ∧ K h' :=
 O.st k hk j hj hf fun h' O' => H h' _ e O'
theorem Hold.recell (O : Hold W h0 m0 h m Rs) (k : Nat) (hk : Rs[k]? = some (rV b t cs)) {cs' : List Value} (e : cs = cs') : Hold W h0 m0 h m (Rs.set k (rV b t cs')) := by
 subst e
 exact O.conv k hk (R' := rV b t cs) fun F hF => ⟨F, hF, fun _ h => h⟩
end
end Go.Hw
namespace Go.Hw
theorem lt_len {α : Type} {l : List α} {n k : Nat} (h : l.length = n) (hk : k < n) : k < l.length := by omega
end Go.Hw
namespace Go.Hw
open Go
class SetAt (k : Nat) (L : List Res) (r : Res) (out : outParam (List Res)) : Prop where
 eq : L.set k r = out
instance {a r : Res} {l : List Res} : SetAt 0 (a :: l) r (r :: l) := ⟨rfl⟩
instance {k : Nat} {a r : Res} {l o : List Res} [S : SetAt k l r o] : SetAt (k + 1) (a :: l) r (a :: o) := ⟨by rw [List.set_cons_succ, S.eq]⟩
class GetAt (k : Nat) (L : List Res) (r : outParam Res) : Prop where
 eq : L[k]? = some r
instance {a : Res} {l : List Res} : GetAt 0 (a :: l) a := ⟨rfl⟩
instance {k : Nat} {a r : Res} {l : List Res} [S : GetAt k l r] : GetAt (k + 1) (a :: l) r := ⟨by rw [List.getElem?_cons_succ, S.eq]⟩
class Apd (L M : List Res) (out : outParam (List Res)) : Prop where
 eq : L ++ M = out
instance {M : List Res} : Apd [] M M := ⟨rfl⟩
instance {a : Res} {l M o : List Res} [S : Apd l M o] : Apd (a :: l) M (a :: o) := ⟨by rw [List.cons_append, S.eq]⟩
class PickT (L : List Res) (is : List Nat) (T D : outParam (List Res)) : Prop where
 t : takeL L is = T
 d : dropL L is = D
instance {L : List Res} : PickT L [] [] L := ⟨rfl, rfl⟩
instance {L L2 T D : List Res} {i : Nat} {is : List Nat} {r : Res} [G : GetAt i L r] [S : SetAt i L rE L2] [P : PickT L2 is T D] : PickT L (i :: is) (r :: T) D := ⟨by simp only [takeL, G.eq, S.eq, P.t], by simp only [dropL, S.eq, P.d]⟩
class Nm (L : List Res) (out : outParam (List Res)) : Prop where
 eq : L = out
instance : Nm [] [] := ⟨rfl⟩
instance {a : Res} {l : List Res} : Nm (a :: l) (a :: l) := ⟨rfl⟩
instance {L L' o : List Res} {k : Nat} {r : Res} [N : Nm L L'] [S : SetAt k L' r o] : Nm (L.set k r) o := ⟨by rw [N.eq, S.eq]⟩
instance {L L' M M' o : List Res} [N : Nm L L'] [N' : Nm M M'] [S : Apd L' M' o] : Nm (L ++ M) o := ⟨by rw [N.eq, N'.eq, S.eq]⟩
instance {L L' T D : List Res} {is : List Nat} [N : Nm L L'] [S : PickT L' is T D] : Nm (takeL L is) T := ⟨by rw [N.eq, S.t]⟩
instance {L L' T D : List Res} {is : List Nat} [N : Nm L L'] [S : PickT L' is T D] : Nm (dropL L is) D := ⟨by rw [N.eq, S.d]⟩
theorem Hold.nm {W : Foot} {h0 m0 h m : Heap} {Rs Rs' : List Res} (O : Hold W h0 m0 h m Rs) [N : Nm Rs Rs'] : Hold W h0 m0 h m Rs' := N.eq ▸ O
end Go.Hw

end
section
namespace Go.Hw
open Go Go.RowKit
structure Measure {H : Type} (bk : DataW H → Nat) : Prop where
 pos : ∀ d, 1 ≤ bk d
 str : ∀ b, b.length + 1 ≤ bk (.lit (.string b))
 slice : ∀ e s, (e.map bk).sum + 1 ≤ bk (.slice e s)
 agg : ∀ ps, (ps.map bk).sum + 1 ≤ bk (.agg ps)
section
variable {H : Type} {bk : DataW H → Nat} {enc : TypeId × Value → H} {P : Program} {W : World} {N : Nat}
def KT (N : Nat) {α : Type} (bk : DataW H → Nat) (enc : TypeId × Value → H) (P : Program) (W : World) (t : TypeId) (E : Heap → α → List Value → Prop) (K : α → Nat) : Prop :=
 ∀ (fuel : Nat), fuel < N → ∀ (cs : List Value) (x : DataW H × List MemPlace), DataW.trod enc P W 0 (fun _ => true) true fuel t cs = some x → ∀ a, E W.heap a cs → K a ≤ bk x.1
theorem kt_one (M : Measure bk) {α : Type} {t : TypeId} {E : Heap → α → List Value → Prop} : KT N bk enc P W t E (fun _ => 1) := fun _ _ _ _ _ _ _ => M.pos _
theorem kt_str (M : Measure bk) {t : TypeId} (hu : P.underlying t = some .string) : KT N bk enc P W t eStr (fun s => s.size + 1) := by
 intro fuel _ cs x h a ha
 obtain ⟨s, h1, h2, _⟩ := DataW.trod_string hu h
 rw [h2]
 have e : cs = [.string a] := ha
 rw [e] at h1
 cases h1
 have := M.str a.data.toList
 simpa using this
theorem kt_map {α β : Type} {t : TypeId} {E : Heap → α → List Value → Prop} {F : Heap → β → List Value → Prop} {K : α → Nat} {L : β → Nat} (he : KT N bk enc P W t E K) (hm : ∀ b cs, F W.heap b cs → ∃ a, E W.heap a cs ∧ L b ≤ K a) : KT N bk enc P W t F L :=
 fun fuel hf cs x h b hb => let ⟨a, ha, hl⟩ := hm b cs hb; Nat.le_trans hl (he fuel hf cs x h a ha)
theorem kt_down {α : Type} {t : TypeId} {E : Heap → α → List Value → Prop} {K : α → Nat} (he : KT (N + 1) bk enc P W t E K) : KT N bk enc P W t E K := fun fuel hf => he fuel (by omega)
def KTF (N : Nat) {α : Type} (bk : DataW H → Nat) (enc : TypeId × Value → H) (P : Program) (W : World) (T o : Nat) (fs : List (TypeId × Nat)) (F : Heap → α → List Value → Prop) (K : α → Nat) : Prop :=
 ∀ (n : Nat), n < N → ∀ (cs : List Value) (xs : List (DataW H × List MemPlace)), cs.length = T → xs.length = fs.length → (∀ (i : Nat) (f : TypeId × Nat), fs[i]? = some f → DataW.trod enc P W 0 (fun _ => true) true n f.1 ((cs.drop f.2).take (P.cellsOf f.1)) = xs[i]?) →
   ∀ b, F W.heap b (cs.drop o) → K b ≤ ((xs.map (·.1)).map bk).sum
theorem ktf_nil {T : Nat} : KTF N bk enc P W T T [] eNil (fun _ => 0) := fun _ _ _ _ _ _ _ _ _ => Nat.zero_le _
theorem ktf_cons {α β : Type} {E : Heap → α → List Value → Prop} {F : Heap → β → List Value → Prop} {K : α → Nat} {L : β → Nat} {T o s : Nat} {f : TypeId} {fs : List (TypeId × Nat)} (hs : P.cellsOf f = s) (ht : Tell s E)
   (he : KT N bk enc P W f E K) (hf : KTF N bk enc P W T (o + s) fs F L) : KTF N bk enc P W T o ((f, o) :: fs) (eCons E F) (fun x => K x.1 + L x.2) := by
 intro n hn cs xs hl hx hi b hb
 cases xs with
 | nil => cases hx
 | cons x xs =>
   have h0 := hi 0 (f, o) rfl
   simp only [hs] at h0
   obtain ⟨c1, c2, e1, e2, e3⟩ := hb
   have hlen := ht.len _ _ _ e2
   have ec1 : (cs.drop o).take s = c1 := by rw [e1, ← hlen, List.take_left]
   have ec2 : cs.drop (o + s) = c2 := by rw [← List.drop_drop, e1, ← hlen, List.drop_left]
   rw [ec1] at h0
   have k1 := he n hn _ _ h0 _ e2
   have k2 := hf n hn cs xs hl (by simpa using hx) (fun i g hg => by simpa using hi (i + 1) g hg) b.2 (by rw [ec2]; exact e3)
   simp only [List.map_cons, List.sum_cons]
   omega
theorem kt_struct (M : Measure bk) {α : Type} {F : Heap → α → List Value → Prop} {K : α → Nat} {t : TypeId} {fs : List (TypeId × Nat)} {T : Nat} (hs : shapeOf P t = some fs) (hc : P.cellsOf t = T) (hf : KTF N bk enc P W T 0 fs F K) : KT (N + 1) bk enc P W t F (fun x => K x + 1) := by
 intro fuel hfl cs x h b hb
 unfold shapeOf at hs
 split at hs
 · rename_i fa hu
   cases hs
   obtain ⟨xs, n, hn, rfl, hl, hlen, hi⟩ := DataW.trod_struct hu h
   have := hf n (by omega) cs xs (by rw [hl, hc]) (by simpa using hlen) (fun i f hif => by
     rw [List.getElem?_map, Option.map_eq_some_iff] at hif
     obtain ⟨g, hg, rfl⟩ := hif
     exact hi i g (by simpa using hg)) b (by simpa using hb)
   have h2 := M.agg (xs.map (·.1))
   exact Nat.le_trans (Nat.succ_le_succ this) h2
 · cases hs
end
end Go.Hw

end
section
namespace Go.Hw
open Go
end Go.Hw

end
section
set_option linter.unusedVariables false
namespace Go.Hw
open Go
end Go.Hw
namespace Go.Hw
open Go
end Go.Hw
namespace Go.Hw
open Go
section
variable {α : Type} {f : α → Value} {d : α} {L : List α} {n off b : Nat} {m : Heap} {cs : List Value} {t : TypeId} {E : Heap → α → List Value → Prop} {ad : Addr}
theorem arrRd (hb : Blk m b cs t) (off : Nat) (had : ad = (⟨b, 0, none⟩ : Addr).add off) (hs : (cs.drop off).take n = (List.range n).map fun j => f (L.getD j d)) (ql : L.length = n) (hE : ∀ x, E m x [f x]) : Rd 1 E m (some (if n = Int.toNat (0 : Int) then ad else Addr.add ad (Int.toNat (0 : Int) * 1))) L := by
 intro i hi
 subst had
 rw [if_neg (by simp; omega)]
 refine ⟨_, [f L[i]], rfl, ?_, hE _⟩
 rw [arr_lit ql] at hs
 have h1 : ((cs.drop off).take n)[i]? = some (f L[i]) := by
   rw [hs, List.getElem?_map, List.getElem?_eq_getElem hi]; rfl
 rw [List.getElem?_take_of_lt (by omega), List.getElem?_drop] at h1
 have hlt : off + i < cs.length := (List.getElem?_eq_some_iff.1 h1).1
 have := hb.cells (a := ((⟨b, 0, none⟩ : Addr).add off).add (i * 1)) (by rw [add_block, add_block]) (add_spot _ (add_spot _ rfl)) 1 0 (by rw [add_off, add_off]; simp; omega)
 have e1 : Addr.add ((⟨b, 0, none⟩ : Addr).add off) (Int.toNat (0 : Int) * 1) = (⟨b, 0, none⟩ : Addr).add off := by simp [Addr.add]
 rw [e1, this, add_off, add_off]
 simp only [Nat.add_zero, Nat.zero_add, Nat.mul_one]
 rw [List.drop_eq_getElem_cons hlt, List.take_succ_cons, List.take_zero]
 congr 2
 rw [List.getElem?_eq_getElem hlt] at h1
 exact Option.some.inj h1
end
end Go.Hw

end
section
set_option linter.unusedVariables false
namespace Go.Hw
open Go
end Go.Hw

end
section
set_option linter.unusedVariables false
namespace Go.Hw
open Go
end Go.Hw

end
section
set_option linter.unusedVariables false
namespace Go.Hw
open Go Go.RowKit
end Go.Hw

end
section
set_option linter.unusedVariables false
namespace Go.Hw
open Go
end Go.Hw
namespace Go.Hw
open Go
end Go.Hw
namespace Go.Hw
open Go
end Go.Hw
namespace Go.Hw
open Go
end Go.Hw
namespace Go.Hw
open Go
end Go.Hw

end
section
set_option linter.unusedVariables false
namespace Go.Hw
open Go
end Go.Hw

end
section
set_option linter.unusedVariables false
namespace Go.Hw
open Go
section
noncomputable def agreeF {R : Type} (n : Nat) (f : Nat → Option R) : Option R :=
 open Classical in if ∃ r, ∀ j, j < n → f j = some r then f 0 else none
noncomputable def pickF {α R : Type} (left : List α) (over : Option R) (go : α → List α → Option R) : Option R :=
 match left with
 | [] => over
 | _ :: _ => agreeF left.length fun j => (left[j]?).bind fun c => go c (left.eraseIdx j)
variable {α R : Type} {left : List α} {over over' : Option R} {go go' : α → List α → Option R} {r : R}
end
attribute [irreducible] pickF agreeF
end Go.Hw
namespace Go.Hw
open Go
end Go.Hw

end
section
set_option linter.unusedVariables false
namespace Go.Hw
open Go
end Go.Hw

end
section
set_option linter.unusedVariables false
namespace Go.Hw
open Go
def bytesI (s : ByteArray) : List Int := s.data.toList.map fun b => ((UInt8.toNat b : Nat) : Int)
theorem bytesI_len (s : ByteArray) : (bytesI s).length = s.size := by rw [bytesI, List.length_map]; rfl
theorem hwp_mark {P : Program} {h : Heap} {b : Nat} {X : Array Value} {e : TypeId} {K : Unit → Heap → Prop} (hb : h[b]? = some (.cells X e (0, 0))) (hk : K () (freezeH h ⟨b, X.size, none⟩ 1)) : Hwp P (markStringish ⟨b, 0, none⟩) h K := by
 unfold markStringish
 refine hwp_bind (show Hwp P (shape b) h _ from ?_)
 show Hwp P (match shapeH h b with | some (_, n) => freeze { block := b, off := n } 1 | _ => pure ()) h K
 have : shapeH h b = some (e, X.size) := by unfold shapeH; rw [hb]
 rw [this]
 exact hk
theorem freeze_push {h : Heap} {X : Array Value} {e : TypeId} : freezeH (h.push (.cells X e (0, 0))) ⟨h.size, X.size, none⟩ 1 = h.push (.cells X e (X.size, X.size + 1)) := by
 unfold freezeH
 rw [if_neg (by decide)]
 apply Array.ext_getElem?
 intro i
 rw [Array.getElem?_modify]
 by_cases hi : i = h.size
 · subst hi; simp
 · rw [if_neg (by simpa using Ne.symm hi), Array.getElem?_push, Array.getElem?_push, if_neg hi, if_neg hi]
theorem gen_s2b {P : Program} {src dst e : TypeId} {u : TypeDesc} {s : ByteArray} {h : Heap} {K : Value → Heap → Prop} (hs : P.underlying src = some u) (hd : P.underlying dst = some (.slice e)) (he : P.underlying e = some (.int .u8))
   (hk : ∀ c n, s.size ≤ c → K (.slice (some ⟨h.size, 0, none⟩) s.size c) (h.push (.cells ((s.data.map fun b => Value.int .u8 b.toNat) ++ Array.replicate (c - s.size) (.int .u8 0)) e (n, n + 1)))) : Gen P (convert src dst (.string s)) h K := by
 unfold Gen convert
 refine hwp_bind (hwp_underlying hs (hwp_bind (hwp_underlying hd ?_)))
 refine hwp_bind (hwp_underlying he ?_)
 unfold Conv.stringToBytes
 have hch : ∀ (f : Nat → Sem Value), (∀ c', s.size ≤ c' → Hwp P (f c') h K) → Hwp P (choose (Question.appendCap s.size 0 e) >>= f) h K := fun f hf => by
   refine hwp_bind ?_
   show (if Question.forced (Question.appendCap s.size 0 e) then _ else _)
   rw [if_neg (by simp [Question.forced])]
   intro t
   exact hf _ (Nat.le_add_right _ _)
 refine hch _ fun c hc => ?_
 show Hwp P (newRow e ((s.data.map fun b => Value.int .u8 b.toNat) ++ Array.replicate (c - s.size) (.int .u8 0)) >>= _) h K
 generalize hX : (s.data.map fun b => Value.int .u8 b.toNat) ++ Array.replicate (c - s.size) (.int .u8 0) = X at *
 refine hwp_bind ?_
 show Hwp P (markStringish ⟨h.size, 0, none⟩ >>= fun _ => _) (h.push (.cells X e (0, 0))) K
 refine hwp_bind (hwp_mark (X := X) (e := e) (by simp) ?_)
 rw [freeze_push]
 have := hk c X.size hc
 rw [hX] at this
 exact this
section
variable {h0 m0 h h' m m' : Heap} {W F F' G : Foot} {Rs Rs' : List Res}
theorem Hold.s2b {P : Program} {src dst e : TypeId} {u : TypeDesc} {s : ByteArray} {K : Value → Heap → Prop} (O : Hold W h0 m0 h m Rs) (hs : P.underlying src = some u) (hd : P.underlying dst = some (.slice e)) (he : P.underlying e = some (.int .u8))
   (H : ∀ h' m' A c, Ext h h' → Sub m m' → Rd 1 (eInt .u8) m' A (bytesI s) → (bytesI s).length ≤ c → Hold W h0 m0 h' m' Rs → K (.slice A (bytesI s).length c) h') : Gen P (convert src dst (.string s)) h K := by
 refine gen_s2b hs hd he fun c n hc => ?_
 generalize hX : (s.data.map fun b => Value.int .u8 b.toNat) ++ Array.replicate (c - s.size) (.int .u8 0) = X
 have e1 : Ext h (h.push (.cells X e (n, n + 1))) := ⟨by simp, fun b hb => by rw [Array.getElem?_push, if_neg (by omega)]⟩
 have s1 : Sub m (h.push (.cells X e (n, n + 1))) := O.s.ext e1
 have hl : ¬ Live m h.size := St.notLive O.s
 have T : St No h m (h.push (.cells X e (n, n + 1))) (addV m (h.push (.cells X e (n, n + 1))) (fb h.size)) :=
   ⟨addV_up s1, addV_sub, e1.1, fun b hb _ => e1.2 b hb, fun b hb hv => (addV_live hv).1.elim .inl (fun hf => by unfold fb at hf; omega)⟩
 rw [← bytesI_len]
 refine H _ _ _ _ e1 (addV_up s1) ?_ (by rw [bytesI_len]; exact hc) (O.grow T)
 intro i hi
 refine ⟨_, _, rfl, ?_, rfl⟩
 have hi' : i < s.data.size := by rw [bytesI_len] at hi; exact hi
 have hb : (addV m (h.push (.cells X e (n, n + 1))) (fb h.size))[h.size]? = some (.cells X e (n, n + 1)) := by
   rw [addV_get (F := fb h.size) (by simp) (.inr rfl)]; simp
 have hx : X[i]? = some (.int .u8 (bytesI s)[i]) := by
   subst hX
   rw [Array.getElem?_append_left (by simpa using hi'), Array.getElem?_map, Array.getElem?_eq_getElem hi']
   simp [bytesI]
 have hc1 : cellH (addV m (h.push (.cells X e (n, n + 1))) (fb h.size)) ((Addr.add ⟨h.size, 0, none⟩ (i * 1)).add 0) = some (.int .u8 (bytesI s)[i]) := by
   unfold cellH
   have hb2 : (addV m (h.push (.cells X e (n, n + 1))) (fb h.size))[((Addr.add ⟨h.size, 0, none⟩ (i * 1)).add 0).block]? = some (.cells X e (n, n + 1)) := by rw [add_block, add_block]; exact hb
   rw [hb2]
   have h1 : ((Addr.add ⟨h.size, 0, none⟩ (i * 1)).add 0).off = i := by rw [add_off, add_off]; simp
   have h2 : ((Addr.add ⟨h.size, 0, none⟩ (i * 1)).add 0).spot = none := add_spot _ (add_spot _ rfl)
   simp only [h1, h2]
   exact hx
 unfold cellsH
 rw [hc1]
 rfl
end
theorem Rd.lo {α : Type} {E : Heap → α → List Value → Prop} {m : Heap} {ad : Addr} {L : List α} {n : Nat} (lo : Nat) (hs : ad.spot = none) (ql : L.length = n) (r : Rd 1 E m (some (if n = Int.toNat (0 : Int) then ad else Addr.add ad (Int.toNat (0 : Int) * 1))) L) : Rd 1 E m (some (if n = lo then ad else Addr.add ad (lo * 1))) (L.drop lo) := by
 intro i hi
 rw [List.length_drop] at hi
 obtain ⟨a, cs, h1, h2, h3⟩ := r (lo + i) (by omega)
 refine ⟨Addr.add ad (lo * 1), cs, by rw [if_neg (by omega)], ?_, by rw [List.getElem_drop]; exact h3⟩
 have ha : a = Addr.add ad (Int.toNat (0 : Int) * 1) ∨ a = ad := by
   have := Option.some.inj h1
   split at this
   · exact .inr this.symm
   · exact .inl this.symm
 have e : Addr.add a ((lo + i) * 1) = Addr.add (Addr.add ad (lo * 1)) (i * 1) := by
   have k1 : (Addr.add a ((lo + i) * 1)).block = (Addr.add (Addr.add ad (lo * 1)) (i * 1)).block := by
     rcases ha with rfl | rfl <;> simp only [add_block]
   have k2 : (Addr.add a ((lo + i) * 1)).off = (Addr.add (Addr.add ad (lo * 1)) (i * 1)).off := by
     rcases ha with rfl | rfl <;> simp only [add_off] <;> simp <;> omega
   have k3 : (Addr.add a ((lo + i) * 1)).spot = (Addr.add (Addr.add ad (lo * 1)) (i * 1)).spot := by
     rcases ha with rfl | rfl <;> first | rw [add_spot _ (add_spot _ hs), add_spot _ (add_spot _ hs)] | rw [add_spot _ hs, add_spot _ (add_spot _ hs)]
   generalize Addr.add a ((lo + i) * 1) = p at k1 k2 k3
   generalize Addr.add (Addr.add ad (lo * 1)) (i * 1) = q at k1 k2 k3
   cases p; cases q
   simp only at k1 k2 k3
   subst k1 k2 k3
   rfl
 rw [← e]; exact h2
theorem gen_ifne {P : Program} {t : TypeId} {x : Operand} {v : Value} {h : Heap} {K : Value → Heap → Prop} (hu : (match P.underlying t with | some (.interface _) => true | _ => false) = true) (hk : K (.bool false) h) : Gen P (do eqGuard .neq t x (.const v) Value.nilIface Value.nilIface; binOp .neq t Value.nilIface Value.nilIface) h K := by
 obtain ⟨ms, hu⟩ : ∃ ms, P.underlying t = some (.interface ms) := by
   split at hu
   · rename_i ms h; exact ⟨ms, h⟩
   · cases hu
 unfold Gen
 have e1 : Hwp P (eqGuard .neq t x (.const v) Value.nilIface Value.nilIface) h fun _ h' => h' = h := by
   unfold eqGuard
   show Hwp P (if _ then _ else _) _ _
   rw [if_neg (by decide)]
   show Hwp P (if ((match x with | .const _ => true | _ => false) || true) = true then _ else _) _ _
   rw [if_pos (by simp)]
   exact hwp_pure (P := P) rfl
 refine hwp_bind (Hwp.mono _ ?_ e1)
 rintro _ h' rfl
 show Hwp P (binOp .neq t Value.nilIface Value.nilIface) h' K
 unfold binOp
 refine hwp_bind ?_
 show Hwp P (Op.equalIn (Op.maxDepth - 1 + 1) t .nilIface .nilIface) h' _
 unfold Op.equalIn
 refine hwp_bind (hwp_underlying hu ?_)
 exact hwp_pure (P := P) (hwp_pure (P := P) hk)
end Go.Hw

end
section
set_option linter.unusedVariables false
namespace Go.Hw
open Go
end Go.Hw

end
section
set_option linter.unusedVariables false
namespace Go.Hw
open Go
def spaceV : List Value := Lib.asciiSpaceTab.map fun z => Value.int .u8 z
def TBs (g : Nat) (m : Heap) : Prop := ∃ t f, m[g]? = some (.cells spaceV.toArray t f)
theorem TBs.sub {g : Nat} {m h : Heap} (t : TBs g m) (s : Sub m h) : TBs g h := by
 obtain ⟨t, f, h1⟩ := t
 refine ⟨t, f, s _ _ h1 fun e => ?_⟩
 unfold dead at e
 have := congrArg (fun o => match o with | Obj.cells c _ _ => c.size | _ => 0) e
 simp [spaceV, Lib.asciiSpaceTab] at this
theorem TBs.var {P : Program} {g : Nat} {w : World} (hg : P.globalNamed "strings.asciiSpace" = some g) (t : TBs g w.heap) : Lib.TabIs P w "strings.asciiSpace" .u8 Lib.asciiSpaceTab := by
 obtain ⟨t, f, h1⟩ := t
 unfold Lib.TabIs World.var?
 rw [hg]
 show (match w.heap[g]? with | some (.cells cs _ _) => some cs | _ => none) = _
 rw [h1]; rfl
theorem TBs.of {P : Program} {g : Nat} {w : World} (hg : P.globalNamed "strings.asciiSpace" = some g) (t : Lib.TabIs P w "strings.asciiSpace" .u8 Lib.asciiSpaceTab) : TBs g w.heap := by
 unfold Lib.TabIs World.var? at t
 rw [hg] at t
 have t' : (match w.heap[g]? with | some (.cells cs _ _) => some cs | _ => none) = some spaceV.toArray := t
 cases h : w.heap[g]? with
 | none => rw [h] at t'; cases t'
 | some o =>
   rw [h] at t'
   cases o with
   | cells c e f => cases t'; exact ⟨e, f, h⟩
   | _ => cases t'
def ascii (s : ByteArray) : Bool := s.data.toList.all fun b => decide (b.toNat < 128)
theorem ascii_at {s : ByteArray} (h : ascii s = true) : ∀ (j : Nat) b, s.data.toList[j]? = some b → b.toNat < 128 := fun j b hb => by
 unfold ascii at h
 rw [List.all_eq_true] at h
 exact of_decide_eq_true (h b (List.mem_of_getElem? hb))
def fieldsB (s : ByteArray) : List ByteArray := (Lib.fields s.data.toList).map fun l => ⟨l.toArray⟩
def trimB (s c : ByteArray) : ByteArray := ⟨(Lib.trimS s.data.toList c.data.toList).toArray⟩
def ibyteB (s : ByteArray) (c : Int) : Int := Lib.indexByte s.data.toList c.toNat.toUInt8
theorem ibyte_run {P : Program} {k : Nat} {W : Foot} {h m : Heap} {s : ByteArray} {x r : Int}
   (c : ∀ (s : ByteArray) (c : Int) (w : World), Calls P k #[.string s, .int .u8 c] w fun e w' => e = .returned (.int .i64 (Lib.indexByte s.data.toList c.toNat.toUInt8)) ∧ w' = w)
   (O : Hold W h m h m []) (e : some (ibyteB s x) = some r) : Run P k #[Value.string s, Value.int .u8 x] h fun v h' => ∃ m', Hold W h m h' m' [] ∧ v = .int .i64 r := by
 cases e
 intro w hw
 subst hw
 refine (c s x w).mono fun e w' he => ?_
 obtain ⟨rfl, rfl⟩ := he
 exact ⟨_, rfl, ⟨m, O, rfl⟩, ⟨rfl, rfl, rfl⟩⟩
theorem trim_run {P : Program} {k : Nat} {W : Foot} {h m : Heap} {s t r : ByteArray}
   (c : ∀ (s t : ByteArray) (w : World) (_ : s.size ≤ 9223372036854775807) (_ : t.size < 4294967281) (_ : ∀ (j : Nat) b, t.data.toList[j]? = some b → b.toNat < 128), Calls P k #[.string s, .string t] w fun e w' => e = .returned (.string ⟨(Lib.trimS s.data.toList t.data.toList).toArray⟩) ∧ Go.RowKit.Below w.heap.size w w')
   (O : Hold W h m h m []) (e : (if s.size ≤ 9223372036854775807 ∧ t.size < 4294967281 ∧ ascii t = true then some (trimB s t) else none) = some r) : Run P k #[Value.string s, Value.string t] h fun v h' => ∃ m', Hold W h m h' m' [] ∧ v = .string r := by
 obtain ⟨g1, e⟩ := guard_e e
 cases e
 intro w hw
 subst hw
 refine (c s t w g1.1 g1.2.1 (ascii_at g1.2.2)).mono fun e w' he => ?_
 obtain ⟨rfl, b⟩ := he
 exact ⟨_, rfl, ⟨m, O.ext ⟨b.size, b.block⟩, rfl⟩, ⟨b.tape, b.os, b.output⟩⟩
theorem strs_cse {m : Heap} : ∀ l : List ByteArray, CsE 1 eStr m l (l.map Value.string)
 | [] => rfl
 | x :: l => ⟨[.string x], l.map Value.string, rfl, rfl, rfl, strs_cse l⟩
theorem fields_run {P : Program} {k g t : Nat} {W : Foot} {h m : Heap} {s : ByteArray} {r : List ByteArray} (hg : P.globalNamed "strings.asciiSpace" = some g)
   (c : ∀ (s : ByteArray) (w : World) (_ : s.size < 4294967281) (_ : ∀ (j : Nat) b, s.data.toList[j]? = some b → b.toNat < 128) (_ : Lib.TabIs P w "strings.asciiSpace" .u8 Lib.asciiSpaceTab), Calls P k #[.string s] w fun e w' =>
     e = .returned (.slice (some ⟨w.heap.size, 0, none⟩) (Lib.fields s.data.toList).length (Lib.fields s.data.toList).length) ∧ w' = w.alloc (.cells ((Lib.fields s.data.toList).map fun l => Value.string ⟨l.toArray⟩).toArray t))
   (O : Hold W h m h m []) (tab : TBs g m) (e : (if s.size < 4294967281 ∧ ascii s = true then some (fieldsB s) else none) = some r) :
   Run P k #[Value.string s] h fun v h' => ∃ m' A n c, Hold W h m h' m' [rR (aE tell_str) A c r] ∧ v = .slice A n c ∧ n = List.length r := by
 obtain ⟨g1, e⟩ := guard_e e
 cases e
 intro w hw
 subst hw
 refine (c s w g1.1 (ascii_at g1.2) ((tab.sub O.s).var hg)).mono fun e w' he => ?_
 obtain ⟨rfl, rfl⟩ := he
 have hl : (fieldsB s).length = (Lib.fields s.data.toList).length := by unfold fieldsB; rw [List.length_map]
 have main : newH w.heap (.cells ((Lib.fields s.data.toList).map fun l => Value.string ⟨l.toArray⟩).toArray t) fun h' => Hold W w.heap m h' m [rR (aE tell_str) (some ⟨w.heap.size, 0, none⟩) (Lib.fields s.data.toList).length (fieldsB s)] :=
   O.new fun h' x O' => O'.rowE 0 rfl tell_str (by
     have := strs_cse (m := m) (fieldsB s)
     unfold fieldsB at this ⊢
     rw [List.map_map] at this
     exact this) hl
 exact ⟨_, rfl, ⟨m, _, _, _, main, rfl, hl.symm⟩, ⟨rfl, rfl, rfl⟩⟩
end Go.Hw

end
section
set_option linter.unusedVariables false
namespace Go.Hw
open Go
def dbTab : List Int := Lib.deBruijn64tab.map fun n : Nat => (n : Int)
def dbV : List Value := dbTab.map fun z => Value.int .u8 z
def TBd (g : Nat) (m : Heap) : Prop := ∃ t f, m[g]? = some (.cells dbV.toArray t f)
theorem TBd.sub {g : Nat} {m h : Heap} (t : TBd g m) (s : Sub m h) : TBd g h := by
 obtain ⟨t, f, h1⟩ := t
 refine ⟨t, f, s _ _ h1 fun e => ?_⟩
 unfold dead at e
 have := congrArg (fun o => match o with | Obj.cells c _ _ => c.size | _ => 0) e
 simp [dbV, dbTab, Lib.deBruijn64tab] at this
theorem TBd.of {P : Program} {g : Nat} {w : World} (hg : P.globalNamed "math/bits.deBruijn64tab" = some g) (t : Lib.TabIs P w "math/bits.deBruijn64tab" .u8 dbTab) : TBd g w.heap := by
 unfold Lib.TabIs World.var? at t
 rw [hg] at t
 have t' : (match w.heap[g]? with | some (.cells cs _ _) => some cs | _ => none) = some dbV.toArray := t
 cases h : w.heap[g]? with
 | none => rw [h] at t'; cases t'
 | some o =>
   rw [h] at t'
   cases o with
   | cells c e f => cases t'; exact ⟨e, f, h⟩
   | _ => cases t'
theorem tz_ld {g : Nat} {m h : Heap} (tab : TBd g m) (s : Sub m h) : ldv false 1 h (Addr.add (⟨g, 0, none⟩) (Int.toNat (shrI .u64 (IntKind.wrap .u64 ((bitsI .and .u64 16 (IntKind.wrap .u64 (0 - 16))) * (285870213051353865 : Int))) (58 : Int)) * 1)) = some (.int .u8 4) := by
 obtain ⟨t, f, h1⟩ := tab.sub s
 have e : Int.toNat (shrI .u64 (IntKind.wrap .u64 ((bitsI .and .u64 16 (IntKind.wrap .u64 (0 - 16))) * (285870213051353865 : Int))) (58 : Int)) * 1 = 15 := by decide +kernel
 rw [e]
 show cellH h _ = _
 unfold cellH
 rw [add_block, h1]
 have e1 : (Addr.add ⟨g, 0, none⟩ 15).off = 15 := by rw [add_off]
 have e2 : (Addr.add ⟨g, 0, none⟩ 15).spot = none := add_spot _ rfl
 simp only [e1, e2]
 rfl
end Go.Hw

end
section
namespace Go.Proofs
open Go.Shelf
def Tryd.lays137_ren : Go.Shelf.Ren := ⟨fun | 137 => 59 | 217 => 81 | 266 => 98 | n => n, fun | 9 => 9 | 5 => 5 | 3 => 3 | n => n, fun | n => n⟩
theorem Tryd.lays137 : Go.Proofs.Lays.n137 Tryd.prog Tryd.lays137_ren := {
 mixed := by kernel_rfl
 f137 := Tryd.func59.trans (congrArg some (by kernel_rfl))
 f217 := Tryd.func81.trans (congrArg some (by kernel_rfl))
 f266 := Tryd.func98.trans (congrArg some (by kernel_rfl))
 t3 := Tryd.underlying3
 a3 := Tryd.isAgg3
 z3 := Tryd.sizeOf3
 v3 := Tryd.zeroValue3
 t5 := Tryd.underlying5
 a5 := Tryd.isAgg5
 z5 := Tryd.sizeOf5
 v5 := Tryd.zeroValue5
 t9 := Tryd.underlying9
 a9 := Tryd.isAgg9
 z9 := Tryd.sizeOf9
 v9 := Tryd.zeroValue9 }
theorem Tryd.strings_IndexByte (s : ByteArray) (c : Int) (w : World) :
   Calls Tryd.prog 59 #[.string s, .int .u8 c] w fun e w' => e = .returned (.int .i64 (Lib.indexByte s.data.toList c.toNat.toUInt8)) ∧ w' = w := Any.strings_IndexByte Tryd.lays137 s c w
def Tryd.laysM157_ren : Go.Shelf.Ren := ⟨fun | 157 => 40 | 229 => 66 | 199 => 67 | 261 => 85 | 311 => 102 | 312 => 103 | n => n, fun | 9 => 9 | 31 => 50 | 3 => 3 | 5 => 5 | 4 => 4 | 119 => 109 | 0 => 0 | 40 => 111 | 152 => 127 | 21 => 21 | 154 => 129 | 51 => 130 | 141 => 132 | 196 => 157 | 193 => 154 | 198 => 160 | 49 => 158 | 194 => 155 | 201 => 163 | 226 => 183 | 46 => 135 | 227 => 184 | n => n, fun | 0 => 0 | 6 => 1 | n => n⟩
theorem Tryd.laysM157 : Go.Proofs.LaysM.n157 Tryd.prog Tryd.laysM157_ren := {
 mixed := by kernel_rfl
 f157 := Tryd.func40.trans (congrArg some (by kernel_rfl))
 f199 := Tryd.func67.trans (congrArg some (by kernel_rfl))
 f229 := Tryd.func66.trans (congrArg some (by kernel_rfl))
 f261 := Tryd.func85.trans (congrArg some (by kernel_rfl))
 f311 := Tryd.func102.trans (congrArg some (by kernel_rfl))
 f312 := Tryd.func103.trans (congrArg some (by kernel_rfl))
 t0 := Tryd.underlying0
 a0 := Tryd.isAgg0
 z0 := Tryd.sizeOf0
 v0 := Tryd.zeroValue0
 t3 := Tryd.underlying3
 a3 := Tryd.isAgg3
 z3 := Tryd.sizeOf3
 v3 := Tryd.zeroValue3
 t4 := Tryd.underlying4
 a4 := Tryd.isAgg4
 z4 := Tryd.sizeOf4
 v4 := Tryd.zeroValue4
 t5 := Tryd.underlying5
 a5 := Tryd.isAgg5
 z5 := Tryd.sizeOf5
 v5 := Tryd.zeroValue5
 t9 := Tryd.underlying9
 a9 := Tryd.isAgg9
 z9 := Tryd.sizeOf9
 v9 := Tryd.zeroValue9
 t21 := Tryd.underlying21
 a21 := Tryd.isAgg21
 z21 := Tryd.sizeOf21
 v21 := Tryd.zeroValue21
 t31 := Tryd.underlying50
 a31 := Tryd.isAgg50
 z31 := Tryd.sizeOf50
 v31 := Tryd.zeroValue50
 t40 := Tryd.underlying111
 a40 := Tryd.isAgg111
 z40 := Tryd.sizeOf111
 v40 := Tryd.zeroValue111
 t46 := Tryd.underlying135
 a46 := Tryd.isAgg135
 z46 := Tryd.sizeOf135
 v46 := Tryd.zeroValue135
 t49 := Tryd.underlying158
 a49 := Tryd.isAgg158
 z49 := Tryd.sizeOf158
 v49 := Tryd.zeroValue158
 t51 := Tryd.underlying130
 a51 := Tryd.isAgg130
 z51 := Tryd.sizeOf130
 v51 := Tryd.zeroValue130
 t119 := Tryd.underlying109
 a119 := Tryd.isAgg109
 z119 := Tryd.sizeOf109
 t141 := Tryd.underlying132
 a141 := Tryd.isAgg132
 z141 := Tryd.sizeOf132
 v141 := Tryd.zeroValue132
 t152 := Tryd.underlying127
 a152 := Tryd.isAgg127
 z152 := Tryd.sizeOf127
 v152 := Tryd.zeroValue127
 t154 := Tryd.underlying129
 a154 := Tryd.isAgg129
 z154 := Tryd.sizeOf129
 v154 := Tryd.zeroValue129
 t193 := Tryd.underlying154
 a193 := Tryd.isAgg154
 z193 := Tryd.sizeOf154
 v193 := Tryd.zeroValue154
 t194 := Tryd.underlying155
 a194 := Tryd.isAgg155
 z194 := Tryd.sizeOf155
 v194 := Tryd.zeroValue155
 t196 := Tryd.underlying157
 a196 := Tryd.isAgg157
 z196 := Tryd.sizeOf157
 v196 := Tryd.zeroValue157
 t198 := Tryd.underlying160
 a198 := Tryd.isAgg160
 z198 := Tryd.sizeOf160
 v198 := Tryd.zeroValue160
 t201 := Tryd.underlying163
 a201 := Tryd.isAgg163
 z201 := Tryd.sizeOf163
 v201 := Tryd.zeroValue163
 t226 := Tryd.underlying183
 a226 := Tryd.isAgg183
 z226 := Tryd.sizeOf183
 v226 := Tryd.zeroValue183
 t227 := Tryd.underlying184
 a227 := Tryd.isAgg184
 z227 := Tryd.sizeOf184
 v227 := Tryd.zeroValue184
 g0 := by kernel_rfl
 g6 := by kernel_rfl
 i0 := by kernel_rfl
 i3 := by kernel_rfl
 i4 := by kernel_rfl
 i5 := by kernel_rfl
 i9 := by kernel_rfl
 i21 := by kernel_rfl
 i31 := by kernel_rfl
 i40 := by kernel_rfl
 i46 := by kernel_rfl
 i49 := by kernel_rfl
 i51 := by kernel_rfl
 i141 := by kernel_rfl
 i152 := by kernel_rfl
 i154 := by kernel_rfl
 i193 := by kernel_rfl
 i194 := by kernel_rfl
 i196 := by kernel_rfl
 i198 := by kernel_rfl
 i201 := by kernel_rfl
 i226 := by kernel_rfl
 i227 := by kernel_rfl
 m0 := by kernel_rfl
 m6 := by kernel_rfl }
theorem Tryd.strings_Fields (s : ByteArray) (w : World) (hs : s.size < 4294967281) (ha : ∀ (j : Nat) b, s.data.toList[j]? = some b → b.toNat < 128) (htab : Lib.TabIs Tryd.prog w "strings.asciiSpace" .u8 Lib.asciiSpaceTab) :
   Calls Tryd.prog 40 #[.string s] w fun e w' => e = .returned (.slice (some ⟨w.heap.size, 0, none⟩) (Lib.fields s.data.toList).length (Lib.fields s.data.toList).length) ∧ w' = w.alloc (.cells ((Lib.fields s.data.toList).map fun l => Value.string ⟨l.toArray⟩).toArray 9) := Any.strings_Fields_laid Tryd.laysM157 s w hs ha htab
def Tryd.lays160_ren : Go.Shelf.Ren := ⟨fun | 160 => 80 | 232 => 92 | 231 => 91 | 227 => 93 | 234 => 95 | 233 => 94 | 236 => 97 | 235 => 96 | 228 => 120 | 271 => 123 | 151 => 122 | 197 => 121 | 120 => 139 | 152 => 138 | 260 => 137 | 137 => 59 | 119 => 149 | 224 => 150 | 225 => 151 | 217 => 81 | 266 => 98 | n => n, fun | 9 => 9 | 4 => 4 | 3 => 3 | 5 => 5 | 117 => 144 | 116 => 143 | 0 => 0 | 124 => 147 | 21 => 21 | 105 => 179 | 46 => 135 | 119 => 109 | 139 => 208 | 138 => 207 | n => n, fun | 3 => 4 | 4 => 5 | n => n⟩
theorem Tryd.lays160 : Go.Proofs.Lays.n160 Tryd.prog Tryd.lays160_ren := {
 mixed := by kernel_rfl
 f119 := Tryd.func149.trans (congrArg some (by kernel_rfl))
 f120 := Tryd.func139.trans (congrArg some (by kernel_rfl))
 f137 := Tryd.func59.trans (congrArg some (by kernel_rfl))
 f151 := Tryd.func122.trans (congrArg some (by kernel_rfl))
 f152 := Tryd.func138.trans (congrArg some (by kernel_rfl))
 f160 := Tryd.func80.trans (congrArg some (by kernel_rfl))
 f197 := Tryd.func121.trans (congrArg some (by kernel_rfl))
 f217 := Tryd.func81.trans (congrArg some (by kernel_rfl))
 f224 := Tryd.func150.trans (congrArg some (by kernel_rfl))
 f225 := Tryd.func151.trans (congrArg some (by kernel_rfl))
 f227 := Tryd.func93.trans (congrArg some (by kernel_rfl))
 f228 := Tryd.func120.trans (congrArg some (by kernel_rfl))
 f231 := Tryd.func91.trans (congrArg some (by kernel_rfl))
 f232 := Tryd.func92.trans (congrArg some (by kernel_rfl))
 f233 := Tryd.func94.trans (congrArg some (by kernel_rfl))
 f234 := Tryd.func95.trans (congrArg some (by kernel_rfl))
 f235 := Tryd.func96.trans (congrArg some (by kernel_rfl))
 f236 := Tryd.func97.trans (congrArg some (by kernel_rfl))
 f260 := Tryd.func137.trans (congrArg some (by kernel_rfl))
 f266 := Tryd.func98.trans (congrArg some (by kernel_rfl))
 f271 := Tryd.func123.trans (congrArg some (by kernel_rfl))
 t0 := Tryd.underlying0
 a0 := Tryd.isAgg0
 z0 := Tryd.sizeOf0
 v0 := Tryd.zeroValue0
 t3 := Tryd.underlying3
 a3 := Tryd.isAgg3
 z3 := Tryd.sizeOf3
 v3 := Tryd.zeroValue3
 t4 := Tryd.underlying4
 a4 := Tryd.isAgg4
 z4 := Tryd.sizeOf4
 v4 := Tryd.zeroValue4
 t5 := Tryd.underlying5
 a5 := Tryd.isAgg5
 z5 := Tryd.sizeOf5
 v5 := Tryd.zeroValue5
 t9 := Tryd.underlying9
 a9 := Tryd.isAgg9
 z9 := Tryd.sizeOf9
 v9 := Tryd.zeroValue9
 t21 := Tryd.underlying21
 a21 := Tryd.isAgg21
 z21 := Tryd.sizeOf21
 v21 := Tryd.zeroValue21
 t46 := Tryd.underlying135
 a46 := Tryd.isAgg135
 z46 := Tryd.sizeOf135
 v46 := Tryd.zeroValue135
 t105 := Tryd.underlying179
 a105 := Tryd.isAgg179
 z105 := Tryd.sizeOf179
 v105 := Tryd.zeroValue179
 t116 := Tryd.underlying143
 a116 := Tryd.isAgg143
 z116 := Tryd.sizeOf143
 t117 := Tryd.underlying144
 a117 := Tryd.isAgg144
 z117 := Tryd.sizeOf144
 v117 := Tryd.zeroValue144
 t119 := Tryd.underlying109
 a119 := Tryd.isAgg109
 z119 := Tryd.sizeOf109
 t124 := Tryd.underlying147
 a124 := Tryd.isAgg147
 z124 := Tryd.sizeOf147
 v124 := Tryd.zeroValue147
 t138 := Tryd.underlying207
 a138 := Tryd.isAgg207
 z138 := Tryd.sizeOf207
 v138 := Tryd.zeroValue207
 t139 := Tryd.underlying208
 a139 := Tryd.isAgg208
 z139 := Tryd.sizeOf208
 v139 := Tryd.zeroValue208
 g3 := by kernel_rfl
 g4 := by kernel_rfl }
theorem Tryd.strings_Trim (s t : ByteArray) (w : World) (hs : s.size ≤ 9223372036854775807) (ht : t.size < 4294967281) (ha : ∀ (j : Nat) b, t.data.toList[j]? = some b → b.toNat < 128) :
   Calls Tryd.prog 80 #[.string s, .string t] w fun e w' => e = .returned (.string ⟨(Lib.trimS s.data.toList t.data.toList).toArray⟩) ∧ Go.RowKit.Below w.heap.size w w' := Any.strings_Trim_laid Tryd.lays160 (by kernel_rfl) s t w hs ht ha
end Go.Proofs

end
