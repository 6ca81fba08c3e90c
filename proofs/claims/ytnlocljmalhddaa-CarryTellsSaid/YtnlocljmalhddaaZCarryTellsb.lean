/- Part 2: what the law CarryTells needs, put together out of texts of this session. -/
import Derived.ProofKit
import Derived.OpenShut
import Derived.ShutString
import Derived.ChangeOld
import Derived.Below
import Derived.SizedLaws
import Derived.ChangeArms
import Derived.Laws.StructEq
import Derived.Test.YtnlocljmalhddaaZCarryTellsa
section
namespace Go.Proofs.Ytnlocljmalhddaa.Fw
open Go Go.Hw Go.Proofs
set_option linter.unusedVariables false
def f42.T : Tab := { sh := tSh, tup := tTup, keep := [], plan := [] }
def f42.kp : Keep := []
theorem f42.good : goodCode Try.prog f42.T (rootOf Try.f42) = true := by kernel_rfl
set_option maxRecDepth 100000 in
def f42.runT (R : Value → Heap → Prop) (A0 : Option Addr) (n0 : Nat) (c0 : Nat) (h : Heap) : Prop :=
  splitB (Option.isNone A0) (R (Value.slice none 0 0) h) (newH h (Obj.cells #[] 77) fun h1_ => AppW 77 1 8 #[(Value.int .u64 (0 : Int))] (some ⟨Array.size h, 0, none⟩) 0 0 (Value.slice A0 n0 c0) h1_ fun v2_ h3_ => ∃ A4_, ∃ n4_, ∃ c4_, v2_ = (Value.slice A4_ n4_ c4_) ∧ R (Value.slice A4_ n4_ c4_) h3_)
set_option maxRecDepth 100000 in
theorem f42.run {R : Value → Heap → Prop} {A0 : Option Addr} {n0 : Nat} {c0 : Nat} {h : Heap} (H : f42.runT R A0 n0 c0 h) : Run Try.prog 42 #[(Value.slice A0 n0 c0)] h R :=
  run_of mixed Try.func42 (by kernel_rfl) (by kernel_rfl) f42.good (Eq.mpr (show (Fwd Try.prog f42.T f42.kp Try.f42 R [] (mkFr (argL [(Value.slice A0 n0 c0)] 0)) h) = (f42.runT R A0 n0 c0 h) by kernel_rfl) H)
def f97.T : Tab := { sh := tSh, tup := tTup, keep := [], plan := [] }
def f97.kp : Keep := [([true, false, true, true], [7, 19])]
theorem f97.good : goodCode Try.prog f97.T (rootOf Try.f97) = true := by kernel_rfl
def f97.j0 (R : Value → Heap → Prop) (x7 : Int) (b19 : Bool) (h : Heap) : Prop := Pt Try.prog Try.f97 R [true, false, true, true] (mkFr [(7, (Value.int .i64 x7)), (19, (Value.bool b19))]) h
set_option maxRecDepth 100000 in
def f97.j0T (R : Value → Heap → Prop) (x7 : Int) (b19 : Bool) (h : Heap) : Prop :=
  splitB b19 (R (Value.int .i64 (IntKind.wrap .i64 (x7 + (1 : Int)))) h) (R (Value.int .i64 x7) h)
set_option maxRecDepth 100000 in
theorem f97.j0_in {R : Value → Heap → Prop} {x7 : Int} {b19 : Bool} {h : Heap} (H : f97.j0T R x7 b19 h) : f97.j0 R x7 b19 h :=
  pt_intro mixed f97.good (Eq.mpr (show (Fwd Try.prog f97.T f97.kp Try.f97 R [true, false, true, true] (mkFr [(7, (Value.int .i64 x7)), (19, (Value.bool b19))]) h) = (f97.j0T R x7 b19 h) by kernel_rfl) H)
set_option maxRecDepth 100000 in
def f97.runT (R : Value → Heap → Prop) (x0 : Int) (x1 : Int) (x2 : Int) (h : Heap) : Prop :=
  (8 : Int) ≠ 0 ∧ (splitB (x0 == (1 : Int)) (f97.j0 R (IntKind.wrap .i64 ((IntKind.wrap .i64 ((1 : Int) + (IntKind.wrap .i64 (Int.tdiv (IntKind.wrap .i64 (x1 + (7 : Int))) (8 : Int))))) + x2)) true h) (f97.j0 R (IntKind.wrap .i64 ((IntKind.wrap .i64 ((1 : Int) + (IntKind.wrap .i64 (Int.tdiv (IntKind.wrap .i64 (x1 + (7 : Int))) (8 : Int))))) + x2)) (x0 == (4 : Int)) h))
set_option maxRecDepth 100000 in
theorem f97.run {R : Value → Heap → Prop} {x0 : Int} {x1 : Int} {x2 : Int} {h : Heap} (H : f97.runT R x0 x1 x2 h) : Run Try.prog 97 #[(Value.int .i64 x0), (Value.int .i64 x1), (Value.int .i64 x2)] h R :=
  run_of mixed Try.func97 (by kernel_rfl) (by kernel_rfl) f97.good (Eq.mpr (show (Fwd Try.prog f97.T f97.kp Try.f97 R [] (mkFr (argL [(Value.int .i64 x0), (Value.int .i64 x1), (Value.int .i64 x2)] 0)) h) = (f97.runT R x0 x1 x2 h) by kernel_rfl) H)
def f106.T : Tab := { sh := tSh, tup := tTup, keep := [], plan := [] }
def f106.kp : Keep := [([true, false, false, true], [1, 3]), ([true, false, true, true, false, false, true], [1, 24]), ([true, true, true, false, true, true, false, false, true], [1, 24]), ([true, true], [1])]
theorem f106.good : goodCode Try.prog f106.T (rootOf Try.f106) = true := by kernel_rfl
def f106.j1 (R : Value → Heap → Prop) (a1 : Addr) (b3 : Bool) (h : Heap) : Prop := Pt Try.prog Try.f106 R [true, false, false, true] (mkFr [(1, (Value.pointer (some a1))), (3, (Value.bool b3))]) h
def f106.j2 (R : Value → Heap → Prop) (a1 : Addr) (b24 : Bool) (h : Heap) : Prop := Pt Try.prog Try.f106 R [true, false, true, true, false, false, true] (mkFr [(1, (Value.pointer (some a1))), (24, (Value.bool b24))]) h
def f106.j0 (R : Value → Heap → Prop) (a1 : Addr) (h : Heap) : Prop := Pt Try.prog Try.f106 R [true, true] (mkFr [(1, (Value.pointer (some a1)))]) h
def f106.j3 (R : Value → Heap → Prop) (a1 : Addr) (b24 : Bool) (h : Heap) : Prop := Pt Try.prog Try.f106 R [true, true, true, false, true, true, false, false, true] (mkFr [(1, (Value.pointer (some a1))), (24, (Value.bool b24))]) h
set_option maxRecDepth 100000 in
def f106.j1T (R : Value → Heap → Prop) (a1 : Addr) (b3 : Bool) (h : Heap) : Prop :=
  splitB b3 (R (Value.bool false) h) (∃ v1_, ldv false 1 h (Addr.add a1 1) = some v1_ ∧ ∃ x2_, v1_ = (Value.int .i64 x2_) ∧ splitB (x2_ == (1 : Int)) (∃ v3_, ldv false 1 h (Addr.add a1 4) = some v3_ ∧ ∃ A4_, ∃ n4_, ∃ c4_, v3_ = (Value.slice A4_ n4_ c4_) ∧ f106.j2 R a1 (decide (((n4_ : Nat) : Int) > (0 : Int))) h) (∃ v5_, ldv false 1 h (Addr.add a1 1) = some v5_ ∧ ∃ x6_, v5_ = (Value.int .i64 x6_) ∧ splitB (x6_ == (2 : Int)) (∃ v7_, ldv false 1 h (Addr.add a1 4) = some v7_ ∧ ∃ A8_, ∃ n8_, ∃ c8_, v7_ = (Value.slice A8_ n8_ c8_) ∧ f106.j2 R a1 (decide (((n8_ : Nat) : Int) > (0 : Int))) h) (f106.j2 R a1 false h)))
set_option maxRecDepth 100000 in
theorem f106.j1_in {R : Value → Heap → Prop} {a1 : Addr} {b3 : Bool} {h : Heap} (H : f106.j1T R a1 b3 h) : f106.j1 R a1 b3 h :=
  pt_intro mixed f106.good (Eq.mpr (show (Fwd Try.prog f106.T f106.kp Try.f106 R [true, false, false, true] (mkFr [(1, (Value.pointer (some a1))), (3, (Value.bool b3))]) h) = (f106.j1T R a1 b3 h) by kernel_rfl) H)
set_option maxRecDepth 100000 in
def f106.j2T (R : Value → Heap → Prop) (a1 : Addr) (b24 : Bool) (h : Heap) : Prop :=
  splitB b24 (splitB b24 (R (Value.bool false) h) (f106.j0 R a1 h)) (∃ v1_, ldv false 1 h (Addr.add a1 1) = some v1_ ∧ ∃ x2_, v1_ = (Value.int .i64 x2_) ∧ splitB (x2_ != (2 : Int)) (∃ v3_, ldv false 1 h (Addr.add a1 1) = some v3_ ∧ ∃ x4_, v3_ = (Value.int .i64 x4_) ∧ splitB (x4_ != (3 : Int)) (∃ v5_, ldv false 1 h (Addr.add a1 3) = some v5_ ∧ ∃ s6_, v5_ = (Value.string s6_) ∧ f106.j3 R a1 (!(ByteArray.toList s6_ == ByteArray.toList (ByteArray.mk #[]))) h) (f106.j3 R a1 false h)) (f106.j3 R a1 false h))
set_option maxRecDepth 100000 in
theorem f106.j2_in {R : Value → Heap → Prop} {a1 : Addr} {b24 : Bool} {h : Heap} (H : f106.j2T R a1 b24 h) : f106.j2 R a1 b24 h :=
  pt_intro mixed f106.good (Eq.mpr (show (Fwd Try.prog f106.T f106.kp Try.f106 R [true, false, true, true, false, false, true] (mkFr [(1, (Value.pointer (some a1))), (24, (Value.bool b24))]) h) = (f106.j2T R a1 b24 h) by kernel_rfl) H)
set_option maxRecDepth 100000 in
def f106.j0T (R : Value → Heap → Prop) (a1 : Addr) (h : Heap) : Prop :=
  ∃ v1_, ldv false 1 h (Addr.add a1 1) = some v1_ ∧ ∃ x2_, v1_ = (Value.int .i64 x2_) ∧ splitB (x2_ != (5 : Int)) (R (Value.bool true) h) (∃ v3_, ldv false 1 h (Addr.add a1 4) = some v3_ ∧ ∃ A4_, ∃ n4_, ∃ c4_, v3_ = (Value.slice A4_ n4_ c4_) ∧ R (Value.bool (decide (((n4_ : Nat) : Int) ≤ (1 : Int)))) h)
set_option maxRecDepth 100000 in
theorem f106.j0_in {R : Value → Heap → Prop} {a1 : Addr} {h : Heap} (H : f106.j0T R a1 h) : f106.j0 R a1 h :=
  pt_intro mixed f106.good (Eq.mpr (show (Fwd Try.prog f106.T f106.kp Try.f106 R [true, true] (mkFr [(1, (Value.pointer (some a1)))]) h) = (f106.j0T R a1 h) by kernel_rfl) H)
set_option maxRecDepth 100000 in
def f106.j3T (R : Value → Heap → Prop) (a1 : Addr) (b24 : Bool) (h : Heap) : Prop :=
  splitB b24 (splitB b24 (R (Value.bool false) h) (f106.j0 R a1 h)) (∃ v1_, ldv false 1 h (Addr.add a1 1) = some v1_ ∧ ∃ x2_, v1_ = (Value.int .i64 x2_) ∧ splitB (x2_ != (1 : Int)) (∃ v3_, ldv false 1 h (Addr.add a1 1) = some v3_ ∧ ∃ x4_, v3_ = (Value.int .i64 x4_) ∧ splitB (x4_ != (4 : Int)) (∃ v5_, ldv false 1 h (Addr.add a1 2) = some v5_ ∧ ∃ x6_, v5_ = (Value.int .i64 x6_) ∧ splitB (x6_ != (0 : Int)) (R (Value.bool false) h) (f106.j0 R a1 h)) (f106.j0 R a1 h)) (f106.j0 R a1 h))
set_option maxRecDepth 100000 in
theorem f106.j3_in {R : Value → Heap → Prop} {a1 : Addr} {b24 : Bool} {h : Heap} (H : f106.j3T R a1 b24 h) : f106.j3 R a1 b24 h :=
  pt_intro mixed f106.good (Eq.mpr (show (Fwd Try.prog f106.T f106.kp Try.f106 R [true, true, true, false, true, true, false, false, true] (mkFr [(1, (Value.pointer (some a1))), (24, (Value.bool b24))]) h) = (f106.j3T R a1 b24 h) by kernel_rfl) H)
set_option maxRecDepth 100000 in
def f106.runT (R : Value → Heap → Prop) (v0 : Value) (h : Heap) : Prop :=
  newH h (Obj.cells ((v0).cells) 152) fun h1_ => ∃ v2_, ldv false 1 h1_ (Addr.add (⟨Array.size h, 0, none⟩) 3) = some v2_ ∧ ∃ s3_, v2_ = (Value.string s3_) ∧ splitB (decide (((ByteArray.size s3_ : Nat) : Int) > (64 : Int))) (f106.j1 R (⟨Array.size h, 0, none⟩) true h1_) (∃ v4_, ldv false 1 h1_ (Addr.add (⟨Array.size h, 0, none⟩) 4) = some v4_ ∧ ∃ A5_, ∃ n5_, ∃ c5_, v4_ = (Value.slice A5_ n5_ c5_) ∧ splitB (decide (((n5_ : Nat) : Int) > (400 : Int))) (f106.j1 R (⟨Array.size h, 0, none⟩) true h1_) (∃ v6_, ldv false 1 h1_ (Addr.add (⟨Array.size h, 0, none⟩) 1) = some v6_ ∧ ∃ x7_, v6_ = (Value.int .i64 x7_) ∧ splitB (decide (x7_ < (1 : Int))) (f106.j1 R (⟨Array.size h, 0, none⟩) true h1_) (∃ v8_, ldv false 1 h1_ (Addr.add (⟨Array.size h, 0, none⟩) 1) = some v8_ ∧ ∃ x9_, v8_ = (Value.int .i64 x9_) ∧ f106.j1 R (⟨Array.size h, 0, none⟩) (decide (x9_ > (5 : Int))) h1_)))
set_option maxRecDepth 100000 in
theorem f106.run {R : Value → Heap → Prop} {v0 : Value} {h : Heap} (H : f106.runT R v0 h) : Run Try.prog 106 #[v0] h R :=
  run_of mixed Try.func106 (by kernel_rfl) (by kernel_rfl) f106.good (Eq.mpr (show (Fwd Try.prog f106.T f106.kp Try.f106 R [] (mkFr (argL [v0] 0)) h) = (f106.runT R v0 h) by kernel_rfl) H)
def f107.T : Tab := { sh := tSh, tup := tTup, keep := [], plan := [] }
def f107.kp : Keep := []
theorem f107.good : goodCode Try.prog f107.T (rootOf Try.f107) = true := by kernel_rfl
set_option maxRecDepth 100000 in
def f107.runT (R : Value → Heap → Prop) (v0 : Value) (h : Heap) : Prop :=
  newH h (Obj.cells ((v0).cells) 152) fun h1_ => ∃ v2_, ldv false 1 h1_ (Addr.add (⟨Array.size h, 0, none⟩) 1) = some v2_ ∧ ∃ x3_, v2_ = (Value.int .i64 x3_) ∧ ∃ v4_, ldv false 1 h1_ (Addr.add (⟨Array.size h, 0, none⟩) 3) = some v4_ ∧ ∃ s5_, v4_ = (Value.string s5_) ∧ 0 ≤ (8 : Int) ∧ (∃ v6_, ldv false 1 h1_ (Addr.add (⟨Array.size h, 0, none⟩) 4) = some v6_ ∧ ∃ A7_, ∃ n7_, ∃ c7_, v6_ = (Value.slice A7_ n7_ c7_) ∧ 0 ≤ (20 : Int) ∧ (R (Value.int .u64 (bitsI .or .u64 (bitsI .or .u64 (IntKind.wrap .u64 x3_) (shlI .u64 (IntKind.wrap .u64 ((ByteArray.size s5_ : Nat) : Int)) (8 : Int))) (shlI .u64 (IntKind.wrap .u64 ((n7_ : Nat) : Int)) (20 : Int)))) h1_))
set_option maxRecDepth 100000 in
theorem f107.run {R : Value → Heap → Prop} {v0 : Value} {h : Heap} (H : f107.runT R v0 h) : Run Try.prog 107 #[v0] h R :=
  run_of mixed Try.func107 (by kernel_rfl) (by kernel_rfl) f107.good (Eq.mpr (show (Fwd Try.prog f107.T f107.kp Try.f107 R [] (mkFr (argL [v0] 0)) h) = (f107.runT R v0 h) by kernel_rfl) H)
def f103.T : Tab := { sh := tSh, tup := tTup, keep := [], plan := [(5, (.take 0 (.take 2 (.eff true 1 (.eff false 3 (.eff false 4 (.eff false 5 (.take 6 .done))))))))] }
def f103.kp : Keep := [([true, false, true, true, true], [0, 3, 7, 42]), ([true, true, true, true], [0, 3, 7]), ([false, false, true, false, true, true, true, true], [0, 3, 7, 8]), ([false, false, true, false, true, false, false, true, false, false, true, false, true, true, true, true], [0, 3, 7, 8, 9, 56])]
theorem f103.good : goodCode Try.prog f103.T (rootOf Try.f103) = true := by kernel_rfl
def f103.j1 (R : Value → Heap → Prop) (A0 : Option Addr) (n0 : Nat) (c0 : Nat) (a3 : Addr) (A7 : Option Addr) (n7 : Nat) (c7 : Nat) (b42 : Bool) (h : Heap) : Prop := Pt Try.prog Try.f103 R [true, false, true, true, true] (mkFr [(0, (Value.slice A0 n0 c0)), (3, (Value.pointer (some a3))), (7, (Value.slice A7 n7 c7)), (42, (Value.bool b42))]) h
def f103.j0 (R : Value → Heap → Prop) (A0 : Option Addr) (n0 : Nat) (c0 : Nat) (a3 : Addr) (A7 : Option Addr) (n7 : Nat) (c7 : Nat) (h : Heap) : Prop := Pt Try.prog Try.f103 R [true, true, true, true] (mkFr [(0, (Value.slice A0 n0 c0)), (3, (Value.pointer (some a3))), (7, (Value.slice A7 n7 c7))]) h
def f103.l0 (R : Value → Heap → Prop) (A0 : Option Addr) (n0 : Nat) (c0 : Nat) (a3 : Addr) (A7 : Option Addr) (n7 : Nat) (c7 : Nat) (x8 : Int) (h : Heap) : Prop := Pt Try.prog Try.f103 R [false, false, true, false, true, true, true, true] (mkFr [(0, (Value.slice A0 n0 c0)), (3, (Value.pointer (some a3))), (7, (Value.slice A7 n7 c7)), (8, (Value.int .i64 x8))]) h
def f103.l1 (R : Value → Heap → Prop) (A0 : Option Addr) (n0 : Nat) (c0 : Nat) (a3 : Addr) (A7 : Option Addr) (n7 : Nat) (c7 : Nat) (x8 : Int) (x9 : Int) (x56 : Int) (h : Heap) : Prop := Pt Try.prog Try.f103 R [false, false, true, false, true, false, false, true, false, false, true, false, true, true, true, true] (mkFr [(0, (Value.slice A0 n0 c0)), (3, (Value.pointer (some a3))), (7, (Value.slice A7 n7 c7)), (8, (Value.int .i64 x8)), (9, (Value.int .u64 x9)), (56, (Value.int .i64 x56))]) h
set_option maxRecDepth 100000 in
def f103.j1T (R : Value → Heap → Prop) (A0 : Option Addr) (n0 : Nat) (c0 : Nat) (a3 : Addr) (A7 : Option Addr) (n7 : Nat) (c7 : Nat) (b42 : Bool) (h : Heap) : Prop :=
  splitB b42 (∃ v1_, ldv false 1 h (Addr.add a3 2) = some v1_ ∧ ∃ x2_, v1_ = (Value.int .i64 x2_) ∧ newH h (Obj.cells #[(Value.int .u64 (IntKind.wrap .u64 x2_))] 77) fun h3_ => AppW 77 1 8 #[(Value.int .u64 (0 : Int))] A7 n7 c7 (Value.slice (some ⟨Array.size h, 0, none⟩) 1 1) h3_ fun v4_ h5_ => ∃ A6_, ∃ n6_, ∃ c6_, v4_ = (Value.slice A6_ n6_ c6_) ∧ f103.j0 R A0 n0 c0 a3 A6_ n6_ c6_ h5_) (f103.j0 R A0 n0 c0 a3 A7 n7 c7 h)
set_option maxRecDepth 100000 in
theorem f103.j1_in {R : Value → Heap → Prop} {A0 : Option Addr} {n0 : Nat} {c0 : Nat} {a3 : Addr} {A7 : Option Addr} {n7 : Nat} {c7 : Nat} {b42 : Bool} {h : Heap} (H : f103.j1T R A0 n0 c0 a3 A7 n7 c7 b42 h) : f103.j1 R A0 n0 c0 a3 A7 n7 c7 b42 h :=
  pt_intro mixed f103.good (Eq.mpr (show (Fwd Try.prog f103.T f103.kp Try.f103 R [true, false, true, true, true] (mkFr [(0, (Value.slice A0 n0 c0)), (3, (Value.pointer (some a3))), (7, (Value.slice A7 n7 c7)), (42, (Value.bool b42))]) h) = (f103.j1T R A0 n0 c0 a3 A7 n7 c7 b42 h) by kernel_rfl) H)
set_option maxRecDepth 100000 in
def f103.j0T (R : Value → Heap → Prop) (A0 : Option Addr) (n0 : Nat) (c0 : Nat) (a3 : Addr) (A7 : Option Addr) (n7 : Nat) (c7 : Nat) (h : Heap) : Prop :=
  f103.l0 R A0 n0 c0 a3 A7 n7 c7 (0 : Int) h
set_option maxRecDepth 100000 in
theorem f103.j0_in {R : Value → Heap → Prop} {A0 : Option Addr} {n0 : Nat} {c0 : Nat} {a3 : Addr} {A7 : Option Addr} {n7 : Nat} {c7 : Nat} {h : Heap} (H : f103.j0T R A0 n0 c0 a3 A7 n7 c7 h) : f103.j0 R A0 n0 c0 a3 A7 n7 c7 h :=
  pt_intro mixed f103.good (Eq.mpr (show (Fwd Try.prog f103.T f103.kp Try.f103 R [true, true, true, true] (mkFr [(0, (Value.slice A0 n0 c0)), (3, (Value.pointer (some a3))), (7, (Value.slice A7 n7 c7))]) h) = (f103.j0T R A0 n0 c0 a3 A7 n7 c7 h) by kernel_rfl) H)
set_option maxRecDepth 100000 in
def f103.l0T (R : Value → Heap → Prop) (A0 : Option Addr) (n0 : Nat) (c0 : Nat) (a3 : Addr) (A7 : Option Addr) (n7 : Nat) (c7 : Nat) (x8 : Int) (h : Heap) : Prop :=
  ∃ v1_, ldv false 1 h (Addr.add a3 3) = some v1_ ∧ ∃ s2_, v1_ = (Value.string s2_) ∧ splitB (decide (x8 < ((ByteArray.size s2_ : Nat) : Int))) (f103.l1 R A0 n0 c0 a3 A7 n7 c7 x8 (0 : Int) (0 : Int) h) (∃ v3_, ldv false 1 h (Addr.add a3 4) = some v3_ ∧ ∃ A4_, ∃ n4_, ∃ c4_, v3_ = (Value.slice A4_ n4_ c4_) ∧ AppW 77 1 8 #[(Value.int .u64 (0 : Int))] A7 n7 c7 (Value.slice A4_ n4_ c4_) h fun v5_ h6_ => ∃ A7_, ∃ n7_, ∃ c7_, v5_ = (Value.slice A7_ n7_ c7_) ∧ R (Value.tuple #[(Value.slice A7_ n7_ c7_), (Value.int .i64 ((n0 : Nat) : Int)), (Value.int .i64 (0 : Int))]) h6_)
set_option maxRecDepth 100000 in
theorem f103.l0_in {R : Value → Heap → Prop} {A0 : Option Addr} {n0 : Nat} {c0 : Nat} {a3 : Addr} {A7 : Option Addr} {n7 : Nat} {c7 : Nat} {x8 : Int} {h : Heap} (H : f103.l0T R A0 n0 c0 a3 A7 n7 c7 x8 h) : f103.l0 R A0 n0 c0 a3 A7 n7 c7 x8 h :=
  pt_intro mixed f103.good (Eq.mpr (show (Fwd Try.prog f103.T f103.kp Try.f103 R [false, false, true, false, true, true, true, true] (mkFr [(0, (Value.slice A0 n0 c0)), (3, (Value.pointer (some a3))), (7, (Value.slice A7 n7 c7)), (8, (Value.int .i64 x8))]) h) = (f103.l0T R A0 n0 c0 a3 A7 n7 c7 x8 h) by kernel_rfl) H)
set_option maxRecDepth 100000 in
def f103.l1T (R : Value → Heap → Prop) (A0 : Option Addr) (n0 : Nat) (c0 : Nat) (a3 : Addr) (A7 : Option Addr) (n7 : Nat) (c7 : Nat) (x8 : Int) (x9 : Int) (x56 : Int) (h : Heap) : Prop :=
  splitB (decide (x56 < (8 : Int))) (∃ v1_, ldv false 1 h (Addr.add a3 3) = some v1_ ∧ ∃ s2_, v1_ = (Value.string s2_) ∧ splitB (decide ((IntKind.wrap .i64 (x8 + x56)) < ((ByteArray.size s2_ : Nat) : Int))) (∃ v3_, ldv false 1 h (Addr.add a3 3) = some v3_ ∧ ∃ s4_, v3_ = (Value.string s4_) ∧ 0 ≤ (IntKind.wrap .i64 (x8 + x56)) ∧ ∃ y5_, s4_[Int.toNat (IntKind.wrap .i64 (x8 + x56))]? = some y5_ ∧ (0 ≤ (IntKind.wrap .i64 ((8 : Int) * x56)) ∧ (f103.l1 R A0 n0 c0 a3 A7 n7 c7 x8 (bitsI .or .u64 x9 (shlI .u64 (IntKind.wrap .u64 ((UInt8.toNat y5_ : Nat) : Int)) (IntKind.wrap .i64 ((8 : Int) * x56)))) (IntKind.wrap .i64 (x56 + (1 : Int))) h))) (f103.l1 R A0 n0 c0 a3 A7 n7 c7 x8 x9 (IntKind.wrap .i64 (x56 + (1 : Int))) h)) (newH h (Obj.cells #[(Value.int .u64 x9)] 77) fun h6_ => AppW 77 1 8 #[(Value.int .u64 (0 : Int))] A7 n7 c7 (Value.slice (some ⟨Array.size h, 0, none⟩) 1 1) h6_ fun v7_ h8_ => ∃ A9_, ∃ n9_, ∃ c9_, v7_ = (Value.slice A9_ n9_ c9_) ∧ f103.l0 R A0 n0 c0 a3 A9_ n9_ c9_ (IntKind.wrap .i64 (x8 + (8 : Int))) h8_)
set_option maxRecDepth 100000 in
theorem f103.l1_in {R : Value → Heap → Prop} {A0 : Option Addr} {n0 : Nat} {c0 : Nat} {a3 : Addr} {A7 : Option Addr} {n7 : Nat} {c7 : Nat} {x8 : Int} {x9 : Int} {x56 : Int} {h : Heap} (H : f103.l1T R A0 n0 c0 a3 A7 n7 c7 x8 x9 x56 h) : f103.l1 R A0 n0 c0 a3 A7 n7 c7 x8 x9 x56 h :=
  pt_intro mixed f103.good (Eq.mpr (show (Fwd Try.prog f103.T f103.kp Try.f103 R [false, false, true, false, true, false, false, true, false, false, true, false, true, true, true, true] (mkFr [(0, (Value.slice A0 n0 c0)), (3, (Value.pointer (some a3))), (7, (Value.slice A7 n7 c7)), (8, (Value.int .i64 x8)), (9, (Value.int .u64 x9)), (56, (Value.int .i64 x56))]) h) = (f103.l1T R A0 n0 c0 a3 A7 n7 c7 x8 x9 x56 h) by kernel_rfl) H)
set_option maxRecDepth 100000 in
def f103.runT (R : Value → Heap → Prop) (A0 : Option Addr) (n0 : Nat) (c0 : Nat) (v1 : Value) (h : Heap) : Prop :=
  newH h (Obj.cells ((v1).cells) 152) fun h1_ => ∃ v2_, ldv true 5 h1_ (⟨Array.size h, 0, none⟩) = some v2_ ∧ Run Try.prog 106 #[v2_] h1_ fun v3_ h4_ => ∃ b5_, v3_ = (Value.bool b5_) ∧ splitB (!b5_) (R (Value.tuple #[(Value.slice none 0 0), (Value.int .i64 (0 : Int)), (Value.int .i64 (1 : Int))]) h4_) (∃ v6_, ldv false 1 h4_ (Addr.add (⟨Array.size h, 0, none⟩) 1) = some v6_ ∧ ∃ x7_, v6_ = (Value.int .i64 x7_) ∧ ∃ v8_, ldv false 1 h4_ (Addr.add (⟨Array.size h, 0, none⟩) 3) = some v8_ ∧ ∃ s9_, v8_ = (Value.string s9_) ∧ ∃ v10_, ldv false 1 h4_ (Addr.add (⟨Array.size h, 0, none⟩) 4) = some v10_ ∧ ∃ A11_, ∃ n11_, ∃ c11_, v10_ = (Value.slice A11_ n11_ c11_) ∧ Run Try.prog 97 #[(Value.int .i64 x7_), (Value.int .i64 ((ByteArray.size s9_ : Nat) : Int)), (Value.int .i64 ((n11_ : Nat) : Int))] h4_ fun v12_ h13_ => ∃ x14_, v12_ = (Value.int .i64 x14_) ∧ splitB (decide (((n0 : Nat) : Int) > (IntKind.wrap .i64 ((4000 : Int) - x14_)))) (R (Value.tuple #[(Value.slice none 0 0), (Value.int .i64 (0 : Int)), (Value.int .i64 (6 : Int))]) h13_) (∃ v15_, ldv true 5 h13_ (⟨Array.size h, 0, none⟩) = some v15_ ∧ Run Try.prog 42 #[(Value.slice A0 n0 c0)] h13_ fun v16_ h17_ => ∃ A18_, ∃ n18_, ∃ c18_, v16_ = (Value.slice A18_ n18_ c18_) ∧ Ext h13_ h17_ ∧ (Run Try.prog 107 #[v15_] h17_ fun v19_ h20_ => ∃ x21_, v19_ = (Value.int .u64 x21_) ∧ newH h20_ (Obj.cells #[(Value.int .u64 x21_)] 77) fun h22_ => AppW 77 1 8 #[(Value.int .u64 (0 : Int))] A18_ n18_ c18_ (Value.slice (some ⟨Array.size h20_, 0, none⟩) 1 1) h22_ fun v23_ h24_ => ∃ A25_, ∃ n25_, ∃ c25_, v23_ = (Value.slice A25_ n25_ c25_) ∧ ∃ v26_, ldv false 1 h24_ (Addr.add (⟨Array.size h, 0, none⟩) 1) = some v26_ ∧ ∃ x27_, v26_ = (Value.int .i64 x27_) ∧ splitB (x27_ == (1 : Int)) (f103.j1 R A0 n0 c0 (⟨Array.size h, 0, none⟩) A25_ n25_ c25_ true h24_) (∃ v28_, ldv false 1 h24_ (Addr.add (⟨Array.size h, 0, none⟩) 1) = some v28_ ∧ ∃ x29_, v28_ = (Value.int .i64 x29_) ∧ f103.j1 R A0 n0 c0 (⟨Array.size h, 0, none⟩) A25_ n25_ c25_ (x29_ == (4 : Int)) h24_))))
set_option maxRecDepth 100000 in
theorem f103.run {R : Value → Heap → Prop} {A0 : Option Addr} {n0 : Nat} {c0 : Nat} {v1 : Value} {h : Heap} (H : f103.runT R A0 n0 c0 v1 h) : Run Try.prog 103 #[(Value.slice A0 n0 c0), v1] h R :=
  run_of mixed Try.func103 (by kernel_rfl) (by kernel_rfl) f103.good (Eq.mpr (show (Fwd Try.prog f103.T f103.kp Try.f103 R [] (mkFr (argL [(Value.slice A0 n0 c0), v1] 0)) h) = (f103.runT R A0 n0 c0 v1 h) by kernel_rfl) H)
def f104.T : Tab := { sh := tSh, tup := tTup, keep := [], plan := [(6, (.take 0 (.take 1 (.take 2 (.take 4 (.take 5 (.take 6 (.take 3 (.take 7 (.take 8 .done))))))))))] }
def f104.kp : Keep := [([false, false, true, false, true, true], [0, 1, 12, 13])]
theorem f104.good : goodCode Try.prog f104.T (rootOf Try.f104) = true := by kernel_rfl
def f104.l0 (R : Value → Heap → Prop) (A0 : Option Addr) (n0 : Nat) (c0 : Nat) (A1 : Option Addr) (n1 : Nat) (c1 : Nat) (x12 : Int) (x13 : Int) (h : Heap) : Prop := Pt Try.prog Try.f104 R [false, false, true, false, true, true] (mkFr [(0, (Value.slice A0 n0 c0)), (1, (Value.slice A1 n1 c1)), (12, (Value.int .i64 x12)), (13, (Value.int .i64 x13))]) h
set_option maxRecDepth 100000 in
def f104.l0T (R : Value → Heap → Prop) (A0 : Option Addr) (n0 : Nat) (c0 : Nat) (A1 : Option Addr) (n1 : Nat) (c1 : Nat) (x12 : Int) (x13 : Int) (h : Heap) : Prop :=
  splitB (decide (x13 < x12)) (ptrOk A0 fun a1_ => 0 ≤ x13 ∧ x13 < ((n0 : Nat) : Int) ∧ (ptrOk A1 fun a2_ => 0 ≤ x13 ∧ x13 < ((n1 : Nat) : Int) ∧ (∃ v3_, ldv false 1 h (Addr.add a1_ (Int.toNat x13 * 1)) = some v3_ ∧ ∃ x4_, v3_ = (Value.int .u64 x4_) ∧ ∃ v5_, ldv false 1 h (Addr.add a2_ (Int.toNat x13 * 1)) = some v5_ ∧ ∃ x6_, v5_ = (Value.int .u64 x6_) ∧ splitB (x4_ != x6_) (R (Value.bool false) h) (f104.l0 R A0 n0 c0 A1 n1 c1 x12 (IntKind.wrap .i64 (x13 + (1 : Int))) h)))) (R (Value.bool true) h)
set_option maxRecDepth 100000 in
theorem f104.l0_in {R : Value → Heap → Prop} {A0 : Option Addr} {n0 : Nat} {c0 : Nat} {A1 : Option Addr} {n1 : Nat} {c1 : Nat} {x12 : Int} {x13 : Int} {h : Heap} (H : f104.l0T R A0 n0 c0 A1 n1 c1 x12 x13 h) : f104.l0 R A0 n0 c0 A1 n1 c1 x12 x13 h :=
  pt_intro mixed f104.good (Eq.mpr (show (Fwd Try.prog f104.T f104.kp Try.f104 R [false, false, true, false, true, true] (mkFr [(0, (Value.slice A0 n0 c0)), (1, (Value.slice A1 n1 c1)), (12, (Value.int .i64 x12)), (13, (Value.int .i64 x13))]) h) = (f104.l0T R A0 n0 c0 A1 n1 c1 x12 x13 h) by kernel_rfl) H)
set_option maxRecDepth 100000 in
def f104.runT (R : Value → Heap → Prop) (A0 : Option Addr) (n0 : Nat) (c0 : Nat) (A1 : Option Addr) (n1 : Nat) (c1 : Nat) (h : Heap) : Prop :=
  splitB (((n0 : Nat) : Int) != ((n1 : Nat) : Int)) (R (Value.bool false) h) (f104.l0 R A0 n0 c0 A1 n1 c1 ((n0 : Nat) : Int) (0 : Int) h)
set_option maxRecDepth 100000 in
theorem f104.run {R : Value → Heap → Prop} {A0 : Option Addr} {n0 : Nat} {c0 : Nat} {A1 : Option Addr} {n1 : Nat} {c1 : Nat} {h : Heap} (H : f104.runT R A0 n0 c0 A1 n1 c1 h) : Run Try.prog 104 #[(Value.slice A0 n0 c0), (Value.slice A1 n1 c1)] h R :=
  run_of mixed Try.func104 (by kernel_rfl) (by kernel_rfl) f104.good (Eq.mpr (show (Fwd Try.prog f104.T f104.kp Try.f104 R [] (mkFr (argL [(Value.slice A0 n0 c0), (Value.slice A1 n1 c1)] 0)) h) = (f104.runT R A0 n0 c0 A1 n1 c1 h) by kernel_rfl) H)
def f96.T : Tab := { sh := tSh, tup := tTup, keep := [], plan := [(19, (.take 0 (.take 2 (.take 3 (.take 4 (.take 5 (.take 6 (.take 7 (.take 1 (.eff false 8 (.take 9 (.eff false 10 .done))))))))))))] }
def f96.kp : Keep := [([true, false, true], [0, 1, 4, 23]), ([true, true], [0, 1, 4]), ([true, false, true, true, true, true], [0, 1, 4, 7, 8, 9, 53]), ([true, true, true, true, true], [0, 1, 4, 7, 8, 9]), ([true, false, true, true, true, true, true, true, true], [0, 1, 4, 8, 9, 10, 65]), ([true, true, true, true, true, true, true, true], [0, 1, 4, 8, 9, 10]), ([false, false, true, false, true, true, true, true, true, true, true, true, true], [0, 1, 4, 8, 9, 10, 11, 74, 75]), ([true, true, false, true, true, true, true, true, true, true, true, true, true, true, true], [4, 10, 131]), ([true, true, true, true, true, true, true, true, true, true, true, true, true], [4, 10])]
theorem f96.good : goodCode Try.prog f96.T (rootOf Try.f96) = true := by kernel_rfl
def f96.j1 (R : Value → Heap → Prop) (A0 : Option Addr) (n0 : Nat) (c0 : Nat) (x1 : Int) (a4 : Addr) (b23 : Bool) (h : Heap) : Prop := Pt Try.prog Try.f96 R [true, false, true] (mkFr [(0, (Value.slice A0 n0 c0)), (1, (Value.int .i64 x1)), (4, (Value.pointer (some a4))), (23, (Value.bool b23))]) h
def f96.j0 (R : Value → Heap → Prop) (A0 : Option Addr) (n0 : Nat) (c0 : Nat) (x1 : Int) (a4 : Addr) (h : Heap) : Prop := Pt Try.prog Try.f96 R [true, true] (mkFr [(0, (Value.slice A0 n0 c0)), (1, (Value.int .i64 x1)), (4, (Value.pointer (some a4)))]) h
def f96.j3 (R : Value → Heap → Prop) (A0 : Option Addr) (n0 : Nat) (c0 : Nat) (x1 : Int) (a4 : Addr) (x7 : Int) (x8 : Int) (x9 : Int) (b53 : Bool) (h : Heap) : Prop := Pt Try.prog Try.f96 R [true, false, true, true, true, true] (mkFr [(0, (Value.slice A0 n0 c0)), (1, (Value.int .i64 x1)), (4, (Value.pointer (some a4))), (7, (Value.int .i64 x7)), (8, (Value.int .i64 x8)), (9, (Value.int .i64 x9)), (53, (Value.bool b53))]) h
def f96.j2 (R : Value → Heap → Prop) (A0 : Option Addr) (n0 : Nat) (c0 : Nat) (x1 : Int) (a4 : Addr) (x7 : Int) (x8 : Int) (x9 : Int) (h : Heap) : Prop := Pt Try.prog Try.f96 R [true, true, true, true, true] (mkFr [(0, (Value.slice A0 n0 c0)), (1, (Value.int .i64 x1)), (4, (Value.pointer (some a4))), (7, (Value.int .i64 x7)), (8, (Value.int .i64 x8)), (9, (Value.int .i64 x9))]) h
def f96.j5 (R : Value → Heap → Prop) (A0 : Option Addr) (n0 : Nat) (c0 : Nat) (x1 : Int) (a4 : Addr) (x8 : Int) (x9 : Int) (a10 : Addr) (b65 : Bool) (h : Heap) : Prop := Pt Try.prog Try.f96 R [true, false, true, true, true, true, true, true, true] (mkFr [(0, (Value.slice A0 n0 c0)), (1, (Value.int .i64 x1)), (4, (Value.pointer (some a4))), (8, (Value.int .i64 x8)), (9, (Value.int .i64 x9)), (10, (Value.pointer (some a10))), (65, (Value.bool b65))]) h
def f96.j4 (R : Value → Heap → Prop) (A0 : Option Addr) (n0 : Nat) (c0 : Nat) (x1 : Int) (a4 : Addr) (x8 : Int) (x9 : Int) (a10 : Addr) (h : Heap) : Prop := Pt Try.prog Try.f96 R [true, true, true, true, true, true, true, true] (mkFr [(0, (Value.slice A0 n0 c0)), (1, (Value.int .i64 x1)), (4, (Value.pointer (some a4))), (8, (Value.int .i64 x8)), (9, (Value.int .i64 x9)), (10, (Value.pointer (some a10)))]) h
def f96.l0 (R : Value → Heap → Prop) (A0 : Option Addr) (n0 : Nat) (c0 : Nat) (x1 : Int) (a4 : Addr) (x8 : Int) (x9 : Int) (a10 : Addr) (A11 : Option Addr) (n11 : Nat) (c11 : Nat) (x74 : Int) (x75 : Int) (h : Heap) : Prop := Pt Try.prog Try.f96 R [false, false, true, false, true, true, true, true, true, true, true, true, true] (mkFr [(0, (Value.slice A0 n0 c0)), (1, (Value.int .i64 x1)), (4, (Value.pointer (some a4))), (8, (Value.int .i64 x8)), (9, (Value.int .i64 x9)), (10, (Value.pointer (some a10))), (11, (Value.slice A11 n11 c11)), (74, (Value.int .i64 x74)), (75, (Value.int .i64 x75))]) h
def f96.j7 (R : Value → Heap → Prop) (a4 : Addr) (a10 : Addr) (b131 : Bool) (h : Heap) : Prop := Pt Try.prog Try.f96 R [true, true, false, true, true, true, true, true, true, true, true, true, true, true, true] (mkFr [(4, (Value.pointer (some a4))), (10, (Value.pointer (some a10))), (131, (Value.bool b131))]) h
def f96.j6 (R : Value → Heap → Prop) (a4 : Addr) (a10 : Addr) (h : Heap) : Prop := Pt Try.prog Try.f96 R [true, true, true, true, true, true, true, true, true, true, true, true, true] (mkFr [(4, (Value.pointer (some a4))), (10, (Value.pointer (some a10)))]) h
set_option maxRecDepth 100000 in
def f96.j1T (R : Value → Heap → Prop) (A0 : Option Addr) (n0 : Nat) (c0 : Nat) (x1 : Int) (a4 : Addr) (b23 : Bool) (h : Heap) : Prop :=
  splitB b23 (∃ l2_ : List Value, (Value.agg #[(Value.int .i64 (0 : Int)), (Value.int .i64 (0 : Int)), (Value.int .i64 (0 : Int)), (Value.string (ByteArray.mk #[])), (Value.slice none 0 0)]) = Value.agg l2_.toArray ∧ l2_.length = 5 ∧ ∃ h1_, stH h a4 l2_ 0 = some h1_ ∧ ∃ v3_, ldv true 5 h1_ a4 = some v3_ ∧ R (Value.tuple #[v3_, (Value.int .i64 (4 : Int))]) h1_) (f96.j0 R A0 n0 c0 x1 a4 h)
set_option maxRecDepth 100000 in
theorem f96.j1_in {R : Value → Heap → Prop} {A0 : Option Addr} {n0 : Nat} {c0 : Nat} {x1 : Int} {a4 : Addr} {b23 : Bool} {h : Heap} (H : f96.j1T R A0 n0 c0 x1 a4 b23 h) : f96.j1 R A0 n0 c0 x1 a4 b23 h :=
  pt_intro mixed f96.good (Eq.mpr (show (Fwd Try.prog f96.T f96.kp Try.f96 R [true, false, true] (mkFr [(0, (Value.slice A0 n0 c0)), (1, (Value.int .i64 x1)), (4, (Value.pointer (some a4))), (23, (Value.bool b23))]) h) = (f96.j1T R A0 n0 c0 x1 a4 b23 h) by kernel_rfl) H)
set_option maxRecDepth 100000 in
def f96.j0T (R : Value → Heap → Prop) (A0 : Option Addr) (n0 : Nat) (c0 : Nat) (x1 : Int) (a4 : Addr) (h : Heap) : Prop :=
  ptrOk A0 fun a1_ => 0 ≤ x1 ∧ x1 < ((n0 : Nat) : Int) ∧ (∃ v2_, ldv false 1 h (Addr.add a1_ (Int.toNat x1 * 1)) = some v2_ ∧ ∃ x3_, v2_ = (Value.int .u64 x3_) ∧ 0 ≤ (8 : Int) ∧ (0 ≤ (20 : Int) ∧ (0 ≤ (32 : Int) ∧ (splitB ((shrI .u64 x3_ (32 : Int)) != (0 : Int)) (f96.j3 R A0 n0 c0 x1 a4 (IntKind.wrap .i64 (bitsI .and .u64 x3_ (255 : Int))) (IntKind.wrap .i64 (bitsI .and .u64 (shrI .u64 x3_ (8 : Int)) (4095 : Int))) (IntKind.wrap .i64 (bitsI .and .u64 (shrI .u64 x3_ (20 : Int)) (4095 : Int))) true h) (Run Try.prog 97 #[(Value.int .i64 (IntKind.wrap .i64 (bitsI .and .u64 x3_ (255 : Int)))), (Value.int .i64 (IntKind.wrap .i64 (bitsI .and .u64 (shrI .u64 x3_ (8 : Int)) (4095 : Int)))), (Value.int .i64 (IntKind.wrap .i64 (bitsI .and .u64 (shrI .u64 x3_ (20 : Int)) (4095 : Int))))] h fun v4_ h5_ => ∃ x6_, v4_ = (Value.int .i64 x6_) ∧ f96.j3 R A0 n0 c0 x1 a4 (IntKind.wrap .i64 (bitsI .and .u64 x3_ (255 : Int))) (IntKind.wrap .i64 (bitsI .and .u64 (shrI .u64 x3_ (8 : Int)) (4095 : Int))) (IntKind.wrap .i64 (bitsI .and .u64 (shrI .u64 x3_ (20 : Int)) (4095 : Int))) (decide (x6_ > (IntKind.wrap .i64 (((n0 : Nat) : Int) - x1)))) h5_)))))
set_option maxRecDepth 100000 in
theorem f96.j0_in {R : Value → Heap → Prop} {A0 : Option Addr} {n0 : Nat} {c0 : Nat} {x1 : Int} {a4 : Addr} {h : Heap} (H : f96.j0T R A0 n0 c0 x1 a4 h) : f96.j0 R A0 n0 c0 x1 a4 h :=
  pt_intro mixed f96.good (Eq.mpr (show (Fwd Try.prog f96.T f96.kp Try.f96 R [true, true] (mkFr [(0, (Value.slice A0 n0 c0)), (1, (Value.int .i64 x1)), (4, (Value.pointer (some a4)))]) h) = (f96.j0T R A0 n0 c0 x1 a4 h) by kernel_rfl) H)
set_option maxRecDepth 100000 in
def f96.j3T (R : Value → Heap → Prop) (A0 : Option Addr) (n0 : Nat) (c0 : Nat) (x1 : Int) (a4 : Addr) (x7 : Int) (x8 : Int) (x9 : Int) (b53 : Bool) (h : Heap) : Prop :=
  splitB b53 (∃ l2_ : List Value, (Value.agg #[(Value.int .i64 (0 : Int)), (Value.int .i64 (0 : Int)), (Value.int .i64 (0 : Int)), (Value.string (ByteArray.mk #[])), (Value.slice none 0 0)]) = Value.agg l2_.toArray ∧ l2_.length = 5 ∧ ∃ h1_, stH h a4 l2_ 0 = some h1_ ∧ ∃ v3_, ldv true 5 h1_ a4 = some v3_ ∧ R (Value.tuple #[v3_, (Value.int .i64 (3 : Int))]) h1_) (f96.j2 R A0 n0 c0 x1 a4 x7 x8 x9 h)
set_option maxRecDepth 100000 in
theorem f96.j3_in {R : Value → Heap → Prop} {A0 : Option Addr} {n0 : Nat} {c0 : Nat} {x1 : Int} {a4 : Addr} {x7 : Int} {x8 : Int} {x9 : Int} {b53 : Bool} {h : Heap} (H : f96.j3T R A0 n0 c0 x1 a4 x7 x8 x9 b53 h) : f96.j3 R A0 n0 c0 x1 a4 x7 x8 x9 b53 h :=
  pt_intro mixed f96.good (Eq.mpr (show (Fwd Try.prog f96.T f96.kp Try.f96 R [true, false, true, true, true, true] (mkFr [(0, (Value.slice A0 n0 c0)), (1, (Value.int .i64 x1)), (4, (Value.pointer (some a4))), (7, (Value.int .i64 x7)), (8, (Value.int .i64 x8)), (9, (Value.int .i64 x9)), (53, (Value.bool b53))]) h) = (f96.j3T R A0 n0 c0 x1 a4 x7 x8 x9 b53 h) by kernel_rfl) H)
set_option maxRecDepth 100000 in
def f96.j2T (R : Value → Heap → Prop) (A0 : Option Addr) (n0 : Nat) (c0 : Nat) (x1 : Int) (a4 : Addr) (x7 : Int) (x8 : Int) (x9 : Int) (h : Heap) : Prop :=
  newH h (Obj.cells #[(Value.int .i64 (0 : Int)), (Value.int .i64 (0 : Int)), (Value.int .i64 (0 : Int)), (Value.string (ByteArray.mk #[])), (Value.slice none 0 0)] 152) fun h1_ => ∃ l3_ : List Value, (Value.agg #[(Value.int .i64 x1), (Value.int .i64 x7), (Value.int .i64 (0 : Int)), (Value.string (ByteArray.mk #[])), (Value.slice none 0 0)]) = Value.agg l3_.toArray ∧ l3_.length = 5 ∧ ∃ h2_, stH h1_ (⟨Array.size h, 0, none⟩) l3_ 0 = some h2_ ∧ splitB (x7 == (1 : Int)) (f96.j5 R A0 n0 c0 (IntKind.wrap .i64 (x1 + (1 : Int))) a4 x8 x9 (⟨Array.size h, 0, none⟩) true h2_) (f96.j5 R A0 n0 c0 (IntKind.wrap .i64 (x1 + (1 : Int))) a4 x8 x9 (⟨Array.size h, 0, none⟩) (x7 == (4 : Int)) h2_)
set_option maxRecDepth 100000 in
theorem f96.j2_in {R : Value → Heap → Prop} {A0 : Option Addr} {n0 : Nat} {c0 : Nat} {x1 : Int} {a4 : Addr} {x7 : Int} {x8 : Int} {x9 : Int} {h : Heap} (H : f96.j2T R A0 n0 c0 x1 a4 x7 x8 x9 h) : f96.j2 R A0 n0 c0 x1 a4 x7 x8 x9 h :=
  pt_intro mixed f96.good (Eq.mpr (show (Fwd Try.prog f96.T f96.kp Try.f96 R [true, true, true, true, true] (mkFr [(0, (Value.slice A0 n0 c0)), (1, (Value.int .i64 x1)), (4, (Value.pointer (some a4))), (7, (Value.int .i64 x7)), (8, (Value.int .i64 x8)), (9, (Value.int .i64 x9))]) h) = (f96.j2T R A0 n0 c0 x1 a4 x7 x8 x9 h) by kernel_rfl) H)
set_option maxRecDepth 100000 in
def f96.j5T (R : Value → Heap → Prop) (A0 : Option Addr) (n0 : Nat) (c0 : Nat) (x1 : Int) (a4 : Addr) (x8 : Int) (x9 : Int) (a10 : Addr) (b65 : Bool) (h : Heap) : Prop :=
  splitB b65 (ptrOk A0 fun a1_ => 0 ≤ x1 ∧ x1 < ((n0 : Nat) : Int) ∧ (∃ v2_, ldv false 1 h (Addr.add a1_ (Int.toNat x1 * 1)) = some v2_ ∧ ∃ x3_, v2_ = (Value.int .u64 x3_) ∧ ∃ h4_, st1 h (Addr.add a10 2) (Value.int .i64 (IntKind.wrap .i64 x3_)) = some h4_ ∧ f96.j4 R A0 n0 c0 (IntKind.wrap .i64 (x1 + (1 : Int))) a4 x8 x9 a10 h4_)) (f96.j4 R A0 n0 c0 x1 a4 x8 x9 a10 h)
set_option maxRecDepth 100000 in
theorem f96.j5_in {R : Value → Heap → Prop} {A0 : Option Addr} {n0 : Nat} {c0 : Nat} {x1 : Int} {a4 : Addr} {x8 : Int} {x9 : Int} {a10 : Addr} {b65 : Bool} {h : Heap} (H : f96.j5T R A0 n0 c0 x1 a4 x8 x9 a10 b65 h) : f96.j5 R A0 n0 c0 x1 a4 x8 x9 a10 b65 h :=
  pt_intro mixed f96.good (Eq.mpr (show (Fwd Try.prog f96.T f96.kp Try.f96 R [true, false, true, true, true, true, true, true, true] (mkFr [(0, (Value.slice A0 n0 c0)), (1, (Value.int .i64 x1)), (4, (Value.pointer (some a4))), (8, (Value.int .i64 x8)), (9, (Value.int .i64 x9)), (10, (Value.pointer (some a10))), (65, (Value.bool b65))]) h) = (f96.j5T R A0 n0 c0 x1 a4 x8 x9 a10 b65 h) by kernel_rfl) H)
set_option maxRecDepth 100000 in
def f96.j4T (R : Value → Heap → Prop) (A0 : Option Addr) (n0 : Nat) (c0 : Nat) (x1 : Int) (a4 : Addr) (x8 : Int) (x9 : Int) (a10 : Addr) (h : Heap) : Prop :=
  f96.l0 R A0 n0 c0 x1 a4 x8 x9 a10 none 0 0 x8 (0 : Int) h
set_option maxRecDepth 100000 in
theorem f96.j4_in {R : Value → Heap → Prop} {A0 : Option Addr} {n0 : Nat} {c0 : Nat} {x1 : Int} {a4 : Addr} {x8 : Int} {x9 : Int} {a10 : Addr} {h : Heap} (H : f96.j4T R A0 n0 c0 x1 a4 x8 x9 a10 h) : f96.j4 R A0 n0 c0 x1 a4 x8 x9 a10 h :=
  pt_intro mixed f96.good (Eq.mpr (show (Fwd Try.prog f96.T f96.kp Try.f96 R [true, true, true, true, true, true, true, true] (mkFr [(0, (Value.slice A0 n0 c0)), (1, (Value.int .i64 x1)), (4, (Value.pointer (some a4))), (8, (Value.int .i64 x8)), (9, (Value.int .i64 x9)), (10, (Value.pointer (some a10)))]) h) = (f96.j4T R A0 n0 c0 x1 a4 x8 x9 a10 h) by kernel_rfl) H)
set_option maxRecDepth 100000 in
def f96.l0T (R : Value → Heap → Prop) (A0 : Option Addr) (n0 : Nat) (c0 : Nat) (x1 : Int) (a4 : Addr) (x8 : Int) (x9 : Int) (a10 : Addr) (A11 : Option Addr) (n11 : Nat) (c11 : Nat) (x74 : Int) (x75 : Int) (h : Heap) : Prop :=
  splitB (decide (x75 < x74)) ((8 : Int) ≠ 0 ∧ (ptrOk A0 fun a1_ => 0 ≤ (IntKind.wrap .i64 (x1 + (IntKind.wrap .i64 (Int.tdiv x75 (8 : Int))))) ∧ (IntKind.wrap .i64 (x1 + (IntKind.wrap .i64 (Int.tdiv x75 (8 : Int))))) < ((n0 : Nat) : Int) ∧ (∃ v2_, ldv false 1 h (Addr.add a1_ (Int.toNat (IntKind.wrap .i64 (x1 + (IntKind.wrap .i64 (Int.tdiv x75 (8 : Int))))) * 1)) = some v2_ ∧ ∃ x3_, v2_ = (Value.int .u64 x3_) ∧ (8 : Int) ≠ 0 ∧ (0 ≤ (IntKind.wrap .i64 ((8 : Int) * (Int.tmod x75 (8 : Int)))) ∧ (newH h (Obj.cells #[(Value.int .u8 (IntKind.wrap .u8 (shrI .u64 x3_ (IntKind.wrap .i64 ((8 : Int) * (Int.tmod x75 (8 : Int)))))))] 5) fun h4_ => AppW 5 1 1 #[(Value.int .u8 (0 : Int))] A11 n11 c11 (Value.slice (some ⟨Array.size h, 0, none⟩) 1 1) h4_ fun v5_ h6_ => ∃ A7_, ∃ n7_, ∃ c7_, v5_ = (Value.slice A7_ n7_ c7_) ∧ f96.l0 R A0 n0 c0 x1 a4 x8 x9 a10 A7_ n7_ c7_ x74 (IntKind.wrap .i64 (x75 + (1 : Int))) h6_))))) (Gen Try.prog (convert 182 9 (Value.slice A11 n11 c11)) h fun v8_ h9_ => ∃ s10_, v8_ = (Value.string s10_) ∧ (8 : Int) ≠ 0 ∧ (∃ h11_, st1 h9_ (Addr.add a10 3) (Value.string s10_) = some h11_ ∧ 0 ≤ (IntKind.wrap .i64 (x1 + (IntKind.wrap .i64 (Int.tdiv (IntKind.wrap .i64 (x8 + (7 : Int))) (8 : Int))))) ∧ (IntKind.wrap .i64 (x1 + (IntKind.wrap .i64 (Int.tdiv (IntKind.wrap .i64 (x8 + (7 : Int))) (8 : Int))))) ≤ (IntKind.wrap .i64 ((IntKind.wrap .i64 (x1 + (IntKind.wrap .i64 (Int.tdiv (IntKind.wrap .i64 (x8 + (7 : Int))) (8 : Int))))) + x9)) ∧ (IntKind.wrap .i64 ((IntKind.wrap .i64 (x1 + (IntKind.wrap .i64 (Int.tdiv (IntKind.wrap .i64 (x8 + (7 : Int))) (8 : Int))))) + x9)) ≤ ((c0 : Nat) : Int) ∧ (∃ v12_, ldv false 1 h11_ (Addr.add a10 4) = some v12_ ∧ ∃ A13_, ∃ n13_, ∃ c13_, v12_ = (Value.slice A13_ n13_ c13_) ∧ AppW 77 1 8 #[(Value.int .u64 (0 : Int))] A13_ n13_ c13_ (Value.slice (sliceA A0 (Int.toNat (IntKind.wrap .i64 (x1 + (IntKind.wrap .i64 (Int.tdiv (IntKind.wrap .i64 (x8 + (7 : Int))) (8 : Int)))))) c0 1) (Int.toNat (IntKind.wrap .i64 ((IntKind.wrap .i64 (x1 + (IntKind.wrap .i64 (Int.tdiv (IntKind.wrap .i64 (x8 + (7 : Int))) (8 : Int))))) + x9)) - Int.toNat (IntKind.wrap .i64 (x1 + (IntKind.wrap .i64 (Int.tdiv (IntKind.wrap .i64 (x8 + (7 : Int))) (8 : Int)))))) (c0 - Int.toNat (IntKind.wrap .i64 (x1 + (IntKind.wrap .i64 (Int.tdiv (IntKind.wrap .i64 (x8 + (7 : Int))) (8 : Int))))))) h11_ fun v14_ h15_ => ∃ A16_, ∃ n16_, ∃ c16_, v14_ = (Value.slice A16_ n16_ c16_) ∧ ∃ h17_, st1 h15_ (Addr.add a10 4) (Value.slice A16_ n16_ c16_) = some h17_ ∧ ∃ v18_, ldv true 5 h17_ a10 = some v18_ ∧ Run Try.prog 103 #[(Value.slice none 0 0), v18_] h17_ fun v19_ h20_ => ∃ A21_, ∃ n21_, ∃ c21_, ∃ x22_, ∃ x23_, v19_ = (Value.tuple #[(Value.slice A21_ n21_ c21_), (Value.int .i64 x22_), (Value.int .i64 x23_)]) ∧ splitB (x23_ != (0 : Int)) (f96.j7 R a4 a10 true h20_) (∃ v24_, ldv false 1 h20_ a10 = some v24_ ∧ ∃ x25_, v24_ = (Value.int .i64 x25_) ∧ 0 ≤ x25_ ∧ x25_ ≤ (IntKind.wrap .i64 ((IntKind.wrap .i64 (x1 + (IntKind.wrap .i64 (Int.tdiv (IntKind.wrap .i64 (x8 + (7 : Int))) (8 : Int))))) + x9)) ∧ (IntKind.wrap .i64 ((IntKind.wrap .i64 (x1 + (IntKind.wrap .i64 (Int.tdiv (IntKind.wrap .i64 (x8 + (7 : Int))) (8 : Int))))) + x9)) ≤ ((c0 : Nat) : Int) ∧ (Run Try.prog 104 #[(Value.slice A21_ n21_ c21_), (Value.slice (sliceA A0 (Int.toNat x25_) c0 1) (Int.toNat (IntKind.wrap .i64 ((IntKind.wrap .i64 (x1 + (IntKind.wrap .i64 (Int.tdiv (IntKind.wrap .i64 (x8 + (7 : Int))) (8 : Int))))) + x9)) - Int.toNat x25_) (c0 - Int.toNat x25_))] h20_ fun v26_ h27_ => ∃ b28_, v26_ = (Value.bool b28_) ∧ f96.j7 R a4 a10 (!b28_) h27_)))))
set_option maxRecDepth 100000 in
theorem f96.l0_in {R : Value → Heap → Prop} {A0 : Option Addr} {n0 : Nat} {c0 : Nat} {x1 : Int} {a4 : Addr} {x8 : Int} {x9 : Int} {a10 : Addr} {A11 : Option Addr} {n11 : Nat} {c11 : Nat} {x74 : Int} {x75 : Int} {h : Heap} (H : f96.l0T R A0 n0 c0 x1 a4 x8 x9 a10 A11 n11 c11 x74 x75 h) : f96.l0 R A0 n0 c0 x1 a4 x8 x9 a10 A11 n11 c11 x74 x75 h :=
  pt_intro mixed f96.good (Eq.mpr (show (Fwd Try.prog f96.T f96.kp Try.f96 R [false, false, true, false, true, true, true, true, true, true, true, true, true] (mkFr [(0, (Value.slice A0 n0 c0)), (1, (Value.int .i64 x1)), (4, (Value.pointer (some a4))), (8, (Value.int .i64 x8)), (9, (Value.int .i64 x9)), (10, (Value.pointer (some a10))), (11, (Value.slice A11 n11 c11)), (74, (Value.int .i64 x74)), (75, (Value.int .i64 x75))]) h) = (f96.l0T R A0 n0 c0 x1 a4 x8 x9 a10 A11 n11 c11 x74 x75 h) by kernel_rfl) H)
set_option maxRecDepth 100000 in
def f96.j7T (R : Value → Heap → Prop) (a4 : Addr) (a10 : Addr) (b131 : Bool) (h : Heap) : Prop :=
  splitB b131 (∃ l2_ : List Value, (Value.agg #[(Value.int .i64 (0 : Int)), (Value.int .i64 (0 : Int)), (Value.int .i64 (0 : Int)), (Value.string (ByteArray.mk #[])), (Value.slice none 0 0)]) = Value.agg l2_.toArray ∧ l2_.length = 5 ∧ ∃ h1_, stH h a4 l2_ 0 = some h1_ ∧ ∃ v3_, ldv true 5 h1_ a4 = some v3_ ∧ R (Value.tuple #[v3_, (Value.int .i64 (3 : Int))]) h1_) (f96.j6 R a4 a10 h)
set_option maxRecDepth 100000 in
theorem f96.j7_in {R : Value → Heap → Prop} {a4 : Addr} {a10 : Addr} {b131 : Bool} {h : Heap} (H : f96.j7T R a4 a10 b131 h) : f96.j7 R a4 a10 b131 h :=
  pt_intro mixed f96.good (Eq.mpr (show (Fwd Try.prog f96.T f96.kp Try.f96 R [true, true, false, true, true, true, true, true, true, true, true, true, true, true, true] (mkFr [(4, (Value.pointer (some a4))), (10, (Value.pointer (some a10))), (131, (Value.bool b131))]) h) = (f96.j7T R a4 a10 b131 h) by kernel_rfl) H)
set_option maxRecDepth 100000 in
def f96.j6T (R : Value → Heap → Prop) (a4 : Addr) (a10 : Addr) (h : Heap) : Prop :=
  ∃ v1_, ldv true 5 h a10 = some v1_ ∧ ∃ l3_ : List Value, v1_ = Value.agg l3_.toArray ∧ l3_.length = 5 ∧ ∃ h2_, stH h a4 l3_ 0 = some h2_ ∧ ∃ v4_, ldv true 5 h2_ a4 = some v4_ ∧ R (Value.tuple #[v4_, (Value.int .i64 (0 : Int))]) h2_
set_option maxRecDepth 100000 in
theorem f96.j6_in {R : Value → Heap → Prop} {a4 : Addr} {a10 : Addr} {h : Heap} (H : f96.j6T R a4 a10 h) : f96.j6 R a4 a10 h :=
  pt_intro mixed f96.good (Eq.mpr (show (Fwd Try.prog f96.T f96.kp Try.f96 R [true, true, true, true, true, true, true, true, true, true, true, true, true] (mkFr [(4, (Value.pointer (some a4))), (10, (Value.pointer (some a10)))]) h) = (f96.j6T R a4 a10 h) by kernel_rfl) H)
set_option maxRecDepth 100000 in
def f96.runT (R : Value → Heap → Prop) (A0 : Option Addr) (n0 : Nat) (c0 : Nat) (x1 : Int) (h : Heap) : Prop :=
  newH h (Obj.cells #[(Value.int .i64 (0 : Int)), (Value.int .i64 (0 : Int)), (Value.int .i64 (0 : Int)), (Value.string (ByteArray.mk #[])), (Value.slice none 0 0)] 152) fun h1_ => splitB (decide (x1 < (0 : Int))) (f96.j1 R A0 n0 c0 x1 (⟨Array.size h, 0, none⟩) true h1_) (f96.j1 R A0 n0 c0 x1 (⟨Array.size h, 0, none⟩) (decide (x1 ≥ ((n0 : Nat) : Int))) h1_)
set_option maxRecDepth 100000 in
theorem f96.run {R : Value → Heap → Prop} {A0 : Option Addr} {n0 : Nat} {c0 : Nat} {x1 : Int} {h : Heap} (H : f96.runT R A0 n0 c0 x1 h) : Run Try.prog 96 #[(Value.slice A0 n0 c0), (Value.int .i64 x1)] h R :=
  run_of mixed Try.func96 (by kernel_rfl) (by kernel_rfl) f96.good (Eq.mpr (show (Fwd Try.prog f96.T f96.kp Try.f96 R [] (mkFr (argL [(Value.slice A0 n0 c0), (Value.int .i64 x1)] 0)) h) = (f96.runT R A0 n0 c0 x1 h) by kernel_rfl) H)
def f75.T : Tab := { sh := tSh, tup := tTup, keep := [], plan := [] }
def f75.kp : Keep := [([false, false, true, false, true, true, true], [0, 4, 5])]
theorem f75.good : goodCode Try.prog f75.T (rootOf Try.f75) = true := by kernel_rfl
def f75.l0 (R : Value → Heap → Prop) (A0 : Option Addr) (n0 : Nat) (c0 : Nat) (A4 : Option Addr) (n4 : Nat) (c4 : Nat) (x5 : Int) (h : Heap) : Prop := Pt Try.prog Try.f75 R [false, false, true, false, true, true, true] (mkFr [(0, (Value.slice A0 n0 c0)), (4, (Value.slice A4 n4 c4)), (5, (Value.int .i64 x5))]) h
set_option maxRecDepth 100000 in
def f75.l0T (R : Value → Heap → Prop) (A0 : Option Addr) (n0 : Nat) (c0 : Nat) (A4 : Option Addr) (n4 : Nat) (c4 : Nat) (x5 : Int) (h : Heap) : Prop :=
  splitB (decide (x5 < ((n0 : Nat) : Int))) (Run Try.prog 96 #[(Value.slice A0 n0 c0), (Value.int .i64 x5)] h fun v1_ h2_ => ∃ v3_, ∃ x4_, v1_ = (Value.tuple #[v3_, (Value.int .i64 x4_)]) ∧ newH h2_ (Obj.cells #[(Value.int .i64 (0 : Int)), (Value.int .i64 (0 : Int)), (Value.int .i64 (0 : Int)), (Value.string (ByteArray.mk #[])), (Value.slice none 0 0)] 152) fun h5_ => ∃ l7_ : List Value, v3_ = Value.agg l7_.toArray ∧ l7_.length = 5 ∧ ∃ h6_, stH h5_ (⟨Array.size h2_, 0, none⟩) l7_ 0 = some h6_ ∧ splitB (x4_ != (0 : Int)) (R (Value.tuple #[(Value.slice none 0 0), (Value.int .i64 (3 : Int))]) h6_) (∃ v8_, ldv true 5 h6_ (⟨Array.size h2_, 0, none⟩) = some v8_ ∧ ∃ l9_ : List Value, v8_ = Value.agg l9_.toArray ∧ l9_.length = 5 ∧ (newH h6_ (Obj.cells ((List.take 0 ([(Value.int .i64 (0 : Int)), (Value.int .i64 (0 : Int)), (Value.int .i64 (0 : Int)), (Value.string (ByteArray.mk #[])), (Value.slice none 0 0)]) ++ l9_ ++ List.drop 5 ([(Value.int .i64 (0 : Int)), (Value.int .i64 (0 : Int)), (Value.int .i64 (0 : Int)), (Value.string (ByteArray.mk #[])), (Value.slice none 0 0)])).toArray) 152) fun h10_ => AppW 152 5 64 #[(Value.int .i64 (0 : Int)), (Value.int .i64 (0 : Int)), (Value.int .i64 (0 : Int)), (Value.string (ByteArray.mk #[])), (Value.slice none 0 0)] A4 n4 c4 (Value.slice (some ⟨Array.size h6_, 0, none⟩) 1 1) h10_ fun v11_ h12_ => ∃ A13_, ∃ n13_, ∃ c13_, v11_ = (Value.slice A13_ n13_ c13_) ∧ ∃ v14_, ldv false 1 h12_ (Addr.add (⟨Array.size h2_, 0, none⟩) 1) = some v14_ ∧ ∃ x15_, v14_ = (Value.int .i64 x15_) ∧ ∃ v16_, ldv false 1 h12_ (Addr.add (⟨Array.size h2_, 0, none⟩) 3) = some v16_ ∧ ∃ s17_, v16_ = (Value.string s17_) ∧ ∃ v18_, ldv false 1 h12_ (Addr.add (⟨Array.size h2_, 0, none⟩) 4) = some v18_ ∧ ∃ A19_, ∃ n19_, ∃ c19_, v18_ = (Value.slice A19_ n19_ c19_) ∧ Run Try.prog 97 #[(Value.int .i64 x15_), (Value.int .i64 ((ByteArray.size s17_ : Nat) : Int)), (Value.int .i64 ((n19_ : Nat) : Int))] h12_ fun v20_ h21_ => ∃ x22_, v20_ = (Value.int .i64 x22_) ∧ f75.l0 R A0 n0 c0 A13_ n13_ c13_ (IntKind.wrap .i64 (x5 + x22_)) h21_))) (R (Value.tuple #[(Value.slice A4 n4 c4), (Value.int .i64 (0 : Int))]) h)
set_option maxRecDepth 100000 in
theorem f75.l0_in {R : Value → Heap → Prop} {A0 : Option Addr} {n0 : Nat} {c0 : Nat} {A4 : Option Addr} {n4 : Nat} {c4 : Nat} {x5 : Int} {h : Heap} (H : f75.l0T R A0 n0 c0 A4 n4 c4 x5 h) : f75.l0 R A0 n0 c0 A4 n4 c4 x5 h :=
  pt_intro mixed f75.good (Eq.mpr (show (Fwd Try.prog f75.T f75.kp Try.f75 R [false, false, true, false, true, true, true] (mkFr [(0, (Value.slice A0 n0 c0)), (4, (Value.slice A4 n4 c4)), (5, (Value.int .i64 x5))]) h) = (f75.l0T R A0 n0 c0 A4 n4 c4 x5 h) by kernel_rfl) H)
set_option maxRecDepth 100000 in
def f75.runT (R : Value → Heap → Prop) (A0 : Option Addr) (n0 : Nat) (c0 : Nat) (h : Heap) : Prop :=
  splitB (decide (((n0 : Nat) : Int) > (4000 : Int))) (R (Value.tuple #[(Value.slice none 0 0), (Value.int .i64 (2 : Int))]) h) (f75.l0 R A0 n0 c0 none 0 0 (0 : Int) h)
set_option maxRecDepth 100000 in
theorem f75.run {R : Value → Heap → Prop} {A0 : Option Addr} {n0 : Nat} {c0 : Nat} {h : Heap} (H : f75.runT R A0 n0 c0 h) : Run Try.prog 75 #[(Value.slice A0 n0 c0)] h R :=
  run_of mixed Try.func75 (by kernel_rfl) (by kernel_rfl) f75.good (Eq.mpr (show (Fwd Try.prog f75.T f75.kp Try.f75 R [] (mkFr (argL [(Value.slice A0 n0 c0)] 0)) h) = (f75.runT R A0 n0 c0 h) by kernel_rfl) H)
def f108.T : Tab := { sh := tSh, tup := tTup, keep := [], plan := [] }
def f108.kp : Keep := []
theorem f108.good : goodCode Try.prog f108.T (rootOf Try.f108) = true := by kernel_rfl
set_option maxRecDepth 100000 in
def f108.runT (R : Value → Heap → Prop) (x0 : Int) (h : Heap) : Prop :=
  splitB (decide (x0 ≥ (-1152921504606846976 : Int))) (R (Value.bool (decide (x0 < (1152921504606846976 : Int)))) h) (R (Value.bool false) h)
set_option maxRecDepth 100000 in
theorem f108.run {R : Value → Heap → Prop} {x0 : Int} {h : Heap} (H : f108.runT R x0 h) : Run Try.prog 108 #[(Value.int .i64 x0)] h R :=
  run_of mixed Try.func108 (by kernel_rfl) (by kernel_rfl) f108.good (Eq.mpr (show (Fwd Try.prog f108.T f108.kp Try.f108 R [] (mkFr (argL [(Value.int .i64 x0)] 0)) h) = (f108.runT R x0 h) by kernel_rfl) H)
def f105.T : Tab := { sh := tSh, tup := tTup, keep := [], plan := [] }
def f105.kp : Keep := [([true, false, false, false, true], [0, 1, 6]), ([true, true, true, false, false, false, true], [0, 1, 6]), ([true, true, true, true, true, false, false, false, true], [0, 1, 6]), ([true, false, false, true], [0, 1, 6]), ([true, true, true, false, false, true], [49])]
theorem f105.good : goodCode Try.prog f105.T (rootOf Try.f105) = true := by kernel_rfl
def f105.j1 (R : Value → Heap → Prop) (x0 : Int) (x1 : Int) (b6 : Bool) (h : Heap) : Prop := Pt Try.prog Try.f105 R [true, false, false, false, true] (mkFr [(0, (Value.int .i64 x0)), (1, (Value.int .i64 x1)), (6, (Value.bool b6))]) h
def f105.j0 (R : Value → Heap → Prop) (x0 : Int) (x1 : Int) (b6 : Bool) (h : Heap) : Prop := Pt Try.prog Try.f105 R [true, false, false, true] (mkFr [(0, (Value.int .i64 x0)), (1, (Value.int .i64 x1)), (6, (Value.bool b6))]) h
def f105.j3 (R : Value → Heap → Prop) (x0 : Int) (x1 : Int) (b6 : Bool) (h : Heap) : Prop := Pt Try.prog Try.f105 R [true, true, true, false, false, false, true] (mkFr [(0, (Value.int .i64 x0)), (1, (Value.int .i64 x1)), (6, (Value.bool b6))]) h
def f105.j2 (R : Value → Heap → Prop) (b49 : Bool) (h : Heap) : Prop := Pt Try.prog Try.f105 R [true, true, true, false, false, true] (mkFr [(49, (Value.bool b49))]) h
def f105.j4 (R : Value → Heap → Prop) (x0 : Int) (x1 : Int) (b6 : Bool) (h : Heap) : Prop := Pt Try.prog Try.f105 R [true, true, true, true, true, false, false, false, true] (mkFr [(0, (Value.int .i64 x0)), (1, (Value.int .i64 x1)), (6, (Value.bool b6))]) h
set_option maxRecDepth 100000 in
def f105.j1T (R : Value → Heap → Prop) (x0 : Int) (x1 : Int) (b6 : Bool) (h : Heap) : Prop :=
  splitB b6 (f105.j0 R x0 x1 b6 h) (splitB (x0 == (2 : Int)) (splitB (x1 == (0 : Int)) (f105.j3 R x0 x1 true h) (f105.j3 R x0 x1 (x1 == (1 : Int)) h)) (f105.j3 R x0 x1 false h))
set_option maxRecDepth 100000 in
theorem f105.j1_in {R : Value → Heap → Prop} {x0 : Int} {x1 : Int} {b6 : Bool} {h : Heap} (H : f105.j1T R x0 x1 b6 h) : f105.j1 R x0 x1 b6 h :=
  pt_intro mixed f105.good (Eq.mpr (show (Fwd Try.prog f105.T f105.kp Try.f105 R [true, false, false, false, true] (mkFr [(0, (Value.int .i64 x0)), (1, (Value.int .i64 x1)), (6, (Value.bool b6))]) h) = (f105.j1T R x0 x1 b6 h) by kernel_rfl) H)
set_option maxRecDepth 100000 in
def f105.j0T (R : Value → Heap → Prop) (x0 : Int) (x1 : Int) (b6 : Bool) (h : Heap) : Prop :=
  splitB b6 (0 ≤ (3 : Int) ∧ (R (Value.tuple #[(Value.int .u64 (bitsI .or .u64 (shlI .u64 (IntKind.wrap .u64 x1) (3 : Int)) (IntKind.wrap .u64 x0))), (Value.int .i64 (0 : Int))]) h)) (splitB (decide (x0 < (0 : Int))) (f105.j2 R true h) (f105.j2 R (decide (x0 > (4 : Int))) h))
set_option maxRecDepth 100000 in
theorem f105.j0_in {R : Value → Heap → Prop} {x0 : Int} {x1 : Int} {b6 : Bool} {h : Heap} (H : f105.j0T R x0 x1 b6 h) : f105.j0 R x0 x1 b6 h :=
  pt_intro mixed f105.good (Eq.mpr (show (Fwd Try.prog f105.T f105.kp Try.f105 R [true, false, false, true] (mkFr [(0, (Value.int .i64 x0)), (1, (Value.int .i64 x1)), (6, (Value.bool b6))]) h) = (f105.j0T R x0 x1 b6 h) by kernel_rfl) H)
set_option maxRecDepth 100000 in
def f105.j3T (R : Value → Heap → Prop) (x0 : Int) (x1 : Int) (b6 : Bool) (h : Heap) : Prop :=
  splitB b6 (f105.j0 R x0 x1 b6 h) (splitB (x0 == (1 : Int)) (Run Try.prog 108 #[(Value.int .i64 x1)] h fun v1_ h2_ => ∃ b3_, v1_ = (Value.bool b3_) ∧ f105.j4 R x0 x1 b3_ h2_) (f105.j4 R x0 x1 false h))
set_option maxRecDepth 100000 in
theorem f105.j3_in {R : Value → Heap → Prop} {x0 : Int} {x1 : Int} {b6 : Bool} {h : Heap} (H : f105.j3T R x0 x1 b6 h) : f105.j3 R x0 x1 b6 h :=
  pt_intro mixed f105.good (Eq.mpr (show (Fwd Try.prog f105.T f105.kp Try.f105 R [true, true, true, false, false, false, true] (mkFr [(0, (Value.int .i64 x0)), (1, (Value.int .i64 x1)), (6, (Value.bool b6))]) h) = (f105.j3T R x0 x1 b6 h) by kernel_rfl) H)
set_option maxRecDepth 100000 in
def f105.j2T (R : Value → Heap → Prop) (b49 : Bool) (h : Heap) : Prop :=
  splitB b49 (R (Value.tuple #[(Value.int .u64 (0 : Int)), (Value.int .i64 (1 : Int))]) h) (R (Value.tuple #[(Value.int .u64 (0 : Int)), (Value.int .i64 (2 : Int))]) h)
set_option maxRecDepth 100000 in
theorem f105.j2_in {R : Value → Heap → Prop} {b49 : Bool} {h : Heap} (H : f105.j2T R b49 h) : f105.j2 R b49 h :=
  pt_intro mixed f105.good (Eq.mpr (show (Fwd Try.prog f105.T f105.kp Try.f105 R [true, true, true, false, false, true] (mkFr [(49, (Value.bool b49))]) h) = (f105.j2T R b49 h) by kernel_rfl) H)
set_option maxRecDepth 100000 in
def f105.j4T (R : Value → Heap → Prop) (x0 : Int) (x1 : Int) (b6 : Bool) (h : Heap) : Prop :=
  splitB b6 (f105.j0 R x0 x1 b6 h) (splitB (x0 == (3 : Int)) (splitB (decide (x1 ≥ (0 : Int))) (f105.j0 R x0 x1 (decide (x1 < (1152921504606846976 : Int))) h) (f105.j0 R x0 x1 false h)) (splitB (x0 == (4 : Int)) (splitB (decide (x1 ≥ (0 : Int))) (f105.j0 R x0 x1 (decide (x1 < (1152921504606846976 : Int))) h) (f105.j0 R x0 x1 false h)) (f105.j0 R x0 x1 false h)))
set_option maxRecDepth 100000 in
theorem f105.j4_in {R : Value → Heap → Prop} {x0 : Int} {x1 : Int} {b6 : Bool} {h : Heap} (H : f105.j4T R x0 x1 b6 h) : f105.j4 R x0 x1 b6 h :=
  pt_intro mixed f105.good (Eq.mpr (show (Fwd Try.prog f105.T f105.kp Try.f105 R [true, true, true, true, true, false, false, false, true] (mkFr [(0, (Value.int .i64 x0)), (1, (Value.int .i64 x1)), (6, (Value.bool b6))]) h) = (f105.j4T R x0 x1 b6 h) by kernel_rfl) H)
set_option maxRecDepth 100000 in
def f105.runT (R : Value → Heap → Prop) (x0 : Int) (x1 : Int) (h : Heap) : Prop :=
  splitB (x0 == (0 : Int)) (f105.j1 R x0 x1 (x1 == (0 : Int)) h) (f105.j1 R x0 x1 false h)
set_option maxRecDepth 100000 in
theorem f105.run {R : Value → Heap → Prop} {x0 : Int} {x1 : Int} {h : Heap} (H : f105.runT R x0 x1 h) : Run Try.prog 105 #[(Value.int .i64 x0), (Value.int .i64 x1)] h R :=
  run_of mixed Try.func105 (by kernel_rfl) (by kernel_rfl) f105.good (Eq.mpr (show (Fwd Try.prog f105.T f105.kp Try.f105 R [] (mkFr (argL [(Value.int .i64 x0), (Value.int .i64 x1)] 0)) h) = (f105.runT R x0 x1 h) by kernel_rfl) H)
def f98.T : Tab := { sh := tSh, tup := tTup, keep := [], plan := [] }
def f98.kp : Keep := [([true, true, true], [0, 5, 6]), ([true, true, false, true, true, true], [5, 6, 32]), ([true, true, true, true], [5, 6])]
theorem f98.good : goodCode Try.prog f98.T (rootOf Try.f98) = true := by kernel_rfl
def f98.j0 (R : Value → Heap → Prop) (x0 : Int) (x5 : Int) (x6 : Int) (h : Heap) : Prop := Pt Try.prog Try.f98 R [true, true, true] (mkFr [(0, (Value.int .u64 x0)), (5, (Value.int .i64 x5)), (6, (Value.int .i64 x6))]) h
def f98.j2 (R : Value → Heap → Prop) (x5 : Int) (x6 : Int) (b32 : Bool) (h : Heap) : Prop := Pt Try.prog Try.f98 R [true, true, false, true, true, true] (mkFr [(5, (Value.int .i64 x5)), (6, (Value.int .i64 x6)), (32, (Value.bool b32))]) h
def f98.j1 (R : Value → Heap → Prop) (x5 : Int) (x6 : Int) (h : Heap) : Prop := Pt Try.prog Try.f98 R [true, true, true, true] (mkFr [(5, (Value.int .i64 x5)), (6, (Value.int .i64 x6))]) h
set_option maxRecDepth 100000 in
def f98.j0T (R : Value → Heap → Prop) (x0 : Int) (x5 : Int) (x6 : Int) (h : Heap) : Prop :=
  Run Try.prog 105 #[(Value.int .i64 x5), (Value.int .i64 x6)] h fun v1_ h2_ => ∃ x3_, ∃ x4_, v1_ = (Value.tuple #[(Value.int .u64 x3_), (Value.int .i64 x4_)]) ∧ splitB (x4_ != (0 : Int)) (f98.j2 R x5 x6 true h2_) (f98.j2 R x5 x6 (x3_ != x0) h2_)
set_option maxRecDepth 100000 in
theorem f98.j0_in {R : Value → Heap → Prop} {x0 : Int} {x5 : Int} {x6 : Int} {h : Heap} (H : f98.j0T R x0 x5 x6 h) : f98.j0 R x0 x5 x6 h :=
  pt_intro mixed f98.good (Eq.mpr (show (Fwd Try.prog f98.T f98.kp Try.f98 R [true, true, true] (mkFr [(0, (Value.int .u64 x0)), (5, (Value.int .i64 x5)), (6, (Value.int .i64 x6))]) h) = (f98.j0T R x0 x5 x6 h) by kernel_rfl) H)
set_option maxRecDepth 100000 in
def f98.j2T (R : Value → Heap → Prop) (x5 : Int) (x6 : Int) (b32 : Bool) (h : Heap) : Prop :=
  splitB b32 (R (Value.tuple #[(Value.int .i64 (0 : Int)), (Value.int .i64 (0 : Int)), (Value.int .i64 (3 : Int))]) h) (f98.j1 R x5 x6 h)
set_option maxRecDepth 100000 in
theorem f98.j2_in {R : Value → Heap → Prop} {x5 : Int} {x6 : Int} {b32 : Bool} {h : Heap} (H : f98.j2T R x5 x6 b32 h) : f98.j2 R x5 x6 b32 h :=
  pt_intro mixed f98.good (Eq.mpr (show (Fwd Try.prog f98.T f98.kp Try.f98 R [true, true, false, true, true, true] (mkFr [(5, (Value.int .i64 x5)), (6, (Value.int .i64 x6)), (32, (Value.bool b32))]) h) = (f98.j2T R x5 x6 b32 h) by kernel_rfl) H)
set_option maxRecDepth 100000 in
def f98.j1T (R : Value → Heap → Prop) (x5 : Int) (x6 : Int) (h : Heap) : Prop :=
  R (Value.tuple #[(Value.int .i64 x5), (Value.int .i64 x6), (Value.int .i64 (0 : Int))]) h
set_option maxRecDepth 100000 in
theorem f98.j1_in {R : Value → Heap → Prop} {x5 : Int} {x6 : Int} {h : Heap} (H : f98.j1T R x5 x6 h) : f98.j1 R x5 x6 h :=
  pt_intro mixed f98.good (Eq.mpr (show (Fwd Try.prog f98.T f98.kp Try.f98 R [true, true, true, true] (mkFr [(5, (Value.int .i64 x5)), (6, (Value.int .i64 x6))]) h) = (f98.j1T R x5 x6 h) by kernel_rfl) H)
set_option maxRecDepth 100000 in
def f98.runT (R : Value → Heap → Prop) (x0 : Int) (h : Heap) : Prop :=
  (8 : Int) ≠ 0 ∧ (0 ≤ (3 : Int) ∧ (splitB ((IntKind.wrap .i64 (Int.tmod x0 (8 : Int))) == (1 : Int)) (0 ≤ (3 : Int) ∧ (f98.j0 R x0 (IntKind.wrap .i64 (Int.tmod x0 (8 : Int))) (shrI .i64 (IntKind.wrap .i64 x0) (3 : Int)) h)) (f98.j0 R x0 (IntKind.wrap .i64 (Int.tmod x0 (8 : Int))) (IntKind.wrap .i64 (shrI .u64 x0 (3 : Int))) h)))
set_option maxRecDepth 100000 in
theorem f98.run {R : Value → Heap → Prop} {x0 : Int} {h : Heap} (H : f98.runT R x0 h) : Run Try.prog 98 #[(Value.int .u64 x0)] h R :=
  run_of mixed Try.func98 (by kernel_rfl) (by kernel_rfl) f98.good (Eq.mpr (show (Fwd Try.prog f98.T f98.kp Try.f98 R [] (mkFr (argL [(Value.int .u64 x0)] 0)) h) = (f98.runT R x0 h) by kernel_rfl) H)
def f99.T : Tab := { sh := tSh, tup := tTup, keep := [], plan := [(1, (.take 0 (.take 1 (.take 2 (.take 3 (.take 4 (.eff false 5 (.take 6 (.take 7 (.take 8 (.take 9 (.take 10 (.take 11 (.take 12 .done)))))))))))))), (7, (.take 0 (.take 1 (.take 2 (.take 4 (.take 7 (.take 3 (.take 5 (.take 6 (.eff false 8 .done)))))))))), (9, (.take 0 (.take 1 (.take 2 (.take 4 (.take 6 (.take 3 (.take 5 (.eff false 7 .done)))))))))] }
def f99.kp : Keep := [([true, false, true, true, true, true], [0, 3, 7, 38]), ([true, true, true, true, true], [0, 3, 7])]
theorem f99.good : goodCode Try.prog f99.T (rootOf Try.f99) = true := by kernel_rfl
def f99.j1 (R : Value → Heap → Prop) (a0 : Addr) (a3 : Addr) (x7 : Int) (b38 : Bool) (h : Heap) : Prop := Pt Try.prog Try.f99 R [true, false, true, true, true, true] (mkFr [(0, (Value.pointer (some a0))), (3, (Value.pointer (some a3))), (7, (Value.int .i64 x7)), (38, (Value.bool b38))]) h
def f99.j0 (R : Value → Heap → Prop) (a0 : Addr) (a3 : Addr) (x7 : Int) (h : Heap) : Prop := Pt Try.prog Try.f99 R [true, true, true, true, true] (mkFr [(0, (Value.pointer (some a0))), (3, (Value.pointer (some a3))), (7, (Value.int .i64 x7))]) h
set_option maxRecDepth 100000 in
def f99.j1T (R : Value → Heap → Prop) (a0 : Addr) (a3 : Addr) (x7 : Int) (b38 : Bool) (h : Heap) : Prop :=
  splitB b38 (Run Try.prog 103 #[(Value.slice none 0 0), (Value.agg #[(Value.int .i64 (0 : Int)), (Value.int .i64 (1 : Int)), (Value.int .i64 (0 : Int)), (Value.string (ByteArray.mk #[])), (Value.slice none 0 0)])] h fun v1_ h2_ => ∃ A3_, ∃ n3_, ∃ c3_, ∃ x4_, ∃ x5_, v1_ = (Value.tuple #[(Value.slice A3_ n3_ c3_), (Value.int .i64 x4_), (Value.int .i64 x5_)]) ∧ ∃ v6_, ldv false 1 h2_ (Addr.add a0 1) = some v6_ ∧ ∃ A7_, ∃ n7_, ∃ c7_, v6_ = (Value.slice A7_ n7_ c7_) ∧ ∃ v8_, ldv false 1 h2_ a3 = some v8_ ∧ ∃ x9_, v8_ = (Value.int .i64 x9_) ∧ 0 ≤ x9_ ∧ x9_ ≤ ((n7_ : Nat) : Int) ∧ ((n7_ : Nat) : Int) ≤ ((c7_ : Nat) : Int) ∧ (Gen Try.prog (Builtin.copy_ #[76, 76] 3 #[(Value.slice (sliceA A7_ (Int.toNat x9_) c7_ 1) (Int.toNat ((n7_ : Nat) : Int) - Int.toNat x9_) (c7_ - Int.toNat x9_)), (Value.slice A3_ n3_ c3_)]) h2_ fun v10_ h11_ => ∃ x12_, v10_ = (Value.int .i64 x12_) ∧ f99.j0 R a0 a3 x7 h11_)) (f99.j0 R a0 a3 x7 h)
set_option maxRecDepth 100000 in
theorem f99.j1_in {R : Value → Heap → Prop} {a0 : Addr} {a3 : Addr} {x7 : Int} {b38 : Bool} {h : Heap} (H : f99.j1T R a0 a3 x7 b38 h) : f99.j1 R a0 a3 x7 b38 h :=
  pt_intro mixed f99.good (Eq.mpr (show (Fwd Try.prog f99.T f99.kp Try.f99 R [true, false, true, true, true, true] (mkFr [(0, (Value.pointer (some a0))), (3, (Value.pointer (some a3))), (7, (Value.int .i64 x7)), (38, (Value.bool b38))]) h) = (f99.j1T R a0 a3 x7 b38 h) by kernel_rfl) H)
set_option maxRecDepth 100000 in
def f99.j0T (R : Value → Heap → Prop) (a0 : Addr) (a3 : Addr) (x7 : Int) (h : Heap) : Prop :=
  Run Try.prog 105 #[(Value.int .i64 (4 : Int)), (Value.int .i64 x7)] h fun v1_ h2_ => ∃ x3_, ∃ x4_, v1_ = (Value.tuple #[(Value.int .u64 x3_), (Value.int .i64 x4_)]) ∧ ∃ v5_, ldv false 1 h2_ (Addr.add a0 3) = some v5_ ∧ ∃ v6_, ldv false 1 h2_ a3 = some v6_ ∧ ∃ x7_, v6_ = (Value.int .i64 x7_) ∧ Hwp Try.prog (Instr.mapUpdate 86 v5_ (Value.int .i64 x7_) (Value.int .u64 x3_)) h2_ fun _ h8_ => R (Value.tuple #[(Value.int .u64 x3_), (Value.int .i64 x4_)]) h8_
set_option maxRecDepth 100000 in
theorem f99.j0_in {R : Value → Heap → Prop} {a0 : Addr} {a3 : Addr} {x7 : Int} {h : Heap} (H : f99.j0T R a0 a3 x7 h) : f99.j0 R a0 a3 x7 h :=
  pt_intro mixed f99.good (Eq.mpr (show (Fwd Try.prog f99.T f99.kp Try.f99 R [true, true, true, true, true] (mkFr [(0, (Value.pointer (some a0))), (3, (Value.pointer (some a3))), (7, (Value.int .i64 x7))]) h) = (f99.j0T R a0 a3 x7 h) by kernel_rfl) H)
set_option maxRecDepth 100000 in
def f99.runT (R : Value → Heap → Prop) (a0 : Addr) (v1 : Value) (h : Heap) : Prop :=
  newH h (Obj.cells ((v1).cells) 152) fun h1_ => ∃ v2_, ldv false 1 h1_ (Addr.add a0 2) = some v2_ ∧ ∃ A3_, ∃ n3_, ∃ c3_, v2_ = (Value.slice A3_ n3_ c3_) ∧ ∃ v4_, ldv true 5 h1_ (⟨Array.size h, 0, none⟩) = some v4_ ∧ Run Try.prog 103 #[(Value.slice A3_ n3_ c3_), v4_] h1_ fun v5_ h6_ => ∃ A7_, ∃ n7_, ∃ c7_, ∃ x8_, ∃ x9_, v5_ = (Value.tuple #[(Value.slice A7_ n7_ c7_), (Value.int .i64 x8_), (Value.int .i64 x9_)]) ∧ splitB (x9_ != (0 : Int)) (R (Value.tuple #[(Value.int .u64 (0 : Int)), (Value.int .i64 x9_)]) h6_) (∃ h10_, st1 h6_ (Addr.add a0 2) (Value.slice A7_ n7_ c7_) = some h10_ ∧ ∃ v11_, ldv false 1 h10_ (Addr.add (⟨Array.size h, 0, none⟩) 1) = some v11_ ∧ ∃ x12_, v11_ = (Value.int .i64 x12_) ∧ splitB (x12_ == (5 : Int)) (∃ v13_, ldv false 1 h10_ (Addr.add (⟨Array.size h, 0, none⟩) 4) = some v13_ ∧ ∃ A14_, ∃ n14_, ∃ c14_, v13_ = (Value.slice A14_ n14_ c14_) ∧ f99.j1 R a0 (⟨Array.size h, 0, none⟩) x8_ (((n14_ : Nat) : Int) == (1 : Int)) h10_) (f99.j1 R a0 (⟨Array.size h, 0, none⟩) x8_ false h10_))
set_option maxRecDepth 100000 in
theorem f99.run {R : Value → Heap → Prop} {a0 : Addr} {v1 : Value} {h : Heap} (H : f99.runT R a0 v1 h) : Run Try.prog 99 #[(Value.pointer (some a0)), v1] h R :=
  run_of mixed Try.func99 (by kernel_rfl) (by kernel_rfl) f99.good (Eq.mpr (show (Fwd Try.prog f99.T f99.kp Try.f99 R [] (mkFr (argL [(Value.pointer (some a0)), v1] 0)) h) = (f99.runT R a0 v1 h) by kernel_rfl) H)
def f76.T : Tab := { sh := tSh, tup := tTup, keep := [], plan := [(15, (.take 0 (.take 2 (.take 3 (.take 4 (.take 5 (.take 6 (.alt false 1 (.eff false 7 (.take 8 (.take 9 (.take 10 (.take 11 (.eff false 12 (.take 13 .done))))))) (.eff false 7 (.take 8 (.take 9 (.take 10 (.eff false 1 (.take 11 (.eff false 12 (.take 13 .done))))))))))))))))] }
def f76.kp : Keep := [([true, false, true, true], [0, 1, 2, 9, 10, 27]), ([true, true, true], [0, 2, 9]), ([false, false, true, false, true, true, true, true, true, true, true], [0, 2, 13, 56, 57, 58]), ([true, true, false, false, true, true, false, false, true, false, true, true, true, true, true, true, true], [0, 2, 10, 13, 56, 57, 58])]
theorem f76.good : goodCode Try.prog f76.T (rootOf Try.f76) = true := by kernel_rfl
def f76.j1 (R : Value → Heap → Prop) (a0 : Addr) (x1 : Int) (x2 : Int) (x9 : Int) (x10 : Int) (b27 : Bool) (h : Heap) : Prop := Pt Try.prog Try.f76 R [true, false, true, true] (mkFr [(0, (Value.pointer (some a0))), (1, (Value.int .u64 x1)), (2, (Value.int .i64 x2)), (9, (Value.int .i64 x9)), (10, (Value.int .i64 x10)), (27, (Value.bool b27))]) h
def f76.j0 (R : Value → Heap → Prop) (a0 : Addr) (x2 : Int) (x9 : Int) (h : Heap) : Prop := Pt Try.prog Try.f76 R [true, true, true] (mkFr [(0, (Value.pointer (some a0))), (2, (Value.int .i64 x2)), (9, (Value.int .i64 x9))]) h
def f76.l0 (R : Value → Heap → Prop) (a0 : Addr) (x2 : Int) (a13 : Addr) (A56 : Option Addr) (n56 : Nat) (c56 : Nat) (x57 : Int) (x58 : Int) (h : Heap) : Prop := Pt Try.prog Try.f76 R [false, false, true, false, true, true, true, true, true, true, true] (mkFr [(0, (Value.pointer (some a0))), (2, (Value.int .i64 x2)), (13, (Value.pointer (some a13))), (56, (Value.slice A56 n56 c56)), (57, (Value.int .i64 x57)), (58, (Value.int .i64 x58))]) h
def f76.j2 (R : Value → Heap → Prop) (a0 : Addr) (x2 : Int) (x10 : Int) (a13 : Addr) (A56 : Option Addr) (n56 : Nat) (c56 : Nat) (x57 : Int) (x58 : Int) (h : Heap) : Prop := Pt Try.prog Try.f76 R [true, true, false, false, true, true, false, false, true, false, true, true, true, true, true, true, true] (mkFr [(0, (Value.pointer (some a0))), (2, (Value.int .i64 x2)), (10, (Value.int .i64 x10)), (13, (Value.pointer (some a13))), (56, (Value.slice A56 n56 c56)), (57, (Value.int .i64 x57)), (58, (Value.int .i64 x58))]) h
set_option maxRecDepth 100000 in
def f76.j1T (R : Value → Heap → Prop) (a0 : Addr) (x1 : Int) (x2 : Int) (x9 : Int) (x10 : Int) (b27 : Bool) (h : Heap) : Prop :=
  splitB b27 (R (Value.tuple #[(Value.int .u64 x1), (Value.int .i64 x10)]) h) (f76.j0 R a0 x2 x9 h)
set_option maxRecDepth 100000 in
theorem f76.j1_in {R : Value → Heap → Prop} {a0 : Addr} {x1 : Int} {x2 : Int} {x9 : Int} {x10 : Int} {b27 : Bool} {h : Heap} (H : f76.j1T R a0 x1 x2 x9 x10 b27 h) : f76.j1 R a0 x1 x2 x9 x10 b27 h :=
  pt_intro mixed f76.good (Eq.mpr (show (Fwd Try.prog f76.T f76.kp Try.f76 R [true, false, true, true] (mkFr [(0, (Value.pointer (some a0))), (1, (Value.int .u64 x1)), (2, (Value.int .i64 x2)), (9, (Value.int .i64 x9)), (10, (Value.int .i64 x10)), (27, (Value.bool b27))]) h) = (f76.j1T R a0 x1 x2 x9 x10 b27 h) by kernel_rfl) H)
set_option maxRecDepth 100000 in
def f76.j0T (R : Value → Heap → Prop) (a0 : Addr) (x2 : Int) (x9 : Int) (h : Heap) : Prop :=
  ∃ v1_, ldv false 1 h (Addr.add a0 3) = some v1_ ∧ Gen Try.prog (Instr.lookup 86 v1_ (Value.int .i64 x9) true) h fun v2_ h3_ => ∃ x4_, ∃ b5_, v2_ = (Value.tuple #[(Value.int .u64 x4_), (Value.bool b5_)]) ∧ splitB b5_ (R (Value.tuple #[(Value.int .u64 x4_), (Value.int .i64 (0 : Int))]) h3_) (splitB (decide (x2 < (1 : Int))) (R (Value.tuple #[(Value.int .u64 (0 : Int)), (Value.int .i64 (2 : Int))]) h3_) (∃ v6_, ldv false 1 h3_ a0 = some v6_ ∧ ∃ A7_, ∃ n7_, ∃ c7_, v6_ = (Value.slice A7_ n7_ c7_) ∧ Run Try.prog 96 #[(Value.slice A7_ n7_ c7_), (Value.int .i64 x9)] h3_ fun v8_ h9_ => ∃ v10_, ∃ x11_, v8_ = (Value.tuple #[v10_, (Value.int .i64 x11_)]) ∧ newH h9_ (Obj.cells #[(Value.int .i64 (0 : Int)), (Value.int .i64 (0 : Int)), (Value.int .i64 (0 : Int)), (Value.string (ByteArray.mk #[])), (Value.slice none 0 0)] 152) fun h12_ => ∃ l14_ : List Value, v10_ = Value.agg l14_.toArray ∧ l14_.length = 5 ∧ ∃ h13_, stH h12_ (⟨Array.size h9_, 0, none⟩) l14_ 0 = some h13_ ∧ splitB (x11_ != (0 : Int)) (R (Value.tuple #[(Value.int .u64 (0 : Int)), (Value.int .i64 x11_)]) h13_) (∃ v15_, ldv false 1 h13_ (Addr.add (⟨Array.size h9_, 0, none⟩) 4) = some v15_ ∧ ∃ A16_, ∃ n16_, ∃ c16_, v15_ = (Value.slice A16_ n16_ c16_) ∧ f76.l0 R a0 x2 (⟨Array.size h9_, 0, none⟩) A16_ n16_ c16_ ((n16_ : Nat) : Int) (0 : Int) h13_)))
set_option maxRecDepth 100000 in
theorem f76.j0_in {R : Value → Heap → Prop} {a0 : Addr} {x2 : Int} {x9 : Int} {h : Heap} (H : f76.j0T R a0 x2 x9 h) : f76.j0 R a0 x2 x9 h :=
  pt_intro mixed f76.good (Eq.mpr (show (Fwd Try.prog f76.T f76.kp Try.f76 R [true, true, true] (mkFr [(0, (Value.pointer (some a0))), (2, (Value.int .i64 x2)), (9, (Value.int .i64 x9))]) h) = (f76.j0T R a0 x2 x9 h) by kernel_rfl) H)
set_option maxRecDepth 100000 in
def f76.l0T (R : Value → Heap → Prop) (a0 : Addr) (x2 : Int) (a13 : Addr) (A56 : Option Addr) (n56 : Nat) (c56 : Nat) (x57 : Int) (x58 : Int) (h : Heap) : Prop :=
  splitB (decide (x58 < x57)) (ptrOk A56 fun a1_ => 0 ≤ x58 ∧ x58 < ((n56 : Nat) : Int) ∧ (∃ v2_, ldv false 1 h (Addr.add a1_ (Int.toNat x58 * 1)) = some v2_ ∧ ∃ x3_, v2_ = (Value.int .u64 x3_) ∧ (∃ v4_, ldv false 1 h (Addr.add a13 4) = some v4_ ∧ ∃ A5_, ∃ n5_, ∃ c5_, v4_ = (Value.slice A5_ n5_ c5_) ∧ Run Try.prog 76 #[(Value.pointer (some a0)), (Value.int .u64 x3_), (Value.int .i64 (IntKind.wrap .i64 (x2 - (1 : Int))))] h fun v6_ h7_ => ∃ x8_, ∃ x9_, v6_ = (Value.tuple #[(Value.int .u64 x8_), (Value.int .i64 x9_)]) ∧ ptrOk A5_ fun a10_ => 0 ≤ x58 ∧ x58 < ((n5_ : Nat) : Int) ∧ (∃ h11_, st1 h7_ (Addr.add a10_ (Int.toNat x58 * 1)) (Value.int .u64 x8_) = some h11_ ∧ f76.j2 R a0 x2 x9_ a13 A56 n56 c56 x57 x58 h11_)) ∧ (Run Try.prog 76 #[(Value.pointer (some a0)), (Value.int .u64 x3_), (Value.int .i64 (IntKind.wrap .i64 (x2 - (1 : Int))))] h fun v12_ h13_ => ∃ x14_, ∃ x15_, v12_ = (Value.tuple #[(Value.int .u64 x14_), (Value.int .i64 x15_)]) ∧ ∃ v16_, ldv false 1 h13_ (Addr.add a13 4) = some v16_ ∧ ∃ A17_, ∃ n17_, ∃ c17_, v16_ = (Value.slice A17_ n17_ c17_) ∧ ptrOk A17_ fun a18_ => 0 ≤ x58 ∧ x58 < ((n17_ : Nat) : Int) ∧ (∃ h19_, st1 h13_ (Addr.add a18_ (Int.toNat x58 * 1)) (Value.int .u64 x14_) = some h19_ ∧ f76.j2 R a0 x2 x15_ a13 A56 n56 c56 x57 x58 h19_)))) (∃ v20_, ldv true 5 h a13 = some v20_ ∧ Run Try.prog 99 #[(Value.pointer (some a0)), v20_] h fun v21_ h22_ => ∃ x23_, ∃ x24_, v21_ = (Value.tuple #[(Value.int .u64 x23_), (Value.int .i64 x24_)]) ∧ R (Value.tuple #[(Value.int .u64 x23_), (Value.int .i64 x24_)]) h22_)
set_option maxRecDepth 100000 in
theorem f76.l0_in {R : Value → Heap → Prop} {a0 : Addr} {x2 : Int} {a13 : Addr} {A56 : Option Addr} {n56 : Nat} {c56 : Nat} {x57 : Int} {x58 : Int} {h : Heap} (H : f76.l0T R a0 x2 a13 A56 n56 c56 x57 x58 h) : f76.l0 R a0 x2 a13 A56 n56 c56 x57 x58 h :=
  pt_intro mixed f76.good (Eq.mpr (show (Fwd Try.prog f76.T f76.kp Try.f76 R [false, false, true, false, true, true, true, true, true, true, true] (mkFr [(0, (Value.pointer (some a0))), (2, (Value.int .i64 x2)), (13, (Value.pointer (some a13))), (56, (Value.slice A56 n56 c56)), (57, (Value.int .i64 x57)), (58, (Value.int .i64 x58))]) h) = (f76.l0T R a0 x2 a13 A56 n56 c56 x57 x58 h) by kernel_rfl) H)
set_option maxRecDepth 100000 in
def f76.j2T (R : Value → Heap → Prop) (a0 : Addr) (x2 : Int) (x10 : Int) (a13 : Addr) (A56 : Option Addr) (n56 : Nat) (c56 : Nat) (x57 : Int) (x58 : Int) (h : Heap) : Prop :=
  splitB (x10 != (0 : Int)) (R (Value.tuple #[(Value.int .u64 (0 : Int)), (Value.int .i64 x10)]) h) (f76.l0 R a0 x2 a13 A56 n56 c56 x57 (IntKind.wrap .i64 (x58 + (1 : Int))) h)
set_option maxRecDepth 100000 in
theorem f76.j2_in {R : Value → Heap → Prop} {a0 : Addr} {x2 : Int} {x10 : Int} {a13 : Addr} {A56 : Option Addr} {n56 : Nat} {c56 : Nat} {x57 : Int} {x58 : Int} {h : Heap} (H : f76.j2T R a0 x2 x10 a13 A56 n56 c56 x57 x58 h) : f76.j2 R a0 x2 x10 a13 A56 n56 c56 x57 x58 h :=
  pt_intro mixed f76.good (Eq.mpr (show (Fwd Try.prog f76.T f76.kp Try.f76 R [true, true, false, false, true, true, false, false, true, false, true, true, true, true, true, true, true] (mkFr [(0, (Value.pointer (some a0))), (2, (Value.int .i64 x2)), (10, (Value.int .i64 x10)), (13, (Value.pointer (some a13))), (56, (Value.slice A56 n56 c56)), (57, (Value.int .i64 x57)), (58, (Value.int .i64 x58))]) h) = (f76.j2T R a0 x2 x10 a13 A56 n56 c56 x57 x58 h) by kernel_rfl) H)
set_option maxRecDepth 100000 in
def f76.runT (R : Value → Heap → Prop) (a0 : Addr) (x1 : Int) (x2 : Int) (h : Heap) : Prop :=
  Run Try.prog 98 #[(Value.int .u64 x1)] h fun v1_ h2_ => ∃ x3_, ∃ x4_, ∃ x5_, v1_ = (Value.tuple #[(Value.int .i64 x3_), (Value.int .i64 x4_), (Value.int .i64 x5_)]) ∧ splitB (x5_ != (0 : Int)) (f76.j1 R a0 x1 x2 x4_ x5_ true h2_) (f76.j1 R a0 x1 x2 x4_ x5_ (x3_ != (4 : Int)) h2_)
set_option maxRecDepth 100000 in
theorem f76.run {R : Value → Heap → Prop} {a0 : Addr} {x1 : Int} {x2 : Int} {h : Heap} (H : f76.runT R a0 x1 x2 h) : Run Try.prog 76 #[(Value.pointer (some a0)), (Value.int .u64 x1), (Value.int .i64 x2)] h R :=
  run_of mixed Try.func76 (by kernel_rfl) (by kernel_rfl) f76.good (Eq.mpr (show (Fwd Try.prog f76.T f76.kp Try.f76 R [] (mkFr (argL [(Value.pointer (some a0)), (Value.int .u64 x1), (Value.int .i64 x2)] 0)) h) = (f76.runT R a0 x1 x2 h) by kernel_rfl) H)
def f39.T : Tab := { sh := tSh, tup := tTup, keep := [], plan := [(12, (.take 0 (.take 1 (.take 2 (.take 4 (.take 5 (.take 6 (.take 8 (.take 3 (.take 9 (.take 7 (.take 10 (.take 11 (.take 12 .done))))))))))))))] }
def f39.kp : Keep := [([false, false, true, false, true], [0, 1, 2, 19, 20])]
theorem f39.good : goodCode Try.prog f39.T (rootOf Try.f39) = true := by kernel_rfl
def f39.l0 (R : Value → Heap → Prop) (A0 : Option Addr) (n0 : Nat) (c0 : Nat) (A1 : Option Addr) (n1 : Nat) (c1 : Nat) (x2 : Int) (v19 : Value) (x20 : Int) (h : Heap) : Prop := Pt Try.prog Try.f39 R [false, false, true, false, true] (mkFr [(0, (Value.slice A0 n0 c0)), (1, (Value.slice A1 n1 c1)), (2, (Value.int .u64 x2)), (19, v19), (20, (Value.int .i64 x20))]) h
set_option maxRecDepth 100000 in
def f39.l0T (R : Value → Heap → Prop) (A0 : Option Addr) (n0 : Nat) (c0 : Nat) (A1 : Option Addr) (n1 : Nat) (c1 : Nat) (x2 : Int) (v19 : Value) (x20 : Int) (h : Heap) : Prop :=
  splitB (decide (x20 < (2 : Int))) (0 ≤ x20 ∧ x20 < ((2 : Nat) : Int) ∧ ∃ v1_, fldv false 1 (Int.toNat x20 * 1) v19 = some v1_ ∧ (∃ A2_, ∃ n2_, ∃ c2_, v1_ = (Value.slice A2_ n2_ c2_) ∧ Run Try.prog 75 #[(Value.slice A2_ n2_ c2_)] h fun v3_ h4_ => ∃ A5_, ∃ n5_, ∃ c5_, ∃ x6_, v3_ = (Value.tuple #[(Value.slice A5_ n5_ c5_), (Value.int .i64 x6_)]) ∧ splitB (x6_ != (0 : Int)) (R (Value.tuple #[(Value.slice none 0 0), (Value.slice none 0 0), (Value.int .u64 (0 : Int)), (Value.int .i64 x6_)]) h4_) (f39.l0 R A0 n0 c0 A1 n1 c1 x2 v19 (IntKind.wrap .i64 (x20 + (1 : Int))) h4_))) (Run Try.prog 42 #[(Value.slice A0 n0 c0)] h fun v7_ h8_ => ∃ A9_, ∃ n9_, ∃ c9_, v7_ = (Value.slice A9_ n9_ c9_) ∧ Run Try.prog 42 #[(Value.slice A1 n1 c1)] h8_ fun v10_ h11_ => ∃ A12_, ∃ n12_, ∃ c12_, v10_ = (Value.slice A12_ n12_ c12_) ∧ Gen Try.prog (Instr.makeMap 86 none) h11_ fun v13_ h14_ => oneCell v13_ (newH h14_ (Obj.cells #[(Value.slice A0 n0 c0), (Value.slice A9_ n9_ c9_), (Value.slice A12_ n12_ c12_), v13_] 148) fun h15_ => Run Try.prog 76 #[(Value.pointer (some ⟨Array.size h14_, 0, none⟩)), (Value.int .u64 x2), (Value.int .i64 (40 : Int))] h15_ fun v16_ h17_ => ∃ x18_, ∃ x19_, v16_ = (Value.tuple #[(Value.int .u64 x18_), (Value.int .i64 x19_)]) ∧ splitB (x19_ != (0 : Int)) (R (Value.tuple #[(Value.slice none 0 0), (Value.slice none 0 0), (Value.int .u64 (0 : Int)), (Value.int .i64 x19_)]) h17_) (∃ v20_, ldv false 1 h17_ (Addr.add (⟨Array.size h14_, 0, none⟩) 1) = some v20_ ∧ ∃ A21_, ∃ n21_, ∃ c21_, v20_ = (Value.slice A21_ n21_ c21_) ∧ ∃ v22_, ldv false 1 h17_ (Addr.add (⟨Array.size h14_, 0, none⟩) 2) = some v22_ ∧ ∃ A23_, ∃ n23_, ∃ c23_, v22_ = (Value.slice A23_ n23_ c23_) ∧ R (Value.tuple #[(Value.slice A21_ n21_ c21_), (Value.slice A23_ n23_ c23_), (Value.int .u64 x18_), (Value.int .i64 (0 : Int))]) h17_)))
set_option maxRecDepth 100000 in
theorem f39.l0_in {R : Value → Heap → Prop} {A0 : Option Addr} {n0 : Nat} {c0 : Nat} {A1 : Option Addr} {n1 : Nat} {c1 : Nat} {x2 : Int} {v19 : Value} {x20 : Int} {h : Heap} (H : f39.l0T R A0 n0 c0 A1 n1 c1 x2 v19 x20 h) : f39.l0 R A0 n0 c0 A1 n1 c1 x2 v19 x20 h :=
  pt_intro mixed f39.good (Eq.mpr (show (Fwd Try.prog f39.T f39.kp Try.f39 R [false, false, true, false, true] (mkFr [(0, (Value.slice A0 n0 c0)), (1, (Value.slice A1 n1 c1)), (2, (Value.int .u64 x2)), (19, v19), (20, (Value.int .i64 x20))]) h) = (f39.l0T R A0 n0 c0 A1 n1 c1 x2 v19 x20 h) by kernel_rfl) H)
set_option maxRecDepth 100000 in
def f39.runT (R : Value → Heap → Prop) (A0 : Option Addr) (n0 : Nat) (c0 : Nat) (A1 : Option Addr) (n1 : Nat) (c1 : Nat) (x2 : Int) (h : Heap) : Prop :=
  f39.l0 R A0 n0 c0 A1 n1 c1 x2 (Value.agg #[(Value.slice A0 n0 c0), (Value.slice A1 n1 c1)]) (0 : Int) h
set_option maxRecDepth 100000 in
theorem f39.run {R : Value → Heap → Prop} {A0 : Option Addr} {n0 : Nat} {c0 : Nat} {A1 : Option Addr} {n1 : Nat} {c1 : Nat} {x2 : Int} {h : Heap} (H : f39.runT R A0 n0 c0 A1 n1 c1 x2 h) : Run Try.prog 39 #[(Value.slice A0 n0 c0), (Value.slice A1 n1 c1), (Value.int .u64 x2)] h R :=
  run_of mixed Try.func39 (by kernel_rfl) (by kernel_rfl) f39.good (Eq.mpr (show (Fwd Try.prog f39.T f39.kp Try.f39 R [] (mkFr (argL [(Value.slice A0 n0 c0), (Value.slice A1 n1 c1), (Value.int .u64 x2)] 0)) h) = (f39.runT R A0 n0 c0 A1 n1 c1 x2 h) by kernel_rfl) H)
def f30.T : Tab := { sh := tSh, tup := tTup, keep := [], plan := [] }
def f30.kp : Keep := []
theorem f30.good : goodCode Try.prog f30.T (rootOf Try.f30) = true := by kernel_rfl
set_option maxRecDepth 100000 in
def f30.runT (R : Value → Heap → Prop) (x0 : Int) (x1 : Int) (x2 : Int) (h : Heap) : Prop :=
  splitB (decide (x0 ≥ x1)) (R (Value.bool (decide (x0 ≤ x2))) h) (R (Value.bool false) h)
set_option maxRecDepth 100000 in
theorem f30.run {R : Value → Heap → Prop} {x0 : Int} {x1 : Int} {x2 : Int} {h : Heap} (H : f30.runT R x0 x1 x2 h) : Run Try.prog 30 #[(Value.int .i64 x0), (Value.int .i64 x1), (Value.int .i64 x2)] h R :=
  run_of mixed Try.func30 (by kernel_rfl) (by kernel_rfl) f30.good (Eq.mpr (show (Fwd Try.prog f30.T f30.kp Try.f30 R [] (mkFr (argL [(Value.int .i64 x0), (Value.int .i64 x1), (Value.int .i64 x2)] 0)) h) = (f30.runT R x0 x1 x2 h) by kernel_rfl) H)
def f78.T : Tab := { sh := tSh, tup := tTup, keep := [], plan := [(12, (.take 0 (.take 1 (.take 4 (.take 5 (.take 6 (.eff false 2 (.eff false 3 (.take 7 (.take 8 .done))))))))))] }
def f78.kp : Keep := [([true, false, true, true], [1, 3, 31]), ([true, true, true], [1, 3]), ([false, false, true, false, true, true, true], [1, 3, 4]), ([false, false, true, false, true, true, false, true, false, false, true, false, true, true, true], [1, 3, 4, 5, 6, 7])]
theorem f78.good : goodCode Try.prog f78.T (rootOf Try.f78) = true := by kernel_rfl
def f78.j1 (R : Value → Heap → Prop) (a1 : Addr) (A3 : Option Addr) (n3 : Nat) (c3 : Nat) (b31 : Bool) (h : Heap) : Prop := Pt Try.prog Try.f78 R [true, false, true, true] (mkFr [(1, (Value.pointer (some a1))), (3, (Value.slice A3 n3 c3)), (31, (Value.bool b31))]) h
def f78.j0 (R : Value → Heap → Prop) (a1 : Addr) (A3 : Option Addr) (n3 : Nat) (c3 : Nat) (h : Heap) : Prop := Pt Try.prog Try.f78 R [true, true, true] (mkFr [(1, (Value.pointer (some a1))), (3, (Value.slice A3 n3 c3))]) h
def f78.l0 (R : Value → Heap → Prop) (a1 : Addr) (A3 : Option Addr) (n3 : Nat) (c3 : Nat) (s4 : ByteArray) (h : Heap) : Prop := Pt Try.prog Try.f78 R [false, false, true, false, true, true, true] (mkFr [(1, (Value.pointer (some a1))), (3, (Value.slice A3 n3 c3)), (4, (Value.string s4))]) h
def f78.l1 (R : Value → Heap → Prop) (a1 : Addr) (A3 : Option Addr) (n3 : Nat) (c3 : Nat) (s4 : ByteArray) (x5 : Int) (x6 : Int) (x7 : Int) (h : Heap) : Prop := Pt Try.prog Try.f78 R [false, false, true, false, true, true, false, true, false, false, true, false, true, true, true] (mkFr [(1, (Value.pointer (some a1))), (3, (Value.slice A3 n3 c3)), (4, (Value.string s4)), (5, (Value.int .i64 x5)), (6, (Value.int .u64 x6)), (7, (Value.int .i64 x7))]) h
set_option maxRecDepth 100000 in
def f78.j1T (R : Value → Heap → Prop) (a1 : Addr) (A3 : Option Addr) (n3 : Nat) (c3 : Nat) (b31 : Bool) (h : Heap) : Prop :=
  splitB b31 (∃ v1_, ldv false 1 h (Addr.add a1 2) = some v1_ ∧ ∃ x2_, v1_ = (Value.int .i64 x2_) ∧ newH h (Obj.cells #[(Value.int .u64 (IntKind.wrap .u64 x2_))] 77) fun h3_ => AppW 77 1 8 #[(Value.int .u64 (0 : Int))] A3 n3 c3 (Value.slice (some ⟨Array.size h, 0, none⟩) 1 1) h3_ fun v4_ h5_ => ∃ A6_, ∃ n6_, ∃ c6_, v4_ = (Value.slice A6_ n6_ c6_) ∧ f78.j0 R a1 A6_ n6_ c6_ h5_) (f78.j0 R a1 A3 n3 c3 h)
set_option maxRecDepth 100000 in
theorem f78.j1_in {R : Value → Heap → Prop} {a1 : Addr} {A3 : Option Addr} {n3 : Nat} {c3 : Nat} {b31 : Bool} {h : Heap} (H : f78.j1T R a1 A3 n3 c3 b31 h) : f78.j1 R a1 A3 n3 c3 b31 h :=
  pt_intro mixed f78.good (Eq.mpr (show (Fwd Try.prog f78.T f78.kp Try.f78 R [true, false, true, true] (mkFr [(1, (Value.pointer (some a1))), (3, (Value.slice A3 n3 c3)), (31, (Value.bool b31))]) h) = (f78.j1T R a1 A3 n3 c3 b31 h) by kernel_rfl) H)
set_option maxRecDepth 100000 in
def f78.j0T (R : Value → Heap → Prop) (a1 : Addr) (A3 : Option Addr) (n3 : Nat) (c3 : Nat) (h : Heap) : Prop :=
  ∃ v1_, ldv false 1 h (Addr.add a1 3) = some v1_ ∧ ∃ s2_, v1_ = (Value.string s2_) ∧ f78.l0 R a1 A3 n3 c3 s2_ h
set_option maxRecDepth 100000 in
theorem f78.j0_in {R : Value → Heap → Prop} {a1 : Addr} {A3 : Option Addr} {n3 : Nat} {c3 : Nat} {h : Heap} (H : f78.j0T R a1 A3 n3 c3 h) : f78.j0 R a1 A3 n3 c3 h :=
  pt_intro mixed f78.good (Eq.mpr (show (Fwd Try.prog f78.T f78.kp Try.f78 R [true, true, true] (mkFr [(1, (Value.pointer (some a1))), (3, (Value.slice A3 n3 c3))]) h) = (f78.j0T R a1 A3 n3 c3 h) by kernel_rfl) H)
set_option maxRecDepth 100000 in
def f78.l0T (R : Value → Heap → Prop) (a1 : Addr) (A3 : Option Addr) (n3 : Nat) (c3 : Nat) (s4 : ByteArray) (h : Heap) : Prop :=
  splitB (!(ByteArray.toList s4 == ByteArray.toList (ByteArray.mk #[]))) (f78.l1 R a1 A3 n3 c3 s4 (if ((ByteArray.size s4 : Nat) : Int) < (8 : Int) then ((ByteArray.size s4 : Nat) : Int) else (8 : Int)) (0 : Int) (IntKind.wrap .i64 ((if ((ByteArray.size s4 : Nat) : Int) < (8 : Int) then ((ByteArray.size s4 : Nat) : Int) else (8 : Int)) - (1 : Int))) h) (∃ v1_, ldv false 1 h (Addr.add a1 4) = some v1_ ∧ ∃ A2_, ∃ n2_, ∃ c2_, v1_ = (Value.slice A2_ n2_ c2_) ∧ AppW 77 1 8 #[(Value.int .u64 (0 : Int))] A3 n3 c3 (Value.slice A2_ n2_ c2_) h fun v3_ h4_ => ∃ A5_, ∃ n5_, ∃ c5_, v3_ = (Value.slice A5_ n5_ c5_) ∧ R (Value.slice A5_ n5_ c5_) h4_)
set_option maxRecDepth 100000 in
theorem f78.l0_in {R : Value → Heap → Prop} {a1 : Addr} {A3 : Option Addr} {n3 : Nat} {c3 : Nat} {s4 : ByteArray} {h : Heap} (H : f78.l0T R a1 A3 n3 c3 s4 h) : f78.l0 R a1 A3 n3 c3 s4 h :=
  pt_intro mixed f78.good (Eq.mpr (show (Fwd Try.prog f78.T f78.kp Try.f78 R [false, false, true, false, true, true, true] (mkFr [(1, (Value.pointer (some a1))), (3, (Value.slice A3 n3 c3)), (4, (Value.string s4))]) h) = (f78.l0T R a1 A3 n3 c3 s4 h) by kernel_rfl) H)
set_option maxRecDepth 100000 in
def f78.l1T (R : Value → Heap → Prop) (a1 : Addr) (A3 : Option Addr) (n3 : Nat) (c3 : Nat) (s4 : ByteArray) (x5 : Int) (x6 : Int) (x7 : Int) (h : Heap) : Prop :=
  splitB (decide (x7 ≥ (0 : Int))) (0 ≤ x7 ∧ ∃ y1_, s4[Int.toNat x7]? = some y1_ ∧ (f78.l1 R a1 A3 n3 c3 s4 x5 (IntKind.wrap .u64 ((IntKind.wrap .u64 ((256 : Int) * x6)) + (IntKind.wrap .u64 ((UInt8.toNat y1_ : Nat) : Int)))) (IntKind.wrap .i64 (x7 - (1 : Int))) h)) (0 ≤ x5 ∧ x5 ≤ ((ByteArray.size s4 : Nat) : Int) ∧ ((ByteArray.size s4 : Nat) : Int) ≤ ((ByteArray.size s4 : Nat) : Int) ∧ (newH h (Obj.cells #[(Value.int .u64 x6)] 77) fun h2_ => AppW 77 1 8 #[(Value.int .u64 (0 : Int))] A3 n3 c3 (Value.slice (some ⟨Array.size h, 0, none⟩) 1 1) h2_ fun v3_ h4_ => ∃ A5_, ∃ n5_, ∃ c5_, v3_ = (Value.slice A5_ n5_ c5_) ∧ f78.l0 R a1 A5_ n5_ c5_ (ByteArray.extract s4 (Int.toNat x5) (Int.toNat ((ByteArray.size s4 : Nat) : Int))) h4_))
set_option maxRecDepth 100000 in
theorem f78.l1_in {R : Value → Heap → Prop} {a1 : Addr} {A3 : Option Addr} {n3 : Nat} {c3 : Nat} {s4 : ByteArray} {x5 : Int} {x6 : Int} {x7 : Int} {h : Heap} (H : f78.l1T R a1 A3 n3 c3 s4 x5 x6 x7 h) : f78.l1 R a1 A3 n3 c3 s4 x5 x6 x7 h :=
  pt_intro mixed f78.good (Eq.mpr (show (Fwd Try.prog f78.T f78.kp Try.f78 R [false, false, true, false, true, true, false, true, false, false, true, false, true, true, true] (mkFr [(1, (Value.pointer (some a1))), (3, (Value.slice A3 n3 c3)), (4, (Value.string s4)), (5, (Value.int .i64 x5)), (6, (Value.int .u64 x6)), (7, (Value.int .i64 x7))]) h) = (f78.l1T R a1 A3 n3 c3 s4 x5 x6 x7 h) by kernel_rfl) H)
set_option maxRecDepth 100000 in
def f78.runT (R : Value → Heap → Prop) (v0 : Value) (h : Heap) : Prop :=
  newH h (Obj.cells ((v0).cells) 152) fun h1_ => ∃ v2_, ldv false 1 h1_ (Addr.add (⟨Array.size h, 0, none⟩) 1) = some v2_ ∧ ∃ x3_, v2_ = (Value.int .i64 x3_) ∧ ∃ v4_, ldv false 1 h1_ (Addr.add (⟨Array.size h, 0, none⟩) 3) = some v4_ ∧ ∃ s5_, v4_ = (Value.string s5_) ∧ ∃ v6_, ldv false 1 h1_ (Addr.add (⟨Array.size h, 0, none⟩) 4) = some v6_ ∧ ∃ A7_, ∃ n7_, ∃ c7_, v6_ = (Value.slice A7_ n7_ c7_) ∧ newH h1_ (Obj.cells #[(Value.int .u64 (IntKind.wrap .u64 ((IntKind.wrap .u64 ((IntKind.wrap .u64 x3_) + (IntKind.wrap .u64 ((256 : Int) * (IntKind.wrap .u64 ((ByteArray.size s5_ : Nat) : Int)))))) + (IntKind.wrap .u64 ((1048576 : Int) * (IntKind.wrap .u64 ((n7_ : Nat) : Int)))))))] 77) fun h8_ => ∃ v9_, ldv false 1 h8_ (Addr.add (⟨Array.size h, 0, none⟩) 1) = some v9_ ∧ ∃ x10_, v9_ = (Value.int .i64 x10_) ∧ splitB (x10_ == (1 : Int)) (f78.j1 R (⟨Array.size h, 0, none⟩) (some ⟨Array.size h1_, 0, none⟩) 1 1 true h8_) (∃ v11_, ldv false 1 h8_ (Addr.add (⟨Array.size h, 0, none⟩) 1) = some v11_ ∧ ∃ x12_, v11_ = (Value.int .i64 x12_) ∧ f78.j1 R (⟨Array.size h, 0, none⟩) (some ⟨Array.size h1_, 0, none⟩) 1 1 (x12_ == (4 : Int)) h8_)
set_option maxRecDepth 100000 in
theorem f78.run {R : Value → Heap → Prop} {v0 : Value} {h : Heap} (H : f78.runT R v0 h) : Run Try.prog 78 #[v0] h R :=
  run_of mixed Try.func78 (by kernel_rfl) (by kernel_rfl) f78.good (Eq.mpr (show (Fwd Try.prog f78.T f78.kp Try.f78 R [] (mkFr (argL [v0] 0)) h) = (f78.runT R v0 h) by kernel_rfl) H)
def f100.T : Tab := { sh := tSh, tup := tTup, keep := [], plan := [(1, (.take 0 (.take 8 (.take 16 (.take 1 (.take 2 (.take 3 (.split 3 (.take 4 (.take 5 (.take 6 (.take 7 (.take 9 (.take 10 (.take 11 (.split 11 (.take 12 (.take 19 (.take 13 (.take 14 (.take 15 (.take 20 (.take 17 (.take 18 (.take 21 .done)))))))))))))))))))))))))] }
def f100.kp : Keep := [([true, true], [1, 3, 4, 5]), ([true, true, true], [1, 3, 4, 5])]
theorem f100.good : goodCode Try.prog f100.T (rootOf Try.f100) = true := by kernel_rfl
def f100.j0 (R : Value → Heap → Prop) (a1 : Addr) (b3 : Bool) (b4 : Bool) (b5 : Bool) (h : Heap) : Prop := Pt Try.prog Try.f100 R [true, true] (mkFr [(1, (Value.pointer (some a1))), (3, (Value.bool b3)), (4, (Value.bool b4)), (5, (Value.bool b5))]) h
def f100.j1 (R : Value → Heap → Prop) (a1 : Addr) (b3 : Bool) (b4 : Bool) (b5 : Bool) (h : Heap) : Prop := Pt Try.prog Try.f100 R [true, true, true] (mkFr [(1, (Value.pointer (some a1))), (3, (Value.bool b3)), (4, (Value.bool b4)), (5, (Value.bool b5))]) h
set_option maxRecDepth 100000 in
def f100.j0T (R : Value → Heap → Prop) (a1 : Addr) (b3 : Bool) (b4 : Bool) (b5 : Bool) (h : Heap) : Prop :=
  ∃ v1_, ldv false 1 h (Addr.add a1 1) = some v1_ ∧ ∃ x2_, v1_ = (Value.int .i64 x2_) ∧ Run Try.prog 30 #[(Value.int .i64 x2_), (Value.int .i64 (1 : Int)), (Value.int .i64 (5 : Int))] h fun v3_ h4_ => ∃ b5_, v3_ = (Value.bool b5_) ∧ splitB (!b5_) (R (Value.bool false) h4_) (∃ v6_, ldv false 1 h4_ (Addr.add a1 3) = some v6_ ∧ ∃ s7_, v6_ = (Value.string s7_) ∧ splitB (decide (((ByteArray.size s7_ : Nat) : Int) > (64 : Int))) (R (Value.bool false) h4_) (∃ v8_, ldv false 1 h4_ (Addr.add a1 4) = some v8_ ∧ ∃ A9_, ∃ n9_, ∃ c9_, v8_ = (Value.slice A9_ n9_ c9_) ∧ splitB (decide (((n9_ : Nat) : Int) > (400 : Int))) (R (Value.bool false) h4_) (∃ v10_, ldv false 1 h4_ (Addr.add a1 1) = some v10_ ∧ ∃ x11_, v10_ = (Value.int .i64 x11_) ∧ splitB (x11_ == (5 : Int)) (∃ v12_, ldv false 1 h4_ (Addr.add a1 4) = some v12_ ∧ ∃ A13_, ∃ n13_, ∃ c13_, v12_ = (Value.slice A13_ n13_ c13_) ∧ splitB (decide (((n13_ : Nat) : Int) > (1 : Int))) (R (Value.bool false) h4_) (f100.j1 R a1 b3 b4 b5 h4_)) (f100.j1 R a1 b3 b4 b5 h4_))))
set_option maxRecDepth 100000 in
theorem f100.j0_in {R : Value → Heap → Prop} {a1 : Addr} {b3 : Bool} {b4 : Bool} {b5 : Bool} {h : Heap} (H : f100.j0T R a1 b3 b4 b5 h) : f100.j0 R a1 b3 b4 b5 h :=
  pt_intro mixed f100.good (Eq.mpr (show (Fwd Try.prog f100.T f100.kp Try.f100 R [true, true] (mkFr [(1, (Value.pointer (some a1))), (3, (Value.bool b3)), (4, (Value.bool b4)), (5, (Value.bool b5))]) h) = (f100.j0T R a1 b3 b4 b5 h) by kernel_rfl) H)
set_option maxRecDepth 100000 in
def f100.j1T (R : Value → Heap → Prop) (a1 : Addr) (b3 : Bool) (b4 : Bool) (b5 : Bool) (h : Heap) : Prop :=
  splitB b3 (splitB b4 (splitB b5 (R (Value.bool true) h) (∃ v1_, ldv false 1 h (Addr.add a1 4) = some v1_ ∧ ∃ A2_, ∃ n2_, ∃ c2_, v1_ = (Value.slice A2_ n2_ c2_) ∧ R (Value.bool (((n2_ : Nat) : Int) == (0 : Int))) h)) (∃ v3_, ldv false 1 h (Addr.add a1 2) = some v3_ ∧ ∃ x4_, v3_ = (Value.int .i64 x4_) ∧ splitB (x4_ == (0 : Int)) (splitB b5 (R (Value.bool true) h) (∃ v5_, ldv false 1 h (Addr.add a1 4) = some v5_ ∧ ∃ A6_, ∃ n6_, ∃ c6_, v5_ = (Value.slice A6_ n6_ c6_) ∧ R (Value.bool (((n6_ : Nat) : Int) == (0 : Int))) h)) (R (Value.bool false) h))) (∃ v7_, ldv false 1 h (Addr.add a1 3) = some v7_ ∧ ∃ s8_, v7_ = (Value.string s8_) ∧ splitB (ByteArray.toList s8_ == ByteArray.toList (ByteArray.mk #[])) (splitB b4 (splitB b5 (R (Value.bool true) h) (∃ v9_, ldv false 1 h (Addr.add a1 4) = some v9_ ∧ ∃ A10_, ∃ n10_, ∃ c10_, v9_ = (Value.slice A10_ n10_ c10_) ∧ R (Value.bool (((n10_ : Nat) : Int) == (0 : Int))) h)) (∃ v11_, ldv false 1 h (Addr.add a1 2) = some v11_ ∧ ∃ x12_, v11_ = (Value.int .i64 x12_) ∧ splitB (x12_ == (0 : Int)) (splitB b5 (R (Value.bool true) h) (∃ v13_, ldv false 1 h (Addr.add a1 4) = some v13_ ∧ ∃ A14_, ∃ n14_, ∃ c14_, v13_ = (Value.slice A14_ n14_ c14_) ∧ R (Value.bool (((n14_ : Nat) : Int) == (0 : Int))) h)) (R (Value.bool false) h))) (R (Value.bool false) h))
set_option maxRecDepth 100000 in
theorem f100.j1_in {R : Value → Heap → Prop} {a1 : Addr} {b3 : Bool} {b4 : Bool} {b5 : Bool} {h : Heap} (H : f100.j1T R a1 b3 b4 b5 h) : f100.j1 R a1 b3 b4 b5 h :=
  pt_intro mixed f100.good (Eq.mpr (show (Fwd Try.prog f100.T f100.kp Try.f100 R [true, true, true] (mkFr [(1, (Value.pointer (some a1))), (3, (Value.bool b3)), (4, (Value.bool b4)), (5, (Value.bool b5))]) h) = (f100.j1T R a1 b3 b4 b5 h) by kernel_rfl) H)
set_option maxRecDepth 100000 in
def f100.runT (R : Value → Heap → Prop) (v0 : Value) (h : Heap) : Prop :=
  newH h (Obj.cells ((v0).cells) 152) fun h1_ => ∃ v2_, ldv false 1 h1_ (Addr.add (⟨Array.size h, 0, none⟩) 1) = some v2_ ∧ ∃ x3_, v2_ = (Value.int .i64 x3_) ∧ splitB (x3_ == (2 : Int)) (∃ v4_, ldv false 1 h1_ (Addr.add (⟨Array.size h, 0, none⟩) 1) = some v4_ ∧ ∃ x5_, v4_ = (Value.int .i64 x5_) ∧ splitB (x5_ == (1 : Int)) (∃ v6_, ldv false 1 h1_ (Addr.add (⟨Array.size h, 0, none⟩) 1) = some v6_ ∧ ∃ x7_, v6_ = (Value.int .i64 x7_) ∧ f100.j0 R (⟨Array.size h, 0, none⟩) true true (decide (x7_ > (2 : Int))) h1_) (∃ v8_, ldv false 1 h1_ (Addr.add (⟨Array.size h, 0, none⟩) 1) = some v8_ ∧ ∃ x9_, v8_ = (Value.int .i64 x9_) ∧ ∃ v10_, ldv false 1 h1_ (Addr.add (⟨Array.size h, 0, none⟩) 1) = some v10_ ∧ ∃ x11_, v10_ = (Value.int .i64 x11_) ∧ f100.j0 R (⟨Array.size h, 0, none⟩) true (x9_ == (4 : Int)) (decide (x11_ > (2 : Int))) h1_)) (∃ v12_, ldv false 1 h1_ (Addr.add (⟨Array.size h, 0, none⟩) 1) = some v12_ ∧ ∃ x13_, v12_ = (Value.int .i64 x13_) ∧ ∃ v14_, ldv false 1 h1_ (Addr.add (⟨Array.size h, 0, none⟩) 1) = some v14_ ∧ ∃ x15_, v14_ = (Value.int .i64 x15_) ∧ splitB (x15_ == (1 : Int)) (∃ v16_, ldv false 1 h1_ (Addr.add (⟨Array.size h, 0, none⟩) 1) = some v16_ ∧ ∃ x17_, v16_ = (Value.int .i64 x17_) ∧ f100.j0 R (⟨Array.size h, 0, none⟩) (x13_ == (3 : Int)) true (decide (x17_ > (2 : Int))) h1_) (∃ v18_, ldv false 1 h1_ (Addr.add (⟨Array.size h, 0, none⟩) 1) = some v18_ ∧ ∃ x19_, v18_ = (Value.int .i64 x19_) ∧ ∃ v20_, ldv false 1 h1_ (Addr.add (⟨Array.size h, 0, none⟩) 1) = some v20_ ∧ ∃ x21_, v20_ = (Value.int .i64 x21_) ∧ f100.j0 R (⟨Array.size h, 0, none⟩) (x13_ == (3 : Int)) (x19_ == (4 : Int)) (decide (x21_ > (2 : Int))) h1_))
set_option maxRecDepth 100000 in
theorem f100.run {R : Value → Heap → Prop} {v0 : Value} {h : Heap} (H : f100.runT R v0 h) : Run Try.prog 100 #[v0] h R :=
  run_of mixed Try.func100 (by kernel_rfl) (by kernel_rfl) f100.good (Eq.mpr (show (Fwd Try.prog f100.T f100.kp Try.f100 R [] (mkFr (argL [v0] 0)) h) = (f100.runT R v0 h) by kernel_rfl) H)
def f77.T : Tab := { sh := tSh, tup := tTup, keep := [], plan := [(4, (.take 0 (.take 1 (.take 2 (.take 7 (.take 8 (.take 9 (.take 3 (.take 4 (.take 5 (.take 6 (.take 13 (.take 10 (.take 11 (.take 12 (.take 14 .done)))))))))))))))), (9, (.take 0 (.take 1 (.take 4 (.take 5 (.take 2 (.take 3 (.take 6 (.eff false 7 (.take 8 .done)))))))))), (23, (.take 0 (.take 2 (.take 3 (.take 4 (.take 5 (.take 6 (.take 7 (.take 1 (.eff false 8 (.take 9 (.eff false 10 .done))))))))))))] }
def f77.kp : Keep := [([true, false, true], [0, 1, 4, 28]), ([true, true], [0, 1, 4]), ([true, false, true, true, true, true, true], [0, 1, 4, 6, 7, 8, 9, 62]), ([true, true, true, true, true, true], [0, 1, 4, 6, 7, 8, 9]), ([false, false, true, false, true, true, true, true, true, true, true, true], [0, 1, 4, 6, 8, 9, 10, 84, 85]), ([false, false, true, false, true, true, false, false, true, true, false, false, true, false, true, true, true, true, true, true, true, true], [0, 1, 4, 6, 8, 9, 10, 12, 84, 85, 94, 95]), ([false, false, true, false, true, true, true, true, true, true, true, true, true, true, true], [0, 1, 4, 6, 125, 126, 127])]
theorem f77.good : goodCode Try.prog f77.T (rootOf Try.f77) = true := by kernel_rfl
def f77.j1 (R : Value → Heap → Prop) (A0 : Option Addr) (n0 : Nat) (c0 : Nat) (x1 : Int) (a4 : Addr) (b28 : Bool) (h : Heap) : Prop := Pt Try.prog Try.f77 R [true, false, true] (mkFr [(0, (Value.slice A0 n0 c0)), (1, (Value.int .i64 x1)), (4, (Value.pointer (some a4))), (28, (Value.bool b28))]) h
def f77.j0 (R : Value → Heap → Prop) (A0 : Option Addr) (n0 : Nat) (c0 : Nat) (x1 : Int) (a4 : Addr) (h : Heap) : Prop := Pt Try.prog Try.f77 R [true, true] (mkFr [(0, (Value.slice A0 n0 c0)), (1, (Value.int .i64 x1)), (4, (Value.pointer (some a4)))]) h
def f77.j3 (R : Value → Heap → Prop) (A0 : Option Addr) (n0 : Nat) (c0 : Nat) (x1 : Int) (a4 : Addr) (a6 : Addr) (x7 : Int) (x8 : Int) (A9 : Option Addr) (n9 : Nat) (c9 : Nat) (b62 : Bool) (h : Heap) : Prop := Pt Try.prog Try.f77 R [true, false, true, true, true, true, true] (mkFr [(0, (Value.slice A0 n0 c0)), (1, (Value.int .i64 x1)), (4, (Value.pointer (some a4))), (6, (Value.pointer (some a6))), (7, (Value.int .i64 x7)), (8, (Value.int .i64 x8)), (9, (Value.slice A9 n9 c9)), (62, (Value.bool b62))]) h
def f77.j2 (R : Value → Heap → Prop) (A0 : Option Addr) (n0 : Nat) (c0 : Nat) (x1 : Int) (a4 : Addr) (a6 : Addr) (x7 : Int) (x8 : Int) (A9 : Option Addr) (n9 : Nat) (c9 : Nat) (h : Heap) : Prop := Pt Try.prog Try.f77 R [true, true, true, true, true, true] (mkFr [(0, (Value.slice A0 n0 c0)), (1, (Value.int .i64 x1)), (4, (Value.pointer (some a4))), (6, (Value.pointer (some a6))), (7, (Value.int .i64 x7)), (8, (Value.int .i64 x8)), (9, (Value.slice A9 n9 c9))]) h
def f77.l0 (R : Value → Heap → Prop) (A0 : Option Addr) (n0 : Nat) (c0 : Nat) (x1 : Int) (a4 : Addr) (a6 : Addr) (x8 : Int) (A9 : Option Addr) (n9 : Nat) (c9 : Nat) (x10 : Int) (x84 : Int) (x85 : Int) (h : Heap) : Prop := Pt Try.prog Try.f77 R [false, false, true, false, true, true, true, true, true, true, true, true] (mkFr [(0, (Value.slice A0 n0 c0)), (1, (Value.int .i64 x1)), (4, (Value.pointer (some a4))), (6, (Value.pointer (some a6))), (8, (Value.int .i64 x8)), (9, (Value.slice A9 n9 c9)), (10, (Value.int .i64 x10)), (84, (Value.int .i64 x84)), (85, (Value.int .i64 x85))]) h
def f77.l2 (R : Value → Heap → Prop) (A0 : Option Addr) (n0 : Nat) (c0 : Nat) (x1 : Int) (a4 : Addr) (a6 : Addr) (x8 : Int) (A9 : Option Addr) (n9 : Nat) (c9 : Nat) (x10 : Int) (x12 : Int) (x84 : Int) (x85 : Int) (x94 : Int) (x95 : Int) (h : Heap) : Prop := Pt Try.prog Try.f77 R [false, false, true, false, true, true, false, false, true, true, false, false, true, false, true, true, true, true, true, true, true, true] (mkFr [(0, (Value.slice A0 n0 c0)), (1, (Value.int .i64 x1)), (4, (Value.pointer (some a4))), (6, (Value.pointer (some a6))), (8, (Value.int .i64 x8)), (9, (Value.slice A9 n9 c9)), (10, (Value.int .i64 x10)), (12, (Value.int .u64 x12)), (84, (Value.int .i64 x84)), (85, (Value.int .i64 x85)), (94, (Value.int .i64 x94)), (95, (Value.int .i64 x95))]) h
def f77.l1 (R : Value → Heap → Prop) (A0 : Option Addr) (n0 : Nat) (c0 : Nat) (x1 : Int) (a4 : Addr) (a6 : Addr) (A125 : Option Addr) (n125 : Nat) (c125 : Nat) (x126 : Int) (x127 : Int) (h : Heap) : Prop := Pt Try.prog Try.f77 R [false, false, true, false, true, true, true, true, true, true, true, true, true, true, true] (mkFr [(0, (Value.slice A0 n0 c0)), (1, (Value.int .i64 x1)), (4, (Value.pointer (some a4))), (6, (Value.pointer (some a6))), (125, (Value.slice A125 n125 c125)), (126, (Value.int .i64 x126)), (127, (Value.int .i64 x127))]) h
set_option maxRecDepth 100000 in
def f77.j1T (R : Value → Heap → Prop) (A0 : Option Addr) (n0 : Nat) (c0 : Nat) (x1 : Int) (a4 : Addr) (b28 : Bool) (h : Heap) : Prop :=
  splitB b28 (∃ l2_ : List Value, (Value.agg #[(Value.int .i64 (0 : Int)), (Value.int .i64 (0 : Int)), (Value.int .i64 (0 : Int)), (Value.string (ByteArray.mk #[])), (Value.slice none 0 0)]) = Value.agg l2_.toArray ∧ l2_.length = 5 ∧ ∃ h1_, stH h a4 l2_ 0 = some h1_ ∧ ∃ v3_, ldv true 5 h1_ a4 = some v3_ ∧ R (Value.tuple #[v3_, (Value.bool false)]) h1_) (f77.j0 R A0 n0 c0 x1 a4 h)
set_option maxRecDepth 100000 in
theorem f77.j1_in {R : Value → Heap → Prop} {A0 : Option Addr} {n0 : Nat} {c0 : Nat} {x1 : Int} {a4 : Addr} {b28 : Bool} {h : Heap} (H : f77.j1T R A0 n0 c0 x1 a4 b28 h) : f77.j1 R A0 n0 c0 x1 a4 b28 h :=
  pt_intro mixed f77.good (Eq.mpr (show (Fwd Try.prog f77.T f77.kp Try.f77 R [true, false, true] (mkFr [(0, (Value.slice A0 n0 c0)), (1, (Value.int .i64 x1)), (4, (Value.pointer (some a4))), (28, (Value.bool b28))]) h) = (f77.j1T R A0 n0 c0 x1 a4 b28 h) by kernel_rfl) H)
set_option maxRecDepth 100000 in
def f77.j0T (R : Value → Heap → Prop) (A0 : Option Addr) (n0 : Nat) (c0 : Nat) (x1 : Int) (a4 : Addr) (h : Heap) : Prop :=
  ptrOk A0 fun a1_ => 0 ≤ x1 ∧ x1 < ((n0 : Nat) : Int) ∧ (∃ v2_, ldv false 1 h (Addr.add a1_ (Int.toNat x1 * 1)) = some v2_ ∧ ∃ x3_, v2_ = (Value.int .u64 x3_) ∧ (256 : Int) ≠ 0 ∧ (newH h (Obj.cells #[(Value.int .i64 (0 : Int)), (Value.int .i64 (0 : Int)), (Value.int .i64 (0 : Int)), (Value.string (ByteArray.mk #[])), (Value.slice none 0 0)] 152) fun h4_ => ∃ l6_ : List Value, (Value.agg #[(Value.int .i64 x1), (Value.int .i64 (IntKind.wrap .i64 (Int.tmod x3_ (256 : Int)))), (Value.int .i64 (0 : Int)), (Value.string (ByteArray.mk #[])), (Value.slice none 0 0)]) = Value.agg l6_.toArray ∧ l6_.length = 5 ∧ ∃ h5_, stH h4_ (⟨Array.size h, 0, none⟩) l6_ 0 = some h5_ ∧ ptrOk A0 fun a7_ => 0 ≤ x1 ∧ x1 < ((n0 : Nat) : Int) ∧ (ptrOk A0 fun a8_ => 0 ≤ x1 ∧ x1 < ((n0 : Nat) : Int) ∧ (∃ v9_, ldv false 1 h5_ (Addr.add a7_ (Int.toNat x1 * 1)) = some v9_ ∧ ∃ x10_, v9_ = (Value.int .u64 x10_) ∧ (256 : Int) ≠ 0 ∧ ((4096 : Int) ≠ 0 ∧ (∃ v11_, ldv false 1 h5_ (Addr.add a8_ (Int.toNat x1 * 1)) = some v11_ ∧ ∃ x12_, v11_ = (Value.int .u64 x12_) ∧ (1048576 : Int) ≠ 0 ∧ (0 ≤ (IntKind.wrap .i64 (x1 + (1 : Int))) ∧ (IntKind.wrap .i64 (x1 + (1 : Int))) ≤ ((n0 : Nat) : Int) ∧ ((n0 : Nat) : Int) ≤ ((c0 : Nat) : Int) ∧ (∃ v13_, ldv false 1 h5_ (Addr.add (⟨Array.size h, 0, none⟩) 1) = some v13_ ∧ ∃ x14_, v13_ = (Value.int .i64 x14_) ∧ splitB (x14_ == (1 : Int)) (f77.j3 R A0 n0 c0 x1 a4 (⟨Array.size h, 0, none⟩) (IntKind.wrap .i64 (Int.tmod (IntKind.wrap .u64 (Int.tdiv x10_ (256 : Int))) (4096 : Int))) (IntKind.wrap .i64 (IntKind.wrap .u64 (Int.tdiv x12_ (1048576 : Int)))) (sliceA A0 (Int.toNat (IntKind.wrap .i64 (x1 + (1 : Int)))) c0 1) (Int.toNat ((n0 : Nat) : Int) - Int.toNat (IntKind.wrap .i64 (x1 + (1 : Int)))) (c0 - Int.toNat (IntKind.wrap .i64 (x1 + (1 : Int)))) true h5_) (∃ v15_, ldv false 1 h5_ (Addr.add (⟨Array.size h, 0, none⟩) 1) = some v15_ ∧ ∃ x16_, v15_ = (Value.int .i64 x16_) ∧ f77.j3 R A0 n0 c0 x1 a4 (⟨Array.size h, 0, none⟩) (IntKind.wrap .i64 (Int.tmod (IntKind.wrap .u64 (Int.tdiv x10_ (256 : Int))) (4096 : Int))) (IntKind.wrap .i64 (IntKind.wrap .u64 (Int.tdiv x12_ (1048576 : Int)))) (sliceA A0 (Int.toNat (IntKind.wrap .i64 (x1 + (1 : Int)))) c0 1) (Int.toNat ((n0 : Nat) : Int) - Int.toNat (IntKind.wrap .i64 (x1 + (1 : Int)))) (c0 - Int.toNat (IntKind.wrap .i64 (x1 + (1 : Int)))) (x16_ == (4 : Int)) h5_)))))))))
set_option maxRecDepth 100000 in
theorem f77.j0_in {R : Value → Heap → Prop} {A0 : Option Addr} {n0 : Nat} {c0 : Nat} {x1 : Int} {a4 : Addr} {h : Heap} (H : f77.j0T R A0 n0 c0 x1 a4 h) : f77.j0 R A0 n0 c0 x1 a4 h :=
  pt_intro mixed f77.good (Eq.mpr (show (Fwd Try.prog f77.T f77.kp Try.f77 R [true, true] (mkFr [(0, (Value.slice A0 n0 c0)), (1, (Value.int .i64 x1)), (4, (Value.pointer (some a4)))]) h) = (f77.j0T R A0 n0 c0 x1 a4 h) by kernel_rfl) H)
set_option maxRecDepth 100000 in
def f77.j3T (R : Value → Heap → Prop) (A0 : Option Addr) (n0 : Nat) (c0 : Nat) (x1 : Int) (a4 : Addr) (a6 : Addr) (x7 : Int) (x8 : Int) (A9 : Option Addr) (n9 : Nat) (c9 : Nat) (b62 : Bool) (h : Heap) : Prop :=
  splitB b62 (splitB (((n9 : Nat) : Int) == (0 : Int)) (∃ l2_ : List Value, (Value.agg #[(Value.int .i64 (0 : Int)), (Value.int .i64 (0 : Int)), (Value.int .i64 (0 : Int)), (Value.string (ByteArray.mk #[])), (Value.slice none 0 0)]) = Value.agg l2_.toArray ∧ l2_.length = 5 ∧ ∃ h1_, stH h a4 l2_ 0 = some h1_ ∧ ∃ v3_, ldv true 5 h1_ a4 = some v3_ ∧ R (Value.tuple #[v3_, (Value.bool false)]) h1_) (ptrOk A9 fun a4_ => 0 ≤ (0 : Int) ∧ (0 : Int) < ((n9 : Nat) : Int) ∧ (0 ≤ (1 : Int) ∧ (1 : Int) ≤ ((n9 : Nat) : Int) ∧ ((n9 : Nat) : Int) ≤ ((c9 : Nat) : Int) ∧ (∃ v5_, ldv false 1 h (Addr.add a4_ (Int.toNat (0 : Int) * 1)) = some v5_ ∧ ∃ x6_, v5_ = (Value.int .u64 x6_) ∧ ∃ h7_, st1 h (Addr.add a6 2) (Value.int .i64 (IntKind.wrap .i64 x6_)) = some h7_ ∧ f77.j2 R A0 n0 c0 x1 a4 a6 x7 x8 (sliceA A9 (Int.toNat (1 : Int)) c9 1) (Int.toNat ((n9 : Nat) : Int) - Int.toNat (1 : Int)) (c9 - Int.toNat (1 : Int)) h7_)))) (f77.j2 R A0 n0 c0 x1 a4 a6 x7 x8 A9 n9 c9 h)
set_option maxRecDepth 100000 in
theorem f77.j3_in {R : Value → Heap → Prop} {A0 : Option Addr} {n0 : Nat} {c0 : Nat} {x1 : Int} {a4 : Addr} {a6 : Addr} {x7 : Int} {x8 : Int} {A9 : Option Addr} {n9 : Nat} {c9 : Nat} {b62 : Bool} {h : Heap} (H : f77.j3T R A0 n0 c0 x1 a4 a6 x7 x8 A9 n9 c9 b62 h) : f77.j3 R A0 n0 c0 x1 a4 a6 x7 x8 A9 n9 c9 b62 h :=
  pt_intro mixed f77.good (Eq.mpr (show (Fwd Try.prog f77.T f77.kp Try.f77 R [true, false, true, true, true, true, true] (mkFr [(0, (Value.slice A0 n0 c0)), (1, (Value.int .i64 x1)), (4, (Value.pointer (some a4))), (6, (Value.pointer (some a6))), (7, (Value.int .i64 x7)), (8, (Value.int .i64 x8)), (9, (Value.slice A9 n9 c9)), (62, (Value.bool b62))]) h) = (f77.j3T R A0 n0 c0 x1 a4 a6 x7 x8 A9 n9 c9 b62 h) by kernel_rfl) H)
set_option maxRecDepth 100000 in
def f77.j2T (R : Value → Heap → Prop) (A0 : Option Addr) (n0 : Nat) (c0 : Nat) (x1 : Int) (a4 : Addr) (a6 : Addr) (x7 : Int) (x8 : Int) (A9 : Option Addr) (n9 : Nat) (c9 : Nat) (h : Heap) : Prop :=
  (8 : Int) ≠ 0 ∧ (splitB (decide (((n9 : Nat) : Int) < (IntKind.wrap .i64 ((IntKind.wrap .i64 (Int.tdiv (IntKind.wrap .i64 (x7 + (7 : Int))) (8 : Int))) + x8)))) (∃ l2_ : List Value, (Value.agg #[(Value.int .i64 (0 : Int)), (Value.int .i64 (0 : Int)), (Value.int .i64 (0 : Int)), (Value.string (ByteArray.mk #[])), (Value.slice none 0 0)]) = Value.agg l2_.toArray ∧ l2_.length = 5 ∧ ∃ h1_, stH h a4 l2_ 0 = some h1_ ∧ ∃ v3_, ldv true 5 h1_ a4 = some v3_ ∧ R (Value.tuple #[v3_, (Value.bool false)]) h1_) (f77.l0 R A0 n0 c0 x1 a4 a6 x8 A9 n9 c9 (IntKind.wrap .i64 (Int.tdiv (IntKind.wrap .i64 (x7 + (7 : Int))) (8 : Int))) x7 (0 : Int) h))
set_option maxRecDepth 100000 in
theorem f77.j2_in {R : Value → Heap → Prop} {A0 : Option Addr} {n0 : Nat} {c0 : Nat} {x1 : Int} {a4 : Addr} {a6 : Addr} {x7 : Int} {x8 : Int} {A9 : Option Addr} {n9 : Nat} {c9 : Nat} {h : Heap} (H : f77.j2T R A0 n0 c0 x1 a4 a6 x7 x8 A9 n9 c9 h) : f77.j2 R A0 n0 c0 x1 a4 a6 x7 x8 A9 n9 c9 h :=
  pt_intro mixed f77.good (Eq.mpr (show (Fwd Try.prog f77.T f77.kp Try.f77 R [true, true, true, true, true, true] (mkFr [(0, (Value.slice A0 n0 c0)), (1, (Value.int .i64 x1)), (4, (Value.pointer (some a4))), (6, (Value.pointer (some a6))), (7, (Value.int .i64 x7)), (8, (Value.int .i64 x8)), (9, (Value.slice A9 n9 c9))]) h) = (f77.j2T R A0 n0 c0 x1 a4 a6 x7 x8 A9 n9 c9 h) by kernel_rfl) H)
set_option maxRecDepth 100000 in
def f77.l0T (R : Value → Heap → Prop) (A0 : Option Addr) (n0 : Nat) (c0 : Nat) (x1 : Int) (a4 : Addr) (a6 : Addr) (x8 : Int) (A9 : Option Addr) (n9 : Nat) (c9 : Nat) (x10 : Int) (x84 : Int) (x85 : Int) (h : Heap) : Prop :=
  splitB (decide (x85 < x84)) ((8 : Int) ≠ 0 ∧ (ptrOk A9 fun a1_ => 0 ≤ (IntKind.wrap .i64 (Int.tdiv x85 (8 : Int))) ∧ (IntKind.wrap .i64 (Int.tdiv x85 (8 : Int))) < ((n9 : Nat) : Int) ∧ (∃ v2_, ldv false 1 h (Addr.add a1_ (Int.toNat (IntKind.wrap .i64 (Int.tdiv x85 (8 : Int))) * 1)) = some v2_ ∧ ∃ x3_, v2_ = (Value.int .u64 x3_) ∧ (8 : Int) ≠ 0 ∧ (f77.l2 R A0 n0 c0 x1 a4 a6 x8 A9 n9 c9 x10 x3_ x84 x85 (Int.tmod x85 (8 : Int)) (0 : Int) h)))) (0 ≤ x10 ∧ x10 ≤ (IntKind.wrap .i64 (x10 + x8)) ∧ (IntKind.wrap .i64 (x10 + x8)) ≤ ((c9 : Nat) : Int) ∧ (∃ v4_, ldv false 1 h (Addr.add a6 4) = some v4_ ∧ ∃ A5_, ∃ n5_, ∃ c5_, v4_ = (Value.slice A5_ n5_ c5_) ∧ AppW 77 1 8 #[(Value.int .u64 (0 : Int))] A5_ n5_ c5_ (Value.slice (sliceA A9 (Int.toNat x10) c9 1) (Int.toNat (IntKind.wrap .i64 (x10 + x8)) - Int.toNat x10) (c9 - Int.toNat x10)) h fun v6_ h7_ => ∃ A8_, ∃ n8_, ∃ c8_, v6_ = (Value.slice A8_ n8_ c8_) ∧ ∃ h9_, st1 h7_ (Addr.add a6 4) (Value.slice A8_ n8_ c8_) = some h9_ ∧ ∃ v10_, ldv true 5 h9_ a6 = some v10_ ∧ Run Try.prog 100 #[v10_] h9_ fun v11_ h12_ => ∃ b13_, v11_ = (Value.bool b13_) ∧ splitB (!b13_) (∃ l15_ : List Value, (Value.agg #[(Value.int .i64 (0 : Int)), (Value.int .i64 (0 : Int)), (Value.int .i64 (0 : Int)), (Value.string (ByteArray.mk #[])), (Value.slice none 0 0)]) = Value.agg l15_.toArray ∧ l15_.length = 5 ∧ ∃ h14_, stH h12_ a4 l15_ 0 = some h14_ ∧ ∃ v16_, ldv true 5 h14_ a4 = some v16_ ∧ R (Value.tuple #[v16_, (Value.bool false)]) h14_) (∃ v17_, ldv true 5 h12_ a6 = some v17_ ∧ Run Try.prog 78 #[v17_] h12_ fun v18_ h19_ => ∃ A20_, ∃ n20_, ∃ c20_, v18_ = (Value.slice A20_ n20_ c20_) ∧ f77.l1 R A0 n0 c0 x1 a4 a6 A20_ n20_ c20_ ((n20_ : Nat) : Int) (0 : Int) h19_)))
set_option maxRecDepth 100000 in
theorem f77.l0_in {R : Value → Heap → Prop} {A0 : Option Addr} {n0 : Nat} {c0 : Nat} {x1 : Int} {a4 : Addr} {a6 : Addr} {x8 : Int} {A9 : Option Addr} {n9 : Nat} {c9 : Nat} {x10 : Int} {x84 : Int} {x85 : Int} {h : Heap} (H : f77.l0T R A0 n0 c0 x1 a4 a6 x8 A9 n9 c9 x10 x84 x85 h) : f77.l0 R A0 n0 c0 x1 a4 a6 x8 A9 n9 c9 x10 x84 x85 h :=
  pt_intro mixed f77.good (Eq.mpr (show (Fwd Try.prog f77.T f77.kp Try.f77 R [false, false, true, false, true, true, true, true, true, true, true, true] (mkFr [(0, (Value.slice A0 n0 c0)), (1, (Value.int .i64 x1)), (4, (Value.pointer (some a4))), (6, (Value.pointer (some a6))), (8, (Value.int .i64 x8)), (9, (Value.slice A9 n9 c9)), (10, (Value.int .i64 x10)), (84, (Value.int .i64 x84)), (85, (Value.int .i64 x85))]) h) = (f77.l0T R A0 n0 c0 x1 a4 a6 x8 A9 n9 c9 x10 x84 x85 h) by kernel_rfl) H)
set_option maxRecDepth 100000 in
def f77.l2T (R : Value → Heap → Prop) (A0 : Option Addr) (n0 : Nat) (c0 : Nat) (x1 : Int) (a4 : Addr) (a6 : Addr) (x8 : Int) (A9 : Option Addr) (n9 : Nat) (c9 : Nat) (x10 : Int) (x12 : Int) (x84 : Int) (x85 : Int) (x94 : Int) (x95 : Int) (h : Heap) : Prop :=
  splitB (decide (x95 < x94)) ((256 : Int) ≠ 0 ∧ (f77.l2 R A0 n0 c0 x1 a4 a6 x8 A9 n9 c9 x10 (IntKind.wrap .u64 (Int.tdiv x12 (256 : Int))) x84 x85 x94 (IntKind.wrap .i64 (x95 + (1 : Int))) h)) (∃ v1_, ldv false 1 h (Addr.add a6 3) = some v1_ ∧ ∃ s2_, v1_ = (Value.string s2_) ∧ (256 : Int) ≠ 0 ∧ (newH h (Obj.cells #[(Value.int .u8 (IntKind.wrap .u8 (Int.tmod x12 (256 : Int))))] 5) fun h3_ => Gen Try.prog (convert 182 9 (Value.slice (some ⟨Array.size h, 0, none⟩) 1 1)) h3_ fun v4_ h5_ => ∃ s6_, v4_ = (Value.string s6_) ∧ ByteArray.size s2_ + ByteArray.size s6_ ≤ 9223372036854775807 ∧ (∃ h7_, st1 h5_ (Addr.add a6 3) (Value.string (s2_ ++ s6_)) = some h7_ ∧ f77.l0 R A0 n0 c0 x1 a4 a6 x8 A9 n9 c9 x10 x84 (IntKind.wrap .i64 (x85 + (1 : Int))) h7_)))
set_option maxRecDepth 100000 in
theorem f77.l2_in {R : Value → Heap → Prop} {A0 : Option Addr} {n0 : Nat} {c0 : Nat} {x1 : Int} {a4 : Addr} {a6 : Addr} {x8 : Int} {A9 : Option Addr} {n9 : Nat} {c9 : Nat} {x10 : Int} {x12 : Int} {x84 : Int} {x85 : Int} {x94 : Int} {x95 : Int} {h : Heap} (H : f77.l2T R A0 n0 c0 x1 a4 a6 x8 A9 n9 c9 x10 x12 x84 x85 x94 x95 h) : f77.l2 R A0 n0 c0 x1 a4 a6 x8 A9 n9 c9 x10 x12 x84 x85 x94 x95 h :=
  pt_intro mixed f77.good (Eq.mpr (show (Fwd Try.prog f77.T f77.kp Try.f77 R [false, false, true, false, true, true, false, false, true, true, false, false, true, false, true, true, true, true, true, true, true, true] (mkFr [(0, (Value.slice A0 n0 c0)), (1, (Value.int .i64 x1)), (4, (Value.pointer (some a4))), (6, (Value.pointer (some a6))), (8, (Value.int .i64 x8)), (9, (Value.slice A9 n9 c9)), (10, (Value.int .i64 x10)), (12, (Value.int .u64 x12)), (84, (Value.int .i64 x84)), (85, (Value.int .i64 x85)), (94, (Value.int .i64 x94)), (95, (Value.int .i64 x95))]) h) = (f77.l2T R A0 n0 c0 x1 a4 a6 x8 A9 n9 c9 x10 x12 x84 x85 x94 x95 h) by kernel_rfl) H)
set_option maxRecDepth 100000 in
def f77.l1T (R : Value → Heap → Prop) (A0 : Option Addr) (n0 : Nat) (c0 : Nat) (x1 : Int) (a4 : Addr) (a6 : Addr) (A125 : Option Addr) (n125 : Nat) (c125 : Nat) (x126 : Int) (x127 : Int) (h : Heap) : Prop :=
  splitB (decide (x127 < x126)) (ptrOk A125 fun a1_ => 0 ≤ x127 ∧ x127 < ((n125 : Nat) : Int) ∧ (∃ v2_, ldv false 1 h (Addr.add a1_ (Int.toNat x127 * 1)) = some v2_ ∧ ∃ x3_, v2_ = (Value.int .u64 x3_) ∧ ptrOk A0 fun a4_ => 0 ≤ (IntKind.wrap .i64 (x1 + x127)) ∧ (IntKind.wrap .i64 (x1 + x127)) < ((n0 : Nat) : Int) ∧ (∃ v5_, ldv false 1 h (Addr.add a4_ (Int.toNat (IntKind.wrap .i64 (x1 + x127)) * 1)) = some v5_ ∧ ∃ x6_, v5_ = (Value.int .u64 x6_) ∧ splitB (x6_ != x3_) (∃ l8_ : List Value, (Value.agg #[(Value.int .i64 (0 : Int)), (Value.int .i64 (0 : Int)), (Value.int .i64 (0 : Int)), (Value.string (ByteArray.mk #[])), (Value.slice none 0 0)]) = Value.agg l8_.toArray ∧ l8_.length = 5 ∧ ∃ h7_, stH h a4 l8_ 0 = some h7_ ∧ ∃ v9_, ldv true 5 h7_ a4 = some v9_ ∧ R (Value.tuple #[v9_, (Value.bool false)]) h7_) (f77.l1 R A0 n0 c0 x1 a4 a6 A125 n125 c125 x126 (IntKind.wrap .i64 (x127 + (1 : Int))) h)))) (∃ v10_, ldv true 5 h a6 = some v10_ ∧ ∃ l12_ : List Value, v10_ = Value.agg l12_.toArray ∧ l12_.length = 5 ∧ ∃ h11_, stH h a4 l12_ 0 = some h11_ ∧ ∃ v13_, ldv true 5 h11_ a4 = some v13_ ∧ R (Value.tuple #[v13_, (Value.bool true)]) h11_)
set_option maxRecDepth 100000 in
theorem f77.l1_in {R : Value → Heap → Prop} {A0 : Option Addr} {n0 : Nat} {c0 : Nat} {x1 : Int} {a4 : Addr} {a6 : Addr} {A125 : Option Addr} {n125 : Nat} {c125 : Nat} {x126 : Int} {x127 : Int} {h : Heap} (H : f77.l1T R A0 n0 c0 x1 a4 a6 A125 n125 c125 x126 x127 h) : f77.l1 R A0 n0 c0 x1 a4 a6 A125 n125 c125 x126 x127 h :=
  pt_intro mixed f77.good (Eq.mpr (show (Fwd Try.prog f77.T f77.kp Try.f77 R [false, false, true, false, true, true, true, true, true, true, true, true, true, true, true] (mkFr [(0, (Value.slice A0 n0 c0)), (1, (Value.int .i64 x1)), (4, (Value.pointer (some a4))), (6, (Value.pointer (some a6))), (125, (Value.slice A125 n125 c125)), (126, (Value.int .i64 x126)), (127, (Value.int .i64 x127))]) h) = (f77.l1T R A0 n0 c0 x1 a4 a6 A125 n125 c125 x126 x127 h) by kernel_rfl) H)
set_option maxRecDepth 100000 in
def f77.runT (R : Value → Heap → Prop) (A0 : Option Addr) (n0 : Nat) (c0 : Nat) (x1 : Int) (h : Heap) : Prop :=
  newH h (Obj.cells #[(Value.int .i64 (0 : Int)), (Value.int .i64 (0 : Int)), (Value.int .i64 (0 : Int)), (Value.string (ByteArray.mk #[])), (Value.slice none 0 0)] 152) fun h1_ => Run Try.prog 30 #[(Value.int .i64 x1), (Value.int .i64 (0 : Int)), (Value.int .i64 (IntKind.wrap .i64 (((n0 : Nat) : Int) - (1 : Int))))] h1_ fun v2_ h3_ => ∃ b4_, v2_ = (Value.bool b4_) ∧ splitB (!b4_) (f77.j1 R A0 n0 c0 x1 (⟨Array.size h, 0, none⟩) true h3_) (ptrOk A0 fun a5_ => 0 ≤ x1 ∧ x1 < ((n0 : Nat) : Int) ∧ (∃ v6_, ldv false 1 h3_ (Addr.add a5_ (Int.toNat x1 * 1)) = some v6_ ∧ ∃ x7_, v6_ = (Value.int .u64 x7_) ∧ (4294967296 : Int) ≠ 0 ∧ (f77.j1 R A0 n0 c0 x1 (⟨Array.size h, 0, none⟩) (decide ((IntKind.wrap .u64 (Int.tdiv x7_ (4294967296 : Int))) > (0 : Int))) h3_)))
set_option maxRecDepth 100000 in
theorem f77.run {R : Value → Heap → Prop} {A0 : Option Addr} {n0 : Nat} {c0 : Nat} {x1 : Int} {h : Heap} (H : f77.runT R A0 n0 c0 x1 h) : Run Try.prog 77 #[(Value.slice A0 n0 c0), (Value.int .i64 x1)] h R :=
  run_of mixed Try.func77 (by kernel_rfl) (by kernel_rfl) f77.good (Eq.mpr (show (Fwd Try.prog f77.T f77.kp Try.f77 R [] (mkFr (argL [(Value.slice A0 n0 c0), (Value.int .i64 x1)] 0)) h) = (f77.runT R A0 n0 c0 x1 h) by kernel_rfl) H)
def f40.T : Tab := { sh := tSh, tup := tTup, keep := [], plan := [] }
def f40.kp : Keep := [([false, false, true, false, true, true, true], [0, 4, 5])]
theorem f40.good : goodCode Try.prog f40.T (rootOf Try.f40) = true := by kernel_rfl
def f40.l0 (R : Value → Heap → Prop) (A0 : Option Addr) (n0 : Nat) (c0 : Nat) (A4 : Option Addr) (n4 : Nat) (c4 : Nat) (x5 : Int) (h : Heap) : Prop := Pt Try.prog Try.f40 R [false, false, true, false, true, true, true] (mkFr [(0, (Value.slice A0 n0 c0)), (4, (Value.slice A4 n4 c4)), (5, (Value.int .i64 x5))]) h
set_option maxRecDepth 100000 in
def f40.l0T (R : Value → Heap → Prop) (A0 : Option Addr) (n0 : Nat) (c0 : Nat) (A4 : Option Addr) (n4 : Nat) (c4 : Nat) (x5 : Int) (h : Heap) : Prop :=
  splitB (decide (x5 < ((n0 : Nat) : Int))) (Run Try.prog 77 #[(Value.slice A0 n0 c0), (Value.int .i64 x5)] h fun v1_ h2_ => ∃ v3_, ∃ b4_, v1_ = (Value.tuple #[v3_, (Value.bool b4_)]) ∧ newH h2_ (Obj.cells #[(Value.int .i64 (0 : Int)), (Value.int .i64 (0 : Int)), (Value.int .i64 (0 : Int)), (Value.string (ByteArray.mk #[])), (Value.slice none 0 0)] 152) fun h5_ => ∃ l7_ : List Value, v3_ = Value.agg l7_.toArray ∧ l7_.length = 5 ∧ ∃ h6_, stH h5_ (⟨Array.size h2_, 0, none⟩) l7_ 0 = some h6_ ∧ splitB (!b4_) (R (Value.tuple #[(Value.slice none 0 0), (Value.int .i64 (3 : Int))]) h6_) (∃ v8_, ldv true 5 h6_ (⟨Array.size h2_, 0, none⟩) = some v8_ ∧ ∃ l9_ : List Value, v8_ = Value.agg l9_.toArray ∧ l9_.length = 5 ∧ (newH h6_ (Obj.cells ((List.take 0 ([(Value.int .i64 (0 : Int)), (Value.int .i64 (0 : Int)), (Value.int .i64 (0 : Int)), (Value.string (ByteArray.mk #[])), (Value.slice none 0 0)]) ++ l9_ ++ List.drop 5 ([(Value.int .i64 (0 : Int)), (Value.int .i64 (0 : Int)), (Value.int .i64 (0 : Int)), (Value.string (ByteArray.mk #[])), (Value.slice none 0 0)])).toArray) 152) fun h10_ => AppW 152 5 64 #[(Value.int .i64 (0 : Int)), (Value.int .i64 (0 : Int)), (Value.int .i64 (0 : Int)), (Value.string (ByteArray.mk #[])), (Value.slice none 0 0)] A4 n4 c4 (Value.slice (some ⟨Array.size h6_, 0, none⟩) 1 1) h10_ fun v11_ h12_ => ∃ A13_, ∃ n13_, ∃ c13_, v11_ = (Value.slice A13_ n13_ c13_) ∧ ∃ v14_, ldv true 5 h12_ (⟨Array.size h2_, 0, none⟩) = some v14_ ∧ Run Try.prog 78 #[v14_] h12_ fun v15_ h16_ => ∃ A17_, ∃ n17_, ∃ c17_, v15_ = (Value.slice A17_ n17_ c17_) ∧ f40.l0 R A0 n0 c0 A13_ n13_ c13_ (IntKind.wrap .i64 (x5 + ((n17_ : Nat) : Int))) h16_))) (R (Value.tuple #[(Value.slice A4 n4 c4), (Value.int .i64 (0 : Int))]) h)
set_option maxRecDepth 100000 in
theorem f40.l0_in {R : Value → Heap → Prop} {A0 : Option Addr} {n0 : Nat} {c0 : Nat} {A4 : Option Addr} {n4 : Nat} {c4 : Nat} {x5 : Int} {h : Heap} (H : f40.l0T R A0 n0 c0 A4 n4 c4 x5 h) : f40.l0 R A0 n0 c0 A4 n4 c4 x5 h :=
  pt_intro mixed f40.good (Eq.mpr (show (Fwd Try.prog f40.T f40.kp Try.f40 R [false, false, true, false, true, true, true] (mkFr [(0, (Value.slice A0 n0 c0)), (4, (Value.slice A4 n4 c4)), (5, (Value.int .i64 x5))]) h) = (f40.l0T R A0 n0 c0 A4 n4 c4 x5 h) by kernel_rfl) H)
set_option maxRecDepth 100000 in
def f40.runT (R : Value → Heap → Prop) (A0 : Option Addr) (n0 : Nat) (c0 : Nat) (h : Heap) : Prop :=
  splitB (decide (((n0 : Nat) : Int) > (4000 : Int))) (R (Value.tuple #[(Value.slice none 0 0), (Value.int .i64 (2 : Int))]) h) (f40.l0 R A0 n0 c0 none 0 0 (0 : Int) h)
set_option maxRecDepth 100000 in
theorem f40.run {R : Value → Heap → Prop} {A0 : Option Addr} {n0 : Nat} {c0 : Nat} {h : Heap} (H : f40.runT R A0 n0 c0 h) : Run Try.prog 40 #[(Value.slice A0 n0 c0)] h R :=
  run_of mixed Try.func40 (by kernel_rfl) (by kernel_rfl) f40.good (Eq.mpr (show (Fwd Try.prog f40.T f40.kp Try.f40 R [] (mkFr (argL [(Value.slice A0 n0 c0)] 0)) h) = (f40.runT R A0 n0 c0 h) by kernel_rfl) H)
def f80.T : Tab := { sh := tSh, tup := tTup, keep := [], plan := [] }
def f80.kp : Keep := []
theorem f80.good : goodCode Try.prog f80.T (rootOf Try.f80) = true := by kernel_rfl
set_option maxRecDepth 100000 in
def f80.runT (R : Value → Heap → Prop) (x0 : Int) (x1 : Int) (h : Heap) : Prop :=
  R (Value.int .u64 (IntKind.wrap .u64 ((IntKind.wrap .u64 ((8 : Int) * (IntKind.wrap .u64 x1))) + (IntKind.wrap .u64 x0)))) h
set_option maxRecDepth 100000 in
theorem f80.run {R : Value → Heap → Prop} {x0 : Int} {x1 : Int} {h : Heap} (H : f80.runT R x0 x1 h) : Run Try.prog 80 #[(Value.int .i64 x0), (Value.int .i64 x1)] h R :=
  run_of mixed Try.func80 (by kernel_rfl) (by kernel_rfl) f80.good (Eq.mpr (show (Fwd Try.prog f80.T f80.kp Try.f80 R [] (mkFr (argL [(Value.int .i64 x0), (Value.int .i64 x1)] 0)) h) = (f80.runT R x0 x1 h) by kernel_rfl) H)
def f101.T : Tab := { sh := tSh, tup := tTup, keep := [], plan := [] }
def f101.kp : Keep := [([true, true, true], [0, 1, 5, 6])]
theorem f101.good : goodCode Try.prog f101.T (rootOf Try.f101) = true := by kernel_rfl
def f101.j0 (R : Value → Heap → Prop) (x0 : Int) (x1 : Int) (x5 : Int) (x6 : Int) (h : Heap) : Prop := Pt Try.prog Try.f101 R [true, true, true] (mkFr [(0, (Value.int .i64 x0)), (1, (Value.int .i64 x1)), (5, (Value.int .i64 x5)), (6, (Value.int .i64 x6))]) h
set_option maxRecDepth 100000 in
def f101.j0T (R : Value → Heap → Prop) (x0 : Int) (x1 : Int) (x5 : Int) (x6 : Int) (h : Heap) : Prop :=
  Run Try.prog 30 #[(Value.int .i64 x0), (Value.int .i64 (0 : Int)), (Value.int .i64 (4 : Int))] h fun v1_ h2_ => ∃ b3_, v1_ = (Value.bool b3_) ∧ splitB b3_ (Run Try.prog 30 #[(Value.int .i64 x1), (Value.int .i64 x5), (Value.int .i64 x6)] h2_ fun v4_ h5_ => ∃ b6_, v4_ = (Value.bool b6_) ∧ R (Value.bool b6_) h5_) (R (Value.bool false) h2_)
set_option maxRecDepth 100000 in
theorem f101.j0_in {R : Value → Heap → Prop} {x0 : Int} {x1 : Int} {x5 : Int} {x6 : Int} {h : Heap} (H : f101.j0T R x0 x1 x5 x6 h) : f101.j0 R x0 x1 x5 x6 h :=
  pt_intro mixed f101.good (Eq.mpr (show (Fwd Try.prog f101.T f101.kp Try.f101 R [true, true, true] (mkFr [(0, (Value.int .i64 x0)), (1, (Value.int .i64 x1)), (5, (Value.int .i64 x5)), (6, (Value.int .i64 x6))]) h) = (f101.j0T R x0 x1 x5 x6 h) by kernel_rfl) H)
set_option maxRecDepth 100000 in
def f101.runT (R : Value → Heap → Prop) (x0 : Int) (x1 : Int) (h : Heap) : Prop :=
  splitB (x0 == (0 : Int)) (f101.j0 R x0 x1 (0 : Int) (0 : Int) h) (splitB (x0 == (1 : Int)) (f101.j0 R x0 x1 (-1152921504606846976 : Int) (1152921504606846975 : Int) h) (splitB (x0 == (2 : Int)) (f101.j0 R x0 x1 (0 : Int) (1 : Int) h) (f101.j0 R x0 x1 (0 : Int) (1152921504606846975 : Int) h)))
set_option maxRecDepth 100000 in
theorem f101.run {R : Value → Heap → Prop} {x0 : Int} {x1 : Int} {h : Heap} (H : f101.runT R x0 x1 h) : Run Try.prog 101 #[(Value.int .i64 x0), (Value.int .i64 x1)] h R :=
  run_of mixed Try.func101 (by kernel_rfl) (by kernel_rfl) f101.good (Eq.mpr (show (Fwd Try.prog f101.T f101.kp Try.f101 R [] (mkFr (argL [(Value.int .i64 x0), (Value.int .i64 x1)] 0)) h) = (f101.runT R x0 x1 h) by kernel_rfl) H)
def f79.T : Tab := { sh := tSh, tup := tTup, keep := [], plan := [] }
def f79.kp : Keep := [([true, false, true, true, true], [0, 5, 6, 18]), ([true, true, true, true], [0, 5, 6]), ([true, false, true, true, true, true], [5, 6, 31]), ([true, true, true, true, true], [5, 6])]
theorem f79.good : goodCode Try.prog f79.T (rootOf Try.f79) = true := by kernel_rfl
def f79.j1 (R : Value → Heap → Prop) (x0 : Int) (x5 : Int) (x6 : Int) (b18 : Bool) (h : Heap) : Prop := Pt Try.prog Try.f79 R [true, false, true, true, true] (mkFr [(0, (Value.int .u64 x0)), (5, (Value.int .i64 x5)), (6, (Value.int .i64 x6)), (18, (Value.bool b18))]) h
def f79.j0 (R : Value → Heap → Prop) (x0 : Int) (x5 : Int) (x6 : Int) (h : Heap) : Prop := Pt Try.prog Try.f79 R [true, true, true, true] (mkFr [(0, (Value.int .u64 x0)), (5, (Value.int .i64 x5)), (6, (Value.int .i64 x6))]) h
def f79.j3 (R : Value → Heap → Prop) (x5 : Int) (x6 : Int) (b31 : Bool) (h : Heap) : Prop := Pt Try.prog Try.f79 R [true, false, true, true, true, true] (mkFr [(5, (Value.int .i64 x5)), (6, (Value.int .i64 x6)), (31, (Value.bool b31))]) h
def f79.j2 (R : Value → Heap → Prop) (x5 : Int) (x6 : Int) (h : Heap) : Prop := Pt Try.prog Try.f79 R [true, true, true, true, true] (mkFr [(5, (Value.int .i64 x5)), (6, (Value.int .i64 x6))]) h
set_option maxRecDepth 100000 in
def f79.j1T (R : Value → Heap → Prop) (x0 : Int) (x5 : Int) (x6 : Int) (b18 : Bool) (h : Heap) : Prop :=
  splitB b18 (f79.j0 R x0 x5 (IntKind.wrap .i64 (x6 - (2305843009213693952 : Int))) h) (f79.j0 R x0 x5 x6 h)
set_option maxRecDepth 100000 in
theorem f79.j1_in {R : Value → Heap → Prop} {x0 : Int} {x5 : Int} {x6 : Int} {b18 : Bool} {h : Heap} (H : f79.j1T R x0 x5 x6 b18 h) : f79.j1 R x0 x5 x6 b18 h :=
  pt_intro mixed f79.good (Eq.mpr (show (Fwd Try.prog f79.T f79.kp Try.f79 R [true, false, true, true, true] (mkFr [(0, (Value.int .u64 x0)), (5, (Value.int .i64 x5)), (6, (Value.int .i64 x6)), (18, (Value.bool b18))]) h) = (f79.j1T R x0 x5 x6 b18 h) by kernel_rfl) H)
set_option maxRecDepth 100000 in
def f79.j0T (R : Value → Heap → Prop) (x0 : Int) (x5 : Int) (x6 : Int) (h : Heap) : Prop :=
  Run Try.prog 101 #[(Value.int .i64 x5), (Value.int .i64 x6)] h fun v1_ h2_ => ∃ b3_, v1_ = (Value.bool b3_) ∧ splitB (!b3_) (f79.j3 R x5 x6 true h2_) (Run Try.prog 80 #[(Value.int .i64 x5), (Value.int .i64 x6)] h2_ fun v4_ h5_ => ∃ x6_, v4_ = (Value.int .u64 x6_) ∧ f79.j3 R x5 x6 (x6_ != x0) h5_)
set_option maxRecDepth 100000 in
theorem f79.j0_in {R : Value → Heap → Prop} {x0 : Int} {x5 : Int} {x6 : Int} {h : Heap} (H : f79.j0T R x0 x5 x6 h) : f79.j0 R x0 x5 x6 h :=
  pt_intro mixed f79.good (Eq.mpr (show (Fwd Try.prog f79.T f79.kp Try.f79 R [true, true, true, true] (mkFr [(0, (Value.int .u64 x0)), (5, (Value.int .i64 x5)), (6, (Value.int .i64 x6))]) h) = (f79.j0T R x0 x5 x6 h) by kernel_rfl) H)
set_option maxRecDepth 100000 in
def f79.j3T (R : Value → Heap → Prop) (x5 : Int) (x6 : Int) (b31 : Bool) (h : Heap) : Prop :=
  splitB b31 (R (Value.tuple #[(Value.int .i64 (0 : Int)), (Value.int .i64 (0 : Int)), (Value.bool false)]) h) (f79.j2 R x5 x6 h)
set_option maxRecDepth 100000 in
theorem f79.j3_in {R : Value → Heap → Prop} {x5 : Int} {x6 : Int} {b31 : Bool} {h : Heap} (H : f79.j3T R x5 x6 b31 h) : f79.j3 R x5 x6 b31 h :=
  pt_intro mixed f79.good (Eq.mpr (show (Fwd Try.prog f79.T f79.kp Try.f79 R [true, false, true, true, true, true] (mkFr [(5, (Value.int .i64 x5)), (6, (Value.int .i64 x6)), (31, (Value.bool b31))]) h) = (f79.j3T R x5 x6 b31 h) by kernel_rfl) H)
set_option maxRecDepth 100000 in
def f79.j2T (R : Value → Heap → Prop) (x5 : Int) (x6 : Int) (h : Heap) : Prop :=
  R (Value.tuple #[(Value.int .i64 x5), (Value.int .i64 x6), (Value.bool true)]) h
set_option maxRecDepth 100000 in
theorem f79.j2_in {R : Value → Heap → Prop} {x5 : Int} {x6 : Int} {h : Heap} (H : f79.j2T R x5 x6 h) : f79.j2 R x5 x6 h :=
  pt_intro mixed f79.good (Eq.mpr (show (Fwd Try.prog f79.T f79.kp Try.f79 R [true, true, true, true, true] (mkFr [(5, (Value.int .i64 x5)), (6, (Value.int .i64 x6))]) h) = (f79.j2T R x5 x6 h) by kernel_rfl) H)
set_option maxRecDepth 100000 in
def f79.runT (R : Value → Heap → Prop) (x0 : Int) (h : Heap) : Prop :=
  (8 : Int) ≠ 0 ∧ ((8 : Int) ≠ 0 ∧ (splitB ((IntKind.wrap .i64 (Int.tmod x0 (8 : Int))) == (1 : Int)) (f79.j1 R x0 (IntKind.wrap .i64 (Int.tmod x0 (8 : Int))) (IntKind.wrap .i64 (IntKind.wrap .u64 (Int.tdiv x0 (8 : Int)))) (decide ((IntKind.wrap .i64 (IntKind.wrap .u64 (Int.tdiv x0 (8 : Int)))) ≥ (1152921504606846976 : Int))) h) (f79.j1 R x0 (IntKind.wrap .i64 (Int.tmod x0 (8 : Int))) (IntKind.wrap .i64 (IntKind.wrap .u64 (Int.tdiv x0 (8 : Int)))) false h)))
set_option maxRecDepth 100000 in
theorem f79.run {R : Value → Heap → Prop} {x0 : Int} {h : Heap} (H : f79.runT R x0 h) : Run Try.prog 79 #[(Value.int .u64 x0)] h R :=
  run_of mixed Try.func79 (by kernel_rfl) (by kernel_rfl) f79.good (Eq.mpr (show (Fwd Try.prog f79.T f79.kp Try.f79 R [] (mkFr (argL [(Value.int .u64 x0)] 0)) h) = (f79.runT R x0 h) by kernel_rfl) H)
def f41.T : Tab := { sh := tSh, tup := tTup, keep := [], plan := [(32, (.take 0 (.take 2 (.take 4 (.take 5 (.alt false 1 (.alt false 3 (.take 7 (.eff false 6 (.take 8 (.take 9 .done)))) (.eff false 6 (.eff false 3 (.take 7 (.take 8 (.take 9 .done)))))) (.eff false 6 (.eff false 1 (.eff false 3 (.take 7 (.take 8 (.take 9 .done))))))))))))] }
def f41.kp : Keep := [([false, false, true, false, true, true, true, true, true, true, true, true, true, true], [0, 1, 3, 4, 5, 16, 20, 21, 64, 65, 66]), ([true, false, true, true, true, true, true, true, true, true, true, true, true, true, true, true], [1, 4, 5, 16, 27, 108]), ([true, true, true, true, true, true, true, true, true, true, true, true, true, true, true], [1, 4, 16, 27])]
theorem f41.good : goodCode Try.prog f41.T (rootOf Try.f41) = true := by kernel_rfl
def f41.l0 (R : Value → Heap → Prop) (A0 : Option Addr) (n0 : Nat) (c0 : Nat) (A1 : Option Addr) (n1 : Nat) (c1 : Nat) (x3 : Int) (v4 : Value) (v5 : Value) (x16 : Int) (a20 : Addr) (A21 : Option Addr) (n21 : Nat) (c21 : Nat) (A64 : Option Addr) (n64 : Nat) (c64 : Nat) (x65 : Int) (x66 : Int) (h : Heap) : Prop := Pt Try.prog Try.f41 R [false, false, true, false, true, true, true, true, true, true, true, true, true, true] (mkFr [(0, (Value.slice A0 n0 c0)), (1, (Value.slice A1 n1 c1)), (3, (Value.int .i64 x3)), (4, v4), (5, v5), (16, (Value.int .i64 x16)), (20, (Value.pointer (some a20))), (21, (Value.slice A21 n21 c21)), (64, (Value.slice A64 n64 c64)), (65, (Value.int .i64 x65)), (66, (Value.int .i64 x66))]) h
def f41.j1 (R : Value → Heap → Prop) (A1 : Option Addr) (n1 : Nat) (c1 : Nat) (v4 : Value) (v5 : Value) (x16 : Int) (A27 : Option Addr) (n27 : Nat) (c27 : Nat) (b108 : Bool) (h : Heap) : Prop := Pt Try.prog Try.f41 R [true, false, true, true, true, true, true, true, true, true, true, true, true, true, true, true] (mkFr [(1, (Value.slice A1 n1 c1)), (4, v4), (5, v5), (16, (Value.int .i64 x16)), (27, (Value.slice A27 n27 c27)), (108, (Value.bool b108))]) h
def f41.j0 (R : Value → Heap → Prop) (A1 : Option Addr) (n1 : Nat) (c1 : Nat) (v4 : Value) (x16 : Int) (A27 : Option Addr) (n27 : Nat) (c27 : Nat) (h : Heap) : Prop := Pt Try.prog Try.f41 R [true, true, true, true, true, true, true, true, true, true, true, true, true, true, true] (mkFr [(1, (Value.slice A1 n1 c1)), (4, v4), (16, (Value.int .i64 x16)), (27, (Value.slice A27 n27 c27))]) h
set_option maxRecDepth 100000 in
def f41.l0T (R : Value → Heap → Prop) (A0 : Option Addr) (n0 : Nat) (c0 : Nat) (A1 : Option Addr) (n1 : Nat) (c1 : Nat) (x3 : Int) (v4 : Value) (v5 : Value) (x16 : Int) (a20 : Addr) (A21 : Option Addr) (n21 : Nat) (c21 : Nat) (A64 : Option Addr) (n64 : Nat) (c64 : Nat) (x65 : Int) (x66 : Int) (h : Heap) : Prop :=
  splitB (decide (x66 < x65)) (ptrOk A64 fun a1_ => 0 ≤ x66 ∧ x66 < ((n64 : Nat) : Int) ∧ (∃ v2_, ldv false 1 h (Addr.add a1_ (Int.toNat x66 * 1)) = some v2_ ∧ ∃ x3_, v2_ = (Value.int .u64 x3_) ∧ Run Try.prog 41 #[(Value.slice A0 n0 c0), (Value.slice A1 n1 c1), (Value.int .u64 x3_), (Value.int .i64 (IntKind.wrap .i64 (x3 + (1 : Int)))), v4, v5] h fun v4_ h5_ => ∃ A6_, ∃ n6_, ∃ c6_, ∃ x7_, ∃ x8_, v4_ = (Value.tuple #[(Value.slice A6_ n6_ c6_), (Value.int .u64 x7_), (Value.int .i64 x8_)]) ∧ splitB (x8_ != (0 : Int)) (R (Value.tuple #[(Value.slice none 0 0), (Value.int .u64 (0 : Int)), (Value.int .i64 x8_)]) h5_) (newH h5_ (Obj.cells #[(Value.int .u64 x7_)] 77) fun h9_ => AppW 77 1 8 #[(Value.int .u64 (0 : Int))] A21 n21 c21 (Value.slice (some ⟨Array.size h5_, 0, none⟩) 1 1) h9_ fun v10_ h11_ => ∃ A12_, ∃ n12_, ∃ c12_, v10_ = (Value.slice A12_ n12_ c12_) ∧ f41.l0 R A0 n0 c0 A6_ n6_ c6_ x3 v4 v5 x16 a20 A12_ n12_ c12_ A64 n64 c64 x65 (IntKind.wrap .i64 (x66 + (1 : Int))) h11_))) (∃ h13_, st1 h (Addr.add a20 4) (Value.slice A21 n21 c21) = some h13_ ∧ ∃ v14_, ldv true 5 h13_ a20 = some v14_ ∧ Run Try.prog 78 #[v14_] h13_ fun v15_ h16_ => ∃ A17_, ∃ n17_, ∃ c17_, v15_ = (Value.slice A17_ n17_ c17_) ∧ splitB (decide ((IntKind.wrap .i64 (((n1 : Nat) : Int) + ((n17_ : Nat) : Int))) > (4000 : Int))) (R (Value.tuple #[(Value.slice none 0 0), (Value.int .u64 (0 : Int)), (Value.int .i64 (6 : Int))]) h16_) (∃ v18_, ldv false 1 h16_ (Addr.add a20 1) = some v18_ ∧ ∃ x19_, v18_ = (Value.int .i64 x19_) ∧ splitB (x19_ == (5 : Int)) (f41.j1 R A1 n1 c1 v4 v5 x16 A17_ n17_ c17_ (decide (((n21 : Nat) : Int) > (0 : Int))) h16_) (f41.j1 R A1 n1 c1 v4 v5 x16 A17_ n17_ c17_ false h16_)))
set_option maxRecDepth 100000 in
theorem f41.l0_in {R : Value → Heap → Prop} {A0 : Option Addr} {n0 : Nat} {c0 : Nat} {A1 : Option Addr} {n1 : Nat} {c1 : Nat} {x3 : Int} {v4 : Value} {v5 : Value} {x16 : Int} {a20 : Addr} {A21 : Option Addr} {n21 : Nat} {c21 : Nat} {A64 : Option Addr} {n64 : Nat} {c64 : Nat} {x65 : Int} {x66 : Int} {h : Heap} (H : f41.l0T R A0 n0 c0 A1 n1 c1 x3 v4 v5 x16 a20 A21 n21 c21 A64 n64 c64 x65 x66 h) : f41.l0 R A0 n0 c0 A1 n1 c1 x3 v4 v5 x16 a20 A21 n21 c21 A64 n64 c64 x65 x66 h :=
  pt_intro mixed f41.good (Eq.mpr (show (Fwd Try.prog f41.T f41.kp Try.f41 R [false, false, true, false, true, true, true, true, true, true, true, true, true, true] (mkFr [(0, (Value.slice A0 n0 c0)), (1, (Value.slice A1 n1 c1)), (3, (Value.int .i64 x3)), (4, v4), (5, v5), (16, (Value.int .i64 x16)), (20, (Value.pointer (some a20))), (21, (Value.slice A21 n21 c21)), (64, (Value.slice A64 n64 c64)), (65, (Value.int .i64 x65)), (66, (Value.int .i64 x66))]) h) = (f41.l0T R A0 n0 c0 A1 n1 c1 x3 v4 v5 x16 a20 A21 n21 c21 A64 n64 c64 x65 x66 h) by kernel_rfl) H)
set_option maxRecDepth 100000 in
def f41.j1T (R : Value → Heap → Prop) (A1 : Option Addr) (n1 : Nat) (c1 : Nat) (v4 : Value) (v5 : Value) (x16 : Int) (A27 : Option Addr) (n27 : Nat) (c27 : Nat) (b108 : Bool) (h : Heap) : Prop :=
  splitB b108 (Hwp Try.prog (Instr.mapUpdate 83 v5 (Value.int .i64 x16) (Value.bool true)) h fun _ h1_ => f41.j0 R A1 n1 c1 v4 x16 A27 n27 c27 h1_) (f41.j0 R A1 n1 c1 v4 x16 A27 n27 c27 h)
set_option maxRecDepth 100000 in
theorem f41.j1_in {R : Value → Heap → Prop} {A1 : Option Addr} {n1 : Nat} {c1 : Nat} {v4 : Value} {v5 : Value} {x16 : Int} {A27 : Option Addr} {n27 : Nat} {c27 : Nat} {b108 : Bool} {h : Heap} (H : f41.j1T R A1 n1 c1 v4 v5 x16 A27 n27 c27 b108 h) : f41.j1 R A1 n1 c1 v4 v5 x16 A27 n27 c27 b108 h :=
  pt_intro mixed f41.good (Eq.mpr (show (Fwd Try.prog f41.T f41.kp Try.f41 R [true, false, true, true, true, true, true, true, true, true, true, true, true, true, true, true] (mkFr [(1, (Value.slice A1 n1 c1)), (4, v4), (5, v5), (16, (Value.int .i64 x16)), (27, (Value.slice A27 n27 c27)), (108, (Value.bool b108))]) h) = (f41.j1T R A1 n1 c1 v4 v5 x16 A27 n27 c27 b108 h) by kernel_rfl) H)
set_option maxRecDepth 100000 in
def f41.j0T (R : Value → Heap → Prop) (A1 : Option Addr) (n1 : Nat) (c1 : Nat) (v4 : Value) (x16 : Int) (A27 : Option Addr) (n27 : Nat) (c27 : Nat) (h : Heap) : Prop :=
  Run Try.prog 80 #[(Value.int .i64 (4 : Int)), (Value.int .i64 ((n1 : Nat) : Int))] h fun v1_ h2_ => ∃ x3_, v1_ = (Value.int .u64 x3_) ∧ Hwp Try.prog (Instr.mapUpdate 86 v4 (Value.int .i64 x16) (Value.int .u64 x3_)) h2_ fun _ h4_ => (AppW 77 1 8 #[(Value.int .u64 (0 : Int))] none 0 0 (Value.slice A1 n1 c1) h4_ fun v5_ h6_ => ∃ A7_, ∃ n7_, ∃ c7_, v5_ = (Value.slice A7_ n7_ c7_) ∧ (AppW 77 1 8 #[(Value.int .u64 (0 : Int))] A7_ n7_ c7_ (Value.slice A27 n27 c27) h6_ fun v8_ h9_ => ∃ A10_, ∃ n10_, ∃ c10_, v8_ = (Value.slice A10_ n10_ c10_) ∧ Gen Try.prog (Instr.lookup 86 v4 (Value.int .i64 x16) false) h9_ fun v11_ h12_ => ∃ x13_, v11_ = (Value.int .u64 x13_) ∧ R (Value.tuple #[(Value.slice A10_ n10_ c10_), (Value.int .u64 x13_), (Value.int .i64 (0 : Int))]) h12_) ∧ (Gen Try.prog (Instr.lookup 86 v4 (Value.int .i64 x16) false) h6_ fun v14_ h15_ => ∃ x16_, v14_ = (Value.int .u64 x16_) ∧ AppW 77 1 8 #[(Value.int .u64 (0 : Int))] A7_ n7_ c7_ (Value.slice A27 n27 c27) h15_ fun v17_ h18_ => ∃ A19_, ∃ n19_, ∃ c19_, v17_ = (Value.slice A19_ n19_ c19_) ∧ R (Value.tuple #[(Value.slice A19_ n19_ c19_), (Value.int .u64 x16_), (Value.int .i64 (0 : Int))]) h18_)) ∧ (Gen Try.prog (Instr.lookup 86 v4 (Value.int .i64 x16) false) h4_ fun v20_ h21_ => ∃ x22_, v20_ = (Value.int .u64 x22_) ∧ AppW 77 1 8 #[(Value.int .u64 (0 : Int))] none 0 0 (Value.slice A1 n1 c1) h21_ fun v23_ h24_ => ∃ A25_, ∃ n25_, ∃ c25_, v23_ = (Value.slice A25_ n25_ c25_) ∧ AppW 77 1 8 #[(Value.int .u64 (0 : Int))] A25_ n25_ c25_ (Value.slice A27 n27 c27) h24_ fun v26_ h27_ => ∃ A28_, ∃ n28_, ∃ c28_, v26_ = (Value.slice A28_ n28_ c28_) ∧ R (Value.tuple #[(Value.slice A28_ n28_ c28_), (Value.int .u64 x22_), (Value.int .i64 (0 : Int))]) h27_)
set_option maxRecDepth 100000 in
theorem f41.j0_in {R : Value → Heap → Prop} {A1 : Option Addr} {n1 : Nat} {c1 : Nat} {v4 : Value} {x16 : Int} {A27 : Option Addr} {n27 : Nat} {c27 : Nat} {h : Heap} (H : f41.j0T R A1 n1 c1 v4 x16 A27 n27 c27 h) : f41.j0 R A1 n1 c1 v4 x16 A27 n27 c27 h :=
  pt_intro mixed f41.good (Eq.mpr (show (Fwd Try.prog f41.T f41.kp Try.f41 R [true, true, true, true, true, true, true, true, true, true, true, true, true, true, true] (mkFr [(1, (Value.slice A1 n1 c1)), (4, v4), (16, (Value.int .i64 x16)), (27, (Value.slice A27 n27 c27))]) h) = (f41.j0T R A1 n1 c1 v4 x16 A27 n27 c27 h) by kernel_rfl) H)
set_option maxRecDepth 100000 in
def f41.runT (R : Value → Heap → Prop) (A0 : Option Addr) (n0 : Nat) (c0 : Nat) (A1 : Option Addr) (n1 : Nat) (c1 : Nat) (x2 : Int) (x3 : Int) (v4 : Value) (v5 : Value) (h : Heap) : Prop :=
  Run Try.prog 79 #[(Value.int .u64 x2)] h fun v1_ h2_ => ∃ x3_, ∃ x4_, ∃ b5_, v1_ = (Value.tuple #[(Value.int .i64 x3_), (Value.int .i64 x4_), (Value.bool b5_)]) ∧ splitB (!b5_) (R (Value.tuple #[(Value.slice none 0 0), (Value.int .u64 (0 : Int)), (Value.int .i64 (3 : Int))]) h2_) (splitB (x3_ != (4 : Int)) (R (Value.tuple #[(Value.slice A1 n1 c1), (Value.int .u64 x2), (Value.int .i64 (0 : Int))]) h2_) (Gen Try.prog (Instr.lookup 86 v4 (Value.int .i64 x4_) true) h2_ fun v6_ h7_ => ∃ x8_, ∃ b9_, v6_ = (Value.tuple #[(Value.int .u64 x8_), (Value.bool b9_)]) ∧ splitB b9_ (R (Value.tuple #[(Value.slice A1 n1 c1), (Value.int .u64 x8_), (Value.int .i64 (0 : Int))]) h7_) (splitB (decide (x3 > (40 : Int))) (R (Value.tuple #[(Value.slice none 0 0), (Value.int .u64 (0 : Int)), (Value.int .i64 (2 : Int))]) h7_) (splitB (decide (x4_ ≥ ((n0 : Nat) : Int))) (R (Value.tuple #[(Value.slice none 0 0), (Value.int .u64 (0 : Int)), (Value.int .i64 (4 : Int))]) h7_) (Run Try.prog 77 #[(Value.slice A0 n0 c0), (Value.int .i64 x4_)] h7_ fun v10_ h11_ => ∃ v12_, ∃ b13_, v10_ = (Value.tuple #[v12_, (Value.bool b13_)]) ∧ newH h11_ (Obj.cells #[(Value.int .i64 (0 : Int)), (Value.int .i64 (0 : Int)), (Value.int .i64 (0 : Int)), (Value.string (ByteArray.mk #[])), (Value.slice none 0 0)] 152) fun h14_ => ∃ l16_ : List Value, v12_ = Value.agg l16_.toArray ∧ l16_.length = 5 ∧ ∃ h15_, stH h14_ (⟨Array.size h11_, 0, none⟩) l16_ 0 = some h15_ ∧ splitB (!b13_) (R (Value.tuple #[(Value.slice none 0 0), (Value.int .u64 (0 : Int)), (Value.int .i64 (3 : Int))]) h15_) (∃ v17_, ldv false 1 h15_ (Addr.add (⟨Array.size h11_, 0, none⟩) 4) = some v17_ ∧ ∃ A18_, ∃ n18_, ∃ c18_, v17_ = (Value.slice A18_ n18_ c18_) ∧ f41.l0 R A0 n0 c0 A1 n1 c1 x3 v4 v5 x4_ (⟨Array.size h11_, 0, none⟩) none 0 0 A18_ n18_ c18_ ((n18_ : Nat) : Int) (0 : Int) h15_))))))
set_option maxRecDepth 100000 in
theorem f41.run {R : Value → Heap → Prop} {A0 : Option Addr} {n0 : Nat} {c0 : Nat} {A1 : Option Addr} {n1 : Nat} {c1 : Nat} {x2 : Int} {x3 : Int} {v4 : Value} {v5 : Value} {h : Heap} (H : f41.runT R A0 n0 c0 A1 n1 c1 x2 x3 v4 v5 h) : Run Try.prog 41 #[(Value.slice A0 n0 c0), (Value.slice A1 n1 c1), (Value.int .u64 x2), (Value.int .i64 x3), v4, v5] h R :=
  run_of mixed Try.func41 (by kernel_rfl) (by kernel_rfl) f41.good (Eq.mpr (show (Fwd Try.prog f41.T f41.kp Try.f41 R [] (mkFr (argL [(Value.slice A0 n0 c0), (Value.slice A1 n1 c1), (Value.int .u64 x2), (Value.int .i64 x3), v4, v5] 0)) h) = (f41.runT R A0 n0 c0 A1 n1 c1 x2 x3 v4 v5 h) by kernel_rfl) H)
def f43.T : Tab := { sh := tSh, tup := tTup, keep := [], plan := [(6, (.take 0 (.take 1 (.take 2 (.take 4 (.take 5 (.take 6 (.take 3 (.take 7 (.take 8 .done))))))))))] }
def f43.kp : Keep := [([false, false, true, false, true, true], [0, 1, 12, 13])]
theorem f43.good : goodCode Try.prog f43.T (rootOf Try.f43) = true := by kernel_rfl
def f43.l0 (R : Value → Heap → Prop) (A0 : Option Addr) (n0 : Nat) (c0 : Nat) (A1 : Option Addr) (n1 : Nat) (c1 : Nat) (x12 : Int) (x13 : Int) (h : Heap) : Prop := Pt Try.prog Try.f43 R [false, false, true, false, true, true] (mkFr [(0, (Value.slice A0 n0 c0)), (1, (Value.slice A1 n1 c1)), (12, (Value.int .i64 x12)), (13, (Value.int .i64 x13))]) h
set_option maxRecDepth 100000 in
def f43.l0T (R : Value → Heap → Prop) (A0 : Option Addr) (n0 : Nat) (c0 : Nat) (A1 : Option Addr) (n1 : Nat) (c1 : Nat) (x12 : Int) (x13 : Int) (h : Heap) : Prop :=
  splitB (decide (x13 < x12)) (ptrOk A0 fun a1_ => 0 ≤ x13 ∧ x13 < ((n0 : Nat) : Int) ∧ (ptrOk A1 fun a2_ => 0 ≤ x13 ∧ x13 < ((n1 : Nat) : Int) ∧ (∃ v3_, ldv false 1 h (Addr.add a1_ (Int.toNat x13 * 1)) = some v3_ ∧ ∃ x4_, v3_ = (Value.int .u64 x4_) ∧ ∃ v5_, ldv false 1 h (Addr.add a2_ (Int.toNat x13 * 1)) = some v5_ ∧ ∃ x6_, v5_ = (Value.int .u64 x6_) ∧ splitB (x4_ != x6_) (R (Value.bool false) h) (f43.l0 R A0 n0 c0 A1 n1 c1 x12 (IntKind.wrap .i64 (x13 + (1 : Int))) h)))) (R (Value.bool true) h)
set_option maxRecDepth 100000 in
theorem f43.l0_in {R : Value → Heap → Prop} {A0 : Option Addr} {n0 : Nat} {c0 : Nat} {A1 : Option Addr} {n1 : Nat} {c1 : Nat} {x12 : Int} {x13 : Int} {h : Heap} (H : f43.l0T R A0 n0 c0 A1 n1 c1 x12 x13 h) : f43.l0 R A0 n0 c0 A1 n1 c1 x12 x13 h :=
  pt_intro mixed f43.good (Eq.mpr (show (Fwd Try.prog f43.T f43.kp Try.f43 R [false, false, true, false, true, true] (mkFr [(0, (Value.slice A0 n0 c0)), (1, (Value.slice A1 n1 c1)), (12, (Value.int .i64 x12)), (13, (Value.int .i64 x13))]) h) = (f43.l0T R A0 n0 c0 A1 n1 c1 x12 x13 h) by kernel_rfl) H)
set_option maxRecDepth 100000 in
def f43.runT (R : Value → Heap → Prop) (A0 : Option Addr) (n0 : Nat) (c0 : Nat) (A1 : Option Addr) (n1 : Nat) (c1 : Nat) (h : Heap) : Prop :=
  splitB (((n0 : Nat) : Int) != ((n1 : Nat) : Int)) (R (Value.bool false) h) (f43.l0 R A0 n0 c0 A1 n1 c1 ((n0 : Nat) : Int) (0 : Int) h)
set_option maxRecDepth 100000 in
theorem f43.run {R : Value → Heap → Prop} {A0 : Option Addr} {n0 : Nat} {c0 : Nat} {A1 : Option Addr} {n1 : Nat} {c1 : Nat} {h : Heap} (H : f43.runT R A0 n0 c0 A1 n1 c1 h) : Run Try.prog 43 #[(Value.slice A0 n0 c0), (Value.slice A1 n1 c1)] h R :=
  run_of mixed Try.func43 (by kernel_rfl) (by kernel_rfl) f43.good (Eq.mpr (show (Fwd Try.prog f43.T f43.kp Try.f43 R [] (mkFr (argL [(Value.slice A0 n0 c0), (Value.slice A1 n1 c1)] 0)) h) = (f43.runT R A0 n0 c0 A1 n1 c1 h) by kernel_rfl) H)
def f6.T : Tab := { sh := tSh, tup := tTup, keep := [(75, [3, 4])], plan := [] }
def f6.kp : Keep := [([true, true, true, true], [0, 1, 2, 7, 8, 9, 10, 12]), ([true, true, true, true, true, true, true, true], [0, 7, 8, 9, 10, 12, 13, 14, 15]), ([false, false, true, false, true, true, true, true, true, true, true, true, true, true], [7, 8, 9, 10, 13, 14, 16, 72])]
theorem f6.good : goodCode Try.prog f6.T (rootOf Try.f6) = true := by kernel_rfl
def f6.j0 (R : Value → Heap → Prop) (A0 : Option Addr) (n0 : Nat) (c0 : Nat) (A1 : Option Addr) (n1 : Nat) (c1 : Nat) (x2 : Int) (A7 : Option Addr) (n7 : Nat) (c7 : Nat) (A8 : Option Addr) (n8 : Nat) (c8 : Nat) (x9 : Int) (x10 : Int) (x12 : Int) (h : Heap) : Prop := Pt Try.prog Try.f6 R [true, true, true, true] (mkFr [(0, (Value.slice A0 n0 c0)), (1, (Value.slice A1 n1 c1)), (2, (Value.int .u64 x2)), (7, (Value.slice A7 n7 c7)), (8, (Value.slice A8 n8 c8)), (9, (Value.int .u64 x9)), (10, (Value.int .i64 x10)), (12, (Value.int .i64 x12))]) h
def f6.j1 (R : Value → Heap → Prop) (A0 : Option Addr) (n0 : Nat) (c0 : Nat) (A7 : Option Addr) (n7 : Nat) (c7 : Nat) (A8 : Option Addr) (n8 : Nat) (c8 : Nat) (x9 : Int) (x10 : Int) (x12 : Int) (A13 : Option Addr) (n13 : Nat) (c13 : Nat) (x14 : Int) (v15 : Value) (h : Heap) : Prop := Pt Try.prog Try.f6 R [true, true, true, true, true, true, true, true] (mkFr [(0, (Value.slice A0 n0 c0)), (7, (Value.slice A7 n7 c7)), (8, (Value.slice A8 n8 c8)), (9, (Value.int .u64 x9)), (10, (Value.int .i64 x10)), (12, (Value.int .i64 x12)), (13, (Value.slice A13 n13 c13)), (14, (Value.int .u64 x14)), (15, v15)]) h
def f6.l0 (R : Value → Heap → Prop) (A7 : Option Addr) (n7 : Nat) (c7 : Nat) (A8 : Option Addr) (n8 : Nat) (c8 : Nat) (x9 : Int) (x10 : Int) (A13 : Option Addr) (n13 : Nat) (c13 : Nat) (x14 : Int) (A16 : Option Addr) (n16 : Nat) (c16 : Nat) (v72 : Value) (h : Heap) : Prop := Pt Try.prog Try.f6 R [false, false, true, false, true, true, true, true, true, true, true, true, true, true] (mkFr [(7, (Value.slice A7 n7 c7)), (8, (Value.slice A8 n8 c8)), (9, (Value.int .u64 x9)), (10, (Value.int .i64 x10)), (13, (Value.slice A13 n13 c13)), (14, (Value.int .u64 x14)), (16, (Value.slice A16 n16 c16)), (72, v72)]) h
set_option maxRecDepth 100000 in
def f6.j0T (R : Value → Heap → Prop) (A0 : Option Addr) (n0 : Nat) (c0 : Nat) (A1 : Option Addr) (n1 : Nat) (c1 : Nat) (x2 : Int) (A7 : Option Addr) (n7 : Nat) (c7 : Nat) (A8 : Option Addr) (n8 : Nat) (c8 : Nat) (x9 : Int) (x10 : Int) (x12 : Int) (h : Heap) : Prop :=
  Gen Try.prog (Instr.makeMap 83 none) h fun v1_ h2_ => splitB (x12 == (0 : Int)) (Gen Try.prog (Instr.makeMap 86 none) h2_ fun v3_ h4_ => Run Try.prog 41 #[(Value.slice A0 n0 c0), (Value.slice A1 n1 c1), (Value.int .u64 x2), (Value.int .i64 (1 : Int)), v3_, v1_] h4_ fun v5_ h6_ => ∃ A7_, ∃ n7_, ∃ c7_, ∃ x8_, ∃ x9_, v5_ = (Value.tuple #[(Value.slice A7_ n7_ c7_), (Value.int .u64 x8_), (Value.int .i64 x9_)]) ∧ f6.j1 R A0 n0 c0 A7 n7 c7 A8 n8 c8 x9 x10 x9_ A7_ n7_ c7_ x8_ v1_ h6_) (f6.j1 R A0 n0 c0 A7 n7 c7 A8 n8 c8 x9 x10 x12 none 0 0 (0 : Int) v1_ h2_)
set_option maxRecDepth 100000 in
theorem f6.j0_in {R : Value → Heap → Prop} {A0 : Option Addr} {n0 : Nat} {c0 : Nat} {A1 : Option Addr} {n1 : Nat} {c1 : Nat} {x2 : Int} {A7 : Option Addr} {n7 : Nat} {c7 : Nat} {A8 : Option Addr} {n8 : Nat} {c8 : Nat} {x9 : Int} {x10 : Int} {x12 : Int} {h : Heap} (H : f6.j0T R A0 n0 c0 A1 n1 c1 x2 A7 n7 c7 A8 n8 c8 x9 x10 x12 h) : f6.j0 R A0 n0 c0 A1 n1 c1 x2 A7 n7 c7 A8 n8 c8 x9 x10 x12 h :=
  pt_intro mixed f6.good (Eq.mpr (show (Fwd Try.prog f6.T f6.kp Try.f6 R [true, true, true, true] (mkFr [(0, (Value.slice A0 n0 c0)), (1, (Value.slice A1 n1 c1)), (2, (Value.int .u64 x2)), (7, (Value.slice A7 n7 c7)), (8, (Value.slice A8 n8 c8)), (9, (Value.int .u64 x9)), (10, (Value.int .i64 x10)), (12, (Value.int .i64 x12))]) h) = (f6.j0T R A0 n0 c0 A1 n1 c1 x2 A7 n7 c7 A8 n8 c8 x9 x10 x12 h) by kernel_rfl) H)
set_option maxRecDepth 100000 in
def f6.j1T (R : Value → Heap → Prop) (A0 : Option Addr) (n0 : Nat) (c0 : Nat) (A7 : Option Addr) (n7 : Nat) (c7 : Nat) (A8 : Option Addr) (n8 : Nat) (c8 : Nat) (x9 : Int) (x10 : Int) (x12 : Int) (A13 : Option Addr) (n13 : Nat) (c13 : Nat) (x14 : Int) (v15 : Value) (h : Heap) : Prop :=
  splitB (x12 != (0 : Int)) (splitB ((IntKind.wrap .i64 (((n7 : Nat) : Int) + ((n8 : Nat) : Int))) == (0 : Int)) (splitB (x9 == (0 : Int)) (R (Value.bool (x10 == x12)) h) (R (Value.bool false) h)) (R (Value.bool false) h)) (Run Try.prog 42 #[(Value.slice A0 n0 c0)] h fun v1_ h2_ => ∃ A3_, ∃ n3_, ∃ c3_, v1_ = (Value.slice A3_ n3_ c3_) ∧ Gen Try.prog (Instr.range 83 v15) h2_ fun v4_ h5_ => f6.l0 R A7 n7 c7 A8 n8 c8 x9 x10 A13 n13 c13 x14 A3_ n3_ c3_ v4_ h5_)
set_option maxRecDepth 100000 in
theorem f6.j1_in {R : Value → Heap → Prop} {A0 : Option Addr} {n0 : Nat} {c0 : Nat} {A7 : Option Addr} {n7 : Nat} {c7 : Nat} {A8 : Option Addr} {n8 : Nat} {c8 : Nat} {x9 : Int} {x10 : Int} {x12 : Int} {A13 : Option Addr} {n13 : Nat} {c13 : Nat} {x14 : Int} {v15 : Value} {h : Heap} (H : f6.j1T R A0 n0 c0 A7 n7 c7 A8 n8 c8 x9 x10 x12 A13 n13 c13 x14 v15 h) : f6.j1 R A0 n0 c0 A7 n7 c7 A8 n8 c8 x9 x10 x12 A13 n13 c13 x14 v15 h :=
  pt_intro mixed f6.good (Eq.mpr (show (Fwd Try.prog f6.T f6.kp Try.f6 R [true, true, true, true, true, true, true, true] (mkFr [(0, (Value.slice A0 n0 c0)), (7, (Value.slice A7 n7 c7)), (8, (Value.slice A8 n8 c8)), (9, (Value.int .u64 x9)), (10, (Value.int .i64 x10)), (12, (Value.int .i64 x12)), (13, (Value.slice A13 n13 c13)), (14, (Value.int .u64 x14)), (15, v15)]) h) = (f6.j1T R A0 n0 c0 A7 n7 c7 A8 n8 c8 x9 x10 x12 A13 n13 c13 x14 v15 h) by kernel_rfl) H)
set_option maxRecDepth 100000 in
def f6.l0T (R : Value → Heap → Prop) (A7 : Option Addr) (n7 : Nat) (c7 : Nat) (A8 : Option Addr) (n8 : Nat) (c8 : Nat) (x9 : Int) (x10 : Int) (A13 : Option Addr) (n13 : Nat) (c13 : Nat) (x14 : Int) (A16 : Option Addr) (n16 : Nat) (c16 : Nat) (v72 : Value) (h : Heap) : Prop :=
  NextEv Try.prog v72 0 h (fun h1_ => Run Try.prog 43 #[(Value.slice A7 n7 c7), (Value.slice A16 n16 c16)] h1_ fun v5_ h6_ => ∃ b7_, v5_ = (Value.bool b7_) ∧ splitB b7_ (Run Try.prog 43 #[(Value.slice A8 n8 c8), (Value.slice A13 n13 c13)] h6_ fun v8_ h9_ => ∃ b10_, v8_ = (Value.bool b10_) ∧ splitB b10_ (splitB (x9 == x14) (R (Value.bool (x10 == (0 : Int))) h9_) (R (Value.bool false) h9_)) (R (Value.bool false) h9_)) (R (Value.bool false) h6_)) (fun k3_ u4_ h2_ => Gen Try.prog (Instr.entry v72) h2_ fun v11_ h12_ => ∃ x13_, ∃ b14_, v11_ = (Value.tuple #[(Value.int .i64 x13_), (Value.bool b14_)]) ∧ ptrOk A16 fun a15_ => 0 ≤ x13_ ∧ x13_ < ((n16 : Nat) : Int) ∧ (∃ h16_, st1 h12_ (Addr.add a15_ (Int.toNat x13_ * 1)) (Value.int .u64 (1 : Int)) = some h16_ ∧ ptrOk A16 fun a17_ => 0 ≤ (IntKind.wrap .i64 (x13_ + (1 : Int))) ∧ (IntKind.wrap .i64 (x13_ + (1 : Int))) < ((n16 : Nat) : Int) ∧ (∃ h18_, st1 h16_ (Addr.add a17_ (Int.toNat (IntKind.wrap .i64 (x13_ + (1 : Int))) * 1)) (Value.int .u64 (0 : Int)) = some h18_ ∧ f6.l0 R A7 n7 c7 A8 n8 c8 x9 x10 A13 n13 c13 x14 A16 n16 c16 v72 h18_)))
set_option maxRecDepth 100000 in
theorem f6.l0_in {R : Value → Heap → Prop} {A7 : Option Addr} {n7 : Nat} {c7 : Nat} {A8 : Option Addr} {n8 : Nat} {c8 : Nat} {x9 : Int} {x10 : Int} {A13 : Option Addr} {n13 : Nat} {c13 : Nat} {x14 : Int} {A16 : Option Addr} {n16 : Nat} {c16 : Nat} {v72 : Value} {h : Heap} (H : f6.l0T R A7 n7 c7 A8 n8 c8 x9 x10 A13 n13 c13 x14 A16 n16 c16 v72 h) : f6.l0 R A7 n7 c7 A8 n8 c8 x9 x10 A13 n13 c13 x14 A16 n16 c16 v72 h :=
  pt_intro mixed f6.good (Eq.mpr (show (Fwd Try.prog f6.T f6.kp Try.f6 R [false, false, true, false, true, true, true, true, true, true, true, true, true, true] (mkFr [(7, (Value.slice A7 n7 c7)), (8, (Value.slice A8 n8 c8)), (9, (Value.int .u64 x9)), (10, (Value.int .i64 x10)), (13, (Value.slice A13 n13 c13)), (14, (Value.int .u64 x14)), (16, (Value.slice A16 n16 c16)), (72, v72)]) h) = (f6.l0T R A7 n7 c7 A8 n8 c8 x9 x10 A13 n13 c13 x14 A16 n16 c16 v72 h) by kernel_rfl) H)
set_option maxRecDepth 100000 in
def f6.runT (R : Value → Heap → Prop) (A0 : Option Addr) (n0 : Nat) (c0 : Nat) (A1 : Option Addr) (n1 : Nat) (c1 : Nat) (x2 : Int) (h : Heap) : Prop :=
  Run Try.prog 39 #[(Value.slice A0 n0 c0), (Value.slice A1 n1 c1), (Value.int .u64 x2)] h fun v1_ h2_ => ∃ A3_, ∃ n3_, ∃ c3_, ∃ A4_, ∃ n4_, ∃ c4_, ∃ x5_, ∃ x6_, v1_ = (Value.tuple #[(Value.slice A3_ n3_ c3_), (Value.slice A4_ n4_ c4_), (Value.int .u64 x5_), (Value.int .i64 x6_)]) ∧ Run Try.prog 40 #[(Value.slice A0 n0 c0)] h2_ fun v7_ h8_ => ∃ A9_, ∃ n9_, ∃ c9_, ∃ x10_, v7_ = (Value.tuple #[(Value.slice A9_ n9_ c9_), (Value.int .i64 x10_)]) ∧ splitB (x10_ == (0 : Int)) (Run Try.prog 40 #[(Value.slice A1 n1 c1)] h8_ fun v11_ h12_ => ∃ A13_, ∃ n13_, ∃ c13_, ∃ x14_, v11_ = (Value.tuple #[(Value.slice A13_ n13_ c13_), (Value.int .i64 x14_)]) ∧ f6.j0 R A0 n0 c0 A1 n1 c1 x2 A3_ n3_ c3_ A4_ n4_ c4_ x5_ x6_ x14_ h12_) (f6.j0 R A0 n0 c0 A1 n1 c1 x2 A3_ n3_ c3_ A4_ n4_ c4_ x5_ x6_ x10_ h8_)
set_option maxRecDepth 100000 in
theorem f6.run {R : Value → Heap → Prop} {A0 : Option Addr} {n0 : Nat} {c0 : Nat} {A1 : Option Addr} {n1 : Nat} {c1 : Nat} {x2 : Int} {h : Heap} (H : f6.runT R A0 n0 c0 A1 n1 c1 x2 h) : Run Try.prog 6 #[(Value.slice A0 n0 c0), (Value.slice A1 n1 c1), (Value.int .u64 x2)] h R :=
  run_of mixed Try.func6 (by kernel_rfl) (by kernel_rfl) f6.good (Eq.mpr (show (Fwd Try.prog f6.T f6.kp Try.f6 R [] (mkFr (argL [(Value.slice A0 n0 c0), (Value.slice A1 n1 c1), (Value.int .u64 x2)] 0)) h) = (f6.runT R A0 n0 c0 A1 n1 c1 x2 h) by kernel_rfl) H)
end Go.Proofs.Ytnlocljmalhddaa.Fw

end
section
namespace Go.Hw
open Go
section tests
variable {A B : Prop}
theorem split_not {b : Bool} (h : splitB b B A) : splitB (!b) A B := by cases b <;> exact h
theorem split_t (h : A) : splitB true A B := h
theorem split_f (h : B) : splitB false A B := h
end tests
theorem wrap_in {n : Int} (h0 : -9223372036854775808 ≤ n) (h1 : n ≤ 9223372036854775807) : IntKind.wrap .i64 n = n := by
  rcases Int.le_total 0 n with h | h
  · exact wrap_nat h h1
  · rcases (show n = 0 ∨ n < 0 by omega) with h2 | h2
    · subst h2; rfl
    have e : n % (2 ^ 64 : Int) = n + 2 ^ 64 := by omega
    simp only [IntKind.wrap, IntKind.signed, IntKind.bits, e, Bool.true_and]
    rw [if_pos (by simp only [decide_eq_true_eq]; omega)]
    omega
theorem add_add (a : Addr) (m n : Nat) : (a.add m).add n = a.add (m + n) := by
  unfold Addr.add
  by_cases h1 : m = 0
  · subst h1; simp
  · by_cases h2 : n = 0
    · subst h2; simp
    · have h3 : m + n ≠ 0 := by omega
      simp only [if_neg h1, if_neg h2, if_neg h3]
      rw [Nat.add_assoc]
theorem add_block (a : Addr) (n : Nat) : (a.add n).block = a.block := by unfold Addr.add; split <;> rfl
theorem add_off (a : Addr) (n : Nat) : (a.add n).off = a.off + n := by
  unfold Addr.add
  split
  · rename_i h; subst h; rfl
  · rfl
theorem add_spot {a : Addr} (n : Nat) (h : a.spot = none) : (a.add n).spot = none := by unfold Addr.add; split; exact h; rfl
def Blk (h : Heap) (b : Nat) (c : List Value) (t : TypeId) : Prop := h[b]? = some (.cells c.toArray t (0, 0))
def Only (h h' : Heap) (b : Nat) : Prop := h'.size = h.size ∧ ∀ i, i ≠ b → h'[i]? = h[i]?
section
variable {h h' : Heap} {b : Nat} {c : List Value} {t : TypeId}
theorem Blk.lt (hb : Blk h b c t) : b < h.size := (Array.getElem?_eq_some_iff.1 hb).1
theorem Blk.cell (hb : Blk h b c t) {a : Addr} {v : Value} (h1 : a.block = b) (h2 : a.spot = none) (h3 : c[a.off]? = some v) : cellH h a = some v := by
  unfold cellH Blk at *
  rw [h1, hb, h2]
  simpa using h3
theorem Blk.cells (hb : Blk h b c t) {a : Addr} (h1 : a.block = b) (h2 : a.spot = none) : ∀ (n i : Nat), a.off + i + n ≤ c.length → cellsH h a i n = some ((c.drop (a.off + i)).take n) := by
  intro n
  induction n with
  | zero => intro i _; simp [cellsH]
  | succ n ih =>
    intro i hle
    have hlt : a.off + i < c.length := by omega
    have h3 : c[(a.add i).off]? = some c[a.off + i] := by rw [add_off]; exact List.getElem?_eq_getElem hlt
    simp only [cellsH, hb.cell (a := a.add i) (by rw [add_block]; exact h1) (add_spot i h2) h3, ih (i + 1) (by omega)]
    rw [List.drop_eq_getElem_cons hlt, List.take_succ_cons]
    rfl
theorem Blk.st (hb : Blk h b c t) {a : Addr} {v : Value} (h1 : a.block = b) (h2 : a.spot = none) (h3 : a.off < c.length) (h4 : oneCell v True) :
    ∃ h', st1 h a v = some h' ∧ Blk h' b (c.set a.off v) t ∧ Only h h' b := by
  have hc : cellH h a = some c[a.off] := hb.cell h1 h2 (List.getElem?_eq_getElem h3)
  have hf : frozenH h a = false := by
    unfold frozenH
    rw [h1, show h[b]? = some (.cells c.toArray t (0, 0)) from hb]
    simp
  refine ⟨setH h a v, ?_, ?_, ?_⟩
  · cases v <;> simp_all [st1, oneCell]
  · unfold Blk setH
    rw [Array.getElem?_modify, if_pos h1.symm.symm, show h[b]? = some (.cells c.toArray t (0, 0)) from hb]
    simp [h2]
  · refine ⟨by simp [setH], fun i hi => ?_⟩
    unfold setH
    rw [Array.getElem?_modify, if_neg (by rw [h1]; exact fun e => hi e.symm)]
theorem Blk.new (h : Heap) (c : Array Value) (t : TypeId) : Blk (h.push (.cells c t)) h.size c.toList t := by
  unfold Blk; simp
theorem Ext.push (h : Heap) (o : Obj) : Ext h (h.push o) := ⟨by simp, fun i hi => by rw [Array.getElem?_push, if_neg (by omega)]⟩
theorem Only.refl (h : Heap) (b : Nat) : Only h h b := ⟨rfl, fun _ _ => rfl⟩
theorem Only.trans {h'' : Heap} {b : Nat} (o : Only h h' b) (p : Only h' h'' b) : Only h h'' b := ⟨p.1.trans o.1, fun i hi => (p.2 i hi).trans (o.2 i hi)⟩
end
def Rd {α : Type} (sz : Nat) (E : Heap → α → List Value → Prop) (h : Heap) (A : Option Addr) (l : List α) : Prop :=
  ∀ i (hi : i < l.length), ∃ a cs, A = some a ∧ cellsH h (a.add (i * sz)) 0 sz = some cs ∧ E h l[i] cs
def eInt (k : IntKind) (_ : Heap) (x : Int) (cs : List Value) : Prop := cs = [.int k x]
def eRow {α : Type} (sz : Nat) (E : Heap → α → List Value → Prop) (h : Heap) (l : List α) (cs : List Value) : Prop := ∃ A c, cs = [.slice A l.length c] ∧ l.length ≤ c ∧ Rd sz E h A l
section
variable {α : Type} {sz : Nat} {E : Heap → α → List Value → Prop} {h h' : Heap} {A : Option Addr} {l : List α}
theorem Rd.nil : Rd sz E h A ([] : List α) := fun i hi => by cases hi
end
theorem newH_in {h : Heap} {c : Array Value} {t : TypeId} {K : Heap → Prop} (H : ∀ h', Blk h' h.size c.toList t → Ext h h' → h'.size = h.size + 1 → K h') : newH h (.cells c t) K :=
  H _ (Blk.new _ _ _) (Ext.push _ _) (by simp)
end Go.Hw

end
section
namespace Go.Hw
open Go Go.RowKit
theorem below_of {W W' : World} (e : Ext W.heap W'.heap) (s : Same W W') : Below W.heap.size W W' := ⟨s.os, s.tape, s.output, e.1, e.2⟩
section
variable {H : Type} {enc : TypeId × Value → H} {P : Program} {W : World}
theorem cells_of {base : Nat} {a : Addr} {n : Nat} {cs : List Value} (hc : W.cells? base a n = some cs) : cellsH W.heap a 0 n = some cs := by
  obtain ⟨_, hlen, hget⟩ := World.cells?_some hc
  have key : ∀ (m i : Nat), i + m = n → cellsH W.heap a i m = some (cs.drop i) := by
    intro m
    induction m with
    | zero =>
      intro i hi
      rw [List.drop_eq_nil_of_le (by omega)]
      rfl
    | succ m ih =>
      intro i hi
      have hlt : i < cs.length := by omega
      have h1 : cellH W.heap (a.add i) = some cs[i] := (hget i (by omega)).trans (List.getElem?_eq_getElem hlt)
      simp only [cellsH, h1, ih (i + 1) (by omega)]
      rw [List.drop_eq_getElem_cons hlt]
  simpa using key n 0 (by omega)
def Tells {α : Type} (enc : TypeId × Value → H) (P : Program) (W : World) (t : TypeId) (E : Heap → α → List Value → Prop) (Q : α → Prop) : Prop :=
  ∀ (fuel : Nat) (cs : List Value) (x : DataW H × List MemPlace), DataW.trod enc P W 0 (fun _ => true) true fuel t cs = some x → (x.1.weights P t).all (· ≤ reachBytes) = true → ∃ a, E W.heap a cs ∧ Q a
theorem tells_int {t : TypeId} {k : IntKind} (hu : P.underlying t = some (.int k)) : Tells enc P W t (eInt k) (fun x => (Lit.int k x).wf = true) := by
  intro fuel cs x h _
  obtain ⟨n, h1, _, h3⟩ := DataW.trod_int hu h
  exact ⟨n, h1, h3⟩
def eBool (_ : Heap) (x : Bool) (cs : List Value) : Prop := cs = [.bool x]
theorem weightsAll_all {e : TypeId} : ∀ (l : List (DataW H)), (DataW.weightsAll P e l).all (· ≤ reachBytes) = true → ∀ d ∈ l, (d.weights P e).all (· ≤ reachBytes) = true := by
  intro l
  induction l with
  | nil => intro _ d hd; cases hd
  | cons x l ih =>
    intro h d hd
    simp only [DataW.weightsAll, List.all_append, Bool.and_eq_true] at h
    rcases List.mem_cons.1 hd with rfl | hd
    · exact h.1
    · exact ih h.2 d hd
theorem list_choose {α : Type} {n : Nat} {p : Nat → α → Prop} (h : ∀ i, i < n → ∃ x, p i x) : ∃ l : List α, l.length = n ∧ ∀ i (hi : i < l.length), p i l[i] := by
  induction n with
  | zero => exact ⟨[], rfl, fun i hi => by cases hi⟩
  | succ n ih =>
    obtain ⟨l, h1, h2⟩ := ih fun i hi => h i (by omega)
    obtain ⟨x, hx⟩ := h n (by omega)
    refine ⟨l ++ [x], by simp [h1], fun i hi => ?_⟩
    rw [List.length_append, List.length_singleton] at hi
    by_cases hin : i < l.length
    · rw [List.getElem_append_left hin]; exact h2 i hin
    · have : i = l.length := by omega
      subst this
      rw [List.getElem_append_right (Nat.le_refl _)]
      simp only [Nat.sub_self, List.getElem_cons_zero]
      rw [h1]; exact hx
theorem tells_slice {α : Type} {t e : TypeId} {sz B : Nat} {E : Heap → α → List Value → Prop} {Q : α → Prop} (hu : P.underlying t = some (.slice e)) (hc : P.cellsOf e = sz) (hB : P.bytesOf e = B) (he : Tells enc P W e E Q) :
    Tells enc P W t (eRow sz E) (fun l => l.length * B ≤ reachBytes ∧ ∀ a ∈ l, Q a) := by
  intro fuel cs x h hw
  rcases DataW.trod_slice hu h with ⟨h1, h2⟩ | ⟨a, len, cap, elems, rest, n, _, h1, h2, _, hl, hm, hlen, hel, _, _⟩
  · exact ⟨[], ⟨none, 0, h1, Nat.le_refl _, Rd.nil⟩, by simp, fun a ha => by cases ha⟩
  · rw [h2] at hw
    simp only [DataW.weights, hu, List.all_cons, List.all_append, Bool.and_eq_true, decide_eq_true_eq] at hw
    obtain ⟨hw1, hw2, _⟩ := hw
    have hall := weightsAll_all _ hw2
    obtain ⟨l, h3, h4⟩ := list_choose (n := len) (p := fun i x => (∃ cs', cellsH W.heap (a.add (i * sz)) 0 sz = some cs' ∧ E W.heap x cs') ∧ Q x) (fun i hi => by
      have h5 := hel i hi
      have hlt : i < elems.length := by omega
      rw [List.getElem?_eq_getElem hlt] at h5
      obtain ⟨cs', h6, h7⟩ := Option.bind_eq_some_iff.1 h5
      obtain ⟨x, h8, h9⟩ := he _ _ _ h7 (hall _ (List.mem_map.2 ⟨_, List.getElem_mem hlt, rfl⟩))
      rw [hc] at h6
      exact ⟨x, ⟨cs', cells_of h6, h8⟩, h9⟩)
    refine ⟨l, ⟨some a, cap, by rw [h1, h3], by omega, fun i hi => ?_⟩, ?_, fun x hx => ?_⟩
    · obtain ⟨⟨cs', h5, h6⟩, _⟩ := h4 i hi
      exact ⟨a, cs', rfl, h5, h6⟩
    · rw [hB] at hw1
      have : l.length ≤ (List.map (·.1) elems).length + (List.map (·.1) rest).length := by simp; omega
      exact Nat.le_trans (Nat.mul_le_mul_right _ this) hw1
    · obtain ⟨i, hi, rfl⟩ := List.getElem_of_mem hx
      exact (h4 i hi).2
end
theorem wf_u64 {x : Int} (h : (Lit.int .u64 x).wf = true) : 0 ≤ x ∧ x ≤ 18446744073709551615 := by
  simpa [Lit.wf, IntKind.min, IntKind.max, IntKind.signed, IntKind.bits] using h
end Go.Hw

end
section
namespace Go.Hw
open Go
theorem cellsH_length {h : Heap} {a : Addr} : ∀ {n i : Nat} {cs : List Value}, cellsH h a i n = some cs → cs.length = n := by
  intro n
  induction n with
  | zero => intro i cs hc; simp only [cellsH, Option.some.injEq] at hc; subst hc; rfl
  | succ n ih =>
    intro i cs hc
    simp only [cellsH] at hc
    split at hc
    · split at hc
      · rename_i vs hv; cases hc; simp [ih hv]
      · cases hc
    · cases hc
def Flat (v : Value) : Prop := oneCell v True
theorem Blk.stH {b : Nat} {t : TypeId} : ∀ (xs : List Value) {h : Heap} {p q r : List Value} {a : Addr} {i : Nat}, Blk h b (p ++ q ++ r) t → a.block = b → a.spot = none → a.off + i = p.length → q.length = xs.length → (∀ v ∈ xs, Flat v) →
    ∃ h', stH h a xs i = some h' ∧ Blk h' b (p ++ xs ++ r) t ∧ Only h h' b := by
  intro xs
  induction xs with
  | nil =>
    intro h p q r a i hb h1 h2 h3 h4 h5
    rw [List.length_eq_zero_iff.1 h4] at hb
    exact ⟨h, rfl, hb, .refl _ _⟩
  | cons v xs ih =>
    intro h p q r a i hb h1 h2 h3 h4 h5
    obtain ⟨u, q', rfl⟩ : ∃ u q', q = u :: q' := by cases q with | nil => cases h4 | cons u q' => exact ⟨u, q', rfl⟩
    have hoff : (a.add i).off = p.length := by rw [add_off, h3]
    obtain ⟨h', s1, b1, o1⟩ := hb.st (a := a.add i) (v := v) (by rw [add_block, h1]) (add_spot _ h2) (by rw [hoff]; simp) (h5 v (List.mem_cons_self ..))
    rw [hoff] at b1
    have e : (p ++ u :: q' ++ r).set p.length v = (p ++ [v]) ++ q' ++ r := by
      rw [List.append_assoc, List.set_append_right _ _ (Nat.le_refl _)]; simp
    rw [e] at b1
    obtain ⟨h'', s2, b2, o2⟩ := ih (p := p ++ [v]) (q := q') (r := r) (a := a) (i := i + 1) b1 h1 h2 (by simp; omega) (by simpa using h4) (fun x hx => h5 x (List.mem_cons_of_mem _ hx))
    refine ⟨h'', ?_, by simpa using b2, o1.trans o2⟩
    simp only [Go.Hw.stH, s1, s2]
theorem zcells_size (z : Array Value) (n : Nat) : (zcells z n).size = n * z.size := by
  unfold zcells Builtin.zeroCells
  simp
end Go.Hw

end
section
namespace Go.Hw
open Go Go.RowKit
def eSt {α : Type} (f : α → List Value) (_ : Heap) (x : α) (cs : List Value) : Prop := cs = f x
theorem cellsH_get {h : Heap} {a : Addr} : ∀ {n i : Nat} {cs : List Value} {k : Nat} {v : Value}, cellsH h a i n = some cs → cs[k]? = some v → cellH h (a.add (i + k)) = some v := by
  intro n
  induction n with
  | zero => intro i cs k v hc hv; simp only [cellsH, Option.some.injEq] at hc; subst hc; cases hv
  | succ n ih =>
    intro i cs k v hc hv
    simp only [cellsH] at hc
    split at hc
    · rename_i u hu
      split at hc
      · rename_i vs hvs
        cases hc
        cases k with
        | zero => cases hv; exact hu
        | succ k => rw [show i + (k + 1) = i + 1 + k by omega]; exact ih hvs (by simpa using hv)
      · cases hc
    · cases hc
section
variable {α : Type} {sz : Nat} {E : Heap → α → List Value → Prop} {h h' : Heap} {A : Option Addr} {l : List α}
theorem cellsH_append {h : Heap} {a : Addr} : ∀ {m i n : Nat} {cs ds : List Value}, cellsH h a i m = some cs → cellsH h a (i + m) n = some ds → cellsH h a i (m + n) = some (cs ++ ds) := by
  intro m
  induction m with
  | zero => intro i n cs ds h1 h2; simp only [cellsH, Option.some.injEq] at h1; subst h1; simpa using h2
  | succ m ih =>
    intro i n cs ds h1 h2
    simp only [cellsH] at h1
    split at h1
    · rename_i u hu
      split at h1
      · rename_i vs hvs
        cases h1
        rw [show m + 1 + n = (m + n) + 1 by omega]
        have h3 := ih hvs (n := n) (ds := ds) (by rw [show i + 1 + m = i + (m + 1) by omega]; exact h2)
        simp only [cellsH, hu, h3, List.cons_append]
      · cases h1
    · cases h1
theorem cellsH_shift {h : Heap} {a : Addr} {j : Nat} : ∀ {n i : Nat}, cellsH h (a.add j) i n = cellsH h a (j + i) n := by
  intro n
  induction n with
  | zero => intro i; rfl
  | succ n ih =>
    intro i
    simp only [cellsH, add_add]
    rw [ih, Nat.add_assoc]
theorem Rd.src {f : α → List Value} (hr : Rd sz (eSt f) h A l) (c : Nat) : srcCells sz (.slice A l.length c) h = some (l.length, l.flatMap f) := by
  cases A with
  | none =>
    cases l with
    | nil => rfl
    | cons x l => obtain ⟨a, _, h1, _⟩ := hr 0 (by simp); cases h1
  | some a =>
    have key : ∀ (k : Nat), k ≤ l.length → cellsH h a 0 (k * sz) = some ((l.take k).flatMap f) := by
      intro k
      induction k with
      | zero => intro _; simp [cellsH]
      | succ k ih =>
        intro hk
        obtain ⟨a', cs, h1, h2, h3⟩ := hr k (by omega)
        cases h1
        rw [cellsH_shift] at h2
        rw [Nat.succ_mul, List.take_succ_eq_append_getElem (by omega), List.flatMap_append]
        refine cellsH_append (ih (by omega)) ?_
        rw [show cs = f l[k] from h3] at h2
        simpa using h2
    have := key l.length (Nat.le_refl _)
    rw [List.take_length] at this
    simp only [srcCells, this, Option.map_some]
theorem flatMap_one {f : α → Value} (l : List α) : l.flatMap (fun x => [f x]) = l.map f := by
  induction l with
  | nil => rfl
  | cons x l ih => rw [List.flatMap_cons, ih]; rfl
theorem Rd.src1 {f : α → Value} (hr : Rd 1 E h A l) (hE : ∀ x ∈ l, ∀ cs, E h x cs → cs = [f x]) (c : Nat) : srcCells 1 (.slice A l.length c) h = some (l.length, l.map f) := by
  have h1 : Rd 1 (eSt fun x => [f x]) h A l := fun i hi => let ⟨a, cs, h1, h2, h3⟩ := hr i hi; ⟨a, cs, h1, h2, hE _ (List.getElem_mem hi) _ h3⟩
  have := h1.src c
  rw [this, flatMap_one]
theorem Rd.srcInt {k : IntKind} {l : List Int} (hr : Rd 1 (eInt k) h A l) (c : Nat) : srcCells 1 (.slice A l.length c) h = some (l.length, l.map (.int k)) := hr.src1 (fun _ _ _ h => h) c
end
theorem Blk.stAll {h : Heap} {b : Nat} {c : List Value} {t : TypeId} (hb : Blk h b c t) (l : List Value) (hn : l.length = c.length) (hf : ∀ v ∈ l, Flat v) :
    ∃ h', Go.Hw.stH h ⟨b, 0, none⟩ l 0 = some h' ∧ Blk h' b l t ∧ Only h h' b := by
  obtain ⟨h', s1, b1, o1⟩ := Blk.stH l (p := []) (q := c) (r := []) (a := ⟨b, 0, none⟩) (i := 0) (by simpa using hb) rfl rfl rfl hn.symm hf
  exact ⟨h', s1, by simpa using b1, o1⟩
section
variable {H : Type} {enc : TypeId × Value → H} {P : Program} {W : World}
theorem tells_map {α β : Type} {E : Heap → α → List Value → Prop} {F : Heap → β → List Value → Prop} {Q : α → Prop} {Q' : β → Prop} {t : TypeId} (he : Tells enc P W t E Q) (hm : ∀ a cs, E W.heap a cs → Q a → ∃ b, F W.heap b cs ∧ Q' b) : Tells enc P W t F Q' :=
  fun fuel cs x h hw => let ⟨a, ha, qa⟩ := he fuel cs x h hw; hm a cs ha qa
end
end Go.Hw

end
section
namespace Go.Hw
open Go
def Brn (e : List MapEntry) (c : Nat) : Prop := (e.map (·.born)).Pairwise (· < ·) ∧ ∀ x ∈ e, x.born < c
def MapB {α : Type} (kv : α → Value) (h : Heap) (m : Nat) (es : List (α × Value)) : Prop :=
  ∃ (e : Array MapEntry) (clock : Nat), h[m]? = some (.map e clock) ∧ e.toList.map (fun x => (x.key, x.val)) = (es.map fun x => (kv x.1, x.2)) ∧ Brn e.toList clock
theorem Brn.push {e : List MapEntry} {c : Nat} (h : Brn e c) (k v : Value) : Brn (e ++ [{ key := k, val := v, born := c }]) (c + 1) := by
  refine ⟨?_, fun x hx => ?_⟩
  · rw [List.map_append, List.pairwise_append]
    refine ⟨h.1, List.pairwise_singleton .., fun a ha b hb => ?_⟩
    simp only [List.map_cons, List.map_nil, List.mem_singleton] at hb
    obtain ⟨x, hx, rfl⟩ := List.mem_map.1 ha
    rw [hb]; exact h.2 x hx
  · rcases List.mem_append.1 hx with hx | hx
    · have := h.2 x hx; omega
    · rw [List.mem_singleton.1 hx]; exact Nat.lt_succ_self c
theorem Brn.mod {e : List MapEntry} {c : Nat} (h : Brn e c) (i : Nat) (k v : Value) : Brn (e.modify i fun x => { x with key := k, val := v }) c := by
  have hm : (e.modify i fun x => { x with key := k, val := v }).map (·.born) = e.map (·.born) := by
    induction e generalizing i with
    | nil => simp
    | cons x e ih =>
      cases i with
      | zero => simp
      | succ i =>
        rw [List.modify_succ_cons, List.map_cons, List.map_cons, ih ⟨(List.pairwise_cons.1 h.1).2, fun x hx => h.2 x (List.mem_cons_of_mem _ hx)⟩]
  refine ⟨by rw [hm]; exact h.1, fun x hx => ?_⟩
  have : x.born ∈ (e.modify i fun x => { x with key := k, val := v }).map (·.born) := List.mem_map.2 ⟨x, hx, rfl⟩
  rw [hm] at this
  obtain ⟨y, hy, e1⟩ := List.mem_map.1 this
  rw [← e1]; exact h.2 y hy
section
variable {α : Type} {kv : α → Value} {h h' : Heap} {m : Nat} {es : List (α × Value)}
theorem MapB.lt (hb : MapB kv h m es) : m < h.size := by
  obtain ⟨e, c, h1, _⟩ := hb
  exact (Array.getElem?_eq_some_iff.1 h1).1
variable {P : Program} {t : TypeId}
theorem gen_makeMap {K : Value → Heap → Prop} (hk : ∀ h', MapB kv h' h.size [] → Ext h h' → h'.size = h.size + 1 → K (.map (some h.size)) h') : Gen P (Instr.makeMap t none) h K :=
  hk _ ⟨#[], 0, by simp, rfl, .nil, fun x hx => by cases hx⟩ (Ext.push _ _) (by simp)
theorem hwp_getObj {r : Nat} {o : Obj} {K : Obj → Heap → Prop} (h1 : h[r]? = some o) (h2 : ∀ c e f, o ≠ .cells c e f) (hk : K o h) : Hwp P (getObj r) h K := ⟨o, h1, h2, hk⟩
theorem hwp_setObj {r : Nat} {o o' : Obj} {K : Unit → Heap → Prop} (h1 : h[r]? = some o') (h2 : ∀ c e f, o' ≠ .cells c e f) (hk : K () (h.setIfInBounds r o)) : Hwp P (setObj r o) h K := ⟨o', h1, h2, hk⟩
def mget {α : Type} [DecidableEq α] (es : List (α × Value)) (k : α) : Option Value := (es.find? fun x => decide (k = x.1)).map (·.2)
structure KeyOk (P : Program) (t : TypeId) {α : Type} [DecidableEq α] (kv : α → Value) (elem : TypeId) : Prop where
  key : ∃ key kind, P.underlying t = some (.map key elem) ∧ P.underlying key = some kind ∧ (∀ b n v h K, K () h → Hwp P (Instr.checkKey b (n + 1) key (kv v)) h K) ∧ ∀ a b, Instr.sameNow kind (kv a) (kv b) = some (decide (a = b))
  same : ∀ a, Instr.sameBits 10000 (kv a) (kv a) = true
variable [DecidableEq α]
theorem findNow_spec {kind : TypeDesc} (hs : ∀ a b, Instr.sameNow kind (kv a) (kv b) = some (decide (a = b))) (k : α) : ∀ (l : List MapEntry) (es : List (α × Value)) (i : Nat), l.map (fun x => (x.key, x.val)) = es.map (fun x => (kv x.1, x.2)) →
    ∃ r, Instr.findNow kind (kv k) l i = some r ∧ r.map (·.2) = mget es k ∧ (∀ j v, r = some (j, v) → i ≤ j ∧ ∃ x, es[j - i]? = some (k, x) ∧ ∀ q, q < j - i → ∀ y, es[q]? = some y → y.1 ≠ k) := by
  intro l
  induction l with
  | nil =>
    intro es i he
    cases es with
    | nil => exact ⟨none, rfl, rfl, fun j v h => by cases h⟩
    | cons x es => cases he
  | cons e l ih =>
    intro es i he
    cases es with
    | nil => cases he
    | cons x es =>
      simp only [List.map_cons, List.cons.injEq, Prod.mk.injEq] at he
      obtain ⟨⟨hkey, hval⟩, he⟩ := he
      unfold Instr.findNow
      rw [hkey, hs]
      by_cases hkx : k = x.1
      · rw [decide_eq_true hkx]
        refine ⟨_, rfl, ?_, fun j v h => ?_⟩
        · unfold mget
          rw [List.find?_cons_of_pos (by simpa using hkx)]
          simp [hval]
        · cases h
          refine ⟨Nat.le_refl _, x.2, ?_, fun q hq => by omega⟩
          simp [hkx]
      · rw [decide_eq_false hkx]
        obtain ⟨r, h1, h2, h3⟩ := ih es (i + 1) he
        refine ⟨r, h1, ?_, fun j v h => ?_⟩
        · rw [h2]; unfold mget
          rw [List.find?_cons_of_neg (by simpa using hkx)]
        · obtain ⟨h4, y, h5, h6⟩ := h3 j v h
          refine ⟨by omega, y, ?_, fun q hq z hz => ?_⟩
          · rw [show j - i = (j - (i + 1)) + 1 by omega]; simpa using h5
          · cases q with
            | zero => simp at hz; subst hz; exact fun hh => hkx hh.symm
            | succ q => exact h6 q (by omega) z (by simpa using hz)
theorem gen_lookup {elem : TypeId} {z : Value} (ok : KeyOk P t kv elem) (hb : MapB kv h m es) (k : α) (hz : zeroOf P elem = some z) {K : Value → Heap → Prop} (hk : K ((mget es k).getD z) h) : Gen P (Instr.lookup t (.map (some m)) (kv k) false) h K := by
  obtain ⟨key, kind, hu, hkind, hck, hs⟩ := ok.key
  obtain ⟨e, clock, h1, h2, hB⟩ := hb
  unfold Gen Instr.lookup
  refine hwp_bind (hwp_underlying hu ?_)
  refine hwp_bind (hwp_getObj h1 (fun _ _ _ hh => by cases hh) ?_)
  refine hwp_bind (hwp_pure (P := P) ?_)
  refine hwp_bind (hck _ _ _ _ _ ?_)
  unfold Instr.findKey
  refine hwp_bind (hwp_bind (hwp_underlying hkind ?_))
  obtain ⟨r, h3, h4, _⟩ := findNow_spec hs k e.toList es 0 h2
  rw [h3]
  cases r with
  | none =>
    have : mget es k = none := by rw [← h4]; rfl
    rw [this] at hk
    exact hwp_pure (P := P) (hwp_bind (hwp_zero hz (hwp_pure (P := P) (hwp_pure (P := P) hk))))
  | some iv =>
    have : mget es k = some iv.2 := by rw [← h4]; rfl
    rw [this] at hk
    exact hwp_pure (P := P) (hwp_pure (P := P) (hwp_pure (P := P) hk))
theorem gen_lookup2 {elem : TypeId} {z : Value} (ok : KeyOk P t kv elem) (hb : MapB kv h m es) (k : α) (hz : zeroOf P elem = some z) {K : Value → Heap → Prop} (hk : K (.tuple #[(mget es k).getD z, .bool (mget es k).isSome]) h) : Gen P (Instr.lookup t (.map (some m)) (kv k) true) h K := by
  obtain ⟨key, kind, hu, hkind, hck, hs⟩ := ok.key
  obtain ⟨e, clock, h1, h2, hB⟩ := hb
  unfold Gen Instr.lookup
  refine hwp_bind (hwp_underlying hu ?_)
  refine hwp_bind (hwp_getObj h1 (fun _ _ _ hh => by cases hh) ?_)
  refine hwp_bind (hwp_pure (P := P) ?_)
  refine hwp_bind (hck _ _ _ _ _ ?_)
  unfold Instr.findKey
  refine hwp_bind (hwp_bind (hwp_underlying hkind ?_))
  obtain ⟨r, h3, h4, _⟩ := findNow_spec hs k e.toList es 0 h2
  rw [h3]
  cases r with
  | none =>
    have : mget es k = none := by rw [← h4]; rfl
    rw [this] at hk
    exact hwp_pure (P := P) (hwp_bind (hwp_zero hz (hwp_pure (P := P) (hwp_pure (P := P) hk))))
  | some iv =>
    have : mget es k = some iv.2 := by rw [← h4]; rfl
    rw [this] at hk
    exact hwp_pure (P := P) (hwp_pure (P := P) (hwp_pure (P := P) hk))
def mset : List (α × Value) → α → Value → List (α × Value)
  | [], k, v => [(k, v)]
  | x :: es, k, v => if k = x.1 then (k, v) :: es else x :: mset es k v
theorem findNow_set {kind : TypeDesc} (hs : ∀ a b, Instr.sameNow kind (kv a) (kv b) = some (decide (a = b))) (k : α) (v : Value) : ∀ (l : List MapEntry) (es : List (α × Value)) (i : Nat), l.map (fun x => (x.key, x.val)) = es.map (fun x => (kv x.1, x.2)) →
    ∃ r, Instr.findNow kind (kv k) l i = some r ∧ match r with
      | none => mset es k v = es ++ [(k, v)]
      | some (j, _) => i ≤ j ∧ (∃ e, l[j - i]? = some e ∧ e.key = kv k) ∧ (l.modify (j - i) fun e => { e with key := kv k, val := v }).map (fun x => (x.key, x.val)) = (mset es k v).map (fun x => (kv x.1, x.2)) := by
  intro l
  induction l with
  | nil =>
    intro es i he
    cases es with
    | nil => exact ⟨none, rfl, rfl⟩
    | cons x es => cases he
  | cons e l ih =>
    intro es i he
    cases es with
    | nil => cases he
    | cons x es =>
      simp only [List.map_cons, List.cons.injEq, Prod.mk.injEq] at he
      obtain ⟨⟨hkey, hval⟩, he⟩ := he
      unfold Instr.findNow
      rw [hkey, hs]
      by_cases hkx : k = x.1
      · rw [decide_eq_true hkx]
        refine ⟨_, rfl, Nat.le_refl _, ⟨e, by simp, by rw [hkey, hkx]⟩, ?_⟩
        unfold mset
        rw [if_pos hkx, Nat.sub_self]
        simp [he]
      · rw [decide_eq_false hkx]
        obtain ⟨r, h1, h2⟩ := ih es (i + 1) he
        refine ⟨r, h1, ?_⟩
        unfold mset
        rw [if_neg hkx]
        cases r with
        | none => simp only at h2 ⊢; rw [h2]; rfl
        | some jv =>
          simp only at h2 ⊢
          obtain ⟨h3, ⟨e', h4, h5⟩, h6⟩ := h2
          have e1 : jv.1 - i = (jv.1 - (i + 1)) + 1 := by omega
          refine ⟨by omega, ⟨e', by rw [e1]; simpa using h4, h5⟩, ?_⟩
          rw [e1, List.modify_succ_cons, List.map_cons, List.map_cons, h6, hkey, hval]
theorem gen_mapUpdate {elem : TypeId} (ok : KeyOk P t kv elem) (hb : MapB kv h m es) (k : α) (v : Value) {K : Unit → Heap → Prop} (hk : ∀ h', MapB kv h' m (mset es k v) → Only h h' m → K () h') : Hwp P (Instr.mapUpdate t (.map (some m)) (kv k) v) h K := by
  have hlt := hb.lt
  obtain ⟨key, kind, hu, hkind, hck, hs⟩ := ok.key
  obtain ⟨e, clock, h1, h2, hB⟩ := hb
  have only : ∀ o, Only h (h.setIfInBounds m o) m := fun o => ⟨by simp, fun i hi => by rw [Array.getElem?_setIfInBounds, if_neg (fun hh => hi hh.symm)]⟩
  have at' : ∀ o, (h.setIfInBounds m o)[m]? = some o := fun o => by rw [Array.getElem?_setIfInBounds, if_pos rfl, if_pos hlt]
  unfold Instr.mapUpdate
  refine hwp_bind (hwp_underlying hu ?_)
  refine hwp_bind (hwp_getObj h1 (fun _ _ _ hh => by cases hh) ?_)
  refine hwp_bind (hck _ _ _ _ _ ?_)
  unfold Instr.findKey
  refine hwp_bind (hwp_bind (hwp_underlying hkind ?_))
  obtain ⟨r, h3, h4⟩ := findNow_set hs k v e.toList es 0 h2
  rw [h3]
  cases r with
  | none =>
    simp only at h4
    refine hwp_pure (P := P) (hwp_setObj h1 (fun _ _ _ hh => by cases hh) (hk _ ⟨_, _, at' _, ?_, ?_⟩ (only _)))
    · rw [h4, Array.toList_push, List.map_append, List.map_append, h2]; rfl
    · rw [Array.toList_push]; exact hB.push _ _
  | some jv =>
    obtain ⟨j, x⟩ := jv
    simp only at h4
    obtain ⟨_, ⟨e', h5, h6⟩, h7⟩ := h4
    refine hwp_pure (P := P) ?_
    have hkey : ((e[j]?).map (·.key)).getD (kv k) = kv k := by
      have : e[j]? = some e' := by simpa using h5
      rw [this]; exact h6
    show Hwp P (Instr.keyThatStays (((e[j]?).map (·.key)).getD (kv k)) (kv k) >>= _) h K
    rw [hkey]
    refine hwp_bind ?_
    unfold Instr.keyThatStays
    rw [ok.same, if_pos rfl]
    refine hwp_pure (P := P) (hwp_setObj h1 (fun _ _ _ hh => by cases hh) (hk _ ⟨_, _, at' _, ?_, ?_⟩ (only _)))
    · rw [Array.toList_modify]
      exact h7
    · rw [Array.toList_modify]; exact hB.mod _ _ _
end
theorem ba_toList {a b : ByteArray} (h : a.toList = b.toList) : a = b := by
  rw [ByteArray.toList_eq, ByteArray.toList_eq] at h
  obtain ⟨⟨x⟩⟩ := a
  obtain ⟨⟨y⟩⟩ := b
  have : x = y := h
  rw [this]
section
variable {P : Program} {t : TypeId}
theorem keyOk_int {key elem : TypeId} {k : IntKind} (hu : P.underlying t = some (.map key elem)) (hk : P.underlying key = some (.int k)) : KeyOk P t (fun n : Int => Value.int k n) elem where
  key := ⟨key, .int k, hu, hk, fun b n v h K hh => by
      unfold Instr.checkKey
      exact hwp_bind (hwp_underlying hk hh), fun a b => by
      show (if k = k then some (a == b) else none) = _
      rw [if_pos rfl]
      by_cases h : a = b
      · rw [decide_eq_true h, h]; simp
      · rw [decide_eq_false h]; simp [h]⟩
  same := fun a => by simp [Instr.sameBits]
end
end Go.Hw

end
section
namespace Go.Hw
open Go
def bytesOf (l : List Int) : ByteArray := ⟨(l.map fun n => UInt8.ofNat n.toNat).toArray⟩
section
variable {P : Program} {h : Heap}
theorem row_cells {A : Option Addr} {l : List Int} {k : IntKind} (hr : Rd 1 (eInt k) h A l) {a : Addr} (ha : A = some a) : cellsH h a 0 l.length = some (l.map (.int k)) := by
  have := hr.srcInt 0
  subst ha
  simp only [srcCells, Nat.mul_one] at this
  cases hc : cellsH h a 0 l.length with
  | none => rw [hc] at this; simp at this
  | some cs => rw [hc] at this; simp at this; rw [this]
theorem gen_b2s {src dst e : TypeId} {A : Option Addr} {c : Nat} {l : List Int} {K : Value → Heap → Prop} (hsrc : P.underlying src = some (.slice e)) (hdst : P.underlying dst = some .string) (he : P.underlying e = some (.int .u8)) (hr : Rd 1 (eInt .u8) h A l)
    (hk : K (.string (bytesOf l)) h) : Gen P (convert src dst (.slice A l.length c)) h K := by
  unfold Gen convert
  refine hwp_bind (hwp_underlying hsrc (hwp_bind (hwp_underlying hdst ?_)))
  refine hwp_bind (hwp_underlying he ?_)
  unfold Conv.bytesToString
  cases A with
  | none =>
    have : l = [] := by
      cases l with
      | nil => rfl
      | cons x l => obtain ⟨a, _, h1, _⟩ := hr 0 (by simp); cases h1
    subst this
    exact hk
  | some a =>
    refine hwp_bind (hwp_loadCells (row_cells hr rfl) ?_)
    refine hwp_bind ?_
    rw [← Array.forIn_toList]
    have key : ∀ (m : List Int) (s : ByteArray) (K' : ByteArray → Heap → Prop), K' ⟨s.data ++ (m.map fun n => UInt8.ofNat n.toNat).toArray⟩ h → Hwp P (forIn (m.map (Value.int .u8)) s fun c s => match c with | .int .u8 n => pure (ForInStep.yield (s.push (UInt8.ofNat n.toNat))) | _ => stuck "bytesToString: byte expected") h K' := by
      intro m
      induction m with
      | nil => intro s K' hk; exact hwp_pure (P := P) (by simpa using hk)
      | cons x m ih =>
        intro s K' hk
        rw [List.map_cons, List.forIn_cons]
        refine hwp_bind (hwp_pure (P := P) (ih _ K' ?_))
        have : (⟨(s.push (UInt8.ofNat x.toNat)).data ++ (m.map fun n => UInt8.ofNat n.toNat).toArray⟩ : ByteArray) = ⟨s.data ++ ((x :: m).map fun n => UInt8.ofNat n.toNat).toArray⟩ := by
          cases s; simp [ByteArray.push]
        rw [this]; exact hk
    refine key l ByteArray.empty _ ?_
    have e : (⟨ByteArray.empty.data ++ (l.map fun n => UInt8.ofNat n.toNat).toArray⟩ : ByteArray) = bytesOf l := by
      simp [bytesOf, ByteArray.empty, ByteArray.emptyWithCapacity]
      rfl
    rw [e]
    exact hk
end
end Go.Hw

end
section
namespace Go.Hw
open Go
end Go.Hw

end
section
namespace Go.Hw
open Go
def dead : Obj := .cells #[] 0 (0, 0)
def Live (m : Heap) (b : Nat) : Prop := ∃ o, m[b]? = some o ∧ o ≠ dead
def Sub (m h : Heap) : Prop := ∀ (b : Nat) (o : Obj), m[b]? = some o → o ≠ dead → h[b]? = some o
abbrev No : Nat → Prop := fun _ => False
section
variable {m m' h h' k h0 m0 : Heap} {b : Nat} {W W' : Nat → Prop}
theorem Sub.refl (h : Heap) : Sub h h := fun _ _ h _ => h
theorem Sub.trans (s : Sub m h) (t : Sub h k) : Sub m k := fun b o h1 h2 => t b o (s b o h1 h2) h2
theorem Sub.lt (s : Sub m h) (l : Live m b) : b < h.size := by
  obtain ⟨o, h1, h2⟩ := l
  exact (Array.getElem?_eq_some_iff.1 (s b o h1 h2)).1
theorem Sub.ext (s : Sub m h) (e : Ext h h') : Sub m h' := fun b o h1 h2 => by rw [e.2 b (s.lt ⟨o, h1, h2⟩)]; exact s b o h1 h2
theorem Sub.cell (s : Sub m h) {a : Addr} {v : Value} (hc : cellH m a = some v) : cellH h a = some v := by
  unfold cellH at hc
  split at hc
  · rename_i c e f hm
    have hne : (Obj.cells c e f) ≠ dead := by
      intro hd
      unfold dead at hd
      cases hd
      split at hc <;> simp at hc
    unfold cellH
    rw [s _ _ hm hne]; exact hc
  · cases hc
theorem Sub.cells (s : Sub m h) {a : Addr} : ∀ (n i : Nat) {vs : List Value}, cellsH m a i n = some vs → cellsH h a i n = some vs := by
  intro n
  induction n with
  | zero => intro i vs hc; exact hc
  | succ n ih =>
    intro i vs hc
    simp only [cellsH] at hc ⊢
    split at hc
    · rename_i v hv
      rw [s.cell hv]
      split at hc
      · rename_i us hu
        rw [ih _ hu]; exact hc
      · cases hc
    · cases hc
end
structure Tell {α : Type} (sz : Nat) (E : Heap → α → List Value → Prop) : Prop where
  mono : ∀ m h x cs, Sub m h → E m x cs → E h x cs
  len : ∀ h x cs, E h x cs → cs.length = sz
  flat : ∀ h x cs, E h x cs → ∀ v ∈ cs, Flat v
theorem Flats.nil : ∀ v ∈ ([] : List Value), Flat v := fun v hv => by cases hv
theorem Flats.cons {x : Value} {l : List Value} (h : Flat x) (t : ∀ v ∈ l, Flat v) : ∀ v ∈ x :: l, Flat v := fun v hv => by
  rcases List.mem_cons.1 hv with rfl | hv
  · exact h
  · exact t v hv
theorem tell_int (k : IntKind) : Tell 1 (eInt k) := ⟨fun _ _ _ _ _ h => h, fun _ _ _ h => by rw [h]; rfl, fun _ _ _ h => by rw [h]; exact Flats.cons trivial Flats.nil⟩
theorem tell_bool : Tell 1 eBool := ⟨fun _ _ _ _ _ h => h, fun _ _ _ h => by rw [h]; rfl, fun _ _ _ h => by rw [h]; exact Flats.cons trivial Flats.nil⟩
section
variable {α : Type} {sz : Nat} {E : Heap → α → List Value → Prop} {m m' h h' : Heap} {A : Option Addr} {l : List α} {c : Nat}
theorem Rd.sub (r : Rd sz E m A l) (T : Tell sz E) (s : Sub m h) : Rd sz E h A l := fun i hi =>
  let ⟨a, cs, h1, h2, h3⟩ := r i hi
  ⟨a, cs, h1, s.cells _ _ h2, T.mono _ _ _ _ s h3⟩
theorem tell_row (T : Tell sz E) : Tell 1 (eRow sz E) := ⟨fun _ _ _ _ s ⟨A, c, h1, h2, h3⟩ => ⟨A, c, h1, h2, h3.sub T s⟩, fun _ _ _ ⟨A, c, h1, _, _⟩ => by rw [h1]; rfl, fun _ _ _ ⟨A, c, h1, _, _⟩ => by rw [h1]; exact Flats.cons trivial Flats.nil⟩
end
structure St (W : Nat → Prop) (h0 m0 h m : Heap) : Prop where
  up : Sub m0 m
  s : Sub m h
  size : h0.size ≤ h.size
  fr : ∀ b, b < h0.size → ¬ W b → h[b]? = h0[b]?
  lv : ∀ b, b < h0.size → Live m b → Live m0 b ∨ W b
def fb (b0 b : Nat) : Prop := b = b0
def fp (A : Option Addr) (c : Nat) (b : Nat) : Prop := c ≠ 0 ∧ ∃ a, A = some a ∧ a.block = b
def Dj (F G : Nat → Prop) : Prop := ∀ b, F b → G b → False
section
variable {m m' h h' h0 m0 : Heap} {b b' : Nat} {W W' F G G' : Nat → Prop}
theorem Dj.symm (d : Dj F G) : Dj G F := fun b h1 h2 => d b h2 h1
theorem Dj.no : Dj No F := fun _ h _ => h
theorem St.refl (s : Sub m h) : St W h m h m := ⟨.refl _, s, Nat.le_refl _, fun _ _ _ => rfl, fun _ _ h => .inl h⟩
theorem St.of_ext (s : Sub m h) (e : Ext h h') : St W h m h' m := ⟨.refl _, s.ext e, e.1, fun b hb _ => e.2 b hb, fun _ _ h => .inl h⟩
theorem St.ext (S : St No h m h' m') : Ext h h' := ⟨S.size, fun b hb => S.fr b hb (fun h => h)⟩
theorem St.then (S : St W h0 m0 h m) (T : St W' h m h' m') (hw : ∀ b, b < h.size → W' b → h0.size ≤ b ∨ W b) : St W h0 m0 h' m' where
  up := S.up.trans T.up
  s := T.s
  size := Nat.le_trans S.size T.size
  fr b hb hn := by
    rw [T.fr b (by have := S.size; omega) (fun hw' => (hw b (by have := S.size; omega) hw').elim (fun h => by omega) hn)]
    exact S.fr b hb hn
  lv b hb hl := by
    rcases T.lv b (by have := S.size; omega) hl with h1 | h1
    · exact S.lv b hb h1
    · exact .inr ((hw b (by have := S.size; omega) h1).elim (fun h => by omega) id)
theorem St.grow (S : St W h0 m0 h m) (T : St No h m h' m') : St W h0 m0 h' m' := S.then T fun _ _ h => h.elim
theorem St.notLive (s : Sub m h) : ¬ Live m h.size := fun l => by have := s.lt l; omega
theorem St.only (s : Sub m h) (hn : ¬ Live m b) (o : Only h h' b) : St (fb b) h m h' m where
  up := .refl _
  s i x h1 h2 := by
    rw [o.2 i (fun e => hn (e ▸ ⟨x, h1, h2⟩))]; exact s i x h1 h2
  size := by rw [o.1]; exact Nat.le_refl _
  fr i _ hw := o.2 i hw
  lv i _ hl := .inl hl
end
open Classical in
noncomputable def addV (m h : Heap) (F : Nat → Prop) : Heap := Array.ofFn (n := h.size) fun i => if Live m i.1 ∨ F i.1 then h[i.1] else dead
section
variable {m h : Heap} {b : Nat} {F : Nat → Prop}
theorem addV_get (hb : b < h.size) (hl : Live m b ∨ F b) : (addV m h F)[b]? = h[b]? := by
  unfold addV
  rw [Array.getElem?_ofFn, dif_pos hb, if_pos hl, Array.getElem?_eq_getElem hb]
theorem addV_live (hl : Live (addV m h F) b) : (Live m b ∨ F b) ∧ b < h.size := by
  obtain ⟨o, h1, h2⟩ := hl
  unfold addV at h1
  rw [Array.getElem?_ofFn] at h1
  split at h1
  · rename_i hb
    refine ⟨?_, hb⟩
    by_cases hc : Live m b ∨ F b
    · exact hc
    · rw [if_neg hc] at h1; cases h1; exact (h2 rfl).elim
  · cases h1
theorem addV_sub : Sub (addV m h F) h := fun b o h1 h2 => by
  have := addV_live ⟨o, h1, h2⟩
  rw [← addV_get this.2 this.1]; exact h1
theorem addV_up (s : Sub m h) : Sub m (addV m h F) := fun b o h1 h2 => by
  rw [addV_get (s.lt ⟨o, h1, h2⟩) (.inl ⟨o, h1, h2⟩)]; exact s b o h1 h2
theorem St.settle (s : Sub m h) (F : Nat → Prop) : St F h m h (addV m h F) := ⟨addV_up s, addV_sub, Nat.le_refl _, fun _ _ _ => rfl, fun _ _ hl => (addV_live hl).1⟩
theorem Blk.settle {c : List Value} {t : TypeId} (hb : Blk h b c t) (hF : F b) : Blk (addV m h F) b c t := by
  unfold Blk at *
  rw [addV_get (Blk.lt hb) (.inr hF)]; exact hb
end
section
variable {α : Type} {sz : Nat} {E : Heap → α → List Value → Prop} {m m' h h' h0 m0 : Heap} {A : Option Addr} {l l' : List α} {c : Nat} {cs ds : List Value} {x y : α} {W W' : Nat → Prop}
def CsE (sz : Nat) (E : Heap → α → List Value → Prop) (m : Heap) : List α → List Value → Prop
  | [], cs => cs = []
  | x :: l, cs => ∃ c1 c2, cs = c1 ++ c2 ∧ c1.length = sz ∧ E m x c1 ∧ CsE sz E m l c2
theorem CsE.nil : CsE sz E m ([] : List α) [] := rfl
theorem CsE.cons {c1 : List Value} (h1 : E m x c1) (h2 : c1.length = sz) (h : CsE sz E m l cs) : CsE sz E m (x :: l) (c1 ++ cs) := ⟨c1, cs, rfl, h2, h1, h⟩
theorem CsE.len : ∀ {l : List α} {cs : List Value}, CsE sz E m l cs → cs.length = l.length * sz := by
  intro l
  induction l with
  | nil => intro cs h; rw [show cs = [] from h]; simp
  | cons x l ih => rintro cs ⟨c1, c2, rfl, h1, h2, h3⟩; rw [List.length_append, ih h3, h1, List.length_cons, Nat.succ_mul, Nat.add_comm]
theorem CsE.append : ∀ {l l' : List α} {cs ds : List Value}, CsE sz E m l cs → CsE sz E m l' ds → CsE sz E m (l ++ l') (cs ++ ds) := by
  intro l
  induction l with
  | nil => intro l' cs ds h h'; rw [show cs = [] from h]; exact h'
  | cons x l ih => rintro l' cs ds ⟨c1, c2, rfl, h1, h2, h3⟩ h'; rw [List.append_assoc]; exact ⟨c1, c2 ++ ds, rfl, h1, h2, ih h3 h'⟩
theorem CsE.sub (T : Tell sz E) (s : Sub m h) : ∀ {l : List α} {cs : List Value}, CsE sz E m l cs → CsE sz E h l cs := by
  intro l
  induction l with
  | nil => intro cs h; exact h
  | cons x l ih => rintro cs ⟨c1, c2, rfl, h1, h2, h3⟩; exact ⟨c1, c2, rfl, h1, T.mono _ _ _ _ s h2, ih h3⟩
theorem CsE.flat (T : Tell sz E) : ∀ {l : List α} {cs : List Value}, CsE sz E m l cs → ∀ v ∈ cs, Flat v := by
  intro l
  induction l with
  | nil => intro cs h; rw [show cs = [] from h]; exact Flats.nil
  | cons x l ih =>
    rintro cs ⟨c1, c2, rfl, h1, h2, h3⟩ v hv
    rcases List.mem_append.1 hv with hv | hv
    · exact T.flat _ _ _ h2 v hv
    · exact ih h3 v hv
theorem CsE.get : ∀ {l : List α} {cs : List Value} {i : Nat}, CsE sz E m l cs → l[i]? = some y → E m y ((cs.drop (i * sz)).take sz) ∧ i * sz + sz ≤ cs.length := by
  intro l
  induction l with
  | nil => intro cs i h h'; cases h'
  | cons x l ih =>
    rintro cs i ⟨c1, c2, rfl, h1, h2, h3⟩ hy
    cases i with
    | zero =>
      cases hy
      simp only [Nat.zero_mul, List.drop_zero]
      rw [← h1, List.take_left]
      exact ⟨h2, by simp⟩
    | succ i =>
      have := ih (i := i) h3 (by simpa using hy)
      rw [show (i + 1) * sz = c1.length + i * sz by rw [h1, Nat.succ_mul, Nat.add_comm], ← List.drop_drop, List.drop_left, List.length_append]
      exact ⟨this.1, by omega⟩
theorem CsE.set {c1 : List Value} (hx : E m x c1) (hz : c1.length = sz) : ∀ {l : List α} {cs : List Value} {i : Nat}, CsE sz E m l cs → i < l.length → CsE sz E m (l.set i x) (cs.take (i * sz) ++ c1 ++ cs.drop (i * sz + sz)) := by
  intro l
  induction l with
  | nil => intro cs i h h'; cases h'
  | cons y l ih =>
    rintro cs i ⟨d1, d2, rfl, h1, h2, h3⟩ hi
    cases i with
    | zero =>
      simp only [Nat.zero_mul, List.take_zero, List.nil_append, Nat.zero_add, List.set_cons_zero]
      rw [← h1, List.drop_left]
      exact ⟨c1, d2, rfl, by rw [hz, h1], hx, by rw [h1]; exact h3⟩
    | succ i =>
      have := ih (i := i) h3 (by simpa using hi)
      rw [show (i + 1) * sz = d1.length + i * sz by rw [h1, Nat.succ_mul, Nat.add_comm], List.take_length_add_append, show d1.length + i * sz + sz = d1.length + (i * sz + sz) by omega, List.drop_length_add_append, List.set_cons_succ]
      exact ⟨d1, _, by simp [List.append_assoc], h1, h2, this⟩
theorem CsE.drop : ∀ {l : List α} {cs : List Value} (k : Nat), CsE sz E m l cs → CsE sz E m (l.drop k) (cs.drop (k * sz)) := by
  intro l
  induction l with
  | nil => intro cs k h; rw [show cs = [] from h]; simp [CsE]
  | cons x l ih =>
    rintro cs k ⟨c1, c2, rfl, h1, h2, h3⟩
    cases k with
    | zero => rw [Nat.zero_mul, List.drop_zero, List.drop_zero]; exact ⟨c1, c2, rfl, h1, h2, h3⟩
    | succ k =>
      rw [show (k + 1) * sz = c1.length + k * sz by rw [h1, Nat.succ_mul, Nat.add_comm], ← List.drop_drop (l := c1 ++ c2), List.drop_left, List.drop_succ_cons]
      exact ih k h3
theorem CsE.take : ∀ {l : List α} {cs : List Value} (k : Nat), CsE sz E m l cs → CsE sz E m (l.take k) (cs.take (k * sz)) := by
  intro l
  induction l with
  | nil => intro cs k h; rw [show cs = [] from h]; simp [CsE]
  | cons x l ih =>
    rintro cs k ⟨c1, c2, rfl, h1, h2, h3⟩
    cases k with
    | zero => simp [CsE]
    | succ k =>
      rw [show (k + 1) * sz = c1.length + k * sz by rw [h1, Nat.succ_mul, Nat.add_comm], List.take_length_add_append, List.take_succ_cons]
      exact ⟨c1, _, rfl, h1, h2, ih k h3⟩
theorem Rd.tail (r : Rd sz E m A (x :: l)) : ∀ a, A = some a → Rd sz E m (some (a.add sz)) l := by
  intro a ha i hi
  obtain ⟨a', cs, h1, h2, h3⟩ := r (i + 1) (by simpa using hi)
  rw [ha] at h1; cases h1
  refine ⟨_, cs, rfl, ?_, h3⟩
  rw [add_add, show sz + i * sz = (i + 1) * sz by rw [Nat.succ_mul, Nat.add_comm]]; exact h2
theorem Rd.cse (T : Tell sz E) : ∀ {l : List α} {a : Addr}, Rd sz E m (some a) l → ∃ cs, cellsH m a 0 (l.length * sz) = some cs ∧ CsE sz E m l cs := by
  intro l
  induction l with
  | nil => intro a r; exact ⟨[], by simp [cellsH], rfl⟩
  | cons x l ih =>
    intro a r
    obtain ⟨cs, h1, h2⟩ := ih (r.tail a rfl)
    obtain ⟨a', c1, h3, h4, h5⟩ := r 0 (by simp)
    cases h3
    rw [Nat.zero_mul, show a.add 0 = a from rfl] at h4
    refine ⟨c1 ++ cs, ?_, c1, cs, rfl, T.len _ _ _ h5, h5, h2⟩
    rw [List.length_cons, Nat.succ_mul, Nat.add_comm]
    refine cellsH_append h4 ?_
    rw [cellsH_shift] at h1
    simpa using h1
theorem CsE.rd {b : Nat} {t : TypeId} {pre rest : List Value} (hb : Blk h b (pre ++ cs ++ rest) t) (hc : CsE sz E m l cs) (hm : ∀ x cs, E m x cs → E h x cs) : Rd sz E h (some ⟨b, pre.length, none⟩) l := by
  intro i hi
  have hg := hc.get (List.getElem?_eq_getElem hi)
  refine ⟨_, _, rfl, ?_, hm _ _ hg.1⟩
  have := hb.cells (a := (⟨b, pre.length, none⟩ : Addr).add (i * sz)) (by rw [add_block]) (add_spot _ rfl) sz 0 (by rw [add_off, List.length_append, List.length_append]; simp only [Nat.add_zero]; omega)
  rw [this, add_off]
  simp only [Nat.add_zero]
  rw [List.append_assoc, ← List.drop_drop, List.drop_left, List.drop_append_of_le_length (by omega), List.take_append_of_le_length (by rw [List.length_drop]; omega)]
def OS (W : Nat → Prop) (h0 : Heap) (sz : Nat) (E : Heap → α → List Value → Prop) (h m : Heap) (A : Option Addr) (l : List α) (c : Nat) : Prop :=
  (l = [] ∧ c = 0) ∨ ∃ b t pre cs rest, A = some ⟨b, pre.length, none⟩ ∧ Blk h b (pre ++ cs ++ rest) t ∧ CsE sz E m l cs ∧ l.length ≤ c ∧ (c - l.length) * sz ≤ rest.length ∧ (h0.size ≤ b ∨ W b) ∧ ¬ Live m b
theorem OS.cap (o : OS W h0 sz E h m A l c) : l.length ≤ c := by
  rcases o with ⟨rfl, rfl⟩ | ⟨b, t, pre, cs, rest, h1, h2, h3, h4, h5, h6, h7⟩
  · exact Nat.le_refl _
  · exact h4
theorem OS.rd (o : OS W h0 sz E h m A l c) (T : Tell sz E) (s : Sub m h) : Rd sz E h A l := by
  rcases o with ⟨rfl, rfl⟩ | ⟨b, t, pre, cs, rest, h1, h2, h3, h4, h5, h6, h7⟩
  · exact .nil
  · subst h1
    exact CsE.rd h2 (h3.sub T s) (fun _ _ h => h)
def OB (W : Nat → Prop) (h0 h m : Heap) (b : Nat) (cs : List Value) (t : TypeId) : Prop := Blk h b cs t ∧ (h0.size ≤ b ∨ W b) ∧ ¬ Live m b
variable {b : Nat} {t : TypeId}
theorem OB.all (o : OB W h0 h m b cs t) : cellsH h ⟨b, 0, none⟩ 0 cs.length = some cs := by
  have := o.1.cells (a := ⟨b, 0, none⟩) rfl rfl cs.length 0 (by simp)
  simpa using this
end
end Go.Hw

end
section
namespace Go.Hw
def LeO {β : Type} (a b : Option β) : Prop := ∀ r, a = some r → b = some r
theorem LeO.refl {β : Type} (a : Option β) : LeO a a := fun _ h => h
theorem LeO.bind {β γ : Type} {a b : Option β} {f g : β → Option γ} (h : LeO a b) (k : ∀ x, LeO (f x) (g x)) : LeO (a.bind f) (b.bind g) := by
  intro r hr
  cases a with
  | none => cases hr
  | some x => rw [h x rfl]; exact k x r hr
theorem LeO.ite {β : Type} {p : Prop} [Decidable p] {a b a' b' : Option β} (h : LeO a a') (k : LeO b b') : LeO (if p then a else b) (if p then a' else b') := by
  by_cases c : p
  · rw [if_pos c, if_pos c]; exact h
  · rw [if_neg c, if_neg c]; exact k
section
variable {α : Type} {β : α → Type} {F : ((x : α) → Option (β x)) → (x : α) → Option (β x)}
def MonoF (F : ((x : α) → Option (β x)) → (x : α) → Option (β x)) : Prop := ∀ f g, (∀ x, LeO (f x) (g x)) → ∀ x, LeO (F f x) (F g x)
def FixR (F : ((x : α) → Option (β x)) → (x : α) → Option (β x)) (x : α) (r : β x) : Prop :=
  ∀ I : (x : α) → β x → Prop, (∀ f, (∀ x r, f x = some r → I x r) → ∀ x r, F f x = some r → I x r) → I x r
theorem FixR.close {f : (x : α) → Option (β x)} (hf : ∀ x r, f x = some r → FixR F x r) {x : α} {r : β x} (h : F f x = some r) : FixR F x r :=
  fun I hI => hI f (fun y s hs => hf y s hs I hI) x r h
theorem FixR.uniq (M : MonoF F) {x : α} {r r' : β x} (h : FixR F x r) (h' : FixR F x r') : r = r' := by
  refine (h (fun x r => FixR F x r ∧ ∀ r', FixR F x r' → r = r') ?_).2 r' h'
  intro f hf x r hr
  refine ⟨FixR.close (fun y s hs => (hf y s hs).1) hr, fun s hs => ?_⟩
  have key := hs (fun y s => FixR F y s ∧ ∀ e : x = y, (e ▸ r) = s) ?_
  · exact key.2 rfl
  intro f' hf' y t ht
  refine ⟨FixR.close (fun z s hs => (hf' z s hs).1) ht, ?_⟩
  rintro rfl
  let g : (x : α) → Option (β x) := fun z => match f z with | some u => some u | none => f' z
  have hfg : ∀ z, LeO (f z) (g z) := fun z u hu => by simp only [g, hu]
  have hfg' : ∀ z, LeO (f' z) (g z) := by
    intro z u hu
    simp only [g]
    cases hz : f z with
    | none => exact hu
    | some w => simp only; rw [(hf z w hz).2 u (hf' z u hu).1]
  have e1 := M f g hfg _ _ hr
  have e2 := M f' g hfg' _ _ ht
  rw [e1] at e2
  exact Option.some.inj e2
open Classical in
noncomputable def fixF (F : ((x : α) → Option (β x)) → (x : α) → Option (β x)) (x : α) : Option (β x) := if h : ∃ r, FixR F x r then some (Classical.choose h) else none
theorem fixF_iff (M : MonoF F) {x : α} {r : β x} : fixF F x = some r ↔ FixR F x r := by
  unfold fixF
  constructor
  · intro h
    split at h
    · rename_i hx; cases h; exact Classical.choose_spec hx
    · cases h
  · intro h
    rw [dif_pos ⟨r, h⟩, FixR.uniq M (Classical.choose_spec (⟨r, h⟩ : ∃ r, FixR F x r)) h]
theorem fixF_eq (M : MonoF F) (x : α) : fixF F x = F (fixF F) x := by
  have h1 : ∀ r, fixF F x = some r → F (fixF F) x = some r := by
    intro r hr
    refine ((fixF_iff M).1 hr (fun x r => FixR F x r ∧ F (fixF F) x = some r) ?_).2
    intro f hf y s hs
    refine ⟨FixR.close (fun z s hs => (hf z s hs).1) hs, ?_⟩
    exact M f (fixF F) (fun z u hu => (fixF_iff M).2 (hf z u hu).1) _ _ hs
  have h2 : ∀ r, F (fixF F) x = some r → fixF F x = some r := fun r hr => (fixF_iff M).2 (FixR.close (fun y s hs => (fixF_iff M).1 hs) hr)
  cases h : fixF F x with
  | some r => exact (h1 r h).symm
  | none =>
    cases k : F (fixF F) x with
    | none => rfl
    | some r => rw [h2 r k] at h; cases h
theorem fixF_ind (M : MonoF F) {I : (x : α) → β x → Prop} (hI : ∀ f, (∀ x r, f x = some r → I x r) → ∀ x r, F f x = some r → I x r) {x : α} {r : β x} (h : fixF F x = some r) : I x r := (fixF_iff M).1 h I hI
end
end Go.Hw

end
section
namespace Go.Hw
open Go
section tests
variable {A B : Prop} {β γ : Type} {a b : Option β} {r : β}
theorem bind_e {a : Option γ} {f : γ → Option β} (e : a.bind f = some r) : ∃ x, a = some x ∧ f x = some r := by
  cases a with
  | none => cases e
  | some x => exact ⟨x, rfl, e⟩
theorem guard_e {p : Prop} [Decidable p] (e : (if p then a else none) = some r) : p ∧ a = some r := by
  by_cases h : p
  · rw [if_pos h] at e; exact ⟨h, e⟩
  · rw [if_neg h] at e; cases e
theorem split_dec_e {p : Prop} [Decidable p] (e : (if p then a else b) = some r) (hA : p → a = some r → A) (hB : ¬ p → b = some r → B) : splitB (decide p) A B := by
  by_cases h : p
  · rw [if_pos h] at e; rw [decide_eq_true h]; exact hA h e
  · rw [if_neg h] at e; rw [decide_eq_false h]; exact hB h e
theorem split_eq_e {x y : Int} (e : (if x = y then a else b) = some r) (hA : x = y → a = some r → A) (hB : x ≠ y → b = some r → B) : splitB (x == y) A B := by
  by_cases h : x = y
  · rw [if_pos h] at e; rw [show (x == y) = true from beq_iff_eq.2 h]; exact hA h e
  · rw [if_neg h] at e; rw [show (x == y) = false from beq_eq_false_iff_ne.2 h]; exact hB h e
theorem split_ne_e {x y : Int} (e : (if x = y then b else a) = some r) (hA : x ≠ y → a = some r → A) (hB : x = y → b = some r → B) : splitB (x != y) A B := by
  by_cases h : x = y
  · rw [if_pos h] at e; rw [show (x != y) = false from bne_eq_false_iff_eq.2 h]; exact hB h e
  · rw [if_neg h] at e; rw [show (x != y) = true from bne_iff_ne.2 h]; exact hA h e
theorem split_any_e {t : Bool} (e : (if t = true then a else b) = some r) (hA : t = true → a = some r → A) (hB : t = false → b = some r → B) : splitB t A B := by
  cases t
  · exact hB rfl e
  · exact hA rfl e
theorem ba_list (s t : ByteArray) : (ByteArray.toList s == ByteArray.toList t) = decide (s = t) := by
  by_cases h : s = t
  · subst h; simp
  · rw [decide_eq_false h]
    exact beq_eq_false_iff_ne.2 fun e => h (ba_toList e)
end tests
section
variable {α : Type} {l : List α} {x : Int} {y : α}
def gi (l : List α) (x : Int) : Option α := if 0 ≤ x then l[x.toNat]? else none
theorem gi_nat (l : List α) (k : Nat) : gi l (k : Int) = l[k]? := by unfold gi; rw [if_pos (by omega)]; rfl
theorem gi_le (g : gi l x = some y) : 0 ≤ x := by unfold gi at g; split at g; assumption; cases g
theorem gi_get (g : gi l x = some y) : l[x.toNat]? = some y := by unfold gi at g; split at g; exact g; cases g
theorem gi_lt (g : gi l x = some y) : x < (l.length : Int) := by
  have h1 := gi_get g
  have h2 := gi_le g
  have := (List.getElem?_eq_some_iff.1 h1).1
  omega
theorem gi_ltN (g : gi l x = some y) : x.toNat < l.length := (List.getElem?_eq_some_iff.1 (gi_get g)).1
def gb (s : ByteArray) (x : Int) : Option Int := if 0 ≤ x then s[x.toNat]?.map fun b => ((UInt8.toNat b : Nat) : Int) else none
theorem gb_e {s : ByteArray} {x y : Int} (g : gb s x = some y) : 0 ≤ x ∧ ∃ b, s[x.toNat]? = some b ∧ y = ((UInt8.toNat b : Nat) : Int) := by
  unfold gb at g
  split at g
  · rename_i h
    cases hb : s[x.toNat]? with
    | none => rw [hb] at g; cases g
    | some b => rw [hb] at g; cases g; exact ⟨h, b, rfl, rfl⟩
  · cases g
def sl (l : List α) (lo hi : Int) : List α := (l.take hi.toNat).drop lo.toNat
theorem sl_len {lo hi : Int} (h1 : 0 ≤ lo) (h2 : lo ≤ hi) (h3 : hi ≤ (l.length : Int)) : Int.toNat hi - Int.toNat lo = (sl l lo hi).length := by
  unfold sl; rw [List.length_drop, List.length_take]; omega
theorem sl_lo {lo : Int} : sl l lo (l.length : Int) = l.drop lo.toNat := by unfold sl; simp
end
section
variable {α : Type} {sz : Nat} {E : Heap → α → List Value → Prop} {m m' h h' h0 m0 : Heap} {A : Option Addr} {l : List α} {c n k : Nat} {cs : List Value} {x : Int} {y : α} {W : Nat → Prop} {a : Addr} {v : Value} {b : Nat} {t : TypeId}
theorem Rd.addr {K : Addr → Prop} (r : Rd sz E m A l) (hn : n = l.length) (g : gi l x = some y) (hk : ∀ a cs, A = some a → cellsH m (a.add (Int.toNat x * sz)) 0 sz = some cs → E m y cs → K a) : ptrOk A fun a => 0 ≤ x ∧ x < ((n : Nat) : Int) ∧ K a := by
  subst hn
  have h1 := gi_get g
  obtain ⟨hi, h2⟩ := List.getElem?_eq_some_iff.1 h1
  obtain ⟨a, cs, rfl, h3, h4⟩ := r _ hi
  rw [h2] at h4
  exact ⟨gi_le g, gi_lt g, hk a cs rfl h3 h4⟩
theorem OS.cellsAt (o : OS W h0 sz E h m A l c) (g : gi l x = some y) : ∃ a cs, A = some a ∧ cellsH h (a.add (Int.toNat x * sz)) 0 sz = some cs ∧ E m y cs := by
  have h1 := gi_get g
  rcases o with ⟨rfl, rfl⟩ | ⟨b, t, pre, cs, rest, rfl, h3, h4, h5, h6, h7⟩
  · cases h1
  have h8 := h4.get h1
  refine ⟨_, _, rfl, ?_, h8.1⟩
  have := h3.cells (a := (⟨b, pre.length, none⟩ : Addr).add (x.toNat * sz)) (by rw [add_block]) (add_spot _ rfl) sz 0 (by rw [add_off, List.length_append, List.length_append]; simp only [Nat.add_zero]; omega)
  rw [this, add_off]
  simp only [Nat.add_zero]
  rw [List.append_assoc, ← List.drop_drop, List.drop_left, List.drop_append_of_le_length (by omega), List.take_append_of_le_length (by rw [List.length_drop]; omega)]
theorem OS.addr {K : Addr → Prop} (o : OS W h0 sz E h m A l c) (hn : n = l.length) (g : gi l x = some y) (hk : ∀ a cs, A = some a → cellsH h (a.add (Int.toNat x * sz)) 0 sz = some cs → E m y cs → K a) : ptrOk A fun a => 0 ≤ x ∧ x < ((n : Nat) : Int) ∧ K a := by
  subst hn
  obtain ⟨a, cs, rfl, h1, h2⟩ := o.cellsAt g
  exact ⟨gi_le g, gi_lt g, hk a cs rfl h1 h2⟩
theorem ld0 (s : Sub m h) (hc : cellsH m a 0 n = some cs) (hv : cs[0]? = some v) : ldv false 1 h a = some v := by
  have h1 : cellH h (a.add 0) = some v := cellsH_get (s.cells _ _ hc) hv
  exact h1
theorem ldk (s : Sub m h) (hc : cellsH m a 0 n = some cs) (hv : cs[k]? = some v) : ldv false 1 h (Addr.add a k) = some v := by
  have := cellsH_get (s.cells _ _ hc) hv
  simpa [ldv] using this
theorem ldA (s : Sub m h) (hc : cellsH m a 0 n = some cs) : ldv true n h a = some (.agg cs.toArray) := by
  simp only [ldv, s.cells _ _ hc, Option.map_some]
theorem cellsH_part : ∀ {n i : Nat} {cs : List Value} (k j : Nat), cellsH h a i n = some cs → k + j ≤ n → cellsH h a (i + k) j = some ((cs.drop k).take j) := by
  intro n
  induction n with
  | zero =>
    intro i cs k j hc hk
    obtain ⟨rfl, rfl⟩ : k = 0 ∧ j = 0 := by omega
    simp [cellsH]
  | succ n ih =>
    intro i cs k j hc hk
    cases k with
    | succ k =>
      simp only [cellsH] at hc
      split at hc
      · split at hc
        · rename_i vs hvs
          cases hc
          have := ih k j hvs (by omega)
          rw [show i + (k + 1) = i + 1 + k by omega, this]; simp
        · cases hc
      · cases hc
    | zero =>
      cases j with
      | zero => simp [cellsH]
      | succ j =>
        simp only [cellsH] at hc
        split at hc
        · rename_i u hu
          split at hc
          · rename_i vs hvs
            cases hc
            have := ih 0 j hvs (by omega)
            simp only [Nat.add_zero, List.drop_zero] at this
            simp only [Nat.add_zero, cellsH, hu, this, List.drop_zero, List.take_succ_cons]
          · cases hc
        · cases hc
theorem OB.st (o : OB W h0 h m b cs t) (s : Sub m h) (hk : k < cs.length) (hf : Flat v) : ∃ h', st1 h (Addr.add ⟨b, 0, none⟩ k) v = some h' ∧ OB W h0 h' m b (cs.set k v) t ∧ St (fb b) h m h' m := by
  obtain ⟨h', h1, h2, h3⟩ := o.1.st (a := Addr.add ⟨b, 0, none⟩ k) (v := v) (add_block _ _) (add_spot _ rfl) (by rw [add_off]; simpa using hk) hf
  rw [add_off, Nat.zero_add] at h2
  exact ⟨h', h1, ⟨h2, o.2⟩, .only s o.2.2 h3⟩
theorem OB.stA (o : OB W h0 h m b cs t) (s : Sub m h) (l : List Value) (hn : l.length = cs.length) (hf : ∀ v ∈ l, Flat v) : ∃ h', stH h ⟨b, 0, none⟩ l 0 = some h' ∧ OB W h0 h' m b l t ∧ St (fb b) h m h' m := by
  obtain ⟨h', h1, h2, h3⟩ := o.1.stAll l hn hf
  exact ⟨h', h1, ⟨h2, o.2⟩, .only s o.2.2 h3⟩
theorem OS.stP (o : OS W h0 sz E h m A l c) (T : Tell sz E) (s : Sub m h) (g : gi l x = some y) (ha : A = some a) (hc : cellsH h (Addr.add a (Int.toNat x * sz)) 0 sz = some cs) {ds : List Value} {y' : α} (k : Nat) (hk : k + ds.length ≤ sz) (hy : E m y' (cs.take k ++ ds ++ cs.drop (k + ds.length))) (hf : ∀ v ∈ ds, Flat v) :
    ∃ h', stH h (Addr.add (Addr.add a (Int.toNat x * sz)) k) ds 0 = some h' ∧ OS W h0 sz E h' m A (l.set (Int.toNat x) y') c ∧ St (fp A c) h m h' m := by
  have h1 := gi_get g
  have hlt := gi_ltN g
  rcases o with ⟨rfl, rfl⟩ | ⟨b, t, pre, es, rest, rfl, h3, h4, h5, h6, h7, h8⟩
  · cases h1
  cases ha
  have h9 := h4.get h1
  have hcs : cs = (es.drop (x.toNat * sz)).take sz := by
    have := h3.cells (a := (⟨b, pre.length, none⟩ : Addr).add (x.toNat * sz)) (by rw [add_block]) (add_spot _ rfl) sz 0 (by rw [add_off, List.length_append, List.length_append]; simp only [Nat.add_zero]; omega)
    rw [hc, add_off] at this
    simp only [Nat.add_zero, Option.some.injEq] at this
    rw [this, List.append_assoc, ← List.drop_drop, List.drop_left, List.drop_append_of_le_length (by omega), List.take_append_of_le_length (by rw [List.length_drop]; omega)]
  have hlen : cs.length = sz := cellsH_length hc
  have hes : es = es.take (x.toNat * sz) ++ cs ++ es.drop (x.toNat * sz + sz) := by
    rw [hcs, List.append_assoc, ← List.drop_drop, List.take_append_drop, List.take_append_drop]
  have hcs2 : cs = cs.take k ++ (cs.drop k).take ds.length ++ cs.drop (k + ds.length) := by
    rw [List.append_assoc, ← List.drop_drop, List.take_append_drop, List.take_append_drop]
  have hb : Blk h b ((pre ++ es.take (x.toNat * sz) ++ cs.take k) ++ (cs.drop k).take ds.length ++ (cs.drop (k + ds.length) ++ (es.drop (x.toNat * sz + sz) ++ rest))) t := by
    have : (pre ++ es.take (x.toNat * sz) ++ cs.take k) ++ (cs.drop k).take ds.length ++ (cs.drop (k + ds.length) ++ (es.drop (x.toNat * sz + sz) ++ rest)) = pre ++ es ++ rest := by
      conv => rhs; rw [hes]; rw [hcs2]
      simp only [List.append_assoc]
    rw [this]; exact h3
  obtain ⟨h', s1, b1, o1⟩ := Blk.stH ds (a := Addr.add (Addr.add ⟨b, pre.length, none⟩ (x.toNat * sz)) k) (i := 0) hb (by rw [add_block, add_block]) (add_spot _ (add_spot _ rfl))
    (by rw [add_off, add_off, List.length_append, List.length_append, List.length_take, List.length_take]; simp only [Nat.add_zero]; omega) (by rw [List.length_take, List.length_drop]; omega) hf
  refine ⟨h', s1, .inr ⟨b, t, pre, es.take (x.toNat * sz) ++ (cs.take k ++ ds ++ cs.drop (k + ds.length)) ++ es.drop (x.toNat * sz + sz), rest, rfl, ?_, ?_, ?_, ?_, h7, h8⟩, ?_⟩
  · have : pre ++ (es.take (x.toNat * sz) ++ (cs.take k ++ ds ++ cs.drop (k + ds.length)) ++ es.drop (x.toNat * sz + sz)) ++ rest = (pre ++ es.take (x.toNat * sz) ++ cs.take k) ++ ds ++ (cs.drop (k + ds.length) ++ (es.drop (x.toNat * sz + sz) ++ rest)) := by simp only [List.append_assoc]
    rw [this]; exact b1
  · exact h4.set hy (T.len _ _ _ hy) hlt
  · rwa [List.length_set]
  · rwa [List.length_set]
  · refine ⟨.refl _, fun i o1' k1 k2 => ?_, by rw [o1.1]; exact Nat.le_refl _, fun i hi hw => ?_, fun i _ hl => .inl hl⟩
    · rw [o1.2 i (fun e => h8 (e ▸ ⟨o1', k1, k2⟩))]; exact s i o1' k1 k2
    · refine o1.2 i fun e => hw ⟨?_, _, rfl, e.symm⟩
      omega
theorem OS.st1k (o : OS W h0 sz E h m A l c) (T : Tell sz E) (s : Sub m h) (g : gi l x = some y) (ha : A = some a) (hc : cellsH h (Addr.add a (Int.toNat x * sz)) 0 sz = some cs) {y' : α} (k : Nat) (hk : k < sz) (hy : E m y' (cs.set k v)) (hf : Flat v) :
    ∃ h', st1 h (Addr.add (Addr.add a (Int.toNat x * sz)) k) v = some h' ∧ OS W h0 sz E h' m A (l.set (Int.toNat x) y') c ∧ St (fp A c) h m h' m := by
  have hlen : cs.length = sz := cellsH_length hc
  obtain ⟨h', h1, h2, h3⟩ := o.stP T s g ha hc (ds := [v]) (y' := y') k hk (by rw [List.append_assoc, List.singleton_append]; rw [List.set_eq_take_append_cons_drop, if_pos (by omega)] at hy; exact hy) (Flats.cons hf Flats.nil)
  refine ⟨h', ?_, h2, h3⟩
  simp only [stH] at h1
  split at h1
  · rename_i h4 h5
    cases h1; exact h5
  · cases h1
theorem cap_in {hi : Int} (h1 : hi ≤ (l.length : Int)) (h2 : l.length ≤ c) : hi ≤ ((c : Nat) : Int) := by omega
theorem Rd.sl {lo hi : Int} {mx : Nat} (r : Rd sz E m A l) (h1 : 0 ≤ lo) (h2 : lo ≤ hi) (h3 : hi ≤ (l.length : Int)) (h4 : hi.toNat ≤ mx) : Rd sz E m (sliceA A (Int.toNat lo) mx sz) (sl l lo hi) := by
  intro i hi'
  rw [← sl_len h1 h2 h3] at hi'
  obtain ⟨a, cs, e1, e2, e3⟩ := r (lo.toNat + i) (by omega)
  refine ⟨a.add (lo.toNat * sz), cs, ?_, ?_, ?_⟩
  · unfold sliceA; rw [if_neg (by omega), e1]; rfl
  · rw [add_add, ← Nat.add_mul]; exact e2
  · simpa [Hw.sl] using e3
theorem zc_len {z : Array Value} {n : Nat} : (zcells z n).toList.length = n * z.size := by rw [Array.length_toList, zcells_size]
def Src (sz : Nat) (E : Heap → α → List Value → Prop) (h m : Heap) (x : Value) (xs : List α) : Prop := ∃ es, srcCells sz x h = some (xs.length, es) ∧ CsE sz E m xs es
theorem Rd.srcE (r : Rd sz E m A l) (T : Tell sz E) (s : Sub m h) (hn : n = l.length) : Src sz E h m (.slice A n c) l := by
  subst hn
  cases A with
  | none =>
    have : l = [] := by
      cases l with
      | nil => rfl
      | cons x l => obtain ⟨a, _, h1, _⟩ := r 0 (by simp); cases h1
    subst this
    exact ⟨[], rfl, rfl⟩
  | some a =>
    obtain ⟨es, h1, h2⟩ := Rd.cse T r
    exact ⟨es, by simp only [srcCells, s.cells _ _ h1, Option.map_some], h2⟩
theorem OS.srcE {c' : Nat} (o : OS W h0 sz E h m A l c) (hn : n = l.length) : Src sz E h m (.slice A n c') l := by
  subst hn
  rcases o with ⟨rfl, rfl⟩ | ⟨b, t, pre, cs, rest, rfl, k1, k2, k3, k4, k5⟩
  · refine ⟨[], ?_, rfl⟩
    cases A with
    | none => rfl
    | some a => simp [srcCells, cellsH]
  · refine ⟨cs, ?_, k2⟩
    have hl := k2.len
    have := k1.cells (a := ⟨b, pre.length, none⟩) rfl rfl (l.length * sz) 0 (by simp [hl])
    simp only [srcCells, this, Nat.add_zero]
    rw [List.append_assoc, List.drop_left, List.take_append_of_le_length (by omega), List.take_of_length_le (by omega)]; rfl
def ap (B : Nat) (l xs : List α) : Option (List α) := if (l.length + xs.length) * B ≤ 140737488355328 then some (l ++ xs) else none
theorem ap_e {B : Nat} {l xs l' : List α} (g : ap B l xs = some l') : (l.length + xs.length) * B ≤ 140737488355328 ∧ l ++ xs = l' := by
  unfold ap at g
  obtain ⟨h, k⟩ := guard_e g
  exact ⟨h, Option.some.inj k⟩
def sls (l : List α) (lo hi : Int) : Option (List α) := if 0 ≤ lo ∧ lo ≤ hi ∧ hi ≤ (l.length : Int) then some (sl l lo hi) else none
theorem sls_e {lo hi : Int} {l' : List α} (g : sls l lo hi = some l') : 0 ≤ lo ∧ lo ≤ hi ∧ hi ≤ (l.length : Int) ∧ Int.toNat hi - Int.toNat lo = l'.length ∧ l' = Hw.sl l lo hi := by
  unfold sls at g
  obtain ⟨h, k⟩ := guard_e g
  cases k
  exact ⟨h.1, h.2.1, h.2.2, sl_len h.1 h.2.1 h.2.2, rfl⟩
theorem Rd.sls {lo hi : Int} {mx : Nat} {l' : List α} (r : Rd sz E m A l) (g : sls l lo hi = some l') (h4 : hi.toNat ≤ mx) : Rd sz E m (sliceA A (Int.toNat lo) mx sz) l' := by
  obtain ⟨h1, h2, h3, _, rfl⟩ := sls_e g
  exact r.sl h1 h2 h3 h4
theorem le_mx {hi : Int} (h1 : hi ≤ (l.length : Int)) (h2 : l.length ≤ c) : hi.toNat ≤ c := by omega
theorem sls_cap {lo hi : Int} {l' : List α} (g : Hw.sls l lo hi = some l') (h2 : l.length ≤ c) : l'.length ≤ c - Int.toNat lo := by
  obtain ⟨h1, h3, h4, h5, _⟩ := sls_e g
  omega
theorem nn {x : Value} {l : List Value} : x :: l ≠ [] := fun h => by cases h
end
end Go.Hw

end
section
namespace Go.Hw
open Go
section
variable {α : Type} {sz : Nat} {E : Heap → α → List Value → Prop} {m m' h h' h0 m0 : Heap} {A : Option Addr} {l : List α} {c n k : Nat} {x : Int} {W : Nat → Prop}
theorem Rd.void (r : Rd sz E m none l) : l = [] := by
  cases l with
  | nil => rfl
  | cons x l => obtain ⟨a, _, h1, _⟩ := r 0 (by simp); cases h1
theorem gen_b2s' {P : Program} {src dst e : TypeId} {bs : List Int} {K : Value → Heap → Prop} (hsrc : P.underlying src = some (.slice e)) (hdst : P.underlying dst = some .string) (he : P.underlying e = some (.int .u8)) (hr : Rd 1 (eInt .u8) h A bs) (hn : n = bs.length)
    (hk : K (.string (bytesOf bs)) h) : Gen P (convert src dst (.slice A n c)) h K := by
  subst hn; exact gen_b2s hsrc hdst he hr hk
end
section
variable {α : Type} {sz : Nat} {E : Heap → α → List Value → Prop} {m m' mL h h' h0 m0 : Heap} {A : Option Addr} {l : List α} {c b : Nat} {cs : List Value} {t : TypeId} {W W' : Nat → Prop}
theorem St.unlend (T : St W' h mL h' m') (s : Sub m h) (hd : ∀ b, W' b → ¬ Live m b) : St W' h m h' m where
  up := .refl _
  s b o h1 h2 := by
    rw [T.fr b (s.lt ⟨o, h1, h2⟩) (fun hw => hd b hw ⟨o, h1, h2⟩)]; exact s b o h1 h2
  size := T.size
  fr := T.fr
  lv b _ hl := .inl hl
end
section
variable {κ ν : Type} [DecidableEq κ] {h h' m m' h0 m0 : Heap} {b : Nat} {W W' : Nat → Prop} {kv : κ → Value} {es : List (κ × ν)} {vs : List (κ × Value)} {k : κ} {x zv : ν} {v z : Value} {P : Program} {t elem : TypeId} {sz : Nat}
def pget (es : List (κ × ν)) (k : κ) : Option ν := (es.find? fun x => decide (k = x.1)).map (·.2)
def pgd (es : List (κ × ν)) (k : κ) (z : ν) : ν := (pget es k).getD z
def pset : List (κ × ν) → κ → ν → List (κ × ν)
  | [], k, v => [(k, v)]
  | x :: es, k, v => if k = x.1 then (k, v) :: es else x :: pset es k v
theorem pget_nil (k : κ) : pget ([] : List (κ × ν)) k = none := rfl
theorem pget_cons (p : κ × ν) (es : List (κ × ν)) (k : κ) : pget (p :: es) k = if k = p.1 then some p.2 else pget es k := by
  unfold pget
  by_cases h : k = p.1
  · rw [if_pos h, List.find?_cons_of_pos (by simpa using h)]; rfl
  · rw [if_neg h, List.find?_cons_of_neg (by simpa using h)]
theorem pget_pset (es : List (κ × ν)) (k q : κ) (v : ν) : pget (pset es k v) q = if q = k then some v else pget es q := by
  induction es with
  | nil => unfold pset; rw [pget_cons, pget_nil]
  | cons x es ih =>
    unfold pset
    by_cases hk : k = x.1
    · rw [if_pos hk, pget_cons, pget_cons]
      by_cases h : q = k
      · rw [if_pos h, if_pos h]
      · rw [if_neg h, if_neg h, if_neg (by rw [← hk]; exact h)]
    · rw [if_neg hk, pget_cons, pget_cons, ih]
      by_cases h : q = x.1
      · rw [if_pos h, if_pos h, if_neg (fun hh => hk (by rw [← hh, h]))]
      · rw [if_neg h, if_neg h]
theorem mget_cons (p : κ × Value) (es : List (κ × Value)) (k : κ) : mget (p :: es) k = if k = p.1 then some p.2 else mget es k := pget_cons p es k
def eV0 (E : Heap → ν → List Value → Prop) (m : Heap) (x : ν) (v : Value) : Prop := E m x [v]
def MonoV (EV : Heap → ν → Value → Prop) : Prop := ∀ m h x v, Sub m h → EV m x v → EV h x v
omit [DecidableEq κ] in
theorem monoV0 {E : Heap → ν → List Value → Prop} (T : Tell sz E) : MonoV (eV0 E) := fun _ _ _ _ s h => T.mono _ _ _ _ s h
def MR (EV : ν → Value → Prop) : List (κ × ν) → List (κ × Value) → Prop
  | [], vs => vs = []
  | p :: es, vs => ∃ v vs', vs = (p.1, v) :: vs' ∧ EV p.2 v ∧ MR EV es vs'
variable {EV : Heap → ν → Value → Prop}
omit [DecidableEq κ] in
theorem MR.sub (M : MonoV EV) (s : Sub m h) : ∀ {es : List (κ × ν)} {vs : List (κ × Value)}, MR (EV m) es vs → MR (EV h) es vs := by
  intro es
  induction es with
  | nil => intro vs hh; exact hh
  | cons p es ih => rintro vs ⟨v, vs', rfl, h1, h2⟩; exact ⟨v, vs', rfl, M _ _ _ _ s h1, ih h2⟩
omit [DecidableEq κ] in
theorem MR.len {EV : ν → Value → Prop} : ∀ {es : List (κ × ν)} {vs : List (κ × Value)}, MR EV es vs → vs.length = es.length := by
  intro es
  induction es with
  | nil => intro vs hh; rw [show vs = [] from hh]; rfl
  | cons p es ih => rintro vs ⟨v, vs', rfl, h1, h2⟩; simp [ih h2]
theorem MR.get {EV : ν → Value → Prop} (k : κ) : ∀ {es : List (κ × ν)} {vs : List (κ × Value)}, MR EV es vs → (mget vs k).isSome = (pget es k).isSome ∧ ∀ zv z, EV zv z → EV (pgd es k zv) ((mget vs k).getD z) := by
  intro es
  induction es with
  | nil => intro vs hh; rw [show vs = [] from hh]; exact ⟨rfl, fun _ _ h => h⟩
  | cons p es ih =>
    rintro vs ⟨v, vs', rfl, h1, h2⟩
    unfold pgd
    rw [mget_cons, pget_cons]
    by_cases hk : k = p.1
    · rw [if_pos hk, if_pos hk]; exact ⟨rfl, fun _ _ _ => h1⟩
    · rw [if_neg hk, if_neg hk]; exact ih h2
theorem MR.set {EV : ν → Value → Prop} (k : κ) (hx : EV x v) : ∀ {es : List (κ × ν)} {vs : List (κ × Value)}, MR EV es vs → MR EV (pset es k x) (mset vs k v) := by
  intro es
  induction es with
  | nil => intro vs hh; rw [show vs = [] from hh]; exact ⟨v, [], rfl, hx, rfl⟩
  | cons p es ih =>
    rintro vs ⟨w, vs', rfl, h1, h2⟩
    unfold pset mset
    by_cases hk : k = p.1
    · rw [if_pos hk, if_pos hk]; exact ⟨v, vs', rfl, hx, h2⟩
    · rw [if_neg hk, if_neg hk]; exact ⟨w, _, rfl, h1, ih h2⟩
def OM (W : Nat → Prop) (h0 : Heap) (EV : Heap → ν → Value → Prop) (kv : κ → Value) (h m : Heap) (b : Nat) (es : List (κ × ν)) : Prop :=
  ∃ vs, MapB kv h b vs ∧ MR (EV m) es vs ∧ (h0.size ≤ b ∨ W b) ∧ ¬ Live m b
theorem OM.look {K : Value → Heap → Prop} (o : OM W h0 EV kv h m b es) (ok : KeyOk P t kv elem) (k : κ) (hz : zeroOf P elem = some z) (hE : EV m zv z) (hk : ∀ v, EV m (pgd es k zv) v → K v h) : Gen P (Instr.lookup t (.map (some b)) (kv k) false) h K := by
  obtain ⟨vs, h1, h2, _⟩ := o
  exact gen_lookup ok h1 k hz (hk _ ((h2.get k).2 _ _ hE))
theorem OM.look2 {K : Value → Heap → Prop} (o : OM W h0 EV kv h m b es) (ok : KeyOk P t kv elem) (k : κ) (hz : zeroOf P elem = some z) (hE : EV m zv z) (hk : ∀ v, EV m (pgd es k zv) v → K (.tuple #[v, .bool (pget es k).isSome]) h) : Gen P (Instr.lookup t (.map (some b)) (kv k) true) h K := by
  obtain ⟨vs, h1, h2, _⟩ := o
  refine gen_lookup2 ok h1 k hz ?_
  rw [(h2.get k).1]
  exact hk _ ((h2.get k).2 _ _ hE)
theorem OM.upd {K : Unit → Heap → Prop} (o : OM W h0 EV kv h m b es) (s : Sub m h) (ok : KeyOk P t kv elem) (k : κ) (he : EV m x v) (hk : ∀ h', OM W h0 EV kv h' m b (pset es k x) → St (fb b) h m h' m → K () h') : Hwp P (Instr.mapUpdate t (.map (some b)) (kv k) v) h K := by
  obtain ⟨vs, h1, h2, h3, h4⟩ := o
  exact gen_mapUpdate ok h1 k v fun h' b' o' => hk h' ⟨_, b', h2.set k he, h3, h4⟩ (.only s h4 o')
end
section
variable {H : Type} {enc : TypeId × Value → H} {P : Program} {W : World}
theorem tells_u64 {t : TypeId} (hu : P.underlying t = some (.int .u64)) : Tells enc P W t (eInt .u64) (fun x => 0 ≤ x ∧ x ≤ 18446744073709551615) := tells_map (tells_int hu) fun a _ h q => ⟨a, h, wf_u64 q⟩
theorem tells_sliceL {α : Type} {t e : TypeId} {sz B : Nat} {E : Heap → α → List Value → Prop} {Q : α → Prop} (hu : P.underlying t = some (.slice e)) (hc : P.cellsOf e = sz) (hB : P.bytesOf e = B) (he : Tells enc P W e E Q) :
    Tells enc P W t (eRow sz E) (fun l => l.length * B ≤ 140737488351232 ∧ ∀ a ∈ l, Q a) := tells_map (tells_slice hu hc hB he) fun a _ h q => ⟨a, h, q⟩
end
end Go.Hw

end
section
namespace Go.Hw
open Go
section
variable {α β : Type}
theorem ap_of {B : Nat} {l xs : List α} (h : (l.length + xs.length) * B ≤ 140737488355328) : ap B l xs = some (l ++ xs) := by unfold ap; rw [if_pos h]
theorem ap_nil {B : Nat} {xs : List α} (h : xs.length * B ≤ 140737488355328) : ap B ([] : List α) xs = some xs := by rw [ap_of (by simpa using h)]; rfl
theorem ap_one {B : Nat} {l : List α} {x : α} (h : (l.length + 1) * B ≤ 140737488355328) : ap B l [x] = some (l ++ [x]) := ap_of (by simpa using h)
theorem gi_some {l : List α} {k : Nat} {x : Int} {y : α} (hx : x = k) (h : l[k]? = some y) : gi l x = some y := by subst hx; rw [gi_nat]; exact h
theorem gi_at {l : List α} {k : Nat} (h : k < l.length) : gi l (k : Int) = some l[k] := by rw [gi_nat]; exact List.getElem?_eq_getElem h
theorem sls_of {l : List α} {lo hi : Int} (h1 : 0 ≤ lo) (h2 : lo ≤ hi) (h3 : hi ≤ (l.length : Int)) : sls l lo hi = some (sl l lo hi) := by unfold sls; rw [if_pos ⟨h1, h2, h3⟩]
theorem sls_drop {l : List α} {k : Nat} {x : Int} (hx : x = k) (h : k ≤ l.length) : sls l x (l.length : Int) = some (l.drop k) := by subst hx; rw [sls_of (by omega) (by omega) (by omega), sl_lo]; rfl
theorem w_succ {k : Nat} (h : k < 9223372036854775807) : IntKind.wrap .i64 ((k : Int) + 1) = ((k + 1 : Nat) : Int) := by rw [wrap_in (by omega) (by omega)]; rfl
theorem equal_val {R : α → α → Prop} [DecidableRel R] {f : List α → List α → Int → Int → Option Bool} {g : List α → List α → Option Bool}
    (hf : ∀ a b n i, f a b n i = if i < n then (Option.bind (gi a i) fun x => Option.bind (gi b i) fun y => if R x y then f a b n (IntKind.wrap .i64 (i + 1)) else some false) else some true)
    (hg : ∀ a b, g a b = if ((a.length : Nat) : Int) = ((b.length : Nat) : Int) then f a b (a.length : Int) 0 else some false) (hR : ∀ x y, R x y ↔ x = y)
    (l m : List α) (hl : l.length ≤ 4611686018427387904) : ∃ b, g l m = some b ∧ (b = true ↔ l = m) := by
  rw [hg]
  by_cases hlen : l.length = m.length
  · rw [if_pos (by omega)]
    have key : ∀ (d k : Nat), k + d = l.length → l.take k = m.take k → ∃ b, f l m (l.length : Int) (k : Int) = some b ∧ (b = true ↔ l = m) := by
      intro d
      induction d with
      | zero =>
        intro k hk he
        rw [List.take_of_length_le (by omega), List.take_of_length_le (by omega)] at he
        exact ⟨true, by rw [hf, if_neg (by omega)], by simp [he]⟩
      | succ d ih =>
        intro k hk he
        have h1 : k < l.length := by omega
        have h2 : k < m.length := by omega
        rw [hf, if_pos (by omega), gi_at h1, Option.bind_some, gi_at h2, Option.bind_some]
        by_cases hr : R l[k] m[k]
        · rw [if_pos hr, w_succ (by omega)]
          exact ih (k + 1) (by omega) (by rw [List.take_succ_eq_append_getElem h1, List.take_succ_eq_append_getElem h2, he, (hR _ _).1 hr])
        · rw [if_neg hr]
          refine ⟨false, rfl, by simp; intro e; exact hr ((hR _ _).2 (by simp [e]))⟩
    exact key l.length 0 (by omega) (by simp)
  · rw [if_neg (by omega)]
    exact ⟨false, rfl, by simp; intro e; exact hlen (by rw [e])⟩
end
section
open Go.RowKit
variable {H : Type} {enc : TypeId × Value → H} {P : Program} {W : World} {N : Nat}
end
end Go.Hw

end
section
set_option linter.unusedVariables false
namespace Go.Hw
open Go
abbrev Foot := Nat → Prop
def U (F G : Foot) : Foot := fun b => F b ∨ G b
section
variable {F G H F' G' : Foot}
theorem U.no_left : U No F = F := funext fun _ => propext ⟨fun h => h.elim (fun h => h.elim) id, .inr⟩
theorem U.no_right : U F No = F := funext fun _ => propext ⟨fun h => h.elim id (fun h => h.elim), .inl⟩
theorem U.assoc : U (U F G) H = U F (U G H) := funext fun _ => propext or_assoc
theorem U.comm : U F G = U G F := funext fun _ => propext or_comm
theorem U.left_comm : U F (U G H) = U G (U F H) := by rw [← U.assoc, U.comm (F := F), U.assoc]
theorem Dj.u (d : Dj F H) (d' : Dj G H) : Dj (U F G) H := fun b h k => h.elim (fun h => d b h k) (fun h => d' b h k)
theorem Dj.ul (d : Dj (U F G) H) : Dj F H := fun b h k => d b (.inl h) k
theorem Dj.ur (d : Dj (U F G) H) : Dj G H := fun b h k => d b (.inr h) k
theorem Dj.u' (d : Dj H F) (d' : Dj H G) : Dj H (U F G) := fun b k h => h.elim (fun h => d b k h) (fun h => d' b k h)
theorem Dj.ul' (d : Dj H (U F G)) : Dj H F := fun b k h => d b k (.inl h)
theorem Dj.ur' (d : Dj H (U F G)) : Dj H G := fun b k h => d b k (.inr h)
theorem Dj.no' : Dj F No := fun _ _ h => h
theorem Dj.mono (d : Dj F G) (h1 : ∀ b, F' b → F b) (h2 : ∀ b, G' b → G b) : Dj F' G' := fun b k l => d b (h1 b k) (h2 b l)
end
structure Res where
  p : Heap → Heap → Foot → Prop
  z : Heap → Prop
  lt : ∀ {h m F}, p h m F → ∀ b, F b → b < h.size
  nl : ∀ {h m F}, p h m F → ∀ b, F b → ¬ Live m b
  fr : ∀ {h m F h' m'}, p h m F → (∀ b, F b → h'[b]? = h[b]?) → Sub m m' → (∀ b, F b → ¬ Live m' b) → p h' m' F
  fz : ∀ {h m F G}, p h m F → Sub m h → (∀ b, F b → G b) → z (addV m h G)
def Res.vf (R : Res) : Prop := ∀ h m m' F, R.p h m F → Sub m' h → (∀ b, F b → ¬ Live m' b) → R.p h m' F
def rE : Res where
  p _ _ F := F = No
  z _ := True
  lt := by rintro h m F rfl b hb; exact hb.elim
  nl := by rintro h m F rfl b hb; exact hb.elim
  fr := fun h _ _ _ => h
  fz := fun _ _ _ => trivial
def Sep : List Res → Heap → Heap → Foot → Prop
  | [], _, _, F => F = No
  | R :: Rs, h, m, F => ∃ F1 F2, R.p h m F1 ∧ Sep Rs h m F2 ∧ Dj F1 F2 ∧ F = U F1 F2
def ZAll (m : Heap) : List Res → Prop
  | [] => True
  | R :: Rs => R.z m ∧ ZAll m Rs
def takeL : List Res → List Nat → List Res
  | _, [] => []
  | Rs, i :: is => (match Rs[i]? with | some R => R | none => rE) :: takeL (Rs.set i rE) is
def dropL : List Res → List Nat → List Res
  | Rs, [] => Rs
  | Rs, i :: is => dropL (Rs.set i rE) is
section
variable {h h' m m' : Heap} {F F1 F2 G : Foot} {Rs Rs' : List Res} {R R' : Res} {k : Nat}
theorem Sep.lt : ∀ {Rs : List Res} {F : Foot}, Sep Rs h m F → ∀ b, F b → b < h.size
  | [], _, hs, b, hb => by rw [show _ = No from hs] at hb; exact hb.elim
  | _ :: _, _, ⟨_, _, h1, h2, _, rfl⟩, b, hb => hb.elim (Res.lt _ h1 b) (Sep.lt h2 b)
theorem Sep.nl : ∀ {Rs : List Res} {F : Foot}, Sep Rs h m F → ∀ b, F b → ¬ Live m b
  | [], _, hs, b, hb => by rw [show _ = No from hs] at hb; exact hb.elim
  | _ :: _, _, ⟨_, _, h1, h2, _, rfl⟩, b, hb => hb.elim (Res.nl _ h1 b) (Sep.nl h2 b)
theorem Sep.fr : ∀ {Rs : List Res} {F : Foot}, Sep Rs h m F → (∀ b, F b → h'[b]? = h[b]?) → Sub m m' → (∀ b, F b → ¬ Live m' b) → Sep Rs h' m' F
  | [], _, hs, _, _, _ => hs
  | _ :: _, _, ⟨F1, F2, h1, h2, h3, rfl⟩, k1, k2, k3 => ⟨F1, F2, Res.fr _ h1 (fun b hb => k1 b (.inl hb)) k2 (fun b hb => k3 b (.inl hb)), Sep.fr h2 (fun b hb => k1 b (.inr hb)) k2 (fun b hb => k3 b (.inr hb)), h3, rfl⟩
theorem Sep.fz : ∀ {Rs : List Res} {F : Foot}, Sep Rs h m F → Sub m h → (∀ b, F b → G b) → ZAll (addV m h G) Rs
  | [], _, _, _, _ => trivial
  | _ :: _, _, ⟨F1, F2, h1, h2, h3, rfl⟩, k1, k2 => ⟨Res.fz _ h1 k1 (fun b hb => k2 b (.inl hb)), Sep.fz h2 k1 (fun b hb => k2 b (.inr hb))⟩
theorem Sep.vf : ∀ {Rs : List Res} {F : Foot}, Sep Rs h m F → (∀ R ∈ Rs, R.vf) → Sub m' h → (∀ b, F b → ¬ Live m' b) → Sep Rs h m' F
  | [], _, hs, _, _, _ => hs
  | R :: Rs, _, ⟨F1, F2, h1, h2, h3, rfl⟩, v, k1, k2 => ⟨F1, F2, v R (List.mem_cons_self ..) _ _ _ _ h1 k1 (fun b hb => k2 b (.inl hb)), Sep.vf h2 (fun R hR => v R (List.mem_cons_of_mem _ hR)) k1 (fun b hb => k2 b (.inr hb)), h3, rfl⟩
theorem Sep.get : ∀ {Rs : List Res} {F : Foot} {k : Nat}, Sep Rs h m F → Rs[k]? = some R → ∃ F1 F2, R.p h m F1 ∧ Sep (Rs.set k rE) h m F2 ∧ Dj F1 F2 ∧ F = U F1 F2
  | [], _, _, _, hk => by cases hk
  | R' :: Rs, _, 0, ⟨F1, F2, h1, h2, h3, e⟩, hk => by
    cases hk
    exact ⟨F1, F2, h1, ⟨No, F2, rfl, h2, .no, U.no_left.symm⟩, h3, e⟩
  | R' :: Rs, _, k + 1, ⟨F1, F2, h1, h2, h3, e⟩, hk => by
    obtain ⟨G1, G2, k1, k2, k3, rfl⟩ := Sep.get h2 (show Rs[k]? = some R by simpa using hk)
    refine ⟨G1, U F1 G2, k1, ⟨F1, G2, h1, k2, h3.ur', rfl⟩, ?_, ?_⟩
    · exact Dj.u' h3.ul'.symm k3
    · rw [e, U.left_comm]
theorem Sep.put : ∀ {Rs : List Res} {F2 : Foot} {k : Nat}, Sep Rs h m F2 → Rs[k]? = some rE → R'.p h m F1 → Dj F1 F2 → Sep (Rs.set k R') h m (U F1 F2)
  | [], _, _, _, hk, _, _ => by cases hk
  | R :: Rs, _, 0, ⟨G1, G2, h1, h2, h3, e⟩, hk, hp, d => by
    cases hk
    have : G1 = No := h1
    subst this
    rw [U.no_left] at e
    subst e
    exact ⟨F1, _, hp, h2, d, rfl⟩
  | R :: Rs, _, k + 1, ⟨G1, G2, h1, h2, h3, e⟩, hk, hp, d => by
    subst e
    have := Sep.put h2 (show Rs[k]? = some rE by simpa using hk) hp d.ur'
    exact ⟨G1, _, h1, this, Dj.u' d.ul'.symm h3, by rw [U.left_comm]⟩
theorem Sep.app : ∀ {Rs : List Res} {F : Foot}, Sep Rs h m F → Sep Rs' h m G → Dj F G → Sep (Rs ++ Rs') h m (U F G)
  | [], _, hs, hs', _ => by rw [show _ = No from hs, U.no_left]; exact hs'
  | R :: Rs, _, ⟨F1, F2, h1, h2, h3, e⟩, hs', d => by
    subst e
    exact ⟨F1, _, h1, Sep.app h2 hs' d.ur, Dj.u' h3 d.ul, U.assoc⟩
theorem Sep.one (hp : R.p h m F) : Sep [R] h m F := ⟨F, No, hp, rfl, .no', U.no_right.symm⟩
theorem set_rE (hk : Rs[k]? = some R) : (Rs.set k rE)[k]? = some rE := by
  have : k < Rs.length := (List.getElem?_eq_some_iff.1 hk).1
  rw [List.getElem?_set_self this]
theorem Sep.part : ∀ (is : List Nat) {Rs : List Res} {F : Foot}, Sep Rs h m F → ∃ F1 F2, Sep (takeL Rs is) h m F1 ∧ Sep (dropL Rs is) h m F2 ∧ Dj F1 F2 ∧ F = U F1 F2
  | [], Rs, F, hs => ⟨No, F, rfl, hs, .no, U.no_left.symm⟩
  | i :: is, Rs, F, hs => by
    cases hi : Rs[i]? with
    | none =>
      have : Rs.set i rE = Rs := List.set_eq_of_length_le (List.getElem?_eq_none_iff.1 hi)
      obtain ⟨F1, F2, h1, h2, h3, h4⟩ := Sep.part is (Rs := Rs.set i rE) (by rw [this]; exact hs)
      refine ⟨F1, F2, ?_, h2, h3, h4⟩
      simp only [takeL, hi]
      exact ⟨No, F1, rfl, h1, .no, U.no_left.symm⟩
    | some R =>
      obtain ⟨G1, G2, k1, k2, k3, rfl⟩ := Sep.get hs hi
      obtain ⟨F1, F2, h1, h2, h3, rfl⟩ := Sep.part is k2
      refine ⟨U G1 F1, F2, ?_, h2, Dj.u k3.ur' h3, U.assoc.symm⟩
      simp only [takeL, hi]
      exact ⟨G1, F1, k1, h1, k3.ul', rfl⟩
end
structure Hold (W : Foot) (h0 m0 h m : Heap) (Rs : List Res) : Prop where
  S : St W h0 m0 h m
  q : ∃ F, Sep Rs h m F ∧ ∀ b, F b → h0.size ≤ b ∨ W b
section
variable {h0 m0 h h' m m' : Heap} {W F F' G : Foot} {Rs Rs' : List Res} {R R' : Res} {k : Nat}
theorem Hold.s (O : Hold W h0 m0 h m Rs) : Sub m h := O.S.s
theorem Hold.start (s : Sub m h) : Hold W h m h m [] := ⟨.refl s, No, rfl, fun _ h => h.elim⟩
theorem St.frame (T : St F h m h' m') (h2 : Dj F G) (h3 : ∀ b, G b → b < h.size) (h4 : ∀ b, G b → ¬ Live m b) : (∀ b, G b → h'[b]? = h[b]?) ∧ ∀ b, G b → ¬ Live m' b :=
  ⟨fun b hb => T.fr b (h3 b hb) (fun hf => h2 b hf hb), fun b hb hl => (T.lv b (h3 b hb) hl).elim (h4 b hb) (fun hf => h2 b hf hb)⟩
theorem Hold.get (O : Hold W h0 m0 h m Rs) (k : Nat) (hk : Rs[k]? = some R) : ∃ F, R.p h m F ∧ (∀ b, F b → h0.size ≤ b ∨ W b) ∧
    ∀ {h' m' : Heap} {R' : Res} {F' : Foot}, St F h m h' m' → R'.p h' m' F' → (∀ b, F' b → F b ∨ h.size ≤ b) → Hold W h0 m0 h' m' (Rs.set k R') := by
  obtain ⟨S, FF, hs, hw⟩ := O
  obtain ⟨F1, F2, h1, h2, h3, rfl⟩ := hs.get hk
  refine ⟨F1, h1, fun b hb => hw b (.inl hb), fun {h' m' R' F'} T hp hn => ?_⟩
  obtain ⟨f1, f2⟩ := T.frame h3 h2.lt h2.nl
  have s2 := Sep.fr h2 f1 T.up f2
  have d : Dj F' F2 := fun b hb hc => (hn b hb).elim (fun hf => h3 b hf hc) (fun hl => by have := h2.lt b hc; omega)
  have := Sep.put s2 (set_rE hk) hp d
  rw [List.set_set] at this
  refine ⟨S.then T (fun b _ hb => hw b (.inl hb)), _, this, fun b hb => hb.elim (fun hb => (hn b hb).elim (fun hf => hw b (.inl hf)) (fun hl => .inl (Nat.le_trans S.size hl))) (fun hb => hw b (.inr hb))⟩
theorem Hold.add (O : Hold W h0 m0 h m Rs) (T : St No h m h' m') (hp : R.p h' m' F') (hn : ∀ b, F' b → h.size ≤ b) : Hold W h0 m0 h' m' (Rs ++ [R]) := by
  obtain ⟨S, F, hs, hw⟩ := O
  obtain ⟨f1, f2⟩ := T.frame (G := F) .no hs.lt hs.nl
  refine ⟨S.grow T, _, (Sep.fr hs f1 T.up f2).app (.one hp) (fun b hb hc => by have := hs.lt b hb; have := hn b hc; omega), fun b hb => hb.elim (hw b) (fun hb => .inl (Nat.le_trans S.size (hn b hb)))⟩
theorem Hold.adds (O : Hold W h0 m0 h m Rs) (hp : R.p h m No) : Hold W h0 m0 h m (Rs ++ [R]) := O.add (.refl O.s) hp (fun _ h => h.elim)
theorem Hold.conv (O : Hold W h0 m0 h m Rs) (k : Nat) (hk : Rs[k]? = some R) (H : ∀ F, R.p h m F → ∃ F', R'.p h m F' ∧ ∀ b, F' b → F b) : Hold W h0 m0 h m (Rs.set k R') := by
  obtain ⟨F, h1, _, h3⟩ := O.get k hk
  obtain ⟨F', h4, h5⟩ := H F h1
  exact h3 (.refl O.s) h4 (fun b hb => .inl (h5 b hb))
theorem Hold.pick (O : Hold W h0 m0 h m Rs) (is : List Nat) : Hold W h0 m0 h m (takeL Rs is) := by
  obtain ⟨S, F, hs, hw⟩ := O
  obtain ⟨F1, F2, h1, h2, h3, rfl⟩ := hs.part is
  exact ⟨S, F1, h1, fun b hb => hw b (.inl hb)⟩
theorem Hold.call (O : Hold W h0 m0 h m Rs) (is : List Nat) : ∃ W', Hold W' h m h m (takeL Rs is) ∧ ∀ {h' m' : Heap} {Rs' : List Res}, Hold W' h m h' m' Rs' → Hold W h0 m0 h' m' (dropL Rs is ++ Rs') := by
  obtain ⟨S, F, hs, hw⟩ := O
  obtain ⟨F1, F2, h1, h2, h3, rfl⟩ := hs.part is
  refine ⟨F1, ⟨.refl S.s, F1, h1, fun b hb => .inr hb⟩, fun {h' m' Rs'} O' => ?_⟩
  obtain ⟨T, F', hs', hw'⟩ := O'
  obtain ⟨f1, f2⟩ := T.frame h3 h2.lt h2.nl
  refine ⟨S.then T (fun b _ hb => hw b (.inl hb)), _, (Sep.fr h2 f1 T.up f2).app hs' (fun b hb hc => (hw' b hc).elim (fun hl => by have := h2.lt b hb; omega) (fun hf => h3 b hf hb)), fun b hb => hb.elim (fun hb => hw b (.inr hb)) (fun hb => (hw' b hb).elim (fun hl => .inl (Nat.le_trans S.size hl)) (fun hf => hw b (.inl hf)))⟩
theorem Hold.callC (O : Hold W h0 m0 h m Rs) (is : List Nat) : ∃ W', Hold W' h m h m (takeL Rs is) ∧
    (∀ {h' m' : Heap} {Rs' : List Res}, Hold W' h m h' m' Rs' → Hold W h0 m0 h' m' (dropL Rs is ++ Rs')) ∧
    (∀ {h' m' : Heap} {Rs' : List Res}, Hold W' h m h' m' Rs' → (∀ R ∈ Rs', R.vf) → Hold W h0 m0 h' m (dropL Rs is ++ Rs')) := by
  obtain ⟨S, F, hs, hw⟩ := O
  obtain ⟨F1, F2, h1, h2, h3, rfl⟩ := hs.part is
  have key : ∀ {h' m' : Heap} {Rs' : List Res}, Hold F1 h m h' m' Rs' → Hold W h0 m0 h' m' (dropL Rs is ++ Rs') := fun {h' m' Rs'} O' => by
    obtain ⟨T, F', hs', hw'⟩ := O'
    obtain ⟨f1, f2⟩ := T.frame h3 h2.lt h2.nl
    exact ⟨S.then T (fun b _ hb => hw b (.inl hb)), _, (Sep.fr h2 f1 T.up f2).app hs' (fun b hb hc => (hw' b hc).elim (fun hl => by have := h2.lt b hb; omega) (fun hf => h3 b hf hb)), fun b hb => hb.elim (fun hb => hw b (.inr hb)) (fun hb => (hw' b hb).elim (fun hl => .inl (Nat.le_trans S.size hl)) (fun hf => hw b (.inl hf)))⟩
  refine ⟨F1, ⟨.refl S.s, F1, h1, fun b hb => .inr hb⟩, key, fun {h' m' Rs'} O' v => key ?_⟩
  obtain ⟨T, F', hs', hw'⟩ := O'
  have T' : St F1 h m h' m := T.unlend S.s h1.nl
  exact ⟨T', F', hs'.vf v T'.s (fun b hb hv => (hw' b hb).elim (fun hl => by have := S.s.lt hv; omega) (fun hf => h1.nl b hf hv)), hw'⟩
theorem Hold.lend (O : Hold W h0 m0 h m Rs) (is ls : List Nat) : ∃ m1 W', Sub m m1 ∧ Hold W' h m1 h m1 (takeL Rs is) ∧ ZAll m1 (takeL (dropL Rs is) ls) ∧
    (∀ {h' m' : Heap} {Rs' : List Res}, Hold W' h m1 h' m' Rs' → Hold W h0 m0 h' m' (dropL (dropL Rs is) ls ++ Rs')) ∧
    (∀ {h' m' : Heap} {Rs' : List Res}, Hold W' h m1 h' m' Rs' → (∀ R ∈ Rs', R.vf) → Hold W h0 m0 h' m (dropL Rs is ++ Rs')) := by
  obtain ⟨S, F, hs, hw⟩ := O
  obtain ⟨F1, F2, h1, h2, h3, rfl⟩ := hs.part is
  obtain ⟨F3, F4, k1, k2, k3, rfl⟩ := h2.part ls
  have hl : ∀ b, Live (addV m h F3) b → Live m b ∨ F3 b := fun b h => (addV_live h).1
  have n1 : ∀ b, F1 b → ¬ Live (addV m h F3) b := fun b hb hv => (hl b hv).elim (h1.nl b hb) (fun hf => h3 b hb (.inl hf))
  have n4 : ∀ b, F4 b → ¬ Live (addV m h F3) b := fun b hb hv => (hl b hv).elim (k2.nl b hb) (fun hf => k3 b hf hb)
  refine ⟨addV m h F3, F1, addV_up S.s, ⟨.refl addV_sub, F1, Sep.fr h1 (fun _ _ => rfl) (addV_up S.s) n1, fun b hb => .inr hb⟩, k1.fz S.s (fun _ h => h), fun {h' m' Rs'} O' => ?_, fun {h' m' Rs'} O' v => ?_⟩
  · obtain ⟨T, F', hs', hw'⟩ := O'
    have k4 := Sep.fr k2 (fun _ _ => rfl) (addV_up S.s) n4
    obtain ⟨f1, f2⟩ := T.frame h3.ur' k2.lt n4
    refine ⟨(S.then (St.settle S.s F3) (fun b _ hb => hw b (.inr (.inl hb)))).then T (fun b _ hb => hw b (.inl hb)), _, (Sep.fr k4 f1 T.up f2).app hs' (fun b hb hc => (hw' b hc).elim (fun hl => by have := k2.lt b hb; omega) (fun hf => h3 b hf (.inr hb))), fun b hb => hb.elim (fun hb => hw b (.inr (.inr hb))) (fun hb => (hw' b hb).elim (fun hl => .inl (Nat.le_trans S.size hl)) (fun hf => hw b (.inl hf)))⟩
  · obtain ⟨T, F', hs', hw'⟩ := O'
    have T' : St F1 h m h' m := T.unlend S.s h1.nl
    obtain ⟨f1, f2⟩ := T'.frame h3 h2.lt h2.nl
    have n' : ∀ b, F' b → ¬ Live m b := fun b hb hv => (hw' b hb).elim (fun hl => by have := S.s.lt hv; omega) (fun hf => h1.nl b hf hv)
    refine ⟨S.then T' (fun b _ hb => hw b (.inl hb)), _, (Sep.fr h2 f1 T'.up f2).app (hs'.vf v T'.s n') (fun b hb hc => (hw' b hc).elim (fun hl => by have := h2.lt b hb; omega) (fun hf => h3 b hf hb)), fun b hb => hb.elim (fun hb => hw b (.inr hb)) (fun hb => (hw' b hb).elim (fun hl => .inl (Nat.le_trans S.size hl)) (fun hf => hw b (.inl hf)))⟩
theorem Hold.frz (O : Hold W h0 m0 h m Rs) (k : Nat) (hk : Rs[k]? = some R) : ∃ m', Sub m m' ∧ R.z m' ∧ Hold W h0 m0 h m' (Rs.set k rE) := by
  obtain ⟨m1, W', h1, h2, h3, h4, _⟩ := O.lend [] [k]
  refine ⟨m1, h1, ?_, ?_⟩
  · have : takeL (dropL Rs []) [k] = [R] := by simp only [takeL, dropL, hk]
    rw [this] at h3
    exact h3.1
  · have := h4 h2
    simp only [takeL, dropL, List.append_nil] at this
    exact this
end
end Go.Hw

end
section
set_option linter.unusedVariables false
namespace Go.Hw
open Go
structure Asn (α : Type) (sz : Nat) where
  p : Heap → Heap → α → List Value → Foot → Prop
  E : Heap → α → List Value → Prop
  T : Tell sz E
  len : ∀ {h m x cs F}, p h m x cs F → cs.length = sz
  flat : ∀ {h m x cs F}, p h m x cs F → ∀ v ∈ cs, Flat v
  lt : ∀ {h m x cs F}, p h m x cs F → ∀ b, F b → b < h.size
  nl : ∀ {h m x cs F}, p h m x cs F → ∀ b, F b → ¬ Live m b
  fr : ∀ {h m x cs F h' m'}, p h m x cs F → (∀ b, F b → h'[b]? = h[b]?) → Sub m m' → (∀ b, F b → ¬ Live m' b) → p h' m' x cs F
  fz : ∀ {h m x cs F G}, p h m x cs F → Sub m h → (∀ b, F b → G b) → E (addV m h G) x cs
def aE {α : Type} {sz : Nat} {E : Heap → α → List Value → Prop} (T : Tell sz E) : Asn α sz where
  p _ m x cs F := E m x cs ∧ F = No
  E := E
  T := T
  len h := T.len _ _ _ h.1
  flat h := T.flat _ _ _ h.1
  lt := by rintro h m x cs F ⟨_, rfl⟩ b hb; exact hb.elim
  nl := by rintro h m x cs F ⟨_, rfl⟩ b hb; exact hb.elim
  fr := fun h _ s _ => ⟨T.mono _ _ _ _ s h.1, h.2⟩
  fz := fun h s _ => T.mono _ _ _ _ (addV_up s) h.1
def Asn.vf {α : Type} {sz : Nat} (a : Asn α sz) : Prop := ∀ h m m' x cs F, a.p h m x cs F → Sub m' h → (∀ b, F b → ¬ Live m' b) → a.p h m' x cs F
theorem aE_vf {α : Type} {sz : Nat} {E : Heap → α → List Value → Prop} {T : Tell sz E} (hE : ∀ m m' x cs, E m x cs → E m' x cs) : (aE T).vf := fun _ _ _ _ _ _ h _ _ => ⟨hE _ _ _ _ h.1, h.2⟩
theorem Blk.fr {h h' : Heap} {b : Nat} {c : List Value} {t : TypeId} (hb : Blk h b c t) (e : h'[b]? = h[b]?) : Blk h' b c t := by unfold Blk at *; rw [e]; exact hb
def rV (b : Nat) (t : TypeId) (cs : List Value) : Res where
  p h m F := Blk h b cs t ∧ ¬ Live m b ∧ F = fb b
  z m := Blk m b cs t
  lt := by rintro h m F ⟨h1, _, rfl⟩ i hi; unfold fb at hi; subst hi; exact h1.lt
  nl := by rintro h m F ⟨h1, h2, rfl⟩ i hi; unfold fb at hi; subst hi; exact h2
  fr := by rintro h m F h' m' ⟨h1, h2, rfl⟩ k1 _ k3; exact ⟨h1.fr (k1 b rfl), k3 b rfl, rfl⟩
  fz := by rintro h m F G ⟨h1, h2, rfl⟩ _ k2; exact h1.settle (k2 b rfl)
section
variable {α : Type} {sz : Nat}
def CsA (a : Asn α sz) (h m : Heap) : List α → List Value → Foot → Prop
  | [], cs, F => cs = [] ∧ F = No
  | x :: l, cs, F => ∃ c1 c2 F1 F2, cs = c1 ++ c2 ∧ a.p h m x c1 F1 ∧ CsA a h m l c2 F2 ∧ Dj F1 F2 ∧ F = U F1 F2
variable {a : Asn α sz} {h h' m m' : Heap} {l l' : List α} {cs ds : List Value} {F F' F1 F2 G : Foot} {x y : α}
theorem CsA.len : ∀ {l : List α} {cs : List Value} {F : Foot}, CsA a h m l cs F → cs.length = l.length * sz
  | [], _, _, ⟨e, _⟩ => by rw [e]; simp
  | x :: l, _, _, ⟨c1, c2, F1, F2, e, h1, h2, _, _⟩ => by rw [e, List.length_append, CsA.len h2, a.len h1, List.length_cons, Nat.succ_mul, Nat.add_comm]
theorem CsA.flat : ∀ {l : List α} {cs : List Value} {F : Foot}, CsA a h m l cs F → ∀ v ∈ cs, Flat v
  | [], _, _, ⟨e, _⟩ => by rw [e]; exact Flats.nil
  | x :: l, _, _, ⟨c1, c2, F1, F2, e, h1, h2, _, _⟩ => by
    rw [e]; intro v hv
    rcases List.mem_append.1 hv with hv | hv
    · exact a.flat h1 v hv
    · exact CsA.flat h2 v hv
theorem CsA.lt : ∀ {l : List α} {cs : List Value} {F : Foot}, CsA a h m l cs F → ∀ b, F b → b < h.size
  | [], _, _, ⟨_, e⟩, b, hb => by rw [e] at hb; exact hb.elim
  | x :: l, _, _, ⟨c1, c2, F1, F2, _, h1, h2, _, rfl⟩, b, hb => hb.elim (a.lt h1 b) (CsA.lt h2 b)
theorem CsA.nl : ∀ {l : List α} {cs : List Value} {F : Foot}, CsA a h m l cs F → ∀ b, F b → ¬ Live m b
  | [], _, _, ⟨_, e⟩, b, hb => by rw [e] at hb; exact hb.elim
  | x :: l, _, _, ⟨c1, c2, F1, F2, _, h1, h2, _, rfl⟩, b, hb => hb.elim (a.nl h1 b) (CsA.nl h2 b)
theorem CsA.fr : ∀ {l : List α} {cs : List Value} {F : Foot}, CsA a h m l cs F → (∀ b, F b → h'[b]? = h[b]?) → Sub m m' → (∀ b, F b → ¬ Live m' b) → CsA a h' m' l cs F
  | [], _, _, hs, _, _, _ => hs
  | x :: l, _, _, ⟨c1, c2, F1, F2, e, h1, h2, d, rfl⟩, k1, k2, k3 => ⟨c1, c2, F1, F2, e, a.fr h1 (fun b hb => k1 b (.inl hb)) k2 (fun b hb => k3 b (.inl hb)), CsA.fr h2 (fun b hb => k1 b (.inr hb)) k2 (fun b hb => k3 b (.inr hb)), d, rfl⟩
theorem CsA.vf (v : a.vf) : ∀ {l : List α} {cs : List Value} {F : Foot}, CsA a h m l cs F → Sub m' h → (∀ b, F b → ¬ Live m' b) → CsA a h m' l cs F
  | [], _, _, hs, _, _ => hs
  | x :: l, _, _, ⟨c1, c2, F1, F2, e, h1, h2, d, rfl⟩, k1, k2 => ⟨c1, c2, F1, F2, e, v _ _ _ _ _ _ h1 k1 (fun b hb => k2 b (.inl hb)), CsA.vf v h2 k1 (fun b hb => k2 b (.inr hb)), d, rfl⟩
theorem CsA.fz : ∀ {l : List α} {cs : List Value} {F : Foot}, CsA a h m l cs F → Sub m h → (∀ b, F b → G b) → CsE sz a.E (addV m h G) l cs
  | [], _, _, ⟨e, _⟩, _, _ => e
  | x :: l, _, _, ⟨c1, c2, F1, F2, e, h1, h2, d, rfl⟩, k1, k2 => ⟨c1, c2, e, a.len h1, a.fz h1 k1 (fun b hb => k2 b (.inl hb)), CsA.fz h2 k1 (fun b hb => k2 b (.inr hb))⟩
theorem CsA.append : ∀ {l : List α} {cs : List Value} {F : Foot}, CsA a h m l cs F → CsA a h m l' ds F' → Dj F F' → CsA a h m (l ++ l') (cs ++ ds) (U F F')
  | [], _, _, ⟨e, e'⟩, h', _ => by subst e; subst e'; rw [U.no_left]; exact h'
  | x :: l, _, _, ⟨c1, c2, F1, F2, e, h1, h2, d, e'⟩, h', dd => by
    subst e; subst e'
    rw [List.append_assoc]
    exact ⟨c1, _, F1, _, rfl, h1, CsA.append h2 h' dd.ur, Dj.u' d dd.ul, U.assoc⟩
theorem CsE.csa {E : Heap → α → List Value → Prop} {T : Tell sz E} : ∀ {l : List α} {cs : List Value}, CsE sz E m l cs → CsA (aE T) h m l cs No
  | [], _, e => ⟨e, rfl⟩
  | x :: l, _, ⟨c1, c2, e, h1, h2, h3⟩ => ⟨c1, c2, No, No, e, ⟨h2, rfl⟩, CsE.csa h3, .no, U.no_left.symm⟩
theorem CsA.cse {E : Heap → α → List Value → Prop} {T : Tell sz E} : ∀ {l : List α} {cs : List Value} {F : Foot}, CsA (aE T) h m l cs F → CsE sz E m l cs ∧ F = No
  | [], _, _, ⟨e, e'⟩ => ⟨e, e'⟩
  | x :: l, _, _, ⟨c1, c2, F1, F2, e, ⟨h1, h1'⟩, h2, _, e'⟩ => by
    obtain ⟨h3, h3'⟩ := CsA.cse h2
    subst h1'; subst h3'
    exact ⟨⟨c1, c2, e, T.len _ _ _ h1, h1, h3⟩, by rw [e', U.no_left]⟩
end
section
variable {α : Type} {sz : Nat}
def rowP (a : Asn α sz) (A : Option Addr) (c : Nat) (l : List α) (h m : Heap) (F : Foot) : Prop :=
  (l = [] ∧ c = 0 ∧ F = No) ∨ ∃ b t pre cs rest Fe, c ≠ 0 ∧ A = some ⟨b, pre.length, none⟩ ∧ Blk h b (pre ++ cs ++ rest) t ∧ CsA a h m l cs Fe ∧ l.length ≤ c ∧ (c - l.length) * sz ≤ rest.length ∧ ¬ Live m b ∧ ¬ Fe b ∧ F = U (fb b) Fe
def rR (a : Asn α sz) (A : Option Addr) (c : Nat) (l : List α) : Res where
  p := rowP a A c l
  z m := Rd sz a.E m A l ∧ l.length ≤ c
  lt := by
    rintro h m F (⟨_, _, rfl⟩ | ⟨b, t, pre, cs, rest, Fe, k0, k1, k2, k3, k4, k5, k6, k7, rfl⟩) i hi
    · exact hi.elim
    · rcases hi with hi | hi
      · unfold fb at hi; subst hi; exact k2.lt
      · exact k3.lt i hi
  nl := by
    rintro h m F (⟨_, _, rfl⟩ | ⟨b, t, pre, cs, rest, Fe, k0, k1, k2, k3, k4, k5, k6, k7, rfl⟩) i hi
    · exact hi.elim
    · rcases hi with hi | hi
      · unfold fb at hi; subst hi; exact k6
      · exact k3.nl i hi
  fr := by
    rintro h m F h' m' (⟨e1, e2, rfl⟩ | ⟨b, t, pre, cs, rest, Fe, k0, k1, k2, k3, k4, k5, k6, k7, rfl⟩) f1 f2 f3
    · exact .inl ⟨e1, e2, rfl⟩
    · exact .inr ⟨b, t, pre, cs, rest, Fe, k0, k1, k2.fr (f1 b (.inl rfl)), k3.fr (fun i hi => f1 i (.inr hi)) f2 (fun i hi => f3 i (.inr hi)), k4, k5, f3 b (.inl rfl), k7, rfl⟩
  fz := by
    rintro h m F G (⟨e1, e2, rfl⟩ | ⟨b, t, pre, cs, rest, Fe, k0, k1, k2, k3, k4, k5, k6, k7, rfl⟩) f1 f2
    · subst e1; exact ⟨.nil, Nat.zero_le _⟩
    · subst k1
      exact ⟨CsE.rd (k2.settle (f2 b (.inl rfl))) (k3.fz f1 (fun i hi => f2 i (.inr hi))) (fun _ _ h => h), k4⟩
variable {a : Asn α sz} {h h' h0 m m' m0 : Heap} {A : Option Addr} {c n k : Nat} {l l' : List α} {F F' G W : Foot} {x : Int} {y : α} {v : Value} {cs : List Value} {Rs : List Res} {b : Nat} {t : TypeId} {aa : Addr}
variable {E : Heap → α → List Value → Prop} {T : Tell sz E}
theorem rR_vf (v : a.vf) : (rR a A c l).vf := by
  rintro h m m' F (⟨e1, e2, rfl⟩ | ⟨b, t, pre, cs, rest, Fe, k0, k1, k2, k3, k4, k5, k6, k7, rfl⟩) f1 f2
  · exact .inl ⟨e1, e2, rfl⟩
  · exact .inr ⟨b, t, pre, cs, rest, Fe, k0, k1, k2, k3.vf v f1 (fun i hi => f2 i (.inr hi)), k4, k5, f2 b (.inl rfl), k7, rfl⟩
theorem rowP.cap (o : rowP a A c l h m F) : l.length ≤ c := by
  rcases o with ⟨rfl, rfl, _⟩ | ⟨b, t, pre, cs, rest, Fe, k0, k1, k2, k3, k4, _⟩
  · exact Nat.le_refl _
  · exact k4
theorem rowP.os (o : rowP (aE T) A c l h m F) (hw : ∀ b, F b → h0.size ≤ b ∨ W b) : OS W h0 sz E h m A l c ∧ F = fp A c := by
  rcases o with ⟨rfl, rfl, rfl⟩ | ⟨b, t, pre, cs, rest, Fe, k0, k1, k2, k3, k4, k5, k6, k7, rfl⟩
  · exact ⟨.inl ⟨rfl, rfl⟩, funext fun b => propext ⟨fun h => h.elim, fun h => h.1 rfl⟩⟩
  · obtain ⟨k8, rfl⟩ := k3.cse
    refine ⟨.inr ⟨b, t, pre, cs, rest, k1, k2, k8, k4, k5, hw b (.inl rfl), k6⟩, ?_⟩
    rw [U.no_right]
    subst k1
    exact funext fun i => propext ⟨fun hi => ⟨k0, _, rfl, hi.symm⟩, fun ⟨_, a, e, hi⟩ => by cases e; exact hi.symm⟩
theorem OS.rowP (o : OS W h0 sz E h m A l c) : rowP (aE T) A c l h m (fp A c) := by
  by_cases hc : c = 0
  · subst hc
    have := o.cap
    exact .inl ⟨List.length_eq_zero_iff.1 (by omega), rfl, funext fun b => propext ⟨fun h => h.1 rfl, fun h => h.elim⟩⟩
  rcases o with ⟨rfl, rfl⟩ | ⟨b, t, pre, cs, rest, k1, k2, k3, k4, k5, k6, k7⟩
  · exact (hc rfl).elim
  · refine .inr ⟨b, t, pre, cs, rest, No, hc, k1, k2, k3.csa, k4, k5, k7, fun h => h, ?_⟩
    rw [U.no_right]
    subst k1
    exact funext fun i => propext ⟨fun ⟨_, a, e, hi⟩ => by cases e; exact hi.symm, fun hi => ⟨hc, _, rfl, hi.symm⟩⟩
theorem Hold.os (O : Hold W h0 m0 h m Rs) (k : Nat) (hk : Rs[k]? = some (rR (aE T) A c l)) : OS W h0 sz E h m A l c := by
  obtain ⟨F, h1, h2, _⟩ := O.get k hk
  exact (rowP.os h1 h2).1
theorem Hold.ob (O : Hold W h0 m0 h m Rs) (k : Nat) (hk : Rs[k]? = some (rV b t cs)) : OB W h0 h m b cs t := by
  obtain ⟨F, ⟨h1, h3, rfl⟩, h2, _⟩ := O.get k hk
  exact ⟨h1, h2 b rfl, h3⟩
theorem Hold.cap (O : Hold W h0 m0 h m Rs) (k : Nat) (hk : Rs[k]? = some (rR a A c l)) : l.length ≤ c := by
  obtain ⟨F, h1, _⟩ := O.get k hk
  exact rowP.cap h1
theorem Hold.all (O : Hold W h0 m0 h m Rs) (k : Nat) (hk : Rs[k]? = some (rV b t cs)) : cellsH h ⟨b, 0, none⟩ 0 cs.length = some cs := (O.ob k hk).all
theorem Hold.setV (O : Hold W h0 m0 h m Rs) (k : Nat) (hk : Rs[k]? = some (rV b t cs)) {cs' : List Value} (o : OB W h0 h' m b cs' t) (S : St (fb b) h m h' m) : Hold W h0 m0 h' m (Rs.set k (rV b t cs')) := by
  obtain ⟨F, ⟨h1, h3, rfl⟩, h2, h4⟩ := O.get k hk
  exact h4 S ⟨o.1, o.2.2, rfl⟩ (fun _ h => .inl h)
theorem Hold.setR (O : Hold W h0 m0 h m Rs) (k : Nat) (hk : Rs[k]? = some (rR (aE T) A c l)) (o : OS W h0 sz E h' m A l' c) (S : St (fp A c) h m h' m) : Hold W h0 m0 h' m (Rs.set k (rR (aE T) A c l')) := by
  obtain ⟨F, h1, h2, h4⟩ := O.get k hk
  obtain ⟨_, rfl⟩ := rowP.os h1 h2
  exact h4 S o.rowP (fun _ h => .inl h)
variable {K : Heap → Prop}
theorem Hold.new {z : Array Value} (O : Hold W h0 m0 h m Rs) (H : ∀ h', Ext h h' → Hold W h0 m0 h' m (Rs ++ [rV h.size t z.toList]) → K h') : newH h (.cells z t) K :=
  newH_in fun h' hb e hs => H h' e (O.add (St.of_ext O.s e) ⟨hb, St.notLive O.s, rfl⟩ (fun i hi => by unfold fb at hi; omega))
theorem Hold.st (O : Hold W h0 m0 h m Rs) (k : Nat) (hk : Rs[k]? = some (rV b t cs)) (j : Nat) (hj : j < cs.length) (hf : Flat v) (H : ∀ h', Hold W h0 m0 h' m (Rs.set k (rV b t (cs.set j v))) → K h') : ∃ h', st1 h (Addr.add ⟨b, 0, none⟩ j) v = some h' ∧ K h' := by
  obtain ⟨h', h1, h2, h3⟩ := (O.ob k hk).st O.s hj hf
  exact ⟨h', h1, H h' (O.setV k hk h2 h3)⟩
theorem Hold.stA (O : Hold W h0 m0 h m Rs) (k : Nat) (hk : Rs[k]? = some (rV b t cs)) {ds : List Value} (hn : ds.length = cs.length) (hf : ∀ v ∈ ds, Flat v) (H : ∀ h', Hold W h0 m0 h' m (Rs.set k (rV b t ds)) → K h') : ∃ h', stH h ⟨b, 0, none⟩ ds 0 = some h' ∧ K h' := by
  obtain ⟨h', h1, h2, h3⟩ := (O.ob k hk).stA O.s ds hn hf
  exact ⟨h', h1, H h' (O.setV k hk h2 h3)⟩
theorem Hold.elst (O : Hold W h0 m0 h m Rs) (k : Nat) (hk : Rs[k]? = some (rR (aE T) A c l)) (g : gi l x = some y) (ha : A = some aa) (hc : cellsH h (Addr.add aa (Int.toNat x * sz)) 0 sz = some cs) (j : Nat) (hj : j < sz) {y' : α} (hy : E m y' (cs.set j v)) (hf : Flat v) (e : l.set (Int.toNat x) y' = l')
    (H : ∀ h', Hold W h0 m0 h' m (Rs.set k (rR (aE T) A c l')) → K h') : ∃ h', st1 h (Addr.add (Addr.add aa (Int.toNat x * sz)) j) v = some h' ∧ K h' := by
  subst e
  obtain ⟨h', h1, h2, h3⟩ := (O.os k hk).st1k T O.s g ha hc j hj hy hf
  exact ⟨h', h1, H h' (O.setR k hk h2 h3)⟩
theorem Hold.elst0 (O : Hold W h0 m0 h m Rs) (k : Nat) (hk : Rs[k]? = some (rR (aE T) A c l)) (g : gi l x = some y) (ha : A = some aa) (hc : cellsH h (Addr.add aa (Int.toNat x * sz)) 0 sz = some cs) (hj : 0 < sz) {y' : α} (hy : E m y' (cs.set 0 v)) (hf : Flat v) (e : l.set (Int.toNat x) y' = l')
    (H : ∀ h', Hold W h0 m0 h' m (Rs.set k (rR (aE T) A c l')) → K h') : ∃ h', st1 h (Addr.add aa (Int.toNat x * sz)) v = some h' ∧ K h' := O.elst k hk g ha hc 0 hj hy hf e H
theorem Hold.nil (O : Hold W h0 m0 h m Rs) (a : Asn α sz) (A : Option Addr) : Hold W h0 m0 h m (Rs ++ [rR a A 0 []]) := O.adds (R := rR a A 0 []) (.inl ⟨rfl, rfl, rfl⟩)
theorem Hold.row (O : Hold W h0 m0 h m Rs) (k : Nat) (hk : Rs[k]? = some (rV b t cs)) (a : Asn α sz) (hc : ∃ F, CsA a h m l cs F ∧ F = No) (hn : l.length = c) (h0' : c ≠ 0) : Hold W h0 m0 h m (Rs.set k (rR a (some ⟨b, 0, none⟩) c l)) :=
  O.conv k hk (R' := rR a (some ⟨b, 0, none⟩) c l) fun F hF => by
    obtain ⟨h1, h2, rfl⟩ := hF
    obtain ⟨_, hc, rfl⟩ := hc
    exact ⟨_, .inr ⟨b, t, [], cs, [], No, h0', rfl, by simpa using h1, hc, by omega, by simp [hn], h2, fun h => h, rfl⟩, fun i hi => hi.elim id (fun h => h.elim)⟩
theorem Hold.rowE (O : Hold W h0 m0 h m Rs) (k : Nat) (hk : Rs[k]? = some (rV b t cs)) (T : Tell sz E) (hc : CsE sz E m l cs) (hn : l.length = c) : Hold W h0 m0 h m (Rs.set k (rR (aE T) (some ⟨b, 0, none⟩) c l)) := by
  by_cases h0' : c = 0
  · subst h0'
    refine O.conv k hk (R' := rR (aE T) (some ⟨b, 0, none⟩) 0 l) fun F _ => ⟨No, .inl ⟨List.length_eq_zero_iff.1 hn, rfl, rfl⟩, fun _ h => h.elim⟩
  · exact O.row k hk (aE T) ⟨No, hc.csa, rfl⟩ hn h0'
end
section
variable {α : Type} {sz : Nat} {a : Asn α sz} {h h' h0 m m' m0 : Heap} {A : Option Addr} {c n k : Nat} {l l' xs : List α} {F F' G W : Foot} {x : Int} {y : α} {v X : Value} {cs es : List Value} {Rs : List Res} {b : Nat} {t e : TypeId} {aa : Addr}
variable {E : Heap → α → List Value → Prop} {T : Tell sz E}
theorem rowP.app {bytes : Nat} {z : Array Value} {K : Value → Heap → Prop} {F2 : Foot} (o : rowP a A c l h m F) (s : Sub m h) (hn : n = l.length) (hz : z.size = sz) (h1 : srcCells sz X h = some (xs.length, es)) (h2 : CsA a h m xs es F2) (hd : Dj F F2) (hb0 : 0 < bytes) (g : ap bytes l xs = some l')
    (hk : ∀ A' c' h' F', rowP a A' c' l' h' m F' → St F h m h' m → (∀ b, F' b → F b ∨ F2 b ∨ h.size ≤ b) → K (.slice A' l'.length c') h') : AppW e sz bytes z A n c X h K := by
  subst hn
  obtain ⟨hb, rfl⟩ := ap_e g
  have he := h2.len
  refine ⟨xs.length, es, h1, ?_⟩
  have hpush : ∀ (old : List Value) (Fo : Foot) (hold : oldCells sz A l.length h = some old) (hE : CsA a h m l old Fo) (hFo : ∀ b, Fo b → F b), c < l.length + xs.length →
      ∃ old, oldCells sz A l.length h = some old ∧ ∀ c', l.length + xs.length ≤ c' → K (.slice (some ⟨h.size, 0, none⟩) (l.length + xs.length) c') (h.push (.cells (old.toArray ++ es.toArray ++ zcells z (c' - (l.length + xs.length))) e)) := by
    intro old Fo hold hE hFo hlt
    refine ⟨old, hold, fun c' hc' => ?_⟩
    rw [show (Value.slice (some ⟨h.size, 0, none⟩) (l.length + xs.length) c') = .slice (some ⟨h.size, 0, none⟩) (l ++ xs).length c' by rw [List.length_append]]
    have e1 := Ext.push h (Obj.cells (old.toArray ++ es.toArray ++ zcells z (c' - (l.length + xs.length))) e)
    have S1 := St.of_ext (W := F) s e1
    have hA := hE.append h2 (hd.mono hFo (fun _ h => h))
    have hA' := hA.fr (fun i hi => e1.2 i (hA.lt i hi)) (.refl _) (fun i hi => hA.nl i hi)
    refine hk _ _ _ _ (.inr ⟨h.size, e, [], old ++ es, (zcells z (c' - (l.length + xs.length))).toList, _, by omega, rfl, ?_, hA', by rw [List.length_append]; exact hc', ?_, St.notLive s, fun hf => by have := hA.lt _ hf; omega, rfl⟩) S1 ?_
    · have := Blk.new h (old.toArray ++ es.toArray ++ zcells z (c' - (l.length + xs.length))) e
      simpa using this
    · rw [zc_len, hz, List.length_append]; exact Nat.le_refl _
    · rintro i (hi | hi | hi)
      · unfold fb at hi; exact .inr (.inr (by omega))
      · exact .inl (hFo i hi)
      · exact .inr (.inl hi)
  rcases o with ⟨rfl, rfl, rfl⟩ | ⟨b, t, pre, cs, rest, Fe, k0, rfl, k1, k2, k3, k4, k5, k6, rfl⟩
  · by_cases hx : xs.length = 0
    · have hxs : xs = [] := List.length_eq_zero_iff.1 hx
      subst hxs
      obtain ⟨rfl, rfl⟩ : es = [] ∧ F2 = No := h2
      refine .inl ⟨by simp, ?_⟩
      have fin := hk A 0 h No (.inl ⟨rfl, rfl, rfl⟩) (St.refl s) (fun b hb => .inl hb)
      cases A with
      | none => exact .inl ⟨rfl, fin⟩
      | some a => exact .inr ⟨a, h, rfl, by simp [stH], fin⟩
    · refine .inr ⟨by simp; omega, by simpa using hb, hb0, ?_⟩
      refine hpush [] No ?_ ⟨rfl, rfl⟩ (fun _ h => h) (by simp; omega)
      cases A with
      | none => rfl
      | some a => simp [oldCells, cellsH]
  · have hl := k2.len
    by_cases hle : l.length + xs.length ≤ c
    · refine .inl ⟨hle, .inr ?_⟩
      have hmul : (c - l.length) * sz = xs.length * sz + (c - l.length - xs.length) * sz := by rw [← Nat.add_mul]; congr 1; omega
      have k1' : Blk h b ((pre ++ cs) ++ rest.take (xs.length * sz) ++ rest.drop (xs.length * sz)) t := by rw [List.append_assoc, List.take_append_drop]; exact k1
      obtain ⟨h', s1, b1, o1⟩ := Blk.stH es (a := (⟨b, pre.length, none⟩ : Addr).add (l.length * sz)) (i := 0) k1' (by rw [add_block]) (add_spot _ rfl) (by rw [add_off, List.length_append, hl, Nat.add_zero]) (by rw [List.length_take, he]; omega) (h2.flat)
      refine ⟨_, h', rfl, s1, ?_⟩
      rw [show (Value.slice (some ⟨b, pre.length, none⟩) (l.length + xs.length) c) = .slice (some ⟨b, pre.length, none⟩) (l ++ xs).length c by rw [List.length_append]]
      have S : St (fb b) h m h' m := .only s k5 o1
      have S2 : St (U (fb b) Fe) h m h' m := ⟨S.up, S.s, S.size, fun i hi hn => S.fr i hi (fun h => hn (.inl h)), fun i hi hl => .inl hl⟩
      have hA := k2.append h2 hd.ur
      have nb : ∀ i, U Fe F2 i → i ≠ b := fun i hi e' => by subst e'; exact hi.elim k6 (fun hf => hd i (.inl rfl) hf)
      have hA' := hA.fr (fun i hi => S.fr i (hA.lt i hi) (fun e' => nb i hi e')) (.refl _) (fun i hi => hA.nl i hi)
      refine hk _ _ _ _ (.inr ⟨b, t, pre, cs ++ es, rest.drop (xs.length * sz), _, k0, rfl, by rw [← List.append_assoc pre]; exact b1, hA', by rw [List.length_append]; exact hle, ?_, k5, fun hf => nb b hf rfl, rfl⟩) S2 ?_
      · rw [List.length_drop, List.length_append, show c - (l.length + xs.length) = c - l.length - xs.length by omega]; omega
      · rintro i (hi | hi | hi)
        · exact .inl (.inl hi)
        · exact .inl (.inr hi)
        · exact .inr (.inl hi)
    · refine .inr ⟨by omega, hb, hb0, ?_⟩
      refine hpush cs Fe ?_ k2 (fun _ h => .inr h) (by omega)
      have := k1.cells (a := ⟨b, pre.length, none⟩) rfl rfl (l.length * sz) 0 (by simp [hl])
      simp only [oldCells, this, Nat.add_zero]
      rw [List.append_assoc, List.drop_left, List.take_append_of_le_length (by omega), List.take_of_length_le (by omega)]
variable {K : Value → Heap → Prop} {bytes : Nat} {z : Array Value}
theorem Hold.app (O : Hold W h0 m0 h m Rs) (k : Nat) (hk : Rs[k]? = some (rR (aE T) A c l)) (hn : n = l.length) (hz : z.size = sz) (hs : Src sz E h m X xs) (hb0 : 0 < bytes) (g : ap bytes l xs = some l')
    (H : ∀ A' c' h', Hold W h0 m0 h' m (Rs.set k (rR (aE T) A' c' l')) → K (.slice A' l'.length c') h') : AppW e sz bytes z A n c X h K := by
  obtain ⟨F, h1, h2, h3⟩ := O.get k hk
  obtain ⟨es, s1, s2⟩ := hs
  refine rowP.app h1 O.s hn hz s1 (s2.csa (T := T)) .no' hb0 g fun A' c' h' F' q1 q2 q3 => H A' c' h' (h3 (R' := rR (aE T) A' c' l') q2 q1 fun b hb => ?_)
  rcases q3 b hb with hb | hb | hb
  · exact .inl hb
  · exact hb.elim
  · exact .inr hb
theorem Hold.app0 (O : Hold W h0 m0 h m Rs) (a : Asn α sz) (hn : n = 0) (hz : z.size = sz) (h1 : srcCells sz X h = some (xs.length, es)) (h2 : ∃ F, CsA a h m xs es F ∧ F = No) (hb0 : 0 < bytes) (g : ap bytes ([] : List α) xs = some l')
    (H : ∀ A' c' h', Ext h h' → Hold W h0 m0 h' m (Rs ++ [rR a A' c' l']) → K (.slice A' l'.length c') h') : AppW e sz bytes z A n 0 X h K := by
  obtain ⟨_, h2, rfl⟩ := h2
  refine rowP.app (a := a) (l := []) (F := No) (.inl ⟨rfl, rfl, rfl⟩) O.s hn hz h1 h2 .no' hb0 g fun A' c' h' F' q1 q2 q3 => H A' c' h' q2.ext (O.add q2 q1 fun b hb => ?_)
  rcases q3 b hb with hb | hb | hb
  · exact hb.elim
  · exact hb.elim
  · exact hb
theorem Hold.appE0 (O : Hold W h0 m0 h m Rs) (T : Tell sz E) (hn : n = 0) (hz : z.size = sz) (hs : Src sz E h m X xs) (hb0 : 0 < bytes) (g : ap bytes ([] : List α) xs = some l')
    (H : ∀ A' c' h', Ext h h' → Hold W h0 m0 h' m (Rs ++ [rR (aE T) A' c' l']) → K (.slice A' l'.length c') h') : AppW e sz bytes z A n 0 X h K := by
  obtain ⟨es, s1, s2⟩ := hs
  exact O.app0 (aE T) hn hz s1 ⟨No, s2.csa, rfl⟩ hb0 g H
end
end Go.Hw

end
section
set_option linter.unusedVariables false
namespace Go.Hw
open Go
section
variable {m h : Heap} {a : Addr} {cs ds : List Value} {N n k j : Nat} {v : Value}
theorem ldAn (s : Sub m h) (hc : cellsH m a 0 N = some cs) (hn : N = n) : ldv true n h a = some (.agg cs.toArray) := by subst hn; exact ldA s hc
theorem fld1 (hq : cs[k]? = some v) : fldv false 1 k (.agg cs.toArray) = some v := by simpa [fldv] using hq
theorem lset' {α : Type} {l l' : List α} {i : Nat} {y : α} (g : l.set i y = l') : l.length = l'.length := by rw [← g, List.length_set]
end
section
variable {α : Type} {sz : Nat} {a : Asn α sz} {h h' h0 m m' m0 : Heap} {A Ai : Option Addr} {c ci n k : Nat} {l li : List α} {ll ll' : List (List α)} {W : Foot} {x : Int} {y : α} {v : Value} {cs : List Value} {Rs Rs' : List Res} {b : Nat} {t : TypeId} {aa : Addr} {K : Heap → Prop}
variable {E : Heap → α → List Value → Prop} {T : Tell sz E}
theorem Hold.ret (O : Hold W h0 m0 h m Rs) (Q : Hold No h m h' m' Rs') : Hold W h0 m0 h' m' (Rs ++ Rs') := by
  obtain ⟨W', h1, h2⟩ := O.call []
  simp only [dropL, takeL] at h1 h2
  exact h2 ⟨⟨Q.S.up, Q.S.s, Q.S.size, fun b hb _ => Q.S.fr b hb (fun h => h), fun b hb hl => (Q.S.lv b hb hl).elim .inl (fun h => h.elim)⟩, by
    obtain ⟨F, k1, k2⟩ := Q.q
    exact ⟨F, k1, fun b hb => (k2 b hb).elim .inl (fun h => h.elim)⟩⟩
theorem vfs_nil : ∀ R ∈ ([] : List Res), R.vf := fun _ h => by cases h
theorem vfs_cons {R : Res} (v : R.vf) (w : ∀ R ∈ Rs, R.vf) : ∀ R' ∈ R :: Rs, R'.vf := fun R' h => by
  rcases List.mem_cons.1 h with rfl | h
  · exact v
  · exact w R' h
theorem Hold.retC (O : Hold W h0 m0 h m Rs) (Q : Hold No h m h' m' Rs') (v : ∀ R ∈ Rs', R.vf) : Hold W h0 m0 h' m (Rs ++ Rs') := by
  obtain ⟨m1, W', h1, h2, _, _, h5⟩ := O.lend [] []
  have s1 : Hold No h m h' m Rs' := by
    refine ⟨Q.S.unlend O.s (fun _ h => h.elim), ?_⟩
    obtain ⟨F, k1, k2⟩ := Q.q
    have T := Q.S.unlend O.s (fun _ h => h.elim)
    exact ⟨F, k1.vf v T.s (fun b hb hl => (k2 b hb).elim (fun h => by have := O.s.lt hl; omega) (fun h => h.elim)), k2⟩
  exact O.ret s1
theorem Hold.lend0 (O : Hold W h0 m0 h m Rs) (ls : List Nat) : ∃ m1, Sub m m1 ∧ Sub m1 h ∧ ZAll m1 (takeL Rs ls) ∧
    (∀ {h' m' : Heap} {Rs' : List Res}, Hold No h m1 h' m' Rs' → Hold W h0 m0 h' m' (dropL Rs ls ++ Rs')) ∧
    (∀ {h' m' : Heap} {Rs' : List Res}, Hold No h m1 h' m' Rs' → (∀ R ∈ Rs', R.vf) → Hold W h0 m0 h' m (Rs ++ Rs')) := by
  obtain ⟨m1, W', h1, h2, h3, h4, h5⟩ := O.lend [] ls
  simp only [dropL, takeL] at h2 h3 h4 h5
  have up : ∀ {h' m' : Heap} {Rs' : List Res}, Hold No h m1 h' m' Rs' → Hold W' h m1 h' m' Rs' := fun Q =>
    ⟨⟨Q.S.up, Q.S.s, Q.S.size, fun b hb _ => Q.S.fr b hb (fun h => h), fun b hb hl => (Q.S.lv b hb hl).elim .inl (fun h => h.elim)⟩, by
      obtain ⟨F, k1, k2⟩ := Q.q
      exact ⟨F, k1, fun b hb => (k2 b hb).elim .inl (fun h => h.elim)⟩⟩
  exact ⟨m1, h1, h2.s, h3, fun Q => h4 (up Q), fun Q v => h5 (up Q) v⟩
theorem Hold.recell (O : Hold W h0 m0 h m Rs) (k : Nat) (hk : Rs[k]? = some (rV b t cs)) {cs' : List Value} (e : cs = cs') : Hold W h0 m0 h m (Rs.set k (rV b t cs')) := by
  subst e
  exact O.conv k hk (R' := rV b t cs) fun F hF => ⟨F, hF, fun _ h => h⟩
end
section
variable {κ ν : Type} [DecidableEq κ] {h h' m m' h0 m0 : Heap} {b k : Nat} {W : Foot} {kv : κ → Value} {es : List (κ × ν)} {q : κ} {x zv : ν} {v z : Value} {P : Program} {t elem : TypeId} {EV : Heap → ν → Value → Prop} {M : MonoV EV} {Rs : List Res}
def FM (EV : Heap → ν → Value → Prop) (kv : κ → Value) (m : Heap) (b : Nat) (es : List (κ × ν)) : Prop := ∃ vs, MapB kv m b vs ∧ MR (EV m) es vs
def rM (M : MonoV EV) (kv : κ → Value) (b : Nat) (es : List (κ × ν)) : Res where
  p h m F := (∃ vs, MapB kv h b vs ∧ MR (EV m) es vs) ∧ ¬ Live m b ∧ F = fb b
  z m := FM EV kv m b es
  lt := by rintro h m F ⟨⟨vs, h1, _⟩, _, rfl⟩ i hi; unfold fb at hi; subst hi; exact h1.lt
  nl := by rintro h m F ⟨_, h2, rfl⟩ i hi; unfold fb at hi; subst hi; exact h2
  fr := by
    rintro h m F h' m' ⟨⟨vs, ⟨e, c, h1, h1'⟩, h2⟩, h3, rfl⟩ k1 k2 k3
    exact ⟨⟨vs, ⟨e, c, by rw [k1 b rfl]; exact h1, h1'⟩, h2.sub M k2⟩, k3 b rfl, rfl⟩
  fz := by
    rintro h m F G ⟨⟨vs, h1, h2⟩, h3, rfl⟩ k1 k2
    have hlt := h1.lt
    obtain ⟨e, c, h1, h1'⟩ := h1
    exact ⟨vs, ⟨e, c, by rw [addV_get hlt (.inr (k2 b rfl))]; exact h1, h1'⟩, h2.sub M (addV_up k1)⟩
omit [DecidableEq κ] in
theorem Hold.om (O : Hold W h0 m0 h m Rs) (k : Nat) (hk : Rs[k]? = some (rM M kv b es)) : OM W h0 EV kv h m b es := by
  obtain ⟨F, ⟨⟨vs, h1, h2⟩, h3, rfl⟩, h4, _⟩ := O.get k hk
  exact ⟨vs, h1, h2, h4 b rfl, h3⟩
omit [DecidableEq κ] in
theorem Hold.mkMap {K : Value → Heap → Prop} (O : Hold W h0 m0 h m Rs) (M : MonoV EV) (kv : κ → Value) (H : ∀ h', Ext h h' → Hold W h0 m0 h' m (Rs ++ [rM M kv h.size ([] : List (κ × ν))]) → K (.map (some h.size)) h') : Gen P (Instr.makeMap t none) h K :=
  gen_makeMap (kv := kv) fun h' b e _ => H h' e (O.add (R := rM M kv h.size ([] : List (κ × ν))) (St.of_ext O.s e) ⟨⟨[], b, rfl⟩, St.notLive O.s, rfl⟩ (fun i hi => by unfold fb at hi; omega))
theorem Hold.mapUpd {K : Unit → Heap → Prop} {es' : List (κ × ν)} (O : Hold W h0 m0 h m Rs) (k : Nat) (hk : Rs[k]? = some (rM M kv b es)) (ok : KeyOk P t kv elem) (q : κ) (he : EV m x v) (e : pset es q x = es') (H : ∀ h', Hold W h0 m0 h' m (Rs.set k (rM M kv b es')) → K () h') : Hwp P (Instr.mapUpdate t (.map (some b)) (kv q) v) h K := by
  subst e
  refine (O.om k hk).upd O.s ok q he fun h' o S => H h' ?_
  obtain ⟨F, ⟨_, h3, rfl⟩, h4, h5⟩ := O.get k hk
  obtain ⟨vs, k1, k2, _, k4⟩ := o
  exact h5 (R' := rM M kv b _) S ⟨⟨vs, k1, k2⟩, k4, rfl⟩ (fun _ h => .inl h)
end
end Go.Hw
namespace Go.Hw
end Go.Hw
namespace Go.Hw
open Go
class SetAt (k : Nat) (L : List Res) (r : Res) (out : outParam (List Res)) : Prop where
  eq : L.set k r = out
instance {a r : Res} {l : List Res} : SetAt 0 (a :: l) r (r :: l) := ⟨rfl⟩
instance {k : Nat} {a r : Res} {l o : List Res} [S : SetAt k l r o] : SetAt (k + 1) (a :: l) r (a :: o) := ⟨by rw [List.set_cons_succ, S.eq]⟩
class GetAt (k : Nat) (L : List Res) (r : outParam Res) : Prop where
  eq : L[k]? = some r
instance {a : Res} {l : List Res} : GetAt 0 (a :: l) a := ⟨rfl⟩
instance {k : Nat} {a r : Res} {l : List Res} [S : GetAt k l r] : GetAt (k + 1) (a :: l) r := ⟨by rw [List.getElem?_cons_succ, S.eq]⟩
class Apd (L M : List Res) (out : outParam (List Res)) : Prop where
  eq : L ++ M = out
instance {M : List Res} : Apd [] M M := ⟨rfl⟩
instance {a : Res} {l M o : List Res} [S : Apd l M o] : Apd (a :: l) M (a :: o) := ⟨by rw [List.cons_append, S.eq]⟩
class PickT (L : List Res) (is : List Nat) (T D : outParam (List Res)) : Prop where
  t : takeL L is = T
  d : dropL L is = D
instance {L : List Res} : PickT L [] [] L := ⟨rfl, rfl⟩
instance {L L2 T D : List Res} {i : Nat} {is : List Nat} {r : Res} [G : GetAt i L r] [S : SetAt i L rE L2] [P : PickT L2 is T D] : PickT L (i :: is) (r :: T) D := ⟨by simp only [takeL, G.eq, S.eq, P.t], by simp only [dropL, S.eq, P.d]⟩
class Nm (L : List Res) (out : outParam (List Res)) : Prop where
  eq : L = out
instance : Nm [] [] := ⟨rfl⟩
instance {a : Res} {l : List Res} : Nm (a :: l) (a :: l) := ⟨rfl⟩
instance {L L' o : List Res} {k : Nat} {r : Res} [N : Nm L L'] [S : SetAt k L' r o] : Nm (L.set k r) o := ⟨by rw [N.eq, S.eq]⟩
instance {L L' M M' o : List Res} [N : Nm L L'] [N' : Nm M M'] [S : Apd L' M' o] : Nm (L ++ M) o := ⟨by rw [N.eq, N'.eq, S.eq]⟩
instance {L L' T D : List Res} {is : List Nat} [N : Nm L L'] [S : PickT L' is T D] : Nm (takeL L is) T := ⟨by rw [N.eq, S.t]⟩
instance {L L' T D : List Res} {is : List Nat} [N : Nm L L'] [S : PickT L' is T D] : Nm (dropL L is) D := ⟨by rw [N.eq, S.d]⟩
theorem Hold.nm {W : Foot} {h0 m0 h m : Heap} {Rs Rs' : List Res} (O : Hold W h0 m0 h m Rs) [N : Nm Rs Rs'] : Hold W h0 m0 h m Rs' := N.eq ▸ O
end Go.Hw

end
section
namespace Go.Hw
open Go Go.RowKit
end Go.Hw

end
section
namespace Go.Hw
open Go
end Go.Hw

end
section
set_option linter.unusedVariables false
namespace Go.Hw
open Go
end Go.Hw
namespace Go.Hw
open Go
section
variable {α : Type} {sz n : Nat} {E : Heap → α → List Value → Prop} {T : Tell sz E} {m m' h h' h0 m0 : Heap} {A : Option Addr} {l l' : List α} {c k : Nat} {W : Foot} {x j : Int} {y y' : α} {v : Value} {Rs : List Res} {aa : Addr} {K : Heap → Prop} {cs : List Value}
def eArrE (n sz : Nat) (E : Heap → α → List Value → Prop) (m : Heap) (l : List α) (cs : List Value) : Prop := CsE sz E m l cs ∧ l.length = n
theorem tell_arrE (n : Nat) (T : Tell sz E) : Tell (n * sz) (eArrE n sz E) := ⟨fun _ _ _ _ s h => ⟨h.1.sub T s, h.2⟩, fun _ _ _ h => by rw [h.1.len, h.2], fun _ _ _ h => h.1.flat T⟩
theorem eArrE.get1 {E : Heap → α → List Value → Prop} (e : eArrE n 1 E m l cs) (g : gi l x = some y) : ∃ v, cs[Int.toNat x * 1]? = some v ∧ E m y [v] := by
  obtain ⟨h1, h2⟩ := e.1.get (gi_get g)
  simp only [Nat.mul_one] at h1 h2 ⊢
  refine ⟨cs[x.toNat]'(by omega), List.getElem?_eq_getElem _, ?_⟩
  have : (cs.drop x.toNat).take 1 = [cs[x.toNat]'(by omega)] := by
    rw [List.drop_eq_getElem_cons (by omega), List.take_succ_cons, List.take_zero]
  rwa [this] at h1
theorem eArrE.ltn {E : Heap → α → List Value → Prop} (e : eArrE n sz E m l cs) (g : gi l x = some y) : x < ((n : Nat) : Int) := by
  have := gi_lt g; rw [e.2] at this; exact this
end
end Go.Hw
namespace Go.Hw
open Go
end Go.Hw

end
section
set_option linter.unusedVariables false
namespace Go.Hw
open Go
end Go.Hw

end
section
set_option linter.unusedVariables false
namespace Go.Hw
open Go
end Go.Hw

end
section
set_option linter.unusedVariables false
namespace Go.Hw
open Go Go.RowKit
end Go.Hw

end
section
set_option linter.unusedVariables false
namespace Go.Hw
open Go
section
variable {P : Program} {h h' : Heap}
theorem gen_copy {t t' e ty : TypeId} {i : TypeInfo} {a b : Addr} {dn dc sn sc : Nat} {es : List Value} {K : Value → Heap → Prop} (hu : P.underlying t = some (.slice e)) (hi : P.info? e = some i)
    (hs : cellsH h b 0 (Nat.min sn dn * i.size) = some es) (hd : stH h a es 0 = some h') (hk : K (.int .i64 ((Nat.min sn dn : Nat) : Int)) h') : Gen P (Builtin.copy_ #[t, t'] ty #[.slice (some a) dn dc, .slice (some b) sn sc]) h K := by
  unfold Gen Builtin.copy_
  refine hwp_bind (hwp_underlying hu ?_)
  refine hwp_bind (s := Builtin.lenOf (.slice (some b) sn sc)) (hwp_pure ?_)
  refine hwp_bind (hwp_sizeOf hi ?_)
  refine hwp_bind (s := Builtin.firstCells i.size (Nat.min sn dn) (.slice (some b) sn sc)) (hwp_loadCells hs ?_)
  refine hwp_bind (hwp_storeCells a _ 0 hd ?_)
  exact hwp_pure hk
theorem gen_copy0 {t t' e ty : TypeId} {i : TypeInfo} {D S : Option Addr} {dn dc sn sc : Nat} {K : Value → Heap → Prop} (hu : P.underlying t = some (.slice e)) (hi : P.info? e = some i)
    (h0 : Nat.min sn dn = 0) (hk : K (.int .i64 0) h) : Gen P (Builtin.copy_ #[t, t'] ty #[.slice D dn dc, .slice S sn sc]) h K := by
  unfold Gen Builtin.copy_
  refine hwp_bind (hwp_underlying hu ?_)
  refine hwp_bind (s := Builtin.lenOf (.slice S sn sc)) (hwp_pure ?_)
  refine hwp_bind (hwp_sizeOf hi ?_)
  rw [h0]
  have fin : ∀ c : Array Value, c = #[] → Hwp P (do if let some a := D then storeCells a c.toList
                                                    pure (goInt ((0 : Nat) : Int)) : Sem Value) h K := by
    rintro _ rfl
    cases D with
    | none => exact hwp_pure hk
    | some a => exact hwp_bind (hwp_storeCells a [] 0 rfl (hwp_pure hk))
  cases S with
  | none => exact hwp_bind (s := Builtin.firstCells i.size 0 (.slice none sn sc)) (hwp_pure (fin _ rfl))
  | some b =>
    refine hwp_bind (s := Builtin.firstCells i.size 0 (.slice (some b) sn sc)) ?_
    unfold Builtin.firstCells
    refine hwp_loadCells (vs := []) (by rw [Nat.zero_mul]; rfl) (fin _ rfl)
end
end Go.Hw
namespace Go.Hw
open Go
section
variable {α : Type} {sz : Nat} {E : Heap → α → List Value → Prop} {T : Tell sz E} {m m' h h' h0 m0 : Heap} {A B : Option Addr} {l l8 xs : List α} {es : List Value} {c c2 sn sc k : Nat} {W : Foot} {P : Program} {t t' e ty : TypeId} {i : TypeInfo} {lo hi : Int} {Rs : List Res}
def cpyL (l : List α) (lo n : Nat) (xs : List α) : List α := l.take lo ++ xs.take n ++ l.drop (lo + min xs.length n)
theorem cpyL_len {lo n : Nat} (h : lo + n ≤ l.length) : l.length = (cpyL l lo n xs).length := by
  unfold cpyL; simp only [List.length_append, List.length_take, List.length_drop]; omega
theorem OS.wrP {lo : Nat} (o : OS W h0 sz E h m A l c) (T : Tell sz E) (s : Sub m h) (hx : CsE sz E m xs es) (h2 : 0 < xs.length) (h3 : lo + xs.length ≤ l.length) : ∃ a h', sliceA A lo c sz = some a ∧ stH h a es 0 = some h' ∧ OS W h0 sz E h' m A (l.take lo ++ xs ++ l.drop (lo + xs.length)) c ∧ St (fp A c) h m h' m := by
  rcases o with ⟨rfl, rfl⟩ | ⟨b, t, pre, cs, rest, rfl, k1, k2, k3, k4, k5, k6⟩
  · have : ([] : List α).length = 0 := rfl
    omega
  have hl := k2.len
  have hes := hx.len
  have e2 : (lo + xs.length) * sz ≤ l.length * sz := Nat.mul_le_mul_right _ (by omega)
  have e3 : lo * sz ≤ (lo + xs.length) * sz := Nat.mul_le_mul_right _ (by omega)
  have e9 : (lo + xs.length) * sz = lo * sz + xs.length * sz := Nat.add_mul ..
  have hm : ¬ c = lo := by omega
  have hb : Blk h b ((pre ++ cs.take (lo * sz)) ++ (cs.take ((lo + xs.length) * sz)).drop (lo * sz) ++ (cs.drop ((lo + xs.length) * sz) ++ rest)) t := by
    have : (pre ++ cs.take (lo * sz)) ++ (cs.take ((lo + xs.length) * sz)).drop (lo * sz) ++ (cs.drop ((lo + xs.length) * sz) ++ rest) = pre ++ cs ++ rest := by
      have e4 : cs.take (lo * sz) = (cs.take ((lo + xs.length) * sz)).take (lo * sz) := by rw [List.take_take, Nat.min_eq_left e3]
      rw [e4, List.append_assoc pre, List.take_append_drop, ← List.append_assoc, List.append_assoc pre, List.take_append_drop]
    rw [this]; exact k1
  obtain ⟨h', s1, b1, o1⟩ := Blk.stH es (a := (⟨b, pre.length, none⟩ : Addr).add (lo * sz)) (i := 0) hb (by rw [add_block]) (add_spot _ rfl)
    (by rw [add_off, List.length_append, List.length_take]; simp only [Nat.add_zero]; omega) (by rw [hes, List.length_drop, List.length_take]; omega) (hx.flat T)
  refine ⟨_, h', ?_, s1, .inr ⟨b, t, pre, cs.take (lo * sz) ++ es ++ cs.drop ((lo + xs.length) * sz), rest, rfl, ?_, ?_, ?_, ?_, k5, k6⟩, ?_⟩
  · unfold sliceA; rw [if_neg hm]; rfl
  · have : pre ++ (cs.take (lo * sz) ++ es ++ cs.drop ((lo + xs.length) * sz)) ++ rest = (pre ++ cs.take (lo * sz)) ++ es ++ (cs.drop ((lo + xs.length) * sz) ++ rest) := by simp only [List.append_assoc]
    rw [this]; exact b1
  · exact ((k2.take lo).append hx).append (k2.drop (lo + xs.length))
  · simp only [List.length_append, List.length_take, List.length_drop]; omega
  · have : (l.take lo ++ xs ++ l.drop (lo + xs.length)).length = l.length := by simp only [List.length_append, List.length_take, List.length_drop]; omega
    rw [this]; exact k4
  · refine ⟨.refl _, fun i o1' j1 j2 => ?_, by rw [o1.1]; exact Nat.le_refl _, fun i hi hw => o1.2 i fun e => hw ⟨by omega, _, rfl, e.symm⟩, fun i _ hl => .inl hl⟩
    rw [o1.2 i (fun e => k6 (e ▸ ⟨o1', j1, j2⟩))]; exact s i o1' j1 j2
theorem Hold.cpyW {n : Nat} {K : Value → Heap → Prop} (O : Hold W h0 m0 h m Rs) (k : Nat) (hk : Rs[k]? = some (rR (aE T) A c l)) {lo : Nat} (hlo : lo + n ≤ l.length) (hs : Src sz E h m (.slice B sn sc) xs) (hu : P.underlying t = some (.slice e)) (hi : P.info? e = some i) (hsz : i.size = sz) (hp : 0 < sz)
    (H : ∀ h', Hold W h0 m0 h' m (Rs.set k (rR (aE T) A c (cpyL l lo n xs))) → K (.int .i64 ((min xs.length n : Nat) : Int)) h') : Gen P (Builtin.copy_ #[t, t'] ty #[.slice (sliceA A lo c sz) n c2, .slice B sn sc]) h K := by
  subst hsz
  obtain ⟨es, s1, s2⟩ := hs
  have hsn : sn = xs.length := by
    cases B with
    | none => simp only [srcCells, Option.some.injEq, Prod.mk.injEq] at s1; exact s1.1
    | some b =>
      simp only [srcCells, Option.map_eq_some_iff, Prod.mk.injEq] at s1
      obtain ⟨_, _, h, _⟩ := s1; exact h
  subst hsn
  have hM : Nat.min xs.length n = min xs.length n := rfl
  by_cases h0' : min xs.length n = 0
  · refine gen_copy0 hu hi h0' ?_
    have e : cpyL l lo n xs = l := by
      unfold cpyL
      have : xs.take n = [] := by rw [← List.length_eq_zero_iff, List.length_take]; omega
      rw [this, h0', Nat.add_zero, List.append_nil, List.take_append_drop]
    have := H h (by rw [e]; exact O.conv k hk (R' := rR (aE T) A c l) fun F hF => ⟨F, hF, fun _ h => h⟩)
    rw [h0'] at this; exact this
  · cases B with
    | none =>
      simp only [srcCells, Option.some.injEq, Prod.mk.injEq] at s1
      have h5 := s2.len
      rw [← s1.2] at h5
      have h6 : 1 * 1 ≤ xs.length * i.size := Nat.mul_le_mul (by omega) hp
      simp at h5
      omega
    | some b =>
      simp only [srcCells, Option.map_eq_some_iff, Prod.mk.injEq] at s1
      obtain ⟨es', s3, _, rfl⟩ := s1
      have hmul : min xs.length n * i.size ≤ xs.length * i.size := Nat.mul_le_mul_right _ (by omega)
      have c1 := cellsH_part 0 (min xs.length n * i.size) s3 (by omega)
      rw [List.drop_zero, Nat.zero_add] at c1
      have hx : CsE i.size E m (xs.take n) (es'.take (min xs.length n * i.size)) := by
        have := s2.take (min xs.length n)
        have e : xs.take (min xs.length n) = xs.take n := by
          rcases Nat.le_total xs.length n with h | h
          · rw [Nat.min_eq_left h, List.take_of_length_le (Nat.le_refl _), List.take_of_length_le h]
          · rw [Nat.min_eq_right h]
        rw [e] at this; exact this
      have hxl : (xs.take n).length = min xs.length n := by rw [List.length_take]; exact Nat.min_comm ..
      obtain ⟨a, h', k1, k2, k3, k4⟩ := (O.os k hk).wrP (lo := lo) T O.s hx (by omega) (by omega)
      rw [k1]
      refine gen_copy hu hi c1 k2 (H h' ?_)
      have := O.setR k hk k3 k4
      rw [hxl] at this; exact this
theorem Hold.cpy {K : Value → Heap → Prop} (O : Hold W h0 m0 h m Rs) (k : Nat) (hk : Rs[k]? = some (rR (aE T) A c l)) (g : Hw.sls l lo hi = some l8) (hs : Src sz E h m (.slice B sn sc) xs) (hu : P.underlying t = some (.slice e)) (hi : P.info? e = some i) (hsz : i.size = sz) (hp : 0 < sz)
    (H : ∀ h', Hold W h0 m0 h' m (Rs.set k (rR (aE T) A c (cpyL l (Int.toNat lo) l8.length xs))) → K (.int .i64 ((min xs.length l8.length : Nat) : Int)) h') : Gen P (Builtin.copy_ #[t, t'] ty #[.slice (sliceA A (Int.toNat lo) c sz) l8.length c2, .slice B sn sc]) h K := by
  obtain ⟨h1, h2, h3, h4, _⟩ := sls_e g
  exact O.cpyW k hk (by omega) hs hu hi hsz hp H
end
end Go.Hw
namespace Go.Hw
open Go
end Go.Hw
namespace Go.Hw
open Go
section
variable {κ ν : Type} [DecidableEq κ] {h h' m m' : Heap} {b : Nat} {kv : κ → Value} {es : List (κ × ν)} {vs : List (κ × Value)} {EV : Heap → ν → Value → Prop} {M : MonoV EV} {P : Program} {t elem : TypeId} {z : Value} {zv : ν} {p : Option Nat}
theorem oneCell_map {p : Option Nat} {K : Prop} (h : K) : oneCell (.map p) K := h
end
end Go.Hw
namespace Go.Hw
open Go
end Go.Hw

end
